/- Windings are opposite the other way round: FnWinding returns true, whatever the bytes are, and they read as before. No conditions. -/
import Derived.Test.YtoligfhcogligaaZD0
import Derived.Test.YtoligfhcogligaaZD1
import Derived.Test.YtoligfhcogligaaZD2
import Derived.Test.YtoligfhcogligaaZD3
import Derived.Test.YtoligfhcogligaaZD4
import Derived.Test.YtoligfhcogligaaZD5
import Derived.Test.YtoligfhcogligaaZD6
import Derived.Test.YtoligfhcogligaaZD7
import Derived.Test.YtoligfhcogligaaZD8
import Derived.Test.YtoligfhcogligaaZKPe60
/- PolyConvex of both: loops and runs. Conditions: a list of points. -/
namespace Go.Proofs.Ytoligfhcogligaa
open Go.RowKit
set_option maxRecDepth 100000

/-- The place of the first that is bad, or -1. -/
def fstAtt (bad : Nat → Bool) (m : Nat) : Int := match (List.range m).find? bad with
  | some j => (j : Int)
  | none => -1
theorem fstAt_att {bad : Nat → Bool} {m i : Nat} (h : noneTo bad i = true) (hi : i < m) (h1 : bad i = true) : fstAtt bad m = i := by
  have : (List.range m).find? bad = some i := by
    rw [List.find?_range_eq_some]
    exact ⟨h1, by simpa using hi, fun j hj => by simp [noneTo_get h hj]⟩
  rw [fstAtt, this]
theorem fstAt_not {bad : Nat → Bool} {m : Nat} (h : noneTo bad m = true) : fstAtt bad m = -1 := by
  have : (List.range m).find? bad = none := by
    rw [List.find?_eq_none]
    intro j hj
    simp [noneTo_get h (by simpa using hj)]
  rw [fstAtt, this]
theorem fstAt_get (bad : Nat → Bool) (m : Nat) : decide (fstAtt bad m ≥ 0) = !noneTo bad m := by
  cases h : (List.range m).find? bad with
  | none =>
    have : noneTo bad m = true := List.all_eq_true.2 fun j hj => by
      have := List.find?_eq_none.1 h j hj
      simpa using this
    rw [fstAt_not this, this]
    rfl
  | some j =>
    have h1 := List.find?_some h
    have h2 := List.mem_of_find?_eq_some h
    rw [noneTo_no (by simpa using h2) h1, fstAtt, h]
    simp

noncomputable abbrev fIFI : Func := Try.f107
abbrev fnT : AV := .fn 77 [.ptr 1 0 0 0]
abbrev lvIFt : Ex → List Nat := lv3 [0, 1, 7, 8] [] [4]
abbrev hpIF (m : Nat) (a : Nat → Int) (x : Int) (t t2 : TypeId) : List AB := [.row false m 1 (rowI a) t, .cells [.v (i64 x)] t2]
def neB (a : Nat → Int) (x : Int) (j : Nat) : Bool := a j != x

theorem rndIF (m : Nat) (a : Nat → Int) (x : Int) (t t2 : TypeId) (i : Nat) : execC Try.prog g0 100 noLam (loopAt 0 fIFI) (mkT 0 19 ((lvIFt .normal).zip [.own 0 m, fnT, .v (i64 m), .v (i64 i)])) (hpIF m a x t t2) (leafV 19 lvIFt 2)
    = bif decide ((↑i : Int) < (↑m : Int)) then needs [decide ((↑i : Int) < (↑m : Int)), decide (Int.toNat (↑i : Int) < m)] (bif a (Int.toNat (↑i : Int)) != x then Res.out Ex.ret [AV.v (Value.int IntKind.i64 (↑i : Int))] [AB.row false m (1 : Nat) (rowI a) t, AB.cells [AV.v (Value.int IntKind.i64 x)] t2] else Res.out Ex.normal [AV.own (0 : Nat) m, AV.fn (77 : FuncId) [AV.ptr (1 : Nat) (0 : Nat) (0 : Nat) (0 : Nat)], AV.v (Value.int IntKind.i64 (↑m : Int)), AV.v (Value.int IntKind.i64 (IntKind.wrap IntKind.i64 ((↑i : Int) + (1 : Int))))] [AB.row false m (1 : Nat) (rowI a) t, AB.cells [AV.v (Value.int IntKind.i64 x)] t2]) else Res.out (Ex.exit (0 : Nat)) [] [AB.row false m (1 : Nat) (rowI a) t, AB.cells [AV.v (Value.int IntKind.i64 x)] t2] := by kernel_rfl

abbrev lvCS : Ex → List Nat := lv3 [3, 5, 7] [3, 5] [2]
theorem rndCS (n : Nat) (g : Nat → List Value) (t : TypeId) (m : Nat) (bf : Nat → Int) (tv : Int) (i : Nat) : execC Try.prog g0 100 noLam (loopAt 0 Try.f39) (mkT 0 54 ((lvCS .normal).zip [.own 1 m, .v (i64 tv), .v (i64 i)])) [.row false n 8 g t, .row true m 1 (rowI bf) 3] (leafV 54 lvCS 1)
    = bif decide ((↑i : Int) < (↑m : Int)) then needs [decide ((↑i : Int) < (↑m : Int)), decide (Int.toNat (↑i : Int) < m), decide ((0 : Int) < (↑m : Int)), decide ((0 : Nat) < m)] (bif bf (Int.toNat (↑i : Int)) != bf (0 : Nat) then Res.out Ex.ret [AV.v (Value.bool false)] [AB.row false n (8 : Nat) g t] else Res.out Ex.normal [AV.own (1 : Nat) m, AV.v (Value.int IntKind.i64 tv), AV.v (Value.int IntKind.i64 (IntKind.wrap IntKind.i64 ((↑i : Int) + (1 : Int))))] [AB.row false n (8 : Nat) g t, AB.row true m (1 : Nat) (rowI bf) (3 : TypeId)]) else Res.out (Ex.exit (0 : Nat)) [AV.own (1 : Nat) m, AV.v (Value.int IntKind.i64 tv)] [AB.row false n (8 : Nat) g t, AB.row true m (1 : Nat) (rowI bf) (3 : TypeId)] := by kernel_rfl

def F_ifI : List AV → List AB → Option HR
  | [.own 0 m, .fn 77 [.ptr 1 0 0 0]], [.row false n 1 g t, .cells [.v (.int .i64 x)] t2] => some { val := .v (i64 (fstAtt (neB (itI g) x) m)), out := [.row false n 1 g t, .cells [.v (.int .i64 x)] t2], obl := [Nat.beq n m, allI m g, decide (m ≤ 2 ^ 40)] }
  | _, _ => none
noncomputable abbrev lamIF (m : Nat) (a : Nat → Int) (x : Int) (t t2 : TypeId) (out : Kont → Res) : Nat → Option Sum := oneL 0 (atS 19 (lvIFt .normal) 2 [.own 0 m, fnT, .v (i64 m), .v (i64 (0 : Nat))] (hpIF m a x t t2) out)

theorem treeIF (m : Nat) (a : Nat → Int) (x : Int) (t t2 : TypeId) (bad : Nat → Bool) : execF Try.prog g0 (lamIF m a x t t2 (fun K => cond (noneTo bad m) (K .normal (mkT 0 19 []) (hpIF m a x t t2)) (K .ret (mkT 0 19 [(4, .v (i64 (fstAtt bad m)))]) (hpIF m a x t t2)))) 100 fIFI [.own 0 m, fnT] (hpIF m a x t t2) (packK 2)
    = needs [chk ([AV.own (0 : Nat) m, AV.fn (77 : FuncId) [AV.ptr (1 : Nat) (0 : Nat) (0 : Nat) (0 : Nat)], AV.v (Value.int IntKind.i64 (↑m : Int)), AV.v (Value.int IntKind.i64 (0 : Int))] = [AV.own (0 : Nat) m, fnT, AV.v (Value.int IntKind.i64 (↑m : Int)), AV.v (Value.int IntKind.i64 (0 : Int))] ∧ Hsim [AB.row false m (1 : Nat) (rowI a) t, AB.cells [AV.v (Value.int IntKind.i64 x)] t2] (hpIF m a x t t2))] (bif noneTo bad m then Res.out Ex.ret [AV.v (Value.int IntKind.i64 (-1 : Int))] [AB.row false m (1 : Nat) (rowI a) t, AB.cells [AV.v (Value.int IntKind.i64 x)] t2] else Res.out Ex.ret [AV.v (Value.int IntKind.i64 (fstAtt bad m))] [AB.row false m (1 : Nat) (rowI a) t, AB.cells [AV.v (Value.int IntKind.i64 x)] t2]) := by kernel_rfl

def gm_CI : Gam := ext (ext gm_yb 17 (specR md_list F_turnsY)) 107 (specH [true] F_ifI)
theorem treeCI (m : Nat) (a : Nat → Nat → Int) : execF Try.prog gm_CI noLam 100 Try.f32 [.sl 0 8 0 0 m none] [.row false m 8 (rowC a) 40] (packK 1)
    = needs [Nat.ble ((0 : Nat) + m) m, allC m fun q ↦ rowC a ((0 : Nat) + q), decide (m ≤ (274877906944 : Nat)), f_valid (itC fun q ↦ rowC a ((0 : Nat) + q)) m == true] (bif !turnsOk (itC fun q ↦ rowC a ((0 : Nat) + q)) m then Res.out Ex.ret [AV.v (Value.bool false)] [AB.row false m (8 : Nat) (rowC a) (40 : TypeId)] else bif decide ((↑m : Int) < (3 : Int)) then Res.out Ex.ret [AV.v (Value.bool false)] [AB.row false m (8 : Nat) (rowC a) (40 : TypeId)] else needs [Nat.ble ((0 : Nat) + m) m, allC m fun q ↦ rowC a ((0 : Nat) + q), decide ((0 : Nat) < m), decide (m ≤ (274877906944 : Nat))] (bif turnsN (itC fun q ↦ rowC a ((0 : Nat) + q)) m == (1 : Int) then needs [Nat.beq m m, allI m (rowI (bendsF (stepsF (itC fun q ↦ rowC a ((0 : Nat) + q)) m) m)), decide (m ≤ (1099511627776 : Nat))] (Res.out Ex.ret [AV.v (Value.bool !decide (fstAtt (neB (itI (rowI (bendsF (stepsF (itC fun q ↦ rowC a ((0 : Nat) + q)) m) m))) (turnsN (itC fun q ↦ rowC a ((0 : Nat) + q)) m)) m ≥ (0 : Int)))] [AB.row false m (8 : Nat) (rowC a) (40 : TypeId)]) else bif turnsN (itC fun q ↦ rowC a ((0 : Nat) + q)) m == (-1 : Int) then needs [Nat.beq m m, allI m (rowI (bendsF (stepsF (itC fun q ↦ rowC a ((0 : Nat) + q)) m) m)), decide (m ≤ (1099511627776 : Nat))] (Res.out Ex.ret [AV.v (Value.bool !decide (fstAtt (neB (itI (rowI (bendsF (stepsF (itC fun q ↦ rowC a ((0 : Nat) + q)) m) m))) (turnsN (itC fun q ↦ rowC a ((0 : Nat) + q)) m)) m ≥ (0 : Int)))] [AB.row false m (8 : Nat) (rowC a) (40 : TypeId)]) else Res.out Ex.ret [AV.v (Value.bool false)] [AB.row false m (8 : Nat) (rowC a) (40 : TypeId)])) := by kernel_rfl

def gm_CS : Gam := ext (ext gm_y 18 (specR md_list F_turnsY)) 13 (specR md_list F_bendsY)
noncomputable abbrev lamCS (m : Nat) (a : Nat → Nat → Int) (bf : Nat → Int) (tv : Int) (bad : Nat → Bool) : Nat → Option Sum := oneL 0 (atS 54 (lvCS .normal) 1 [.own 1 m, .v (i64 tv), .v (i64 (0 : Nat))] [.row false m 8 (rowC a) 40, .row true m 1 (rowI bf) 3] (fun K => cond (noneTo bad m) (K .normal (mkT 0 54 [(3, .own 1 m), (5, .v (i64 tv))]) [.row false m 8 (rowC a) 40, .row true m 1 (rowI bf) 3]) (K .ret (mkT 0 54 [(2, .v (.bool false))]) [.row false m 8 (rowC a) 40])))
theorem treeCS (m : Nat) (a : Nat → Nat → Int) (bf : Nat → Int) (tv : Int) (bad : Nat → Bool) : execF Try.prog gm_CS (lamCS m a bf tv bad) 100 Try.f39 [.sl 0 8 0 0 m none] [.row false m 8 (rowC a) 40] (packK 1)
    = needs [Nat.ble ((0 : Nat) + m) m, allC m fun q ↦ rowC a ((0 : Nat) + q), decide (m ≤ (274877906944 : Nat)), f_valid (itC fun q ↦ rowC a ((0 : Nat) + q)) m == true, Nat.ble ((0 : Nat) + m) m, allC m fun q ↦ rowC a ((0 : Nat) + q), decide (m ≤ (274877906944 : Nat)), f_valid (itC fun q ↦ rowC a ((0 : Nat) + q)) m == true] (bif !turnsOk (itC fun q ↦ rowC a ((0 : Nat) + q)) m then Res.out Ex.ret [AV.v (Value.bool false)] [AB.row false m (8 : Nat) (rowC a) (40 : TypeId)] else bif decide ((↑m : Int) < (3 : Int)) then Res.out Ex.ret [AV.v (Value.bool false)] [AB.row false m (8 : Nat) (rowC a) (40 : TypeId)] else needs [chk ([AV.own (1 : Nat) m, AV.v (Value.int IntKind.i64 (turnsN (itC fun q ↦ rowC a ((0 : Nat) + q)) m)), AV.v (Value.int IntKind.i64 (0 : Int))] = [AV.own (1 : Nat) m, AV.v (Value.int IntKind.i64 tv), AV.v (Value.int IntKind.i64 (0 : Int))] ∧ Hsim [AB.row false m (8 : Nat) (rowC a) (40 : TypeId), AB.row true m (1 : Nat) (rowI (bendsF (stepsF (itC fun q ↦ rowC a ((0 : Nat) + q)) m) m)) (3 : TypeId)] [AB.row false m (8 : Nat) (rowC a) (40 : TypeId), AB.row true m (1 : Nat) (rowI bf) (3 : TypeId)])] (bif noneTo bad m then needs [decide ((0 : Int) < (↑m : Int)), decide ((0 : Nat) < m)] (bif bf (0 : Nat) == tv then Res.out Ex.ret [AV.v (Value.bool (IntKind.wrap IntKind.i64 (tv * tv) == (1 : Int)))] [AB.row false m (8 : Nat) (rowC a) (40 : TypeId)] else Res.out Ex.ret [AV.v (Value.bool false)] [AB.row false m (8 : Nat) (rowC a) (40 : TypeId)]) else Res.out Ex.ret [AV.v (Value.bool false)] [AB.row false m (8 : Nat) (rowC a) (40 : TypeId)])) := by kernel_rfl

def gm_CNI : Gam := ext gm_n 17 (specR md_list F_turnsN)
theorem treeCNI (m : Nat) (a : Nat → Nat → Int) : execF Try.prog gm_CNI noLam 100 Try.f32 [.sl 0 8 0 0 m none] [.row false m 8 (rowC a) 40] (packK 1)
    = needs [Nat.ble ((0 : Nat) + m) m, allC m fun q ↦ rowC a ((0 : Nat) + q), decide (m ≤ (274877906944 : Nat)), f_valid (itC fun q ↦ rowC a ((0 : Nat) + q)) m == false] (Res.out Ex.ret [AV.v (Value.bool false)] [AB.row false m (8 : Nat) (rowC a) (40 : TypeId)]) := by kernel_rfl

def gm_CNS : Gam := ext (ext gm_n 18 (specR md_list F_turnsN)) 13 (specR md_list F_bendsSN)
theorem treeCNS (m : Nat) (a : Nat → Nat → Int) : execF Try.prog gm_CNS noLam 100 Try.f39 [.sl 0 8 0 0 m none] [.row false m 8 (rowC a) 40] (packK 1)
    = needs [Nat.ble ((0 : Nat) + m) m, allC m fun q ↦ rowC a ((0 : Nat) + q), decide (m ≤ (274877906944 : Nat)), f_valid (itC fun q ↦ rowC a ((0 : Nat) + q)) m == false, Nat.ble ((0 : Nat) + m) m, allC m fun q ↦ rowC a ((0 : Nat) + q), decide (m ≤ (274877906944 : Nat)), f_valid (itC fun q ↦ rowC a ((0 : Nat) + q)) m == false] (Res.out Ex.ret [AV.v (Value.bool false)] [AB.row false m (8 : Nat) (rowC a) (40 : TypeId)]) := by kernel_rfl

end Go.Proofs.Ytoligfhcogligaa

/- PolyConvex of both: what they return. Conditions: a list of points. -/
namespace Go.Proofs.Ytoligfhcogligaa
open Go.RowKit
set_option maxRecDepth 100000

theorem sumIF (m : Nat) (a : Nat → Int) (x : Int) (t t2 : TypeId) (hm : m ≤ 2 ^ 40) : SumOk Try.prog 2 (.block 0 (.loop (loopAt 0 fIFI))) (atS 19 (lvIFt .normal) 2 [.own 0 m, fnT, .v (i64 m), .v (i64 (0 : Nat))] (hpIF m a x t t2) (fun K => cond (noneTo (neB a x) m) (K .normal (mkT 0 19 []) (hpIF m a x t t2)) (K .ret (mkT 0 19 [(4, .v (i64 (fstAtt (neB a x) m)))]) (hpIF m a x t t2)))) := by
  refine for_at g0_ok (n := 100) (m := 2) (lv := lvIFt) (fun i => [.own 0 m, fnT, .v (i64 m), .v (i64 i)]) (fun _ => hpIF m a x t t2) (fun i => noneTo (neB a x) i = true) m (fun _ => noLam) (lv3_ris rfl rfl rfl) (Nat.le_refl _) rfl fun K Q hk i hi him => ⟨noLam_ok _ _ _, ?_⟩
  rw [rndIF]
  refine good_cond (fun h1 => ?_) fun h1 => ?_
  · have h1 := of_decide_eq_true h1
    have h1' : i < m := by omega
    rw [Int.toNat_natCast, wr_in (x := (i : Int) + 1) (by omega)]
    refine good_needs (by simp only [ob_cons, ob_nil, and_true, decide_eq_true_eq]; omega) (good_cond (fun h2 => ?_) fun h2 => ?_)
    · refine good_out ⟨_, Hsim.refl _, ?_⟩
      rw [noneTo_no h1' h2, fstAt_att hi h1' h2] at hk
      exact hk
    · exact good_out ⟨i + 1, ⟨rfl, h1', noneTo_succ hi h2⟩, rfl, Hsim.refl _⟩
  · have h1 := of_decide_eq_false h1
    have : i = m := by omega
    subst this
    refine good_out ⟨_, Hsim.refl _, ?_⟩
    rw [if_pos rfl]
    rw [hi] at hk
    exact hk

theorem sumCS (n : Nat) (g : Nat → List Value) (t : TypeId) (m : Nat) (bf : Nat → Int) (tv : Int) (hm : m ≤ 2 ^ 40) (hp : 0 < m) : SumOk Try.prog 1 (.block 0 (.loop (loopAt 0 Try.f39))) (atS 54 (lvCS .normal) 1 [.own 1 m, .v (i64 tv), .v (i64 (0 : Nat))] [.row false n 8 g t, .row true m 1 (rowI bf) 3]
    (fun K => cond (noneTo (neB bf (bf 0)) m) (K .normal (mkT 0 54 [(3, .own 1 m), (5, .v (i64 tv))]) [.row false n 8 g t, .row true m 1 (rowI bf) 3]) (K .ret (mkT 0 54 [(2, .v (.bool false))]) [.row false n 8 g t]))) := by
  refine for_at g0_ok (n := 100) (m := 1) (lv := lvCS) (fun i => [.own 1 m, .v (i64 tv), .v (i64 i)]) (fun _ => [.row false n 8 g t, .row true m 1 (rowI bf) 3]) (fun i => noneTo (neB bf (bf 0)) i = true) m (fun _ => noLam) (lv3_ris rfl rfl rfl) (Nat.le_refl _) rfl fun K Q hk i hi him => ⟨noLam_ok _ _ _, ?_⟩
  rw [rndCS]
  refine good_cond (fun h1 => ?_) fun h1 => ?_
  · have h1 := of_decide_eq_true h1
    have h1' : i < m := by omega
    rw [Int.toNat_natCast, wr_in (x := (i : Int) + 1) (by omega)]
    refine good_needs (by simp only [ob_cons, ob_nil, and_true, decide_eq_true_eq]; omega) (good_cond (fun h2 => ?_) fun h2 => ?_)
    · refine good_out ⟨_, Hsim.refl _, ?_⟩
      rw [noneTo_no h1' h2] at hk
      exact hk
    · exact good_out ⟨i + 1, ⟨rfl, h1', noneTo_succ hi h2⟩, rfl, Hsim.refl _⟩
  · have h1 := of_decide_eq_false h1
    have : i = m := by omega
    subst this
    refine good_out ⟨_, Hsim.refl _, ?_⟩
    rw [if_pos rfl]
    rw [hi] at hk
    exact hk

theorem ok_ifI : SpecOk Try.prog 107 (specH [true] F_ifI) := by
  refine specH_ok g0_ok Try.func107 rfl fun avs H hr hF ho => ?_
  unfold F_ifI at hF
  split at hF
  · rename_i m n g t x t2
    cases hF
    simp only [ob_cons] at ho
    obtain ⟨h1, h2, h3, _⟩ := ho
    have h1 := Nat.eq_of_beq_eq_true h1
    subst h1
    refine ⟨hpIF n (itI g) x t t2, lamIF n (itI g) x t t2 _, 100, .cons (ABeq.row fun j hj => allI_get h2 j hj) (.cons (ABeq.refl _) .nil), lam1 (by kernel_rfl) (sumIF n (itI g) x t t2 (of_decide_eq_true h3)), ?_⟩
    show GoodQ (execF Try.prog g0 (lamIF n (itI g) x t t2 (fun K => cond (noneTo (neB (itI g) x) n) (K .normal (mkT 0 19 []) (hpIF n (itI g) x t t2)) (K .ret (mkT 0 19 [(4, .v (i64 (fstAtt (neB (itI g) x) n)))]) (hpIF n (itI g) x t t2)))) 100 fIFI [.own 0 n, fnT] (hpIF n (itI g) x t t2) (packK 2)) _
    rw [treeIF]
    refine good_needs (by rw [ob_cons]; exact ⟨chk_of ⟨rfl, Hsim.refl _⟩, rfl⟩) (good_cond (fun hb => ?_) fun hb => ?_)
    · refine good_out ⟨?_, .cons (ABeq.row fun j hj => (allI_get h2 j hj).symm) (.cons (ABeq.refl _) .nil)⟩
      rw [fstAt_not hb]
    · exact good_out ⟨rfl, .cons (ABeq.row fun j hj => (allI_get h2 j hj).symm) (.cons (ABeq.refl _) .nil)⟩
  · cases hF

theorem gm_CI_ok : GamOk Try.prog gm_CI := ext_ok (ext_ok gm_yb_ok ok_turnsI) ok_ifI
theorem gm_CS_ok : GamOk Try.prog gm_CS := ext_ok (ext_ok gm_y_ok ok_turnsS) ok_bendsSY
theorem gm_CNI_ok : GamOk Try.prog gm_CNI := ext_ok gm_n_ok ok_turnsNI
theorem gm_CNS_ok : GamOk Try.prog gm_CNS := ext_ok (ext_ok gm_n_ok ok_turnsNS) ok_bendsSN

/-- PolyConvex of a polygon. -/
def convB (a : Nat → Nat → Int) (m : Nat) : Bool := turnsOk a m && !decide ((m : Int) < 3) && (turnsN a m == 1 || turnsN a m == -1) && noneTo (neB (bendsF (stepsF a m) m) (turnsN a m)) m
def F_convY : List SA → Option FR
  | [.row m g] => some { val := .v (.bool (convB (itC g) m)), obl := [allC m g, decide (m ≤ 2 ^ 38), f_valid (itC g) m == true] }
  | _ => none
def F_convN : List SA → Option FR
  | [.row m g] => some { val := .v (.bool false), obl := [allC m g, decide (m ≤ 2 ^ 38), f_valid (itC g) m == false] }
  | _ => none
theorem turnsOk_itC (a : Nat → Nat → Int) (m : Nat) : turnsOk (itC (rowC a)) m = turnsOk a m := by kernel_rfl
theorem turnsN_itC (a : Nat → Nat → Int) (m : Nat) : turnsN (itC (rowC a)) m = turnsN a m := by kernel_rfl
theorem itI_row (f : Nat → Int) : itI (rowI f) = f := rfl
theorem allI_row' (m : Nat) (a : Nat → Int) : allI m (rowI a) = true := allI_of (a := a) fun j _ => rfl

theorem ok_convI : SpecOk Try.prog 32 (specR md_list F_convY) := by
  refine specR_hr gm_CI_ok Try.func32 rfl fun sas fr hF ho => ?_
  unfold F_convY at hF
  split at hF
  · rename_i m g
    cases hF
    simp only [ob_cons] at ho
    obtain ⟨h1, h2, h3, _⟩ := ho
    refine ⟨[.row false m 8 (rowC (itC g)) 40], noLam, 100, .cons (ABeq.row fun j hj => allC_get h1 j hj) .nil, noLam' _, ?_⟩
    show GoodQ (execF Try.prog gm_CI noLam 100 Try.f32 [.sl 0 8 0 0 m none] [.row false m 8 (rowC (itC g)) 40] (packK 1)) _
    have hm := of_decide_eq_true h2
    have hpos := valid_pos h3
    rw [treeCI, zero_row, bends_itC, valid_itC', turnsOk_itC, turnsN_itC, itI_row, fstAt_get]
    have hs : ∀ b, convB (itC g) m = b → GoodQ (.out .ret [.v (.bool b)] [.row false m 8 (rowC (itC g)) 40]) (GivR (abP md_list [.row m g] []) { val := .v (.bool (convB (itC g) m)), obl := [allC m g, decide (m ≤ 2 ^ 38), f_valid (itC g) m == true] }) := fun b hb =>
      good_out ⟨_, rfl, by rw [hb], .cons (ABeq.row fun j hj => (allC_get h1 j hj).symm) .nil⟩
    have hO : obls [Nat.beq m m, allI m (rowI (bendsF (stepsF (itC g) m) m)), decide (m ≤ 1099511627776)] = true := by
      simp only [ob_cons, ob_nil, allI_row', beq_me, and_true, true_and, decide_eq_true_eq]
      omega
    have hO2 : obls [Nat.ble (0 + m) m, allC m (rowC (itC g)), decide (0 < m), decide (m ≤ 274877906944)] = true := by
      simp only [ob_cons, ob_nil, allC_of (m := m) (a := itC g) fun j _ => rfl, Nat.zero_add, and_true, true_and, Nat.ble_eq, Nat.le_refl, decide_eq_true_eq]
      exact ⟨hpos, by omega⟩
    unfold convB at hs
    refine good_needs ?_ ?_
    · simp only [ob_cons, ob_nil, allC_of (m := m) (a := itC g) fun j _ => rfl, h2, h3, Nat.zero_add, and_true, true_and, Nat.ble_eq, Nat.le_refl]
    · cases q1 : turnsOk (itC g) m with
      | false => exact hs false (by rw [q1]; rfl)
      | true =>
        cases q2 : decide ((m : Int) < 3) with
        | true => exact hs false (by rw [q1, q2]; rfl)
        | false =>
          refine good_needs hO2 ?_
          cases q3 : (turnsN (itC g) m == 1) with
          | true => exact good_needs hO (hs _ (by rw [q1, q2, q3]; simp))
          | false =>
            cases q4 : (turnsN (itC g) m == -1) with
            | true => exact good_needs hO (hs _ (by rw [q1, q2, q3, q4]; simp))
            | false => exact hs false (by rw [q1, q2, q3, q4]; rfl)
  · cases hF

theorem noneTo_iff' {bad : Nat → Bool} {m : Nat} : noneTo bad m = true ↔ ∀ i, i < m → bad i = false := noneTo_iff
/-- The reference's way. -/
theorem conv_same {a : Nat → Nat → Int} {m : Nat} (h : f_valid a m = true) (q1 : turnsOk a m = true) (q2 : decide ((m : Int) < 3) = false) :
    convB a m = (noneTo (neB (bendsF (stepsF a m) m) (bendsF (stepsF a m) m 0)) m && (bendsF (stepsF a m) m 0 == turnsN a m && IntKind.wrap IntKind.i64 (turnsN a m * turnsN a m) == 1)) := by
  have q2' := of_decide_eq_false q2
  have hm : m ≤ 48 := by
    simp only [f_valid, Bool.and_eq_true] at h
    have := inR_iff.1 h.2
    omega
  have hr : -(m : Int) ≤ turnsN a m ∧ turnsN a m ≤ m := by
    simp only [turnsN, q1, cond_true]
    exact sumTo_range (fun j => conT_range _ _ _ _) m
  unfold convB
  rw [q1, q2]
  generalize turnsN a m = t at *
  generalize hbf : bendsF (stepsF a m) m = bf
  have hsq : IntKind.wrap IntKind.i64 (t * t) = t * t := by
    have := mul_bd (x := t) (y := t) (A := 48) (B := 48) (by omega) (by omega) (by omega) (by omega)
    exact wr_in (by omega)
  rw [hsq, Bool.eq_iff_iff]
  have hone : t * t = 1 ↔ t = 1 ∨ t = -1 := by
    constructor
    · intro e
      rcases (by omega : t ≤ -2 ∨ t = -1 ∨ t = 0 ∨ t = 1 ∨ 2 ≤ t) with h | h | h | h | h
      · have h1 := Int.mul_nonneg (a := -t - 2) (b := -t + 2) (by omega) (by omega)
        have h2 : (-t - 2) * (-t + 2) = t * t - 4 := by grind
        omega
      · exact .inr h
      · subst h; simp at e
      · exact .inl h
      · have h1 := Int.mul_nonneg (a := t - 2) (b := t + 2) (by omega) (by omega)
        have h2 : (t - 2) * (t + 2) = t * t - 4 := by grind
        omega
    · rintro (rfl | rfl) <;> rfl
  simp only [Bool.and_eq_true, Bool.true_and, Bool.not_false, Bool.or_eq_true, beq_iff_eq, noneTo_iff, neB, bne_eq_false_iff_eq, hone]
  constructor
  · rintro ⟨h1, h2⟩
    have h0 := h2 0 (by omega)
    exact ⟨fun i hi => (h2 i hi).trans h0.symm, h0, h1⟩
  · rintro ⟨h1, h2, h3⟩
    exact ⟨h3, fun i hi => (h1 i hi).trans h2⟩

theorem ok_convS : SpecOk Try.prog 39 (specR md_list F_convY) := by
  refine specR_hr gm_CS_ok Try.func39 rfl fun sas fr hF ho => ?_
  unfold F_convY at hF
  split at hF
  · rename_i m g
    cases hF
    simp only [ob_cons] at ho
    obtain ⟨h1, h2, h3, _⟩ := ho
    have hm := of_decide_eq_true h2
    have hpos := valid_pos h3
    have hv : f_valid (itC g) m = true := by simpa using h3
    refine ⟨[.row false m 8 (rowC (itC g)) 40], lamCS m (itC g) (bendsF (stepsF (itC g) m) m) (turnsN (itC g) m) (neB (bendsF (stepsF (itC g) m) m) (bendsF (stepsF (itC g) m) m 0)), 100, .cons (ABeq.row fun j hj => allC_get h1 j hj) .nil, lam1 (by kernel_rfl) (sumCS m (rowC (itC g)) 40 m _ _ (by omega) hpos), ?_⟩
    show GoodQ (execF Try.prog gm_CS (lamCS m (itC g) (bendsF (stepsF (itC g) m) m) (turnsN (itC g) m) (neB (bendsF (stepsF (itC g) m) m) (bendsF (stepsF (itC g) m) m 0))) 100 Try.f39 [.sl 0 8 0 0 m none] [.row false m 8 (rowC (itC g)) 40] (packK 1)) _
    rw [treeCS, zero_row, bends_itC, valid_itC', turnsOk_itC, turnsN_itC]
    have hs : ∀ b, convB (itC g) m = b → GoodQ (.out .ret [.v (.bool b)] [.row false m 8 (rowC (itC g)) 40]) (GivR (abP md_list [.row m g] []) { val := .v (.bool (convB (itC g) m)), obl := [allC m g, decide (m ≤ 2 ^ 38), f_valid (itC g) m == true] }) := fun b hb =>
      good_out ⟨_, rfl, by rw [hb], .cons (ABeq.row fun j hj => (allC_get h1 j hj).symm) .nil⟩
    refine good_needs ?_ ?_
    · simp only [ob_cons, ob_nil, allC_of (m := m) (a := itC g) fun j _ => rfl, h2, h3, Nat.zero_add, and_true, true_and, Nat.ble_eq, Nat.le_refl]
    · cases q1 : turnsOk (itC g) m with
      | false => exact hs false (by unfold convB; rw [q1]; rfl)
      | true =>
        cases q2 : decide ((m : Int) < 3) with
        | true => exact hs false (by unfold convB; rw [q1, q2]; rfl)
        | false =>
          have hc := conv_same hv q1 q2
          refine good_needs (by rw [ob_cons]; exact ⟨chk_of ⟨rfl, Hsim.refl _⟩, rfl⟩) (good_cond (fun q3 => ?_) fun q3 => ?_)
          · refine good_needs (by simp only [ob_cons, ob_nil, and_true, decide_eq_true_eq]; omega) (good_cond (fun q4 => ?_) fun q4 => ?_)
            · exact hs _ (by rw [hc, q3, q4]; rfl)
            · exact hs _ (by rw [hc, q3, q4]; rfl)
          · exact hs _ (by rw [hc, q3]; rfl)
  · cases hF

theorem ok_convNI : SpecOk Try.prog 32 (specR md_list F_convN) := by
  refine specR_hr gm_CNI_ok Try.func32 rfl fun sas fr hF ho => ?_
  unfold F_convN at hF
  split at hF
  · rename_i m g
    cases hF
    simp only [ob_cons] at ho
    obtain ⟨h1, h2, h3, _⟩ := ho
    refine ⟨[.row false m 8 (rowC (itC g)) 40], noLam, 100, .cons (ABeq.row fun j hj => allC_get h1 j hj) .nil, noLam' _, ?_⟩
    show GoodQ (execF Try.prog gm_CNI noLam 100 Try.f32 [.sl 0 8 0 0 m none] [.row false m 8 (rowC (itC g)) 40] (packK 1)) _
    rw [treeCNI, zero_row, valid_itC']
    refine good_needs ?_ (good_out ⟨_, rfl, rfl, .cons (ABeq.row fun j hj => (allC_get h1 j hj).symm) .nil⟩)
    simp only [ob_cons, ob_nil, allC_of (m := m) (a := itC g) fun j _ => rfl, h2, h3, Nat.zero_add, and_true, true_and, Nat.ble_eq, Nat.le_refl]
  · cases hF
theorem ok_convNS : SpecOk Try.prog 39 (specR md_list F_convN) := by
  refine specR_hr gm_CNS_ok Try.func39 rfl fun sas fr hF ho => ?_
  unfold F_convN at hF
  split at hF
  · rename_i m g
    cases hF
    simp only [ob_cons] at ho
    obtain ⟨h1, h2, h3, _⟩ := ho
    refine ⟨[.row false m 8 (rowC (itC g)) 40], noLam, 100, .cons (ABeq.row fun j hj => allC_get h1 j hj) .nil, noLam' _, ?_⟩
    show GoodQ (execF Try.prog gm_CNS noLam 100 Try.f39 [.sl 0 8 0 0 m none] [.row false m 8 (rowC (itC g)) 40] (packK 1)) _
    rw [treeCNS, zero_row, valid_itC']
    refine good_needs ?_ (good_out ⟨_, rfl, rfl, .cons (ABeq.row fun j hj => (allC_get h1 j hj).symm) .nil⟩)
    simp only [ob_cons, ob_nil, allC_of (m := m) (a := itC g) fun j _ => rfl, h2, h3, Nat.zero_add, and_true, true_and, Nat.ble_eq, Nat.le_refl]
  · cases hF

end Go.Proofs.Ytoligfhcogligaa

/- FnWinding: its trees. Conditions: bytes. -/
namespace Go.Proofs.Ytoligfhcogligaa
open Go.RowKit
set_option maxRecDepth 100000

noncomputable abbrev fWiL : Func := Try.f8
def FcvY (va : (Nat → Nat → Int) → Nat → Bool) (cv : (Nat → Nat → Int) → Nat → Bool) : List SA → Option FR
  | [.row m g] => some { val := .v (.bool (cv (itC g) m)), obl := [allC m g, decide (m ≤ 2 ^ 38), va (itC g) m == true] }
  | _ => none
def gmWl (nn : Nat → (Nat → Int) → Nat) (gg : Nat → (Nat → Int) → Nat → Nat → Int) (cc : Nat → (Nat → Int) → Nat → Int) (va : (Nat → Nat → Int) → Nat → Bool) (bk : (Nat → Nat → Int) → Nat → Nat → Nat → Int) (po : (Nat → Nat → Int) → Nat → (Nat → Int) → Bool) (wn : (Nat → Nat → Int) → Nat → (Nat → Int) → Int) (wk : (Nat → Nat → Int) → Nat → (Nat → Int) → Bool) (cv : (Nat → Nat → Int) → Nat → Bool) : Gam :=
  ext (ext (ext (ext (ext (ext g0 30 (specR md_co (FdrO fun m b => frCC (nn m b) (gg m b) (cc m b)))) 29 (specR md_lc (FwnO wn wk))) 31 (specR md_lc (FwnO wn wk))) 15 (specR md_list (FbkY va bk))) 32 (specR md_list (FcvY va cv))) 26 (specR md_lc (FpoO po))
theorem lawWl (nn : Nat → (Nat → Int) → Nat) (gg : Nat → (Nat → Int) → Nat → Nat → Int) (cc : Nat → (Nat → Int) → Nat → Int) (va : (Nat → Nat → Int) → Nat → Bool) (bk : (Nat → Nat → Int) → Nat → Nat → Nat → Int) (po : (Nat → Nat → Int) → Nat → (Nat → Int) → Bool) (wn : (Nat → Nat → Int) → Nat → (Nat → Int) → Int) (wk : (Nat → Nat → Int) → Nat → (Nat → Int) → Bool) (cv : (Nat → Nat → Int) → Nat → Bool) (m : Nat) (b : Nat → Int) : execF Try.prog (gmWl nn gg cc va bk po wn wk cv) noLam 100 fWiL [.sl 0 1 0 0 m none] [.row false m 1 (rowB b) 5] (packK 1)
    = bif decide ((↑m : Int) > (1048576 : Int)) then Res.out Ex.ret [AV.v (Value.bool true)] [AB.row false m (1 : Nat) (rowB b) (5 : TypeId)] else needs [Nat.ble ((0 : Nat) + m) m, okB m fun q ↦ rowB b ((0 : Nat) + q), decide (m ≤ (2097152 : Nat)), Nat.ble (nn m (itB fun q ↦ rowB b ((0 : Nat) + q))) (nn m (itB fun q ↦ rowB b ((0 : Nat) + q))), allC (nn m (itB fun q ↦ rowB b ((0 : Nat) + q))) (row8 (gg m (itB fun q ↦ rowB b ((0 : Nat) + q)))), decide (nn m (itB fun q ↦ rowB b ((0 : Nat) + q)) ≤ (274877906944 : Nat)), Nat.ble (nn m (itB fun q ↦ rowB b ((0 : Nat) + q))) (nn m (itB fun q ↦ rowB b ((0 : Nat) + q))), allC (nn m (itB fun q ↦ rowB b ((0 : Nat) + q))) (row8 (gg m (itB fun q ↦ rowB b ((0 : Nat) + q)))), decide (nn m (itB fun q ↦ rowB b ((0 : Nat) + q)) ≤ (274877906944 : Nat))] (bif !wk (itC (row8 (gg m (itB fun q ↦ rowB b ((0 : Nat) + q))))) (nn m (itB fun q ↦ rowB b ((0 : Nat) + q))) (w8 (cc m (itB fun q ↦ rowB b ((0 : Nat) + q)))) == wk (itC (row8 (gg m (itB fun q ↦ rowB b ((0 : Nat) + q))))) (nn m (itB fun q ↦ rowB b ((0 : Nat) + q))) (w8 (cc m (itB fun q ↦ rowB b ((0 : Nat) + q)))) then bif wk (itC (row8 (gg m (itB fun q ↦ rowB b ((0 : Nat) + q))))) (nn m (itB fun q ↦ rowB b ((0 : Nat) + q))) (w8 (cc m (itB fun q ↦ rowB b ((0 : Nat) + q)))) == wk (itC (row8 (gg m (itB fun q ↦ rowB b ((0 : Nat) + q))))) (nn m (itB fun q ↦ rowB b ((0 : Nat) + q))) (w8 (cc m (itB fun q ↦ rowB b ((0 : Nat) + q)))) then Res.out Ex.ret [AV.v (Value.bool (wn (itC (row8 (gg m (itB fun q ↦ rowB b ((0 : Nat) + q))))) (nn m (itB fun q ↦ rowB b ((0 : Nat) + q))) (w8 (cc m (itB fun q ↦ rowB b ((0 : Nat) + q)))) == wn (itC (row8 (gg m (itB fun q ↦ rowB b ((0 : Nat) + q))))) (nn m (itB fun q ↦ rowB b ((0 : Nat) + q))) (w8 (cc m (itB fun q ↦ rowB b ((0 : Nat) + q))))))] [AB.row false m (1 : Nat) (rowB b) (5 : TypeId)] else Res.out Ex.ret [AV.v (Value.bool false)] [AB.row false m (1 : Nat) (rowB b) (5 : TypeId)] else bif wn (itC (row8 (gg m (itB fun q ↦ rowB b ((0 : Nat) + q))))) (nn m (itB fun q ↦ rowB b ((0 : Nat) + q))) (w8 (cc m (itB fun q ↦ rowB b ((0 : Nat) + q)))) != wn (itC (row8 (gg m (itB fun q ↦ rowB b ((0 : Nat) + q))))) (nn m (itB fun q ↦ rowB b ((0 : Nat) + q))) (w8 (cc m (itB fun q ↦ rowB b ((0 : Nat) + q)))) then bif wk (itC (row8 (gg m (itB fun q ↦ rowB b ((0 : Nat) + q))))) (nn m (itB fun q ↦ rowB b ((0 : Nat) + q))) (w8 (cc m (itB fun q ↦ rowB b ((0 : Nat) + q)))) == wk (itC (row8 (gg m (itB fun q ↦ rowB b ((0 : Nat) + q))))) (nn m (itB fun q ↦ rowB b ((0 : Nat) + q))) (w8 (cc m (itB fun q ↦ rowB b ((0 : Nat) + q)))) then Res.out Ex.ret [AV.v (Value.bool (wn (itC (row8 (gg m (itB fun q ↦ rowB b ((0 : Nat) + q))))) (nn m (itB fun q ↦ rowB b ((0 : Nat) + q))) (w8 (cc m (itB fun q ↦ rowB b ((0 : Nat) + q)))) == wn (itC (row8 (gg m (itB fun q ↦ rowB b ((0 : Nat) + q))))) (nn m (itB fun q ↦ rowB b ((0 : Nat) + q))) (w8 (cc m (itB fun q ↦ rowB b ((0 : Nat) + q))))))] [AB.row false m (1 : Nat) (rowB b) (5 : TypeId)] else Res.out Ex.ret [AV.v (Value.bool false)] [AB.row false m (1 : Nat) (rowB b) (5 : TypeId)] else bif !wk (itC (row8 (gg m (itB fun q ↦ rowB b ((0 : Nat) + q))))) (nn m (itB fun q ↦ rowB b ((0 : Nat) + q))) (w8 (cc m (itB fun q ↦ rowB b ((0 : Nat) + q)))) then bif wk (itC (row8 (gg m (itB fun q ↦ rowB b ((0 : Nat) + q))))) (nn m (itB fun q ↦ rowB b ((0 : Nat) + q))) (w8 (cc m (itB fun q ↦ rowB b ((0 : Nat) + q)))) == wk (itC (row8 (gg m (itB fun q ↦ rowB b ((0 : Nat) + q))))) (nn m (itB fun q ↦ rowB b ((0 : Nat) + q))) (w8 (cc m (itB fun q ↦ rowB b ((0 : Nat) + q)))) then Res.out Ex.ret [AV.v (Value.bool (wn (itC (row8 (gg m (itB fun q ↦ rowB b ((0 : Nat) + q))))) (nn m (itB fun q ↦ rowB b ((0 : Nat) + q))) (w8 (cc m (itB fun q ↦ rowB b ((0 : Nat) + q)))) == wn (itC (row8 (gg m (itB fun q ↦ rowB b ((0 : Nat) + q))))) (nn m (itB fun q ↦ rowB b ((0 : Nat) + q))) (w8 (cc m (itB fun q ↦ rowB b ((0 : Nat) + q))))))] [AB.row false m (1 : Nat) (rowB b) (5 : TypeId)] else Res.out Ex.ret [AV.v (Value.bool false)] [AB.row false m (1 : Nat) (rowB b) (5 : TypeId)] else needs [Nat.ble (nn m (itB fun q ↦ rowB b ((0 : Nat) + q))) (nn m (itB fun q ↦ rowB b ((0 : Nat) + q))), allC (nn m (itB fun q ↦ rowB b ((0 : Nat) + q))) (row8 (gg m (itB fun q ↦ rowB b ((0 : Nat) + q)))), decide (nn m (itB fun q ↦ rowB b ((0 : Nat) + q)) ≤ (274877906944 : Nat)), va (itC (row8 (gg m (itB fun q ↦ rowB b ((0 : Nat) + q))))) (nn m (itB fun q ↦ rowB b ((0 : Nat) + q))), Nat.ble ((0 : Nat) + nn m (itB fun q ↦ rowB b ((0 : Nat) + q))) (nn m (itB fun q ↦ rowB b ((0 : Nat) + q))), allC (nn m (itB fun q ↦ rowB b ((0 : Nat) + q))) fun q ↦ row8 (bk (itC (row8 (gg m (itB fun q ↦ rowB b ((0 : Nat) + q))))) (nn m (itB fun q ↦ rowB b ((0 : Nat) + q)))) ((0 : Nat) + q), decide (nn m (itB fun q ↦ rowB b ((0 : Nat) + q)) ≤ (274877906944 : Nat))] (bif wk (itC fun q ↦ row8 (bk (itC (row8 (gg m (itB fun q ↦ rowB b ((0 : Nat) + q))))) (nn m (itB fun q ↦ rowB b ((0 : Nat) + q)))) ((0 : Nat) + q)) (nn m (itB fun q ↦ rowB b ((0 : Nat) + q))) (w8 (cc m (itB fun q ↦ rowB b ((0 : Nat) + q)))) then bif wn (itC fun q ↦ row8 (bk (itC (row8 (gg m (itB fun q ↦ rowB b ((0 : Nat) + q))))) (nn m (itB fun q ↦ rowB b ((0 : Nat) + q)))) ((0 : Nat) + q)) (nn m (itB fun q ↦ rowB b ((0 : Nat) + q))) (w8 (cc m (itB fun q ↦ rowB b ((0 : Nat) + q)))) == IntKind.wrap IntKind.i64 ((0 : Int) - wn (itC (row8 (gg m (itB fun q ↦ rowB b ((0 : Nat) + q))))) (nn m (itB fun q ↦ rowB b ((0 : Nat) + q))) (w8 (cc m (itB fun q ↦ rowB b ((0 : Nat) + q))))) then needs [Nat.ble (nn m (itB fun q ↦ rowB b ((0 : Nat) + q))) (nn m (itB fun q ↦ rowB b ((0 : Nat) + q))), allC (nn m (itB fun q ↦ rowB b ((0 : Nat) + q))) (row8 (gg m (itB fun q ↦ rowB b ((0 : Nat) + q)))), decide (nn m (itB fun q ↦ rowB b ((0 : Nat) + q)) ≤ (274877906944 : Nat)), va (itC (row8 (gg m (itB fun q ↦ rowB b ((0 : Nat) + q))))) (nn m (itB fun q ↦ rowB b ((0 : Nat) + q))) == true] (bif !cv (itC (row8 (gg m (itB fun q ↦ rowB b ((0 : Nat) + q))))) (nn m (itB fun q ↦ rowB b ((0 : Nat) + q))) then needs [Nat.ble (nn m (itB fun q ↦ rowB b ((0 : Nat) + q))) (nn m (itB fun q ↦ rowB b ((0 : Nat) + q))), allC (nn m (itB fun q ↦ rowB b ((0 : Nat) + q))) (row8 (gg m (itB fun q ↦ rowB b ((0 : Nat) + q)))), decide (nn m (itB fun q ↦ rowB b ((0 : Nat) + q)) ≤ (274877906944 : Nat))] (Res.out Ex.ret [AV.v (Value.bool !po (itC (row8 (gg m (itB fun q ↦ rowB b ((0 : Nat) + q))))) (nn m (itB fun q ↦ rowB b ((0 : Nat) + q))) (w8 (cc m (itB fun q ↦ rowB b ((0 : Nat) + q)))))] [AB.row false m (1 : Nat) (rowB b) (5 : TypeId)]) else bif decide (wn (itC (row8 (gg m (itB fun q ↦ rowB b ((0 : Nat) + q))))) (nn m (itB fun q ↦ rowB b ((0 : Nat) + q))) (w8 (cc m (itB fun q ↦ rowB b ((0 : Nat) + q)))) ≥ (-1 : Int)) then bif decide (wn (itC (row8 (gg m (itB fun q ↦ rowB b ((0 : Nat) + q))))) (nn m (itB fun q ↦ rowB b ((0 : Nat) + q))) (w8 (cc m (itB fun q ↦ rowB b ((0 : Nat) + q)))) ≤ (1 : Int)) then needs [Nat.ble (nn m (itB fun q ↦ rowB b ((0 : Nat) + q))) (nn m (itB fun q ↦ rowB b ((0 : Nat) + q))), allC (nn m (itB fun q ↦ rowB b ((0 : Nat) + q))) (row8 (gg m (itB fun q ↦ rowB b ((0 : Nat) + q)))), decide (nn m (itB fun q ↦ rowB b ((0 : Nat) + q)) ≤ (274877906944 : Nat))] (Res.out Ex.ret [AV.v (Value.bool !po (itC (row8 (gg m (itB fun q ↦ rowB b ((0 : Nat) + q))))) (nn m (itB fun q ↦ rowB b ((0 : Nat) + q))) (w8 (cc m (itB fun q ↦ rowB b ((0 : Nat) + q)))))] [AB.row false m (1 : Nat) (rowB b) (5 : TypeId)]) else Res.out Ex.ret [AV.v (Value.bool false)] [AB.row false m (1 : Nat) (rowB b) (5 : TypeId)] else Res.out Ex.ret [AV.v (Value.bool false)] [AB.row false m (1 : Nat) (rowB b) (5 : TypeId)]) else Res.out Ex.ret [AV.v (Value.bool false)] [AB.row false m (1 : Nat) (rowB b) (5 : TypeId)] else Res.out Ex.ret [AV.v (Value.bool false)] [AB.row false m (1 : Nat) (rowB b) (5 : TypeId)])) := by kernel_rfl

end Go.Proofs.Ytoligfhcogligaa

/- Plain laws of polygons: convex ones are wound around at most once. No program, no conditions. -/
namespace Go.Proofs.Ytoligfhcogligaa
open Go.RowKit
set_option maxRecDepth 100000

theorem sumZ_next (g : Nat → Int) : ∀ n : Nat, sumZ (fun i => g ((i + 1) % n)) n = sumZ g n
  | 0 => rfl
  | n + 1 => by
    rw [sumZ, sumZ_first g n, Nat.mod_self, sumZ_congr (h := fun i => g (i + 1)) fun i hi => by rw [Nat.mod_eq_of_lt (show i + 1 < n + 1 by omega)]]
    omega
theorem pass_next (f : Nat → Bool) (n : Nat) : sumZ (fun i => b2i (f i && !f ((i + 1) % n))) n = sumZ (fun i => b2i (!f i && f ((i + 1) % n))) n := by
  have e : sumZ (fun i => b2i (f i) + -b2i (f ((i + 1) % n))) n = 0 := by
    rw [sumZ_add, sumZ_neg, sumZ_next (fun i => b2i (f i))]
    omega
  have e2 : sumZ (fun i => b2i (f i && !f ((i + 1) % n)) + -b2i (!f i && f ((i + 1) % n))) n = 0 := by
    refine Eq.trans (sumZ_congr fun i _ => ?_) e
    cases f i <;> cases f ((i + 1) % n) <;> decide
  rw [sumZ_add, sumZ_neg] at e2
  omega
theorem sumZ_le {g h : Nat → Int} : ∀ {n : Nat}, (∀ i, i < n → g i ≤ h i) → sumZ g n ≤ sumZ h n
  | 0, _ => Int.le_refl _
  | n + 1, e => by
    have := sumZ_le (n := n) fun i hi => e i (by omega)
    have := e n (by omega)
    rw [sumZ, sumZ]
    omega
/-- A corner above a height. -/
noncomputable def abV (a : Nat → Nat → Int) (y : Sd) (i : Nat) : Bool := decide (SG (IM (a i) + -y) > 0)
theorem pass_turns {a : Nat → Nat → Int} {m : Nat} (h : f_valid a m = true) (y : Sd) : sumZ (fun i => b2i (!abV a y i && abV a y ((i + 1) % m))) m ≤ sumZ (fun i => b2i (!upV a m ((i + m - 1) % m) && upV a m i)) m := by
  refine pass_le (fun i hi hu hf => ?_) fun i hi hu hf => ?_
  · have hs := up_nn hu
    have e := (sub_pt (step_at h hi)).2
    have hf := of_decide_eq_true hf
    have := SG_add hs hf
    rw [show IM (stepsF a m i) + (IM (a i) + -y) = IM (a ((i + 1) % m)) + -y by rw [e]; grind] at this
    exact decide_eq_true (by omega)
  · have hs := up_no hu
    have e := (sub_pt (step_at h hi)).2
    have hf := of_decide_eq_true hf
    have := SG_add (z := -IM (stepsF a m i)) (by rw [SG_neg]; omega) hf
    rw [show -IM (stepsF a m i) + (IM (a ((i + 1) % m)) + -y) = IM (a i) + -y by rw [e]; grind] at this
    exact decide_eq_true (by omega)
/-- Equal bends and one turn: one passage up of the direction. -/
theorem one_up {a : Nat → Nat → Int} {m : Nat} (h : f_valid a m = true) (ht : turnsOk a m = true) (h1 : turnsN a m = 1 ∨ turnsN a m = -1) (hb : ∀ i, i < m → bendsF (stepsF a m) m i = turnsN a m) : sumZ (fun i => b2i (!upV a m ((i + m - 1) % m) && upV a m i)) m = 1 := by
  have e : turnsN a m = sumZ (fun i => cT (decide (crV a m i > 0)) (decide (crV a m i < 0)) (upV a m ((i + m - 1) % m)) (upV a m i)) m := by
    rw [turnsN, ht, cond_true, sumTo_Z, sumZ_congr fun i hi => con_SG h hi]
  have hc : ∀ i, i < m → crV a m i = turnsN a m := fun i hi => by rw [← bend_SG h hi, hb i hi]
  rcases h1 with h1 | h1
  · rw [h1] at e hc
    rw [e]
    refine sumZ_congr fun i hi => ?_
    rw [hc i hi]
    cases upV a m ((i + m - 1) % m) <;> cases upV a m i <;> decide
  · rw [h1] at e hc
    have s := pass_same (upV a m) m
    have e2 : sumZ (fun i => b2i (!upV a m i && upV a m ((i + m - 1) % m))) m = 1 := by
      have e3 : -sumZ (fun i => b2i (!upV a m i && upV a m ((i + m - 1) % m))) m = -1 := by
        rw [e, ← sumZ_neg]
        refine sumZ_congr fun i hi => ?_
        rw [hc i hi]
        cases upV a m ((i + m - 1) % m) <;> cases upV a m i <;> decide
      omega
    rw [e2] at s
    rw [← s]
    refine sumZ_congr fun i _ => ?_
    rw [Bool.and_comm]
/-- How often a polygon winds, by sides: never more than the passages of a height. -/
theorem law_wind {a : Nat → Nat → Int} {m : Nat} (h : f_valid a m = true) (ht : turnsOk a m = true) (h1 : turnsN a m = 1 ∨ turnsN a m = -1) (hb : ∀ i, i < m → bendsF (stepsF a m) m i = turnsN a m) (y : Sd) (s : Nat → Int) :
    -1 ≤ sumZ (fun i => cT (decide (s i > 0)) (decide (s i < 0)) (abV a y i) (abV a y ((i + 1) % m))) m ∧ sumZ (fun i => cT (decide (s i > 0)) (decide (s i < 0)) (abV a y i) (abV a y ((i + 1) % m))) m ≤ 1 := by
  have p := pass_turns h y
  rw [one_up h ht h1 hb] at p
  have q := pass_next (abV a y) m
  have hi : sumZ (fun i => cT (decide (s i > 0)) (decide (s i < 0)) (abV a y i) (abV a y ((i + 1) % m))) m ≤ sumZ (fun i => b2i (!abV a y i && abV a y ((i + 1) % m))) m := sumZ_le fun i _ => by
    cases decide (s i > 0) <;> cases decide (s i < 0) <;> cases abV a y i <;> cases abV a y ((i + 1) % m) <;> decide
  have lo : sumZ (fun i => -b2i (abV a y i && !abV a y ((i + 1) % m))) m ≤ sumZ (fun i => cT (decide (s i > 0)) (decide (s i < 0)) (abV a y i) (abV a y ((i + 1) % m))) m := sumZ_le fun i _ => by
    cases decide (s i > 0) <;> cases decide (s i < 0) <;> cases abV a y i <;> cases abV a y ((i + 1) % m) <;> decide
  rw [sumZ_neg] at lo
  omega
/-- Windings are opposite the other way round. -/
theorem law_windback {a : Nat → Nat → Int} {m : Nat} (y : Sd) (s s' : Nat → Int) (hs : ∀ j, j < m → s' j = -s ((m - 1 - j + m - 1) % m)) :
    sumZ (fun j => cT (decide (s' j > 0)) (decide (s' j < 0)) (abV (bkC a m) y j) (abV (bkC a m) y ((j + 1) % m))) m = -sumZ (fun i => cT (decide (s i > 0)) (decide (s i < 0)) (abV a y i) (abV a y ((i + 1) % m))) m := by
  rw [← sumZ_neg, ← sumZ_prev (fun i => -cT (decide (s i > 0)) (decide (s i < 0)) (abV a y i) (abV a y ((i + 1) % m))) m]
  rw [← sumZ_rev (fun i => -cT (decide (s ((i + m - 1) % m) > 0)) (decide (s ((i + m - 1) % m) < 0)) (abV a y ((i + m - 1) % m)) (abV a y (((i + m - 1) % m + 1) % m))) m]
  refine sumZ_congr fun j hj => ?_
  rw [hs j hj, ← wind_one]
  have e1 : ((m - 1 - j + m - 1) % m + 1) % m = m - 1 - j := by
    by_cases h0 : m - 1 - j = 0
    · rw [h0, show 0 + m - 1 = m - 1 by omega, Nat.mod_eq_of_lt (show m - 1 < m by omega), show m - 1 + 1 = m by omega, Nat.mod_self]
    · rw [show m - 1 - j + m - 1 = m - 1 - j - 1 + m by omega, Nat.add_mod_right, Nat.mod_eq_of_lt (show m - 1 - j - 1 < m by omega), show m - 1 - j - 1 + 1 = m - 1 - j by omega, Nat.mod_eq_of_lt (by omega)]
  have e2 : m - 1 - (j + 1) % m = (m - 1 - j + m - 1) % m := by
    by_cases hl : j + 1 = m
    · rw [hl, Nat.mod_self, show m - 1 - j = 0 by omega, show 0 + m - 1 = m - 1 by omega, Nat.mod_eq_of_lt (show m - 1 < m by omega)]
      omega
    · rw [Nat.mod_eq_of_lt (show j + 1 < m by omega), show m - 1 - j + m - 1 = m - 2 - j + m by omega, Nat.add_mod_right, Nat.mod_eq_of_lt (by omega)]
      omega
  rw [e1]
  show cT _ _ (decide (SG (IM (a (m - 1 - j)) + -y) > 0)) (decide (SG (IM (a (m - 1 - (j + 1) % m)) + -y) > 0)) = _
  rw [e2]
  rfl

end Go.Proofs.Ytoligfhcogligaa

/- Being on a polygon, winding around a point: the other way round. No program, no conditions. -/
namespace Go.Proofs.Ytoligfhcogligaa
open Go.RowKit
set_option maxRecDepth 100000

theorem po_parts {a : Nat → Nat → Int} {m : Nat} {c : Nat → Int} (h : poV a m c = true) : f_valid a m = true ∧ smN c 100 = true ∧ onV a m c = true := by
  rw [poV, Bool.and_eq_true, Bool.and_eq_true] at h
  exact ⟨h.1, h.2.1, h.2.2⟩
/-- The side before, seen from the other way round. -/
theorem bk_idx {m j : Nat} (hj : j < m) : ((m - 1 - j + m - 1) % m + 1) % m = m - 1 - j ∧ m - 1 - (j + 1) % m = (m - 1 - j + m - 1) % m := by
  constructor
  · by_cases h0 : m - 1 - j = 0
    · rw [h0, show 0 + m - 1 = m - 1 by omega, Nat.mod_eq_of_lt (show m - 1 < m by omega), show m - 1 + 1 = m by omega, Nat.mod_self]
    · rw [show m - 1 - j + m - 1 = m - 1 - j - 1 + m by omega, Nat.add_mod_right, Nat.mod_eq_of_lt (show m - 1 - j - 1 < m by omega), show m - 1 - j - 1 + 1 = m - 1 - j by omega, Nat.mod_eq_of_lt (by omega)]
  · by_cases hl : j + 1 = m
    · rw [hl, Nat.mod_self, show m - 1 - j = 0 by omega, show 0 + m - 1 = m - 1 by omega, Nat.mod_eq_of_lt (show m - 1 < m by omega)]
      omega
    · rw [Nat.mod_eq_of_lt (show j + 1 < m by omega), show m - 1 - j + m - 1 = m - 2 - j + m by omega, Nat.add_mod_right, Nat.mod_eq_of_lt (by omega)]
      omega
theorem sd_back {a : Nat → Nat → Int} {m : Nat} {c : Nat → Int} {j : Nat} (hj : j < m) : sdZ (bkC a m) m c j = -sdZ a m c ((m - 1 - j + m - 1) % m) := by
  obtain ⟨e1, e2⟩ := bk_idx hj
  unfold sdZ
  rw [e1]
  show SG ((RE (a (m - 1 - (j + 1) % m)) + -RE (a (m - 1 - j))) * (IM c + -IM (a (m - 1 - j))) - (IM (a (m - 1 - (j + 1) % m)) + -IM (a (m - 1 - j))) * (RE c + -RE (a (m - 1 - j)))) = _
  rw [e2, ← SG_neg]
  congr 1
  grind
theorem onZ_back {a : Nat → Nat → Int} {m : Nat} {c : Nat → Int} {j : Nat} (hj : j < m) : onZ (bkC a m) m c j = onZ a m c ((m - 1 - j + m - 1) % m) := by
  obtain ⟨e1, e2⟩ := bk_idx hj
  have s := sd_back (a := a) (c := c) hj
  have d : ∀ (b : Nat → Nat → Int) (i : Nat), onZ b m c i = ((sdZ b m c i == 0) && decide (SG ((RE c + -RE (b i)) * (RE c + -RE (b ((i + 1) % m))) + (IM c + -IM (b i)) * (IM c + -IM (b ((i + 1) % m)))) ≤ 0)) := fun b i => rfl
  rw [d, d, s, e1]
  have x : (RE c + -RE (bkC a m j)) * (RE c + -RE (bkC a m ((j + 1) % m))) + (IM c + -IM (bkC a m j)) * (IM c + -IM (bkC a m ((j + 1) % m))) = (RE c + -RE (a ((m - 1 - j + m - 1) % m))) * (RE c + -RE (a (m - 1 - j))) + (IM c + -IM (a ((m - 1 - j + m - 1) % m))) * (IM c + -IM (a (m - 1 - j))) := by
    show (RE c + -RE (a (m - 1 - j))) * (RE c + -RE (a (m - 1 - (j + 1) % m))) + (IM c + -IM (a (m - 1 - j))) * (IM c + -IM (a (m - 1 - (j + 1) % m))) = _
    rw [e2]
    grind
  rw [x]
  congr 1
  generalize sdZ a m c ((m - 1 - j + m - 1) % m) = t
  by_cases h : t = 0
  · rw [h]; rfl
  · rw [beq_eq_false_iff_ne.2 h, beq_eq_false_iff_ne.2 (by omega)]
theorem on_back_iff {a : Nat → Nat → Int} {m : Nat} {c : Nat → Int} (h : f_valid a m = true) (hv : f_valid (bkC a m) m = true) (hc : bd8 100 c) : (∀ i, i < m → onT (bkC a m) m c i = false) ↔ ∀ i, i < m → onT a m c i = false := by
  refine ⟨fun k i hi => ?_, fun k j hj => ?_⟩
  · have hj : m - 1 - (i + 1) % m < m := by omega
    have := k (m - 1 - (i + 1) % m) hj
    rw [onT_Z hv hc hj, onZ_back hj] at this
    have hlt := Nat.mod_lt (i + 1) (show 0 < m by omega)
    rw [show m - 1 - (m - 1 - (i + 1) % m) = (i + 1) % m by omega] at this
    have e : ((i + 1) % m + m - 1) % m = i := by
      by_cases hl : i + 1 = m
      · rw [hl, Nat.mod_self, show 0 + m - 1 = m - 1 by omega, Nat.mod_eq_of_lt (show m - 1 < m by omega)]
        omega
      · rw [Nat.mod_eq_of_lt (show i + 1 < m by omega), show i + 1 + m - 1 = i + m by omega, Nat.add_mod_right, Nat.mod_eq_of_lt hi]
    rw [e] at this
    rw [onT_Z h hc hi]
    exact this
  · rw [onT_Z hv hc hj, onZ_back hj, ← onT_Z h hc (Nat.mod_lt _ (by omega))]
    exact k _ (Nat.mod_lt _ (by omega))
/-- What is on a polygon is on it the other way round too. -/
theorem on_back {a : Nat → Nat → Int} {m : Nat} {c : Nat → Int} (h : f_valid a m = true) (hc : bd8 100 c) : onV (bkC a m) m c = onV a m c := by
  have hv := valid_bk h
  have key : (∀ i, i < m → onT (bkC a m) m c i = false) ↔ ∀ i, i < m → onT a m c i = false := on_back_iff h hv hc
  exact congrArg (fun b => !b) (Bool.eq_iff_iff.2 (noneTo_iff.trans (key.trans noneTo_iff.symm)))
/-- The count of windings, side by side. -/
noncomputable def wdZ (a : Nat → Nat → Int) (m : Nat) (c : Nat → Int) (i : Nat) : Int := cT (decide (sdZ a m c i > 0)) (decide (sdZ a m c i < 0)) (abV a (IM c) i) (abV a (IM c) ((i + 1) % m))
theorem wdZ_in (a : Nat → Nat → Int) (m : Nat) (c : Nat → Int) (i : Nat) : -1 ≤ wdZ a m c i ∧ wdZ a m c i ≤ 1 := by
  unfold wdZ
  generalize decide (sdZ a m c i > 0) = p
  generalize decide (sdZ a m c i < 0) = q
  generalize abV a (IM c) i = r
  generalize abV a (IM c) ((i + 1) % m) = s
  cases p <;> cases q <;> cases r <;> cases s <;> decide
theorem sum_in {g : Nat → Int} (hg : ∀ i, -1 ≤ g i ∧ g i ≤ 1) : ∀ n : Nat, -(n : Int) ≤ sumZ g n ∧ sumZ g n ≤ n
  | 0 => ⟨by show _ ≤ (0 : Int); omega, by show (0 : Int) ≤ _; omega⟩
  | n + 1 => by
    have := hg n
    have := sum_in hg n
    show -((n + 1 : Nat) : Int) ≤ sumZ g n + g n ∧ sumZ g n + g n ≤ ((n + 1 : Nat) : Int)
    omega
theorem wnF_Z {a : Nat → Nat → Int} {m : Nat} {c : Nat → Int} (h : f_valid a m = true) (hc : bd8 100 c) {j : Nat} (hj : j < m) : wnF a c j = SG (IM (a j) + -IM c) := by
  have hp := corner_bd h hj
  have d := mn_at hp hc
  have hi := im_bd (bd_sub hp hc d)
  unfold wnF
  have e1 : sgn4 (w4 (imF (mnF (w8 (a j)) (w8 c)))) = SG (IM (mnF (w8 (a j)) (w8 c))) := by
    rw [sgn4_w4, sgn4_congr (s := imF (mnF (w8 (a j)) (w8 c))) (s' := imZ (mnF (w8 (a j)) (w8 c))) fun k hk => W4 hi (by omega) k hk, sgn4_SG fun k hk => by have := hi k hk; omega]
    rfl
  have e2 : sgn4 (w4 (imF (w8 (mnF (w8 (a j)) (w8 c))))) = sgn4 (w4 (imF (mnF (w8 (a j)) (w8 c)))) := rfl
  rw [e2, e1, (sub_pt d).2]
theorem stp_cT {f l s x : Int} (hx : -1000 ≤ x ∧ x ≤ 1000) : stpB f l s x = x + cT (decide (s > 0)) (decide (s < 0)) (decide (f > 0)) (decide (l > 0)) := by
  unfold stpB stpN
  rw [← not_gt f, ← not_gt l, w64_in (x := x + 1) (by omega) (by omega), w64_in (x := x - 1) (by omega) (by omega)]
  have hs : (decide (s > 0) && decide (s < 0)) = false := by
    cases h : decide (s > 0) with
    | false => rfl
    | true =>
      have := of_decide_eq_true h
      rw [Bool.true_and]
      exact decide_eq_false (by omega)
  generalize decide (s > 0) = p at *
  generalize decide (s < 0) = q at *
  generalize decide (f > 0) = u
  generalize decide (l > 0) = v
  cases p <;> cases q <;> cases u <;> cases v <;> first | (cases hs; done) | (show x = x + 0; omega) | rfl
theorem wnS_sum {a : Nat → Nat → Int} {m : Nat} {c : Nat → Int} (h : f_valid a m = true) (hc : bd8 100 c) : ∀ i, i ≤ m → wnS a m c i = sumZ (wdZ a m c) i
  | 0, _ => by simp only [wnS, List.range_zero, List.foldl_nil]; rfl
  | i + 1, hi => by
    have hm := (valid_m h).2
    have e : wnS a m c (i + 1) = wnT a m c (wnS a m c i) i := by
      unfold wnS
      rw [List.range_succ, List.foldl_append]
      rfl
    have hb := sum_in (wdZ_in a m c) i
    rw [e, wnS_sum h hc i (by omega)]
    have f1 := wnF_Z h hc (show i < m by omega)
    have f2 := wnF_Z h hc (Nat.mod_lt (i + 1) (show 0 < m by omega))
    have f3 := wnL_Z h hc (show i < m by omega)
    rw [show wnT a m c (sumZ (wdZ a m c) i) i = stpB (SG (IM (a i) + -IM c)) (SG (IM (a ((i + 1) % m)) + -IM c)) (sdZ a m c i) (sumZ (wdZ a m c) i) from stp_congr f1 f2 f3, stp_cT (by omega)]
    rfl
theorem wn_in {a : Nat → Nat → Int} {m : Nat} {c : Nat → Int} (h : wkV a m c = true) : -48 ≤ wnV a m c ∧ wnV a m c ≤ 48 := by
  obtain ⟨hv, hs, _⟩ := wk_parts h
  have hm := (valid_m hv).2
  have := sum_in (wdZ_in a m c) m
  rw [wnV, h, cond_true, wnS_sum hv (small_bd hs) m (Nat.le_refl _)]
  omega
theorem wk_back {a : Nat → Nat → Int} {m : Nat} {c : Nat → Int} (h : wkV a m c = true) : wkV (bkC a m) m c = true ∧ wnV (bkC a m) m c = -wnV a m c := by
  obtain ⟨hv, hs, hn⟩ := wk_parts h
  have hc := small_bd hs
  have k : wkV (bkC a m) m c = true := by rw [wkV, valid_bk hv, hs, on_back hv hc, hn]; rfl
  refine ⟨k, ?_⟩
  rw [wnV, wnV, h, k, cond_true, cond_true, wnS_sum hv hc m (Nat.le_refl _), wnS_sum (valid_bk hv) hc m (Nat.le_refl _)]
  exact law_windback (a := a) (IM c) (sdZ a m c) (sdZ (bkC a m) m c) fun j hj => sd_back hj
theorem wn_convex {a : Nat → Nat → Int} {m : Nat} {c : Nat → Int} (h : wkV a m c = true) (ht : turnsOk a m = true) (h1 : turnsN a m = 1 ∨ turnsN a m = -1) (hb : ∀ i, i < m → bendsF (stepsF a m) m i = turnsN a m) : -1 ≤ wnV a m c ∧ wnV a m c ≤ 1 := by
  obtain ⟨hv, hs, _⟩ := wk_parts h
  rw [wnV, h, cond_true, wnS_sum hv (small_bd hs) m (Nat.le_refl _)]
  exact law_wind hv ht h1 hb (IM c) (sdZ a m c)

end Go.Proofs.Ytoligfhcogligaa

/- FnWinding returns true, whatever the bytes are. Conditions: bytes. -/
namespace Go.Proofs.Ytoligfhcogligaa
open Go.RowKit
set_option maxRecDepth 100000

theorem FcvY_is : FcvY f_valid convB = F_convY := by funext l; unfold FcvY F_convY; rfl
theorem conv_out {a : Nat → Nat → Int} {m : Nat} (h : convB a m = true) : turnsOk a m = true ∧ 3 ≤ m ∧ (turnsN a m = 1 ∨ turnsN a m = -1) ∧ ∀ i, i < m → bendsF (stepsF a m) m i = turnsN a m := by
  rw [convB, Bool.and_eq_true, Bool.and_eq_true, Bool.and_eq_true, Bool.or_eq_true, beq_iff_eq, beq_iff_eq, Bool.not_eq_true', decide_eq_false_iff_not] at h
  refine ⟨h.1.1.1, by omega, h.1.2, fun i hi => ?_⟩
  have := noneTo_get h.2 hi
  unfold neB at this
  simpa using this
theorem gmWl_ok : GamOk Try.prog (gmWl bPN bPG bPC f_valid bkC poV wnV wkV convB) := ext_ok (ext_ok (ext_ok (ext_ok (ext_ok (ext_ok g0_ok ok_drPWi) ok_wnI) ok_wnS) ok_bkY) (FcvY_is ▸ ok_convI)) ok_poI
theorem yes_pwi (m : Nat) (b : Nat → Int) (_ : m ≤ 9223372036854775807) (hb : okB m (rowB b) = true) : ∃ Γ n Λ, GamOk Try.prog Γ ∧ (∀ cc, fWiL.body = some cc → LamOk Try.prog 1 Λ cc) ∧ GoodQ (execF Try.prog Γ Λ n fWiL [.sl 0 1 0 0 m none] [.row false m 1 (rowB b) 5] (packK 1)) SaysYes := by
  have hl := bPN_le m b
  refine ⟨_, 100, _, gmWl_ok, noLam' _, ?_⟩
  rw [lawWl]
  refine good_cond (fun _ => good_out rfl) fun c => ?_
  have c := of_decide_eq_false c
  have b21 : decide (m ≤ 2097152) = true := decide_eq_true (by omega)
  have b38 := p38 (n := bPN m b) (by omega)
  simp only [Nat.zero_add, itB_row]
  generalize bPN m b = k at *
  generalize bPG m b = a at *
  generalize w8 (bPC m b) = p
  have e1 : poV (itC (row8 a)) k p = poV a k p := rfl
  have e2 : wkV (itC (row8 (bkC (itC (row8 a)) k))) k p = wkV (bkC a k) k p := rfl
  have e3 : wkV (itC (row8 a)) k p = wkV a k p := rfl
  have e4 : wnV (itC (row8 (bkC (itC (row8 a)) k))) k p = wnV (bkC a k) k p := rfl
  have e5 : wnV (itC (row8 a)) k p = wnV a k p := rfl
  have e6 : convB (itC (row8 a)) k = convB a k := rfl
  simp only [hb, b21, b38, bleP, allC_r8, validP, itC_eta, e1, e2, e3, e4, e5, e6, needs_t, needs_nil, beq_self_eq_true, bne_self_eq_false, cond_true, cond_false]
  try rw [show (!wkV a k p == wkV a k p) = false by cases wkV a k p <;> rfl, cond_false]
  cases hp : wkV a k p with
  | false => exact good_out rfl
  | true =>
    obtain ⟨hv, hs, hn⟩ := wk_parts hp
    obtain ⟨k1, k2⟩ := wk_back hp
    have wi := wn_in hp
    have ho : poV a k p = false := by rw [poV, hn, Bool.and_false, Bool.and_false]
    rw [k1, k2, wr_in (x := 0 - wnV a k p) (by omega), show -wnV a k p = 0 - wnV a k p by omega, beq_self_eq_true, ho]
    refine good_false rfl (good_needs ?_ (good_true rfl (good_true rfl (good_needs ?_ (good_cond (fun _ => ?_) fun q => ?_)))))
    · simp only [ob_cons, ob_nil, and_true]
      exact hv
    · simp only [ob_cons, ob_nil, and_true]
      exact beq_iff_eq.2 hv
    · exact sayP rfl
    · rw [Bool.not_eq_false'] at q
      obtain ⟨h1, _, h3, h4⟩ := conv_out q
      have := wn_convex hp h1 h3 h4
      exact good_true (decide_eq_true (by omega)) (good_true (decide_eq_true (by omega)) (sayP rfl))

end Go.Proofs.Ytoligfhcogligaa

/- Windings are opposite the other way round: FnWinding returns true, whatever the bytes are, and they read as before. No conditions. -/
namespace Go.Proofs.Ytoligfhcogligaa
open Go.ChangeShapes Go.WideShapes Go.ChangeAt Go.RowKit

set_option maxRecDepth 100000 in
theorem pwi_lifted (os : Os) (started : os.Started) (H : Type) (enc : TypeId × Value → H) :
    ReturnsInHanded {} Try.checked os 8 .any (Rows.fnWindingSpec.pre6 enc Try.prog Try.f8 Rows.fnWindingRow.domain false) (Rows.fnWindingSpec.post enc Try.prog Try.f8 false true false false) := by
  refine returnsInHanded_of_change (C := Try.checked) own started (by kernel_rfl) Try.func8
    (ChangeSpec.witness6 (enc := enc) (C := Try.checked) false ⟨#[], #[.slice none 0 0], []⟩ 8 (by kernel_rfl) (by kernel_rfl) (by kernel_rfl) (by kernel_rfl)) ?_
  intro W base args ds gs before hval hW _ _
  exact contractB (spec := Rows.fnWindingSpec) Try.func8 rfl rfl rfl (fun _ _ => rfl) (fun m b hm hb => yes_pwi m b hm hb) H enc W base args ds gs before hval hW

set_option maxRecDepth 100000 in
theorem pwi_f1 : Rows.fnWindingRow.wf (OpenSpec.ofChange Rows.fnWindingSpec) = true := by kernel_rfl
set_option maxRecDepth 100000 in
theorem pwi_f2 : (Rows.fnWindingRow.inPlace == Try.prog.inPlace 8) = true := by kernel_rfl
set_option maxRecDepth 100000 in
theorem pwi_f3 : (Rows.fnWindingRow.unfollowed == Try.prog.unfollowed 8) = true := by kernel_rfl
set_option maxRecDepth 100000 in
theorem pwi_f4 : (Rows.fnWindingRow.recurses == Try.prog.recurses 8) = true := by kernel_rfl
set_option maxRecDepth 100000 in
theorem pwi_f5 : (Rows.fnWindingRow.named == Try.prog.varsNamed 8) = true := by kernel_rfl
set_option maxRecDepth 100000 in
theorem pwi_f6 : Try.prog.funcNamed Rows.fnWindingRow.func = some 8 := by kernel_rfl
theorem pwi_f7 : (Rows.fnWindingRow.lifted == Try.prog.liftsFinal) = true := jfG
theorem pwi_f8 : (Try.prog.make == some Rows.fnWindingRow.make) = true := jfH
theorem pwi_f9 : (Rows.fnWindingRow.plainKeys == Try.prog.plainKeys) = true := jfI
set_option maxRecDepth 100000 in
theorem pwi_joined : joinedFacts Try.prog 8 Try.f8 Rows.fnWindingSpec Rows.fnWindingRow = true := by
  unfold joinedFacts
  rw [jfA, jfB, jfC, jfD, jfE, jfF, pwi_f1, pwi_f2, pwi_f3, pwi_f4, pwi_f5, pwi_f7, pwi_f8, pwi_f9]
  kernel_rfl

theorem pwi_holds : Rows.FnWindingSaid :=
  OpenClaim.holds_of_wide 8 Try.f8 rfl rfl rfl rfl rfl rfl rfl ⟨rfl, rfl, rfl, rfl, rfl⟩ rfl rfl rfl rfl rfl pwi_f6 Try.func8 pwi_joined
    (of_decide_eq_true (by kernel_rfl)) (by unfold Func.isWrapper; first | (rw [if_pos (by decide +kernel)]; kernel_rfl) | (rw [if_neg (by decide +kernel)]; exact ⟨rfl, rfl⟩))
    (fun os started H enc _ => pwi_lifted os started H enc)
#print axioms pwi_holds
end Go.Proofs.Ytoligfhcogligaa
