/- The sign of a surd, by the program and by the reference. No conditions but bounds. -/
import Derived.Test.YtoligfhcogligaaZD0
import Derived.Test.YtoligfhcogligaaZD1
import Derived.Test.YtoligfhcogligaaZD2
import Derived.Test.YtoligfhcogligaaZD3
import Derived.Test.YtoligfhcogligaaZD4
/- l92Design: its trees. Conditions: those of pick. -/
namespace Go.Proofs.Ytoligfhcogligaa
open Go.RowKit
set_option maxRecDepth 100000

noncomputable abbrev fD2 : Func := Try.f88
def gmD2 (pk : Nat → (Nat → Int) → Int → Int → Int) (cf : Nat → (Nat → Int) → Int → Nat → Int) (cp : Nat → (Nat → Int) → Int → Int) : Gam := ext (gmPk pk) 90 (specK [] (FcyO cf cp))
abbrev lvD2 : Ex → List Nat := lv3 [0, 5, 6, 7, 8, 9] [7] [2]
abbrev stD2 (st fi : Int) (n : Nat) (i : Nat) : List AV := [.ptr 0 0 0 0, .v (i64 st), .v (i64 fi), .own 2 i, .v (i64 n), .v (i64 i)]
theorem rndD2 (pk : Nat → (Nat → Int) → Int → Int → Int) (cf : Nat → (Nat → Int) → Int → Nat → Int) (cp : Nat → (Nat → Int) → Int → Int) (l : Nat) (c : Option Nat) (p : Int) (m : Nat) (b : Nat → Int) (tr tb : TypeId) (h : Nat → Nat → Int) (st fi : Int) (n : Nat) (i : Nat) : execC Try.prog (gmD2 pk cf cp) 100 noLam (loopAt 1 fD2) (mkT 0 65 ((lvD2 .normal).zip (stD2 st fi n i))) (hpDs l c p m b tr tb i h) (leafV 65 lvD2 2)
    = bif decide ((↑i : Int) < (↑n : Int)) then needs [okB m (rowB b), decide (l ≤ m), decide ((0 : Int) ≤ p), decide (p ≤ (1073741824 : Int)), decide ((0 : Nat) < m), okB m (rowB b), decide (l ≤ m), decide ((0 : Int) ≤ p + (1 : Int)), decide (p + (1 : Int) ≤ (536870912 : Int)), decide ((0 : Nat) < m), decide ((0 : Nat) < m), Nat.ble i i, Nat.ble (i + (1 : Nat)) (549755813888 : Nat)] (Res.out Ex.normal [AV.ptr (0 : Nat) (0 : Nat) (0 : Nat) (0 : Nat), AV.v (Value.int IntKind.i64 st), AV.v (Value.int IntKind.i64 fi), AV.own (2 : Nat) (i + (1 : Nat)), AV.v (Value.int IntKind.i64 (↑n : Int)), AV.v (Value.int IntKind.i64 (IntKind.wrap IntKind.i64 ((↑i : Int) + (1 : Int))))] [AB.cells [AV.sl (1 : Nat) (1 : Nat) (0 : Nat) (0 : Nat) l c, AV.v (Value.int IntKind.i64 (cp l (itB (rowB b)) (p + (1 : Int))))] tr, AB.row false m (1 : Nat) (rowB b) tb, AB.row true (i + (1 : Nat)) (9 : Nat) (fun q ↦ [Value.int IntKind.i64 (bif Nat.blt q i then h q (0 : Nat) else IntKind.wrap IntKind.i64 (fi + IntKind.wrap IntKind.i64 (st * IntKind.wrap IntKind.i64 (pk l (itB (rowB b)) p (5 : Int) - (2 : Int))))), Value.int IntKind.i64 (bif Nat.blt q i then h q (1 : Nat) else cf l (itB (rowB b)) (p + (1 : Int)) (0 : Nat)), Value.int IntKind.i64 (bif Nat.blt q i then h q (2 : Nat) else cf l (itB (rowB b)) (p + (1 : Int)) (1 : Nat)), Value.int IntKind.i64 (bif Nat.blt q i then h q (3 : Nat) else cf l (itB (rowB b)) (p + (1 : Int)) (2 : Nat)), Value.int IntKind.i64 (bif Nat.blt q i then h q (4 : Nat) else cf l (itB (rowB b)) (p + (1 : Int)) (3 : Nat)), Value.int IntKind.i64 (bif Nat.blt q i then h q (5 : Nat) else cf l (itB (rowB b)) (p + (1 : Int)) (4 : Nat)), Value.int IntKind.i64 (bif Nat.blt q i then h q (6 : Nat) else cf l (itB (rowB b)) (p + (1 : Int)) (5 : Nat)), Value.int IntKind.i64 (bif Nat.blt q i then h q (7 : Nat) else cf l (itB (rowB b)) (p + (1 : Int)) (6 : Nat)), Value.int IntKind.i64 (bif Nat.blt q i then h q (8 : Nat) else cf l (itB (rowB b)) (p + (1 : Int)) (7 : Nat))]) (111 : Nat)]) else Res.out (Ex.exit (1 : Nat)) [AV.own (2 : Nat) i] [AB.cells [AV.sl (1 : Nat) (1 : Nat) (0 : Nat) (0 : Nat) l c, AV.v (Value.int IntKind.i64 p)] tr, AB.row false m (1 : Nat) (rowB b) tb, AB.row true i (9 : Nat) (row9 h) (111 : TypeId)] := by kernel_rfl

noncomputable abbrev lamD2 (l : Nat) (c : Option Nat) (m : Nat) (b : Nat → Int) (tr tb : TypeId) (st fi : Int) (n : Nat) (p1 p2 : Int) (h : Nat → Nat → Int) : Nat → Option Sum := oneL 1 (atS 65 (lvD2 .normal) 2 (stD2 st fi n 0) (hpDs l c p1 m b tr tb 0 (wfun [])) (fun K => K .normal (mkT 0 65 [(7, .own 2 n)]) (hpDs l c p2 m b tr tb n h)))
def gmE2D (pk : Nat → (Nat → Int) → Int → Int → Int) (dl : Nat → (Nat → Int) → Int → List Wh) (dp : Nat → (Nat → Int) → Int → Int) (rd : Int → Int → Bool → Int → List Wh) (ro : Int → Int → Bool → Int → Bool) : Gam := ext (ext (gmPk pk) 121 (specK [] (FdgO dl dp))) 122 (specR [.val, .val, .val, .val] (FrdO rd ro))
theorem treeD2 (pk : Nat → (Nat → Int) → Int → Int → Int) (dl : Nat → (Nat → Int) → Int → List Wh) (dp : Nat → (Nat → Int) → Int → Int) (rd : Int → Int → Bool → Int → List Wh) (ro : Int → Int → Bool → Int → Bool) (l : Nat) (c : Option Nat) (p : Int) (m : Nat) (b : Nat → Int) (tr tb : TypeId) (st fi : Int) (n : Nat) (p1 p2 : Int) (h : Nat → Nat → Int) : execF Try.prog (gmE2D pk dl dp rd ro) (lamD2 l c m b tr tb st fi n p1 p2 h) 100 fD2 [.ptr 0 0 0 0] (hpRd l c p m b tr tb) (packK 2)
    = needs [okB m (rowB b), decide (l ≤ m), decide ((0 : Int) ≤ p), decide (p ≤ (1073741824 : Int)), decide ((0 : Nat) < m)] (bif pk l (itB (rowB b)) p (4 : Int) == (0 : Int) then needs [okB m (rowB b), decide (l ≤ m), decide ((0 : Int) ≤ p + (1 : Int)), decide (p + (1 : Int) ≤ (134217728 : Int)), decide ((0 : Nat) < m), decide ((0 : Nat) < m)] (Res.out Ex.ret [AV.own (2 : Nat) (List.length (dl l (itB (rowB b)) (p + (1 : Int))))] [AB.cells [AV.sl (1 : Nat) (1 : Nat) (0 : Nat) (0 : Nat) l c, AV.v (Value.int IntKind.i64 (dp l (itB (rowB b)) (p + (1 : Int))))] tr, AB.row false m (1 : Nat) (rowB b) tb, AB.row true (List.length (dl l (itB (rowB b)) (p + (1 : Int)))) (9 : Nat) (row9 (wfun (dl l (itB (rowB b)) (p + (1 : Int))))) (111 : TypeId)]) else bif pk l (itB (rowB b)) p (4 : Int) == (1 : Int) then needs [okB m (rowB b), decide (l ≤ m), decide ((0 : Int) ≤ p + (1 : Int)), decide (p + (1 : Int) ≤ (1073741824 : Int)), decide ((0 : Nat) < m), okB m (rowB b), decide (l ≤ m), decide ((0 : Int) ≤ p + (1 : Int) + (1 : Int)), decide (p + (1 : Int) + (1 : Int) ≤ (1073741824 : Int)), decide ((0 : Nat) < m), okB m (rowB b), decide (l ≤ m), decide ((0 : Int) ≤ p + (1 : Int) + (1 : Int) + (1 : Int)), decide (p + (1 : Int) + (1 : Int) + (1 : Int) ≤ (1073741824 : Int)), decide ((0 : Nat) < m), okB m (rowB b), decide (l ≤ m), decide ((0 : Int) ≤ p + (1 : Int) + (1 : Int) + (1 : Int) + (1 : Int)), decide (p + (1 : Int) + (1 : Int) + (1 : Int) + (1 : Int) ≤ (1073741824 : Int)), decide ((0 : Nat) < m)] (bif ro (IntKind.wrap IntKind.i64 ((6 : Int) + pk l (itB (rowB b)) (p + (1 : Int)) (30 : Int))) (IntKind.wrap IntKind.i64 ((6 : Int) + pk l (itB (rowB b)) (p + (1 : Int) + (1 : Int)) (12 : Int))) (pk l (itB (rowB b)) (p + (1 : Int) + (1 : Int) + (1 : Int)) (2 : Int) == (0 : Int)) (IntKind.wrap IntKind.i64 (pk l (itB (rowB b)) (p + (1 : Int) + (1 : Int) + (1 : Int) + (1 : Int)) (20 : Int) - (10 : Int))) then Res.out Ex.ret [AV.own (2 : Nat) (List.length (rd (IntKind.wrap IntKind.i64 ((6 : Int) + pk l (itB (rowB b)) (p + (1 : Int)) (30 : Int))) (IntKind.wrap IntKind.i64 ((6 : Int) + pk l (itB (rowB b)) (p + (1 : Int) + (1 : Int)) (12 : Int))) (pk l (itB (rowB b)) (p + (1 : Int) + (1 : Int) + (1 : Int)) (2 : Int) == (0 : Int)) (IntKind.wrap IntKind.i64 (pk l (itB (rowB b)) (p + (1 : Int) + (1 : Int) + (1 : Int) + (1 : Int)) (20 : Int) - (10 : Int)))))] [AB.cells [AV.sl (1 : Nat) (1 : Nat) (0 : Nat) (0 : Nat) l c, AV.v (Value.int IntKind.i64 (p + (1 : Int) + (1 : Int) + (1 : Int) + (1 : Int) + (1 : Int)))] tr, AB.row false m (1 : Nat) (rowB b) tb, AB.row true (List.length (rd (IntKind.wrap IntKind.i64 ((6 : Int) + pk l (itB (rowB b)) (p + (1 : Int)) (30 : Int))) (IntKind.wrap IntKind.i64 ((6 : Int) + pk l (itB (rowB b)) (p + (1 : Int) + (1 : Int)) (12 : Int))) (pk l (itB (rowB b)) (p + (1 : Int) + (1 : Int) + (1 : Int)) (2 : Int) == (0 : Int)) (IntKind.wrap IntKind.i64 (pk l (itB (rowB b)) (p + (1 : Int) + (1 : Int) + (1 : Int) + (1 : Int)) (20 : Int) - (10 : Int))))) (9 : Nat) (row9 (wfun (rd (IntKind.wrap IntKind.i64 ((6 : Int) + pk l (itB (rowB b)) (p + (1 : Int)) (30 : Int))) (IntKind.wrap IntKind.i64 ((6 : Int) + pk l (itB (rowB b)) (p + (1 : Int) + (1 : Int)) (12 : Int))) (pk l (itB (rowB b)) (p + (1 : Int) + (1 : Int) + (1 : Int)) (2 : Int) == (0 : Int)) (IntKind.wrap IntKind.i64 (pk l (itB (rowB b)) (p + (1 : Int) + (1 : Int) + (1 : Int) + (1 : Int)) (20 : Int) - (10 : Int)))))) (111 : TypeId)] else needs [okB m (rowB b), decide (l ≤ m), decide ((0 : Int) ≤ p + (1 : Int) + (1 : Int) + (1 : Int) + (1 : Int) + (1 : Int)), decide (p + (1 : Int) + (1 : Int) + (1 : Int) + (1 : Int) + (1 : Int) ≤ (1073741824 : Int)), decide ((0 : Nat) < m), okB m (rowB b), decide (l ≤ m), decide ((0 : Int) ≤ p + (1 : Int) + (1 : Int) + (1 : Int) + (1 : Int) + (1 : Int) + (1 : Int)), decide (p + (1 : Int) + (1 : Int) + (1 : Int) + (1 : Int) + (1 : Int) + (1 : Int) ≤ (1073741824 : Int)), decide ((0 : Nat) < m), okB m (rowB b), decide (l ≤ m), decide ((0 : Int) ≤ p + (1 : Int) + (1 : Int) + (1 : Int) + (1 : Int) + (1 : Int) + (1 : Int) + (1 : Int)), decide (p + (1 : Int) + (1 : Int) + (1 : Int) + (1 : Int) + (1 : Int) + (1 : Int) + (1 : Int) ≤ (1073741824 : Int)), decide ((0 : Nat) < m), chk ([AV.ptr (0 : Nat) (0 : Nat) (0 : Nat) (0 : Nat), AV.v (Value.int IntKind.i64 (IntKind.wrap IntKind.i64 ((1 : Int) + pk l (itB (rowB b)) (p + (1 : Int) + (1 : Int) + (1 : Int) + (1 : Int) + (1 : Int)) (4 : Int)))), AV.v (Value.int IntKind.i64 (IntKind.wrap IntKind.i64 (pk l (itB (rowB b)) (p + (1 : Int) + (1 : Int) + (1 : Int) + (1 : Int) + (1 : Int) + (1 : Int)) (5 : Int) - (2 : Int)))), AV.own (2 : Nat) (0 : Nat), AV.v (Value.int IntKind.i64 (IntKind.wrap IntKind.i64 ((1 : Int) + pk l (itB (rowB b)) (p + (1 : Int) + (1 : Int) + (1 : Int) + (1 : Int) + (1 : Int) + (1 : Int) + (1 : Int)) (3 : Int)))), AV.v (Value.int IntKind.i64 (0 : Int))] = stD2 st fi n (0 : Nat) ∧ Hsim [AB.cells [AV.sl (1 : Nat) (1 : Nat) (0 : Nat) (0 : Nat) l c, AV.v (Value.int IntKind.i64 (p + (1 : Int) + (1 : Int) + (1 : Int) + (1 : Int) + (1 : Int) + (1 : Int) + (1 : Int) + (1 : Int)))] tr, AB.row false m (1 : Nat) (rowB b) tb, AB.row true (0 : Nat) (9 : Nat) (fun _ ↦ []) (111 : Nat)] (hpDs l c p1 m b tr tb (0 : Nat) (wfun [])))] (Res.out Ex.ret [AV.own (2 : Nat) n] [AB.cells [AV.sl (1 : Nat) (1 : Nat) (0 : Nat) (0 : Nat) l c, AV.v (Value.int IntKind.i64 p2)] tr, AB.row false m (1 : Nat) (rowB b) tb, AB.row true n (9 : Nat) (row9 h) (111 : TypeId)])) else needs [okB m (rowB b), decide (l ≤ m), decide ((0 : Int) ≤ p + (1 : Int)), decide (p + (1 : Int) ≤ (1073741824 : Int)), decide ((0 : Nat) < m), okB m (rowB b), decide (l ≤ m), decide ((0 : Int) ≤ p + (1 : Int) + (1 : Int)), decide (p + (1 : Int) + (1 : Int) ≤ (1073741824 : Int)), decide ((0 : Nat) < m), okB m (rowB b), decide (l ≤ m), decide ((0 : Int) ≤ p + (1 : Int) + (1 : Int) + (1 : Int)), decide (p + (1 : Int) + (1 : Int) + (1 : Int) ≤ (1073741824 : Int)), decide ((0 : Nat) < m), chk ([AV.ptr (0 : Nat) (0 : Nat) (0 : Nat) (0 : Nat), AV.v (Value.int IntKind.i64 (IntKind.wrap IntKind.i64 ((1 : Int) + pk l (itB (rowB b)) (p + (1 : Int)) (4 : Int)))), AV.v (Value.int IntKind.i64 (IntKind.wrap IntKind.i64 (pk l (itB (rowB b)) (p + (1 : Int) + (1 : Int)) (5 : Int) - (2 : Int)))), AV.own (2 : Nat) (0 : Nat), AV.v (Value.int IntKind.i64 (IntKind.wrap IntKind.i64 ((1 : Int) + pk l (itB (rowB b)) (p + (1 : Int) + (1 : Int) + (1 : Int)) (3 : Int)))), AV.v (Value.int IntKind.i64 (0 : Int))] = stD2 st fi n (0 : Nat) ∧ Hsim [AB.cells [AV.sl (1 : Nat) (1 : Nat) (0 : Nat) (0 : Nat) l c, AV.v (Value.int IntKind.i64 (p + (1 : Int) + (1 : Int) + (1 : Int) + (1 : Int)))] tr, AB.row false m (1 : Nat) (rowB b) tb, AB.row true (0 : Nat) (9 : Nat) (fun _ ↦ []) (111 : Nat)] (hpDs l c p1 m b tr tb (0 : Nat) (wfun [])))] (Res.out Ex.ret [AV.own (2 : Nat) n] [AB.cells [AV.sl (1 : Nat) (1 : Nat) (0 : Nat) (0 : Nat) l c, AV.v (Value.int IntKind.i64 p2)] tr, AB.row false m (1 : Nat) (rowB b) tb, AB.row true n (9 : Nat) (row9 h) (111 : TypeId)])) := by kernel_rfl

end Go.Proofs.Ytoligfhcogligaa

/- l92Design: a list of wheels, whatever the bytes are. Conditions: those of pick. -/
namespace Go.Proofs.Ytoligfhcogligaa
open Go.RowKit
set_option maxRecDepth 100000

/-- Where the reader is after some wheels, and these. -/
noncomputable def d2L (st fi : Int) (l : Nat) (b : Nat → Int) (p : Int) : Nat → List Wh
  | 0 => []
  | i + 1 => d2L st fi l b p i ++ [⟨W (fi + W (st * W (pkV l b (dsP l b p i) 5 - 2))), cyOf (cyF l b (dsP l b p i + 1))⟩]
theorem d2L_len (st fi : Int) (l : Nat) (b : Nat → Int) (p : Int) : ∀ i : Nat, (d2L st fi l b p i).length = i
  | 0 => rfl
  | i + 1 => by
    show (d2L st fi l b p i ++ [_]).length = i + 1
    rw [List.length_append, d2L_len st fi l b p i]
    rfl
theorem gmD2_ok : GamOk Try.prog (gmD2 pkV cyF cyP) := ext_ok (ext_ok g0_ok ok_pick) ok_cyc
theorem gmE2D_ok : GamOk Try.prog (gmE2D pkV dgL dgP rnL rnO) := ext_ok (ext_ok (ext_ok g0_ok ok_pick) ok_design) ok_rd
theorem sumD2 (l : Nat) (c : Option Nat) (p : Int) (m : Nat) (b : Nat → Int) (tr tb : TypeId) (st fi : Int) (N : Nat) (hN : N ≤ 3) (hb : okB m (rowB b) = true) (hl : l ≤ m) (h0 : 0 ≤ p) (h1 : p ≤ 2 ^ 28) (hm : 0 < m) :
    SumOk Try.prog 2 (.block 1 (.loop (loopAt 1 fD2))) (atS 65 (lvD2 .normal) 2 (stD2 st fi N 0) (hpDs l c p m b tr tb 0 (wfun [])) (fun K => K .normal (mkT 0 65 [(7, .own 2 N)]) (hpDs l c (dsP l b p N) m b tr tb N (wfun (d2L st fi l b p N))))) := by
  refine for_at gmD2_ok (n := 100) (m := 2) (lv := lvD2) (fun i => stD2 st fi N i) (fun i => hpDs l c (dsP l b p i) m b tr tb i (wfun (d2L st fi l b p i))) (fun _ => True) N (fun _ => noLam) (lv3_ris rfl rfl rfl) (Nat.le_refl _) trivial fun K Q hk i _ hi => ⟨noLam_ok _ _ _, ?_⟩
  rw [rndD2]
  have hp := dsP_in l b p i
  refine good_cond (fun c1 => ?_) fun c1 => ?_
  · have c1 := of_decide_eq_true c1
    refine good_needs ?_ (good_out ⟨i + 1, ⟨rfl, by omega, trivial⟩, ?_, ?_⟩)
    · simp only [ob_cons, ob_nil, and_true, decide_eq_true_eq, Nat.ble_eq, hb, true_and]
      omega
    · rw [wr_in (x := (i : Int) + 1) (by omega)]
      rfl
    · refine .cons (ABeq.refl _) (.cons (ABeq.refl _) (.cons (ABeq.row fun q hq => ?_) .nil))
      exact ch_row (d2L st fi l b p i) ⟨W (fi + W (st * W (pkV l b (dsP l b p i) 5 - 2))), cyOf (cyF l b (dsP l b p i + 1))⟩ i (d2L_len st fi l b p i) q hq
  · have c1 := of_decide_eq_false c1
    have : i = N := by omega
    subst this
    refine good_out ⟨_, Hsim.refl _, ?_⟩
    rw [if_pos rfl]
    exact hk

theorem d2_ex (l : Nat) (b : Nat → Int) (p : Int) : ∃ (L : List Wh) (p' : Int), (p ≤ p' ∧ p' ≤ p + 70) ∧ L.length ≤ 12 ∧ ∀ (c : Option Nat) (m : Nat) (tr tb : TypeId), okB m (rowB b) = true → l ≤ m → 0 ≤ p → p ≤ 2 ^ 26 → 0 < m → ∃ Λ, (∀ cc, fD2.body = some cc → LamOk Try.prog 2 Λ cc) ∧
    GoodQ (execF Try.prog (gmE2D pkV dgL dgP rnL rnO) Λ 100 fD2 [.ptr 0 0 0 0] (hpRd l c p m b tr tb) (packK 2)) (fun _ vs He => vs = [.own 2 L.length] ∧ Hsim He (hpDs l c p' m b tr tb L.length (wfun L))) := by
  have pn := fun q n => pkV_nn l b q n
  have num : ∀ q : Int, ∃ N : Nat, (N : Int) = 1 + pkV l b q 3 ∧ N ≤ 3 := fun q => by
    have := pn q 3
    have := pkV_lt l b q (n := 3) (by omega)
    exact ⟨(1 + pkV l b q 3).toNat, by omega, by omega⟩
  have lam : ∀ (q : Int) (st fi : Int) (N : Nat), N ≤ 3 → p ≤ q → q ≤ p + 20 → ∀ (c : Option Nat) (m : Nat) (tr tb : TypeId), okB m (rowB b) = true → l ≤ m → 0 ≤ p → p ≤ 2 ^ 26 → 0 < m → (∀ cc, fD2.body = some cc → LamOk Try.prog 2 (lamD2 l c m b tr tb st fi N q (dsP l b q N) (wfun (d2L st fi l b q N))) cc) :=
    fun q st fi N hN h1 h2 c m tr tb hb hl h0 h3 hm => lam1 (by kernel_rfl) (sumD2 l c q m b tr tb st fi N hN hb hl (by omega) (by omega) hm)
  have n0 := pn p 4
  by_cases c0 : pkV l b p 4 = 0
  · have hp := dgP_in l b (p + 1)
    refine ⟨dgL l b (p + 1), dgP l b (p + 1), by omega, dgL_len _ _ _, fun c m tr tb hb hl h0 h1 hm => ⟨_, lam p 0 0 0 (by omega) (by omega) (by omega) c m tr tb hb hl h0 h1 hm, ?_⟩⟩
    rw [treeD2]
    exact good_needs (obP hb hl hm h0 (by omega)) (good_true (beq_iff_eq.2 c0) (good_needs (by simp only [ob_cons, ob_nil, and_true, decide_eq_true_eq, hb, true_and]; omega) (good_out ⟨rfl, Hsim.refl _⟩)))
  · -- the steps, from q on
    have steps : ∀ (q : Int), p + 1 ≤ q → q ≤ p + 5 → ∃ (N : Nat) (L : List Wh) (p' : Int), N ≤ 3 ∧ (N : Int) = 1 + pkV l b (q + 1 + 1) 3 ∧ L = d2L (W (1 + pkV l b q 4)) (W (pkV l b (q + 1) 5 - 2)) l b (q + 1 + 1 + 1) N ∧ p' = dsP l b (q + 1 + 1 + 1) N ∧ (p ≤ p' ∧ p' ≤ p + 70) ∧ L.length = N := fun q h1 h2 => by
      obtain ⟨N, e1, e2⟩ := num (q + 1 + 1)
      have hp := dsP_in l b (q + 1 + 1 + 1) N
      exact ⟨N, _, _, e2, e1, rfl, rfl, by omega, d2L_len _ _ _ _ _ _⟩
    have ob : ∀ (q : Int) (c : Option Nat) (m : Nat) (tr tb : TypeId) (N : Nat), (N : Int) = 1 + pkV l b (q + 1 + 1) 3 → p + 1 ≤ q → q ≤ p + 5 → okB m (rowB b) = true → l ≤ m → 0 ≤ p → p ≤ 2 ^ 26 → 0 < m → obls [okB m (rowB b), decide (l ≤ m), decide (0 ≤ q), decide (q ≤ 1073741824), decide (0 < m), okB m (rowB b), decide (l ≤ m), decide (0 ≤ q + 1), decide (q + 1 ≤ 1073741824), decide (0 < m), okB m (rowB b), decide (l ≤ m), decide (0 ≤ q + 1 + 1), decide (q + 1 + 1 ≤ 1073741824), decide (0 < m), chk ([AV.ptr 0 0 0 0, AV.v (i64 (W (1 + pkV l b q 4))), AV.v (i64 (W (pkV l b (q + 1) 5 - 2))), AV.own 2 0, AV.v (i64 (W (1 + pkV l b (q + 1 + 1) 3))), AV.v (i64 0)] = stD2 (W (1 + pkV l b q 4)) (W (pkV l b (q + 1) 5 - 2)) N 0 ∧ Hsim [AB.cells [AV.sl 1 1 0 0 l c, AV.v (i64 (q + 1 + 1 + 1))] tr, AB.row false m 1 (rowB b) tb, AB.row true 0 9 (fun _ => []) 111] (hpDs l c (q + 1 + 1 + 1) m b tr tb 0 (wfun [])))] = true := fun q c m tr tb N e1 h1 h2 hb hl h0 h3 hm => by
      have := pn (q + 1 + 1) 3
      have := pkV_lt l b (q + 1 + 1) (n := 3) (by omega)
      simp only [ob_cons, ob_nil, and_true, decide_eq_true_eq, hb, true_and]
      refine ⟨by omega, by omega, by omega, by omega, by omega, by omega, by omega, by omega, by omega, by omega, by omega, by omega, chk_of ⟨?_, .cons (ABeq.refl _) (.cons (ABeq.refl _) (.cons (ABeq.row fun j hj => absurd hj (Nat.not_lt_zero _)) .nil))⟩⟩
      rw [w64_in (x := 1 + pkV l b (q + 1 + 1) 3) (by omega) (by omega), ← e1]
      rfl
    by_cases c1 : pkV l b p 4 = 1
    · have a1 := pn (p + 1) 30
      have a1' := pkV_lt l b (p + 1) (n := 30) (by omega)
      have a2 := pn (p + 1 + 1) 12
      have a2' := pkV_lt l b (p + 1 + 1) (n := 12) (by omega)
      have a3 := pn (p + 1 + 1 + 1 + 1) 20
      have a3' := pkV_lt l b (p + 1 + 1 + 1 + 1) (n := 20) (by omega)
      have ob5 : ∀ (m : Nat), okB m (rowB b) = true → l ≤ m → 0 ≤ p → p ≤ 2 ^ 26 → 0 < m → obls [okB m (rowB b), decide (l ≤ m), decide (0 ≤ p + 1), decide (p + 1 ≤ 1073741824), decide (0 < m), okB m (rowB b), decide (l ≤ m), decide (0 ≤ p + 1 + 1), decide (p + 1 + 1 ≤ 1073741824), decide (0 < m), okB m (rowB b), decide (l ≤ m), decide (0 ≤ p + 1 + 1 + 1), decide (p + 1 + 1 + 1 ≤ 1073741824), decide (0 < m), okB m (rowB b), decide (l ≤ m), decide (0 ≤ p + 1 + 1 + 1 + 1), decide (p + 1 + 1 + 1 + 1 ≤ 1073741824), decide (0 < m)] = true := fun m hb hl h0 h1 hm => by
        simp only [ob_cons, ob_nil, and_true, decide_eq_true_eq, hb, true_and]
        omega
      cases hr : rnO (W (6 + pkV l b (p + 1) 30)) (W (6 + pkV l b (p + 1 + 1) 12)) (pkV l b (p + 1 + 1 + 1) 2 == 0) (W (pkV l b (p + 1 + 1 + 1 + 1) 20 - 10)) with
      | true =>
        refine ⟨rnL (W (6 + pkV l b (p + 1) 30)) (W (6 + pkV l b (p + 1 + 1) 12)) (pkV l b (p + 1 + 1 + 1) 2 == 0) (W (pkV l b (p + 1 + 1 + 1 + 1) 20 - 10)), p + 1 + 1 + 1 + 1 + 1, by omega, rnL_len _ _ _ _, fun c m tr tb hb hl h0 h1 hm => ⟨_, lam p 0 0 0 (by omega) (by omega) (by omega) c m tr tb hb hl h0 h1 hm, ?_⟩⟩
        rw [treeD2]
        exact good_needs (obP hb hl hm h0 (by omega)) (good_false (beq_eq_false_iff_ne.2 c0) (good_true (beq_iff_eq.2 c1) (good_needs (ob5 m hb hl h0 h1 hm) (good_true hr (good_out ⟨rfl, Hsim.refl _⟩)))))
      | false =>
        obtain ⟨N, L, p', e2, e1, rfl, rfl, hp, hlen⟩ := steps (p + 1 + 1 + 1 + 1 + 1) (by omega) (by omega)
        refine ⟨d2L (W (1 + pkV l b (p + 1 + 1 + 1 + 1 + 1) 4)) (W (pkV l b (p + 1 + 1 + 1 + 1 + 1 + 1) 5 - 2)) l b (p + 1 + 1 + 1 + 1 + 1 + 1 + 1 + 1) N, _, hp, by omega, fun c m tr tb hb hl h0 h1 hm => ⟨_, lam (p + 1 + 1 + 1 + 1 + 1 + 1 + 1 + 1) (W (1 + pkV l b (p + 1 + 1 + 1 + 1 + 1) 4)) (W (pkV l b (p + 1 + 1 + 1 + 1 + 1 + 1) 5 - 2)) N e2 (by omega) (by omega) c m tr tb hb hl h0 h1 hm, ?_⟩⟩
        rw [treeD2, hlen]
        exact good_needs (obP hb hl hm h0 (by omega)) (good_false (beq_eq_false_iff_ne.2 c0) (good_true (beq_iff_eq.2 c1) (good_needs (ob5 m hb hl h0 h1 hm) (good_false hr (good_needs (ob _ c m tr tb N e1 (by omega) (by omega) hb hl h0 h1 hm) (good_out ⟨rfl, Hsim.refl _⟩))))))
    · obtain ⟨N, L, p', e2, e1, rfl, rfl, hp, hlen⟩ := steps (p + 1) (by omega) (by omega)
      refine ⟨d2L (W (1 + pkV l b (p + 1) 4)) (W (pkV l b (p + 1 + 1) 5 - 2)) l b (p + 1 + 1 + 1 + 1) N, _, hp, by omega, fun c m tr tb hb hl h0 h1 hm => ⟨_, lam (p + 1 + 1 + 1 + 1) (W (1 + pkV l b (p + 1) 4)) (W (pkV l b (p + 1 + 1) 5 - 2)) N e2 (by omega) (by omega) c m tr tb hb hl h0 h1 hm, ?_⟩⟩
      rw [treeD2, hlen]
      exact good_needs (obP hb hl hm h0 (by omega)) (good_false (beq_eq_false_iff_ne.2 c0) (good_false (beq_eq_false_iff_ne.2 c1) (good_needs (ob _ c m tr tb N e1 (by omega) (by omega) hb hl h0 h1 hm) (good_out ⟨rfl, Hsim.refl _⟩))))
noncomputable def ehL (l : Nat) (b : Nat → Int) (p : Int) : List Wh := (d2_ex l b p).choose
noncomputable def ehP (l : Nat) (b : Nat → Int) (p : Int) : Int := (d2_ex l b p).choose_spec.choose
theorem ehP_in (l : Nat) (b : Nat → Int) (p : Int) : p ≤ ehP l b p ∧ ehP l b p ≤ p + 70 := (d2_ex l b p).choose_spec.choose_spec.1
theorem ehL_len (l : Nat) (b : Nat → Int) (p : Int) : (ehL l b p).length ≤ 12 := (d2_ex l b p).choose_spec.choose_spec.2.1
def FehO (dl : Nat → (Nat → Int) → Int → List Wh) (dp : Nat → (Nat → Int) → Int → Int) : List AV → List AB → Option HR
  | [.ptr 0 0 0 0], [.cells [.sl 1 1 0 0 l c, .v (.int .i64 p)] tr, .row false m 1 g tb] => some { val := .own 2 (dl l (itB g) p).length, out := [.cells [.sl 1 1 0 0 l c, .v (.int .i64 (dp l (itB g) p))] tr, .row false m 1 g tb], new := [.row true (dl l (itB g) p).length 9 (row9 (wfun (dl l (itB g) p))) 111], obl := [okB m g, decide (l ≤ m), decide (0 ≤ p), decide (p ≤ 2 ^ 26), decide (0 < m)] }
  | _, _ => none
theorem ok_design2 : SpecOk Try.prog 88 (specK [] (FehO ehL ehP)) := by
  refine specK_ok gmE2D_ok Try.func88 rfl fun avs H hr hF ho => ?_
  unfold FehO at hF
  split at hF
  · rename_i l c p tr m g tb
    cases hF
    simp only [ob_cons, decide_eq_true_eq] at ho
    obtain ⟨h1, h2, h3, h4, h5, _⟩ := ho
    obtain ⟨Λ, e1, e2⟩ := (d2_ex l (itB g) p).choose_spec.choose_spec.2.2 c m tr tb (okB_it h1) h2 h3 h4 h5
    refine ⟨hpRd l c p m (itB g) tr tb, Λ, 100, rd_sim h1, e1, ⟨res_mono (fun e vs He hq => ?_) e2.out⟩⟩
    refine ⟨hq.1, hq.2.trans' (.cons (ABeq.refl _) (.cons (ABeq.row fun j hj => (okB_get h1 hj).1.symm) (Hsim.refl _)))⟩
  · cases hF

end Go.Proofs.Ytoligfhcogligaa

/- Rows of points. No conditions. -/
namespace Go.Proofs.Ytoligfhcogligaa
open Go.RowKit
set_option maxRecDepth 100000

abbrev row8 (f : Nat → Nat → Int) : Nat → List Value := fun j => [i64 (f j 0), i64 (f j 1), i64 (f j 2), i64 (f j 3), i64 (f j 4), i64 (f j 5), i64 (f j 6), i64 (f j 7)]
def is8 : List Value → Bool
  | [.int .i64 _, .int .i64 _, .int .i64 _, .int .i64 _, .int .i64 _, .int .i64 _, .int .i64 _, .int .i64 _] => true
  | _ => false
def it8 (g : Nat → List Value) : Nat → Nat → Int := fun j k => intOf ((g j).getD k undef)
def all8 (m : Nat) (g : Nat → List Value) : Bool := (List.range m).all fun j => is8 (g j)
theorem all8_get {m : Nat} {g : Nat → List Value} (h : all8 m g = true) (j : Nat) (hj : j < m) : g j = row8 (it8 g) j := by
  have := List.all_eq_true.1 h j (by simpa using hj)
  simp only [row8, it8, i64]
  unfold is8 at this
  split at this
  · rename_i e; rw [e]; rfl
  · cases this
theorem all8_row (m : Nat) (f : Nat → Nat → Int) : all8 m (row8 f) = true := List.all_eq_true.2 fun _ _ => rfl
theorem row8_it8 (f : Nat → Nat → Int) : row8 (it8 (row8 f)) = row8 f := rfl
theorem row80 (f : Nat → Nat → Int) : (fun q => row8 f (0 + q)) = row8 f := by
  funext q
  rw [Nat.zero_add]
def listC (f : Nat → Nat → Int) (m : Nat) : List Cy := (List.range m).map fun j => cyOf (f j)
def cfun (L : List Cy) : Nat → Nat → Int := fun j k => match L[j]? with
  | some c => c.f k
  | none => 0
theorem listC_length (f : Nat → Nat → Int) (m : Nat) : (listC f m).length = m := by simp [listC]
theorem listC_get (f : Nat → Nat → Int) {m j : Nat} (hj : j < m) : (listC f m)[j]? = some (cyOf (f j)) := by simp [listC, hj]
theorem listC_fun (L : List Cy) : listC (cfun L) L.length = L := by
  apply List.ext_getElem?
  intro j
  by_cases hj : j < L.length
  · rw [listC_get _ hj, List.getElem?_eq_getElem hj]
    have : cfun L j = L[j].f := by
      funext k
      simp only [cfun, List.getElem?_eq_getElem hj]
    rw [this, cyOf_f]
  · rw [List.getElem?_eq_none (by rw [listC_length]; omega), List.getElem?_eq_none (by omega)]
theorem listC_it8 (f : Nat → Nat → Int) (m : Nat) : listC (it8 (row8 f)) m = listC f m := rfl
theorem listC_me (L : List Cy) : listC (it8 (row8 (cfun L))) L.length = L := by rw [listC_it8, listC_fun]
theorem listC_succ (f : Nat → Nat → Int) (m : Nat) : listC f (m + 1) = listC f m ++ [cyOf (f m)] := by simp [listC, List.range_succ]
theorem row8_congr {f g : Nat → Nat → Int} {j : Nat} (h : ∀ k, k < 8 → f j k = g j k) : row8 f j = row8 g j := by
  simp only [row8, h 0 (by omega), h 1 (by omega), h 2 (by omega), h 3 (by omega), h 4 (by omega), h 5 (by omega), h 6 (by omega), h 7 (by omega)]
theorem cfun_get {L : List Cy} {j : Nat} (hj : j < L.length) : cfun L j = L[j].f := by
  funext k
  simp only [cfun, List.getElem?_eq_getElem hj]
theorem row8_list (f : Nat → Nat → Int) {m j : Nat} (hj : j < m) : row8 (cfun (listC f m)) j = row8 f j := by
  refine row8_congr fun k hk => ?_
  simp only [cfun, listC_get f hj]
  rcases (by omega : k = 0 ∨ k = 1 ∨ k = 2 ∨ k = 3 ∨ k = 4 ∨ k = 5 ∨ k = 6 ∨ k = 7) with rfl | rfl | rfl | rfl | rfl | rfl | rfl | rfl <;> rfl

end Go.Proofs.Ytoligfhcogligaa

/- A word for a callee that hands back an own list of points or none: read as one. Conditions: those of its two cases. -/
namespace Go.Proofs.Ytoligfhcogligaa
open Go.RowKit
set_option maxRecDepth 100000

/-- The points, or none. -/
structure PtR where
  b : Bool
  T : List Cy
  obl : List Bool
abbrev newG (T : List Cy) : List AB := [.row true T.length 8 (row8 (cfun T)) 40]
abbrev valG (T : List Cy) : AV := .tup [.own 0 T.length, .v (.bool true)]
def specG (mds : List Md) (U : List SA → Option PtR) : Spec := fun avs H base =>
  match saAll H mds avs with
  | some xs => match U (xs.map (·.sa)) with
    | some u => some { val := .tup [.sl base 8 0 0 u.T.length none, .v (.bool u.b)], rd := (ixC mds xs).filterMap id, put := [], new := [.row false u.T.length 8 (row8 (cfun u.T)) 40], obl := xs.flatMap (·.ob) ++ u.obl }
    | none => none
  | none => none

theorem specG_ok {P : Program} {f : FuncId} {mds : List Md} {FY FN : List SA → Option FR} {U : List SA → Option PtR} (hw : hasWr mds = false) (hY : SpecOk P f (specR mds FY)) (hN : SpecOk P f (specR mds FN))
    (h : ∀ sas u, U sas = some u → obls u.obl = true → Nat.beq (abP mds sas []).length (abC mds sas).length = true ∧ ((u.b = true ∧ ∃ ob, FY sas = some { val := valG u.T, new := newG u.T, obl := ob } ∧ obls ob = true) ∨ (u.b = false ∧ u.T = [] ∧ ∃ ob, FN sas = some { val := valN, obl := ob } ∧ obls ob = true))) : SpecOk P f (specG mds U) := by
  refine ⟨hY.1, fun avs H base δ ν vals w hS ho hv hr hlt hfree hsep => ?_⟩
  unfold specG at hS
  split at hS
  case h_2 => cases hS
  rename_i xs hxs
  split at hS
  case h_2 => cases hS
  rename_i u hu
  simp only [Option.some.injEq] at hS
  subst hS
  have ho' : obls (xs.flatMap (·.ob)) = true ∧ obls u.obl = true := by simpa [obls, List.all_append] using ho
  obtain ⟨hl, hc⟩ := h _ _ hu ho'.2
  have hput : putC (ixC mds xs) (abP mds (xs.map (·.sa)) []) = [] := putC_nil _ _ fun b hb => abP_rd hw b hb
  rcases hc with ⟨hb, ob, e1, e2⟩ | ⟨hb, hT, ob, e1, e2⟩
  · have hS2 : specR mds FY avs H base = some { val := .tup [.own base u.T.length, .v (.bool true)], rd := (ixC mds xs).filterMap id, put := [], new := newG u.T, obl := xs.flatMap (·.ob) ++ ob } := by
      unfold specR
      rw [hxs]
      simp only [e1]
      show cond _ _ _ = _
      rw [hw, hl, hput]
      rfl
    refine (hY.2 avs H base _ ν vals w hS2 (by simpa [obls, List.all_append] using And.intro ho'.1 e2) hv hr hlt hfree (fun i o j b b' hp => by cases hp)).mono ?_
    rintro e w' ⟨v, ν', rfl, d⟩
    have hnew := d.new 0 _ rfl
    have hv2 : VR ν' (.tup [.sl base 8 0 0 u.T.length none, .v (.bool u.b)]) v := by
      have := d.val
      simp only [VR] at this ⊢
      obtain ⟨l, e1, e2⟩ := this
      match l, e2 with
      | [a, c], ⟨⟨b0, hb0, ha⟩, hbb, _⟩ =>
        refine ⟨[a, c], e1, ⟨some ⟨b0.n, b0.o, none⟩, b0.c, ha, fun c' hc' => (by cases hc'), ?_, fun _ => ⟨b0, hb0, by simp⟩⟩, by rw [hb]; exact hbb, trivial⟩
        rcases hnew with ⟨h1, _, _⟩ | ⟨k, l, t', fz, h1, _, _, h4, _⟩
        · cases h1
        · rw [Nat.add_zero] at h1
          rw [hb0] at h1
          cases h1
          exact h4
    refine ⟨v, ν', rfl, d.le, d.dom, hv2, fun i b hl => (by cases hl), fun j b hj => ?_, d.os, d.tape, d.output, d.size, d.block, d.fresh, d.apart⟩
    match j with
    | 0 =>
      simp only [List.getElem?_cons_zero, Option.some.injEq] at hj
      subst hj
      rcases hnew with ⟨h1, _, _⟩ | ⟨k, l, t', fz, h1, h2, _, h4, h5⟩
      · cases h1
      · exact .inr ⟨k, l, t', fz, h1, h2, fun h => (by cases h), h4, h5⟩
    | j + 1 => simp at hj
  · have hS2 : specR mds FN avs H base = some { val := valN, rd := (ixC mds xs).filterMap id, put := [], new := [], obl := xs.flatMap (·.ob) ++ ob } := by
      unfold specR
      rw [hxs]
      simp only [e1]
      show cond _ _ _ = _
      rw [hw, hl, hput]
      rfl
    refine (hN.2 avs H base _ ν vals w hS2 (by simpa [obls, List.all_append] using And.intro ho'.1 e2) hv hr hlt (fun j hj => absurd hj (Nat.not_lt_zero _)) (fun i o j b b' hp => by cases hp)).mono ?_
    rintro e w' ⟨v, ν', rfl, d⟩
    have hnone : ν' base = none := by
      have h0 : ν base = none := hfree 0 (Nat.zero_lt_one)
      cases hq : ν' base with
      | none => rfl
      | some b =>
        have := d.dom base h0 (by rw [hq]; simp)
        simp at this
    have hv0 : VR ν' (.tup [.sl base 8 0 0 0 none, .v (.bool false)]) v := by
      have := d.val
      simp only [VR] at this ⊢
      obtain ⟨l, e1, e2⟩ := this
      match l, e2 with
      | [a, b], ⟨ha, hbb, _⟩ => exact ⟨[a, b], e1, ⟨none, 0, ha, fun c' hc' => (by cases hc'), Nat.le_refl _, fun hc => absurd hc (Nat.lt_irrefl 0)⟩, hbb, trivial⟩
    refine ⟨v, ν', rfl, d.le, fun i h1 h2 => ?_, by rw [hb, hT]; exact hv0, fun i b hl => (by cases hl), fun j b hj => ?_, d.os, d.tape, d.output, d.size, d.block, fun j b hj hq => ?_, fun j j' b b' hne hj hj' => ?_⟩
    · have := d.dom i h1 h2
      simp at this
      omega
    · match j with
      | 0 =>
        simp only [List.getElem?_cons_zero, Option.some.injEq] at hj
        subst hj
        rw [hT]
        exact .inl ⟨rfl, rfl, hnone⟩
      | j + 1 => simp at hj
    · have hj : j < 1 := hj
      have : j = 0 := by omega
      subst this
      rw [Nat.add_zero, hnone] at hq
      cases hq
    · have hj : j < 1 := hj
      have hj' : j' < 1 := hj'
      omega

end Go.Proofs.Ytoligfhcogligaa

/- impl.at and the program's DesignAt: the reference's word. Conditions: a list of wheels. -/
namespace Go.Proofs.Ytoligfhcogligaa
open Go.RowKit
set_option maxRecDepth 100000

abbrev lvAI : Ex → List Nat := lv3 [1, 4, 5, 8, 9, 10] [4, 5] [4]
abbrev stAI (m : Nat) (n : Int) (i : Nat) : List AV := [.v (i64 n), .ptr 1 0 0 0, .ptr 2 0 0 0, .sl 0 9 0 0 m none, .v (i64 m), .v (i64 i)]
noncomputable abbrev lamAI (m : Nat) (f : Nat → Nat → Int) (t : TypeId) (n : Int) (b : Nat → Int) : Nat → Option Sum := oneL 0 (atS 25 (lvAI .normal) 1 (stAI m n 0) (hpAt m f t fun _ => 0) (fun K => K .normal (mkT 0 25 [(4, .ptr 1 0 0 0), (5, .ptr 2 0 0 0)]) (hpAt m f t b)))
def FatI (at_ : (Nat → Nat → Int) → Int → Nat → Nat → Int) (okd : List Wh → Bool) : List SA → Option FR
  | [.row m g, .v (.int .i64 n)] => some { val := .agg (cyC (at_ (itW g) n m)), obl := [allW m g, decide (m ≤ 2 ^ 38), okd (listW (itW g) m)] }
  | _ => none
def FDAo (dv : (Nat → Nat → Int) → Int → Nat → Nat → Int) (dk : (Nat → Nat → Int) → Int → Nat → Bool) : List SA → Option FR
  | [.row m g, .v (.int .i64 n)] => some { val := .tup [.agg (cyC (dv (itW g) n m)), .v (.bool (dk (itW g) n m))], obl := [allW m g, decide (m ≤ 2 ^ 38)] }
  | _ => none
theorem atF_next (f : Nat → Nat → Int) (n : Int) (i : Nat) : atF f n (i + 1) = plusF (atF f n i) (tuF (v8 (f i 1) (f i 2) (f i 3) (f i 4) (f i 5) (f i 6) (f i 7) (f i 8)) (IntKind.wrap IntKind.i64 (n * f i 0))) := by
  funext k
  show W (atF f n i k + 1 * _) = W (atF f n i k + _)
  rw [Int.one_mul]
theorem FDAo_eq : FDAo daV daOk = F_DA := by
  funext l
  rfl
theorem daOk_row (f : Nat → Nat → Int) (n : Int) (m : Nat) : daOk (itW (row9 f)) n m = daOk f n m := by unfold daOk; rw [listW_itW, atF_row]
theorem daV_row (f : Nat → Nat → Int) (n : Int) (m : Nat) : daV (itW (row9 f)) n m = daV f n m := by unfold daV; rw [daOk_row, atF_row]
theorem daV_in (f : Nat → Nat → Int) (n : Int) (m : Nat) : inB (w8 (daV f n m)) = true := by
  refine smallF_iff.2 fun k hk => ?_
  have e : w8 (daV f n m) k = daV f n m k := by
    rcases (by omega : k = 0 ∨ k = 1 ∨ k = 2 ∨ k = 3 ∨ k = 4 ∨ k = 5 ∨ k = 6 ∨ k = 7) with rfl | rfl | rfl | rfl | rfl | rfl | rfl | rfl <;> rfl
  rw [e]
  unfold daV
  cases h : daOk f n m with
  | false => show (-9223372036854775808 : Int) ≤ 0 ∧ (0 : Int) ≤ 9223372036854775807; omega
  | true =>
    unfold daOk at h
    rw [Bool.and_eq_true] at h
    have := smallF_iff.1 h.2 k hk
    rw [cyOf_f8 _ k hk] at this
    show -9223372036854775808 ≤ atF f n m k ∧ atF f n m k ≤ 9223372036854775807
    omega

end Go.Proofs.Ytoligfhcogligaa

/- Plain algebra: how great products, mirrored points and parts can be. No program, no conditions. -/
namespace Go.Proofs.Ytoligfhcogligaa
open Go.RowKit

theorem mul_bd {x y A B : Int} (h1 : -A ≤ x) (h2 : x ≤ A) (h3 : -B ≤ y) (h4 : y ≤ B) : -(A * B) ≤ x * y ∧ x * y ≤ A * B := by
  have hA : 0 ≤ A := by omega
  have hB : 0 ≤ B := by omega
  have e1 : 0 ≤ (A - x) * (B - y) := Int.mul_nonneg (by omega) (by omega)
  have e2 : 0 ≤ (A + x) * (B + y) := Int.mul_nonneg (by omega) (by omega)
  have e3 : 0 ≤ (A - x) * (B + y) := Int.mul_nonneg (by omega) (by omega)
  have e4 : 0 ≤ (A + x) * (B - y) := Int.mul_nonneg (by omega) (by omega)
  have g1 : (A - x) * (B - y) = A * B - A * y - x * B + x * y := by grind
  have g2 : (A + x) * (B + y) = A * B + A * y + x * B + x * y := by grind
  have g3 : (A - x) * (B + y) = A * B + A * y - x * B - x * y := by grind
  have g4 : (A + x) * (B - y) = A * B - A * y + x * B - x * y := by grind
  omega
/-- All eight lie between -B and B. -/
def bd8 (B : Int) (f : Nat → Int) : Prop := ∀ k, k < 8 → -B ≤ f k ∧ f k ≤ B
def bd4 (B : Int) (f : Nat → Int) : Prop := ∀ k, k < 4 → -B ≤ f k ∧ f k ≤ B

theorem conv_bd0 {a b : Nat → Int} {A B : Int} (ha : bd8 A a) (hb : bd8 B b) : -(8 * (A * B)) ≤ convF a b 0 ∧ convF a b 0 ≤ 8 * (A * B) := by
  have h0 : 0 ≤ A * B := by
    have := ha 0 (by omega); have := hb 0 (by omega)
    exact Int.mul_nonneg (by omega) (by omega)
  have p0 := mul_bd (ha 0 (by omega)).1 (ha 0 (by omega)).2 (hb 0 (by omega)).1 (hb 0 (by omega)).2
  simp only [convF]
  omega
theorem conv_bd1 {a b : Nat → Int} {A B : Int} (ha : bd8 A a) (hb : bd8 B b) : -(8 * (A * B)) ≤ convF a b 1 ∧ convF a b 1 ≤ 8 * (A * B) := by
  have h0 : 0 ≤ A * B := by
    have := ha 0 (by omega); have := hb 0 (by omega)
    exact Int.mul_nonneg (by omega) (by omega)
  have p0 := mul_bd (ha 0 (by omega)).1 (ha 0 (by omega)).2 (hb 1 (by omega)).1 (hb 1 (by omega)).2
  have p1 := mul_bd (ha 1 (by omega)).1 (ha 1 (by omega)).2 (hb 0 (by omega)).1 (hb 0 (by omega)).2
  simp only [convF]
  omega
theorem conv_bd2 {a b : Nat → Int} {A B : Int} (ha : bd8 A a) (hb : bd8 B b) : -(8 * (A * B)) ≤ convF a b 2 ∧ convF a b 2 ≤ 8 * (A * B) := by
  have h0 : 0 ≤ A * B := by
    have := ha 0 (by omega); have := hb 0 (by omega)
    exact Int.mul_nonneg (by omega) (by omega)
  have p0 := mul_bd (ha 0 (by omega)).1 (ha 0 (by omega)).2 (hb 2 (by omega)).1 (hb 2 (by omega)).2
  have p1 := mul_bd (ha 1 (by omega)).1 (ha 1 (by omega)).2 (hb 1 (by omega)).1 (hb 1 (by omega)).2
  have p2 := mul_bd (ha 2 (by omega)).1 (ha 2 (by omega)).2 (hb 0 (by omega)).1 (hb 0 (by omega)).2
  simp only [convF]
  omega
theorem conv_bd3 {a b : Nat → Int} {A B : Int} (ha : bd8 A a) (hb : bd8 B b) : -(8 * (A * B)) ≤ convF a b 3 ∧ convF a b 3 ≤ 8 * (A * B) := by
  have h0 : 0 ≤ A * B := by
    have := ha 0 (by omega); have := hb 0 (by omega)
    exact Int.mul_nonneg (by omega) (by omega)
  have p0 := mul_bd (ha 0 (by omega)).1 (ha 0 (by omega)).2 (hb 3 (by omega)).1 (hb 3 (by omega)).2
  have p1 := mul_bd (ha 1 (by omega)).1 (ha 1 (by omega)).2 (hb 2 (by omega)).1 (hb 2 (by omega)).2
  have p2 := mul_bd (ha 2 (by omega)).1 (ha 2 (by omega)).2 (hb 1 (by omega)).1 (hb 1 (by omega)).2
  have p3 := mul_bd (ha 3 (by omega)).1 (ha 3 (by omega)).2 (hb 0 (by omega)).1 (hb 0 (by omega)).2
  simp only [convF]
  omega
theorem conv_bd4 {a b : Nat → Int} {A B : Int} (ha : bd8 A a) (hb : bd8 B b) : -(8 * (A * B)) ≤ convF a b 4 ∧ convF a b 4 ≤ 8 * (A * B) := by
  have h0 : 0 ≤ A * B := by
    have := ha 0 (by omega); have := hb 0 (by omega)
    exact Int.mul_nonneg (by omega) (by omega)
  have p0 := mul_bd (ha 0 (by omega)).1 (ha 0 (by omega)).2 (hb 4 (by omega)).1 (hb 4 (by omega)).2
  have p1 := mul_bd (ha 1 (by omega)).1 (ha 1 (by omega)).2 (hb 3 (by omega)).1 (hb 3 (by omega)).2
  have p2 := mul_bd (ha 2 (by omega)).1 (ha 2 (by omega)).2 (hb 2 (by omega)).1 (hb 2 (by omega)).2
  have p3 := mul_bd (ha 3 (by omega)).1 (ha 3 (by omega)).2 (hb 1 (by omega)).1 (hb 1 (by omega)).2
  have p4 := mul_bd (ha 4 (by omega)).1 (ha 4 (by omega)).2 (hb 0 (by omega)).1 (hb 0 (by omega)).2
  simp only [convF]
  omega
theorem conv_bd5 {a b : Nat → Int} {A B : Int} (ha : bd8 A a) (hb : bd8 B b) : -(8 * (A * B)) ≤ convF a b 5 ∧ convF a b 5 ≤ 8 * (A * B) := by
  have h0 : 0 ≤ A * B := by
    have := ha 0 (by omega); have := hb 0 (by omega)
    exact Int.mul_nonneg (by omega) (by omega)
  have p0 := mul_bd (ha 0 (by omega)).1 (ha 0 (by omega)).2 (hb 5 (by omega)).1 (hb 5 (by omega)).2
  have p1 := mul_bd (ha 1 (by omega)).1 (ha 1 (by omega)).2 (hb 4 (by omega)).1 (hb 4 (by omega)).2
  have p2 := mul_bd (ha 2 (by omega)).1 (ha 2 (by omega)).2 (hb 3 (by omega)).1 (hb 3 (by omega)).2
  have p3 := mul_bd (ha 3 (by omega)).1 (ha 3 (by omega)).2 (hb 2 (by omega)).1 (hb 2 (by omega)).2
  have p4 := mul_bd (ha 4 (by omega)).1 (ha 4 (by omega)).2 (hb 1 (by omega)).1 (hb 1 (by omega)).2
  have p5 := mul_bd (ha 5 (by omega)).1 (ha 5 (by omega)).2 (hb 0 (by omega)).1 (hb 0 (by omega)).2
  simp only [convF]
  omega
theorem conv_bd6 {a b : Nat → Int} {A B : Int} (ha : bd8 A a) (hb : bd8 B b) : -(8 * (A * B)) ≤ convF a b 6 ∧ convF a b 6 ≤ 8 * (A * B) := by
  have h0 : 0 ≤ A * B := by
    have := ha 0 (by omega); have := hb 0 (by omega)
    exact Int.mul_nonneg (by omega) (by omega)
  have p0 := mul_bd (ha 0 (by omega)).1 (ha 0 (by omega)).2 (hb 6 (by omega)).1 (hb 6 (by omega)).2
  have p1 := mul_bd (ha 1 (by omega)).1 (ha 1 (by omega)).2 (hb 5 (by omega)).1 (hb 5 (by omega)).2
  have p2 := mul_bd (ha 2 (by omega)).1 (ha 2 (by omega)).2 (hb 4 (by omega)).1 (hb 4 (by omega)).2
  have p3 := mul_bd (ha 3 (by omega)).1 (ha 3 (by omega)).2 (hb 3 (by omega)).1 (hb 3 (by omega)).2
  have p4 := mul_bd (ha 4 (by omega)).1 (ha 4 (by omega)).2 (hb 2 (by omega)).1 (hb 2 (by omega)).2
  have p5 := mul_bd (ha 5 (by omega)).1 (ha 5 (by omega)).2 (hb 1 (by omega)).1 (hb 1 (by omega)).2
  have p6 := mul_bd (ha 6 (by omega)).1 (ha 6 (by omega)).2 (hb 0 (by omega)).1 (hb 0 (by omega)).2
  simp only [convF]
  omega
theorem conv_bd7 {a b : Nat → Int} {A B : Int} (ha : bd8 A a) (hb : bd8 B b) : -(8 * (A * B)) ≤ convF a b 7 ∧ convF a b 7 ≤ 8 * (A * B) := by
  have h0 : 0 ≤ A * B := by
    have := ha 0 (by omega); have := hb 0 (by omega)
    exact Int.mul_nonneg (by omega) (by omega)
  have p0 := mul_bd (ha 0 (by omega)).1 (ha 0 (by omega)).2 (hb 7 (by omega)).1 (hb 7 (by omega)).2
  have p1 := mul_bd (ha 1 (by omega)).1 (ha 1 (by omega)).2 (hb 6 (by omega)).1 (hb 6 (by omega)).2
  have p2 := mul_bd (ha 2 (by omega)).1 (ha 2 (by omega)).2 (hb 5 (by omega)).1 (hb 5 (by omega)).2
  have p3 := mul_bd (ha 3 (by omega)).1 (ha 3 (by omega)).2 (hb 4 (by omega)).1 (hb 4 (by omega)).2
  have p4 := mul_bd (ha 4 (by omega)).1 (ha 4 (by omega)).2 (hb 3 (by omega)).1 (hb 3 (by omega)).2
  have p5 := mul_bd (ha 5 (by omega)).1 (ha 5 (by omega)).2 (hb 2 (by omega)).1 (hb 2 (by omega)).2
  have p6 := mul_bd (ha 6 (by omega)).1 (ha 6 (by omega)).2 (hb 1 (by omega)).1 (hb 1 (by omega)).2
  have p7 := mul_bd (ha 7 (by omega)).1 (ha 7 (by omega)).2 (hb 0 (by omega)).1 (hb 0 (by omega)).2
  simp only [convF]
  omega
theorem conv_bd8 {a b : Nat → Int} {A B : Int} (ha : bd8 A a) (hb : bd8 B b) : -(8 * (A * B)) ≤ convF a b 8 ∧ convF a b 8 ≤ 8 * (A * B) := by
  have h0 : 0 ≤ A * B := by
    have := ha 0 (by omega); have := hb 0 (by omega)
    exact Int.mul_nonneg (by omega) (by omega)
  have p1 := mul_bd (ha 1 (by omega)).1 (ha 1 (by omega)).2 (hb 7 (by omega)).1 (hb 7 (by omega)).2
  have p2 := mul_bd (ha 2 (by omega)).1 (ha 2 (by omega)).2 (hb 6 (by omega)).1 (hb 6 (by omega)).2
  have p3 := mul_bd (ha 3 (by omega)).1 (ha 3 (by omega)).2 (hb 5 (by omega)).1 (hb 5 (by omega)).2
  have p4 := mul_bd (ha 4 (by omega)).1 (ha 4 (by omega)).2 (hb 4 (by omega)).1 (hb 4 (by omega)).2
  have p5 := mul_bd (ha 5 (by omega)).1 (ha 5 (by omega)).2 (hb 3 (by omega)).1 (hb 3 (by omega)).2
  have p6 := mul_bd (ha 6 (by omega)).1 (ha 6 (by omega)).2 (hb 2 (by omega)).1 (hb 2 (by omega)).2
  have p7 := mul_bd (ha 7 (by omega)).1 (ha 7 (by omega)).2 (hb 1 (by omega)).1 (hb 1 (by omega)).2
  simp only [convF]
  omega
theorem conv_bd9 {a b : Nat → Int} {A B : Int} (ha : bd8 A a) (hb : bd8 B b) : -(8 * (A * B)) ≤ convF a b 9 ∧ convF a b 9 ≤ 8 * (A * B) := by
  have h0 : 0 ≤ A * B := by
    have := ha 0 (by omega); have := hb 0 (by omega)
    exact Int.mul_nonneg (by omega) (by omega)
  have p2 := mul_bd (ha 2 (by omega)).1 (ha 2 (by omega)).2 (hb 7 (by omega)).1 (hb 7 (by omega)).2
  have p3 := mul_bd (ha 3 (by omega)).1 (ha 3 (by omega)).2 (hb 6 (by omega)).1 (hb 6 (by omega)).2
  have p4 := mul_bd (ha 4 (by omega)).1 (ha 4 (by omega)).2 (hb 5 (by omega)).1 (hb 5 (by omega)).2
  have p5 := mul_bd (ha 5 (by omega)).1 (ha 5 (by omega)).2 (hb 4 (by omega)).1 (hb 4 (by omega)).2
  have p6 := mul_bd (ha 6 (by omega)).1 (ha 6 (by omega)).2 (hb 3 (by omega)).1 (hb 3 (by omega)).2
  have p7 := mul_bd (ha 7 (by omega)).1 (ha 7 (by omega)).2 (hb 2 (by omega)).1 (hb 2 (by omega)).2
  simp only [convF]
  omega
theorem conv_bd10 {a b : Nat → Int} {A B : Int} (ha : bd8 A a) (hb : bd8 B b) : -(8 * (A * B)) ≤ convF a b 10 ∧ convF a b 10 ≤ 8 * (A * B) := by
  have h0 : 0 ≤ A * B := by
    have := ha 0 (by omega); have := hb 0 (by omega)
    exact Int.mul_nonneg (by omega) (by omega)
  have p3 := mul_bd (ha 3 (by omega)).1 (ha 3 (by omega)).2 (hb 7 (by omega)).1 (hb 7 (by omega)).2
  have p4 := mul_bd (ha 4 (by omega)).1 (ha 4 (by omega)).2 (hb 6 (by omega)).1 (hb 6 (by omega)).2
  have p5 := mul_bd (ha 5 (by omega)).1 (ha 5 (by omega)).2 (hb 5 (by omega)).1 (hb 5 (by omega)).2
  have p6 := mul_bd (ha 6 (by omega)).1 (ha 6 (by omega)).2 (hb 4 (by omega)).1 (hb 4 (by omega)).2
  have p7 := mul_bd (ha 7 (by omega)).1 (ha 7 (by omega)).2 (hb 3 (by omega)).1 (hb 3 (by omega)).2
  simp only [convF]
  omega
theorem conv_bd11 {a b : Nat → Int} {A B : Int} (ha : bd8 A a) (hb : bd8 B b) : -(8 * (A * B)) ≤ convF a b 11 ∧ convF a b 11 ≤ 8 * (A * B) := by
  have h0 : 0 ≤ A * B := by
    have := ha 0 (by omega); have := hb 0 (by omega)
    exact Int.mul_nonneg (by omega) (by omega)
  have p4 := mul_bd (ha 4 (by omega)).1 (ha 4 (by omega)).2 (hb 7 (by omega)).1 (hb 7 (by omega)).2
  have p5 := mul_bd (ha 5 (by omega)).1 (ha 5 (by omega)).2 (hb 6 (by omega)).1 (hb 6 (by omega)).2
  have p6 := mul_bd (ha 6 (by omega)).1 (ha 6 (by omega)).2 (hb 5 (by omega)).1 (hb 5 (by omega)).2
  have p7 := mul_bd (ha 7 (by omega)).1 (ha 7 (by omega)).2 (hb 4 (by omega)).1 (hb 4 (by omega)).2
  simp only [convF]
  omega
theorem conv_bd12 {a b : Nat → Int} {A B : Int} (ha : bd8 A a) (hb : bd8 B b) : -(8 * (A * B)) ≤ convF a b 12 ∧ convF a b 12 ≤ 8 * (A * B) := by
  have h0 : 0 ≤ A * B := by
    have := ha 0 (by omega); have := hb 0 (by omega)
    exact Int.mul_nonneg (by omega) (by omega)
  have p5 := mul_bd (ha 5 (by omega)).1 (ha 5 (by omega)).2 (hb 7 (by omega)).1 (hb 7 (by omega)).2
  have p6 := mul_bd (ha 6 (by omega)).1 (ha 6 (by omega)).2 (hb 6 (by omega)).1 (hb 6 (by omega)).2
  have p7 := mul_bd (ha 7 (by omega)).1 (ha 7 (by omega)).2 (hb 5 (by omega)).1 (hb 5 (by omega)).2
  simp only [convF]
  omega
theorem conv_bd13 {a b : Nat → Int} {A B : Int} (ha : bd8 A a) (hb : bd8 B b) : -(8 * (A * B)) ≤ convF a b 13 ∧ convF a b 13 ≤ 8 * (A * B) := by
  have h0 : 0 ≤ A * B := by
    have := ha 0 (by omega); have := hb 0 (by omega)
    exact Int.mul_nonneg (by omega) (by omega)
  have p6 := mul_bd (ha 6 (by omega)).1 (ha 6 (by omega)).2 (hb 7 (by omega)).1 (hb 7 (by omega)).2
  have p7 := mul_bd (ha 7 (by omega)).1 (ha 7 (by omega)).2 (hb 6 (by omega)).1 (hb 6 (by omega)).2
  simp only [convF]
  omega
theorem conv_bd14 {a b : Nat → Int} {A B : Int} (ha : bd8 A a) (hb : bd8 B b) : -(8 * (A * B)) ≤ convF a b 14 ∧ convF a b 14 ≤ 8 * (A * B) := by
  have h0 : 0 ≤ A * B := by
    have := ha 0 (by omega); have := hb 0 (by omega)
    exact Int.mul_nonneg (by omega) (by omega)
  have p7 := mul_bd (ha 7 (by omega)).1 (ha 7 (by omega)).2 (hb 7 (by omega)).1 (hb 7 (by omega)).2
  simp only [convF]
  omega
theorem mul_bd8 {a b : Nat → Int} {A B : Int} (ha : bd8 A a) (hb : bd8 B b) : bd8 (24 * (A * B)) (mulZ a b) := by
  intro k hk
  have c0 := conv_bd0 ha hb
  have c1 := conv_bd1 ha hb
  have c2 := conv_bd2 ha hb
  have c3 := conv_bd3 ha hb
  have c4 := conv_bd4 ha hb
  have c5 := conv_bd5 ha hb
  have c6 := conv_bd6 ha hb
  have c7 := conv_bd7 ha hb
  have c8 := conv_bd8 ha hb
  have c9 := conv_bd9 ha hb
  have c10 := conv_bd10 ha hb
  have c11 := conv_bd11 ha hb
  have c12 := conv_bd12 ha hb
  have c13 := conv_bd13 ha hb
  have c14 := conv_bd14 ha hb
  rcases (by omega : k = 0 ∨ k = 1 ∨ k = 2 ∨ k = 3 ∨ k = 4 ∨ k = 5 ∨ k = 6 ∨ k = 7) with rfl | rfl | rfl | rfl | rfl | rfl | rfl | rfl <;> simp only [mulZ] <;> omega
theorem mir_bd {a : Nat → Int} {A : Int} (ha : bd8 A a) : bd8 (2 * A) (mirZ a) := by
  intro k hk
  have h0 := ha 0 (by omega); have h1 := ha 1 (by omega); have h2 := ha 2 (by omega); have h3 := ha 3 (by omega); have h4 := ha 4 (by omega); have h5 := ha 5 (by omega); have h6 := ha 6 (by omega); have h7 := ha 7 (by omega)
  rcases (by omega : k = 0 ∨ k = 1 ∨ k = 2 ∨ k = 3 ∨ k = 4 ∨ k = 5 ∨ k = 6 ∨ k = 7) with rfl | rfl | rfl | rfl | rfl | rfl | rfl | rfl <;> simp only [mirZ] <;> omega
theorem re_bd {a : Nat → Int} {A : Int} (ha : bd8 A a) : bd4 (6 * A) (reZ a) := by
  intro k hk
  have h0 := ha 0 (by omega); have h1 := ha 1 (by omega); have h2 := ha 2 (by omega); have h3 := ha 3 (by omega); have h4 := ha 4 (by omega); have h5 := ha 5 (by omega); have h6 := ha 6 (by omega); have h7 := ha 7 (by omega)
  rcases (by omega : k = 0 ∨ k = 1 ∨ k = 2 ∨ k = 3) with rfl | rfl | rfl | rfl <;> simp only [reZ] <;> omega
theorem im_bd {a : Nat → Int} {A : Int} (ha : bd8 A a) : bd4 (6 * A) (imZ a) := by
  intro k hk
  have h0 := ha 0 (by omega); have h1 := ha 1 (by omega); have h2 := ha 2 (by omega); have h3 := ha 3 (by omega); have h4 := ha 4 (by omega); have h5 := ha 5 (by omega); have h6 := ha 6 (by omega); have h7 := ha 7 (by omega)
  rcases (by omega : k = 0 ∨ k = 1 ∨ k = 2 ∨ k = 3) with rfl | rfl | rfl | rfl <;> simp only [imZ] <;> omega
theorem W8 {f : Nat → Int} {A : Int} (h : bd8 A f) (hA : A ≤ 9223372036854775807) : ∀ k, k < 8 → W (f k) = f k := fun k hk => by
  have := h k hk
  exact w64_in (by omega) (by omega)
theorem W4 {f : Nat → Int} {A : Int} (h : bd4 A f) (hA : A ≤ 9223372036854775807) : ∀ k, k < 4 → W (f k) = f k := fun k hk => by
  have := h k hk
  exact w64_in (by omega) (by omega)
theorem conv_congr {a a' b b' : Nat → Int} (ha : ∀ k, k < 8 → a k = a' k) (hb : ∀ k, k < 8 → b k = b' k) : ∀ k, convF a b k = convF a' b' k := by
  intro k
  have a0 := ha 0 (by omega); have a1 := ha 1 (by omega); have a2 := ha 2 (by omega); have a3 := ha 3 (by omega); have a4 := ha 4 (by omega); have a5 := ha 5 (by omega); have a6 := ha 6 (by omega); have a7 := ha 7 (by omega)
  have b0 := hb 0 (by omega); have b1 := hb 1 (by omega); have b2 := hb 2 (by omega); have b3 := hb 3 (by omega); have b4 := hb 4 (by omega); have b5 := hb 5 (by omega); have b6 := hb 6 (by omega); have b7 := hb 7 (by omega)
  unfold convF
  split <;> simp only [a0, a1, a2, a3, a4, a5, a6, a7, b0, b1, b2, b3, b4, b5, b6, b7]
theorem mul_congr {a a' b b' : Nat → Int} (ha : ∀ k, k < 8 → a k = a' k) (hb : ∀ k, k < 8 → b k = b' k) : ∀ k, mulZ a b k = mulZ a' b' k := by
  intro k
  unfold mulZ
  split <;> simp only [conv_congr ha hb]
theorem mir_congr {a a' : Nat → Int} (ha : ∀ k, k < 8 → a k = a' k) : ∀ k, mirZ a k = mirZ a' k := by
  intro k
  have a0 := ha 0 (by omega); have a1 := ha 1 (by omega); have a2 := ha 2 (by omega); have a3 := ha 3 (by omega); have a4 := ha 4 (by omega); have a5 := ha 5 (by omega); have a6 := ha 6 (by omega); have a7 := ha 7 (by omega)
  unfold mirZ
  split <;> simp only [a0, a1, a2, a3, a4, a5, a6, a7]
theorem re_congr {a a' : Nat → Int} (ha : ∀ k, k < 8 → a k = a' k) : ∀ k, reZ a k = reZ a' k := by
  intro k
  have a0 := ha 0 (by omega); have a1 := ha 1 (by omega); have a2 := ha 2 (by omega); have a3 := ha 3 (by omega); have a4 := ha 4 (by omega); have a5 := ha 5 (by omega); have a6 := ha 6 (by omega); have a7 := ha 7 (by omega)
  unfold reZ
  split <;> simp only [a0, a1, a2, a3, a4, a5, a7]
theorem im_congr {a a' : Nat → Int} (ha : ∀ k, k < 8 → a k = a' k) : ∀ k, imZ a k = imZ a' k := by
  intro k
  have a0 := ha 0 (by omega); have a1 := ha 1 (by omega); have a2 := ha 2 (by omega); have a3 := ha 3 (by omega); have a4 := ha 4 (by omega); have a5 := ha 5 (by omega); have a6 := ha 6 (by omega); have a7 := ha 7 (by omega)
  unfold imZ
  split <;> simp only [a1, a2, a3, a4, a5, a6, a7]
theorem w8_at (f : Nat → Int) : ∀ k, k < 8 → w8 f k = f k := fun k hk => by
  rcases (by omega : k = 0 ∨ k = 1 ∨ k = 2 ∨ k = 3 ∨ k = 4 ∨ k = 5 ∨ k = 6 ∨ k = 7) with rfl | rfl | rfl | rfl | rfl | rfl | rfl | rfl <;> rfl
end Go.Proofs.Ytoligfhcogligaa

/- RowOf of both: trees. Conditions: a list of wheels, a number. -/
namespace Go.Proofs.Ytoligfhcogligaa
open Go.RowKit
set_option maxRecDepth 100000

noncomputable abbrev fRS : Func := Try.f87
def gmRO (dv : (Nat → Nat → Int) → Int → Nat → Nat → Int) (dk : (Nat → Nat → Int) → Int → Nat → Bool) : Gam := ext g0 120 (specR md_wv (FDAo dv dk))
def gmRV (okd : List Wh → Bool) : Gam := ext gm_l6In 119 (specR md_ws (FdvO okd))
abbrev hpRO (m : Nat) (f : Nat → Nat → Int) (i : Nat) (h : Nat → Nat → Int) : List AB := [.row false m 9 (row9 f) 111, .row true i 8 (row8 h) 40]
abbrev hpR1 (m : Nat) (f : Nat → Nat → Int) : List AB := [.row false m 9 (row9 f) 111]
abbrev lvRI : Ex → List Nat := lv3 [0, 1, 6, 20, 21] [6] [4, 5]
abbrev stRI (m n i : Nat) : List AV := [.sl 0 9 0 0 m none, .v (i64 n), .own 1 i, .v (i64 n), .v (i64 i)]
noncomputable abbrev lamRI (m : Nat) (f : Nat → Nat → Int) (n : Nat) (c : Bool) (h : Nat → Nat → Int) : Nat → Option Sum := oneL 0 (atS 41 (lvRI .normal) 1 (stRI m n 0) (hpRO m f 0 fun _ _ => 0) (fun K => cond c (K .normal (mkT 0 41 [(6, .own 1 n)]) (hpRO m f n h)) (K .ret (mkT 0 41 [(4, .v (.slice none 0 0)), (5, .v (.bool false))]) (hpR1 m f))))
abbrev lvRS : Ex → List Nat := lv3 [0, 1, 6, 7] [6] [4, 5]
abbrev stRS (m n i : Nat) : List AV := [.sl 0 9 0 0 m none, .v (i64 n), .own 1 i, .v (i64 i)]
theorem rndRS (dv : (Nat → Nat → Int) → Int → Nat → Nat → Int) (dk : (Nat → Nat → Int) → Int → Nat → Bool) (m : Nat) (f : Nat → Nat → Int) (n : Nat) (h : Nat → Nat → Int) (i : Nat) : execC Try.prog (gmRO dv dk) 100 noLam (loopAt 0 fRS) (mkT 0 42 ((lvRS .normal).zip (stRS m n i))) (hpRO m f i h) (leafV 42 lvRS 1)
    = bif decide ((↑i : Int) < (↑n : Int)) then needs [!decide ((↑n : Int) = (0 : Int)), Nat.ble ((0 : Nat) + m) m, allW m fun q ↦ row9 f ((0 : Nat) + q), decide (m ≤ (274877906944 : Nat))] (bif !dk (itW fun q ↦ row9 f ((0 : Nat) + q)) (IntKind.wrap IntKind.i64 ((↑i : Int) * IntKind.wrap IntKind.i64 (Int.tdiv (24 : Int) (↑n : Int)))) m then Res.out Ex.ret [AV.own (1 : Nat) (0 : Nat), AV.v (Value.bool false)] [AB.row false m (9 : Nat) (row9 f) (111 : TypeId), AB.row true (0 : Nat) (8 : Nat) (fun _ ↦ []) (40 : Nat)] else needs [Nat.ble i i, Nat.ble (i + (1 : Nat)) (549755813888 : Nat)] (Res.out Ex.normal [AV.sl (0 : Nat) (9 : Nat) (0 : Nat) (0 : Nat) m none, AV.v (Value.int IntKind.i64 (↑n : Int)), AV.own (1 : Nat) (i + (1 : Nat)), AV.v (Value.int IntKind.i64 (IntKind.wrap IntKind.i64 ((↑i : Int) + (1 : Int))))] [AB.row false m (9 : Nat) (row9 f) (111 : TypeId), AB.row true (i + (1 : Nat)) (8 : Nat) (fun q ↦ [Value.int IntKind.i64 (bif Nat.blt q i then h q (0 : Nat) else dv (itW fun q ↦ row9 f ((0 : Nat) + q)) (IntKind.wrap IntKind.i64 ((↑i : Int) * IntKind.wrap IntKind.i64 (Int.tdiv (24 : Int) (↑n : Int)))) m (0 : Nat)), Value.int IntKind.i64 (bif Nat.blt q i then h q (1 : Nat) else dv (itW fun q ↦ row9 f ((0 : Nat) + q)) (IntKind.wrap IntKind.i64 ((↑i : Int) * IntKind.wrap IntKind.i64 (Int.tdiv (24 : Int) (↑n : Int)))) m (1 : Nat)), Value.int IntKind.i64 (bif Nat.blt q i then h q (2 : Nat) else dv (itW fun q ↦ row9 f ((0 : Nat) + q)) (IntKind.wrap IntKind.i64 ((↑i : Int) * IntKind.wrap IntKind.i64 (Int.tdiv (24 : Int) (↑n : Int)))) m (2 : Nat)), Value.int IntKind.i64 (bif Nat.blt q i then h q (3 : Nat) else dv (itW fun q ↦ row9 f ((0 : Nat) + q)) (IntKind.wrap IntKind.i64 ((↑i : Int) * IntKind.wrap IntKind.i64 (Int.tdiv (24 : Int) (↑n : Int)))) m (3 : Nat)), Value.int IntKind.i64 (bif Nat.blt q i then h q (4 : Nat) else dv (itW fun q ↦ row9 f ((0 : Nat) + q)) (IntKind.wrap IntKind.i64 ((↑i : Int) * IntKind.wrap IntKind.i64 (Int.tdiv (24 : Int) (↑n : Int)))) m (4 : Nat)), Value.int IntKind.i64 (bif Nat.blt q i then h q (5 : Nat) else dv (itW fun q ↦ row9 f ((0 : Nat) + q)) (IntKind.wrap IntKind.i64 ((↑i : Int) * IntKind.wrap IntKind.i64 (Int.tdiv (24 : Int) (↑n : Int)))) m (5 : Nat)), Value.int IntKind.i64 (bif Nat.blt q i then h q (6 : Nat) else dv (itW fun q ↦ row9 f ((0 : Nat) + q)) (IntKind.wrap IntKind.i64 ((↑i : Int) * IntKind.wrap IntKind.i64 (Int.tdiv (24 : Int) (↑n : Int)))) m (6 : Nat)), Value.int IntKind.i64 (bif Nat.blt q i then h q (7 : Nat) else dv (itW fun q ↦ row9 f ((0 : Nat) + q)) (IntKind.wrap IntKind.i64 ((↑i : Int) * IntKind.wrap IntKind.i64 (Int.tdiv (24 : Int) (↑n : Int)))) m (7 : Nat))]) (40 : Nat)])) else Res.out (Ex.exit (0 : Nat)) [AV.own (1 : Nat) i] [AB.row false m (9 : Nat) (row9 f) (111 : TypeId), AB.row true i (8 : Nat) (row8 h) (40 : TypeId)] := by kernel_rfl

noncomputable abbrev lamRS (m : Nat) (f : Nat → Nat → Int) (n : Nat) (c : Bool) (h : Nat → Nat → Int) : Nat → Option Sum := oneL 0 (atS 42 (lvRS .normal) 1 (stRS m n 0) (hpRO m f 0 fun _ _ => 0) (fun K => cond c (K .normal (mkT 0 42 [(6, .own 1 n)]) (hpRO m f n h)) (K .ret (mkT 0 42 [(4, .own 1 0), (5, .v (.bool false))]) (hpRO m f 0 fun _ _ => 0))))
theorem treeRS (okd : List Wh → Bool) (m : Nat) (f : Nat → Nat → Int) (x : Int) (n : Nat) (c : Bool) (h : Nat → Nat → Int) : execF Try.prog (gmRV okd) (lamRS m f n c h) 100 fRS [.sl 0 9 0 0 m none, .v (i64 x)] (hpR1 m f) (packK 1)
    = bif decide (x ≥ (1 : Int)) then bif decide (x ≤ (24 : Int)) then needs [!decide (x = (0 : Int))] (bif !Int.tmod (24 : Int) x == (0 : Int) then Res.out Ex.ret [AV.tup [AV.own (1 : Nat) (0 : Nat), AV.v (Value.bool false)]] [AB.row false m (9 : Nat) (row9 f) (111 : TypeId), AB.row true (0 : Nat) (8 : Nat) (fun _ ↦ []) (40 : Nat)] else needs [Nat.ble ((0 : Nat) + m) m, allW m fun q ↦ row9 f ((0 : Nat) + q), decide (m ≤ (549755813888 : Nat))] (bif !okd (listW (itW fun q ↦ row9 f ((0 : Nat) + q)) m) then Res.out Ex.ret [AV.tup [AV.own (1 : Nat) (0 : Nat), AV.v (Value.bool false)]] [AB.row false m (9 : Nat) (row9 f) (111 : TypeId), AB.row true (0 : Nat) (8 : Nat) (fun _ ↦ []) (40 : Nat)] else needs [chk ([AV.sl (0 : Nat) (9 : Nat) (0 : Nat) (0 : Nat) m none, AV.v (Value.int IntKind.i64 x), AV.own (1 : Nat) (0 : Nat), AV.v (Value.int IntKind.i64 (0 : Int))] = stRS m n (0 : Nat) ∧ Hsim [AB.row false m (9 : Nat) (row9 f) (111 : TypeId), AB.row true (0 : Nat) (8 : Nat) (fun _ ↦ []) (40 : Nat)] (hpRO m f (0 : Nat) fun _ _ ↦ (0 : Int)))] (bif c then Res.out Ex.ret [AV.tup [AV.own (1 : Nat) n, AV.v (Value.bool true)]] [AB.row false m (9 : Nat) (row9 f) (111 : TypeId), AB.row true n (8 : Nat) (row8 h) (40 : TypeId)] else Res.out Ex.ret [AV.tup [AV.own (1 : Nat) (0 : Nat), AV.v (Value.bool false)]] [AB.row false m (9 : Nat) (row9 f) (111 : TypeId), AB.row true (0 : Nat) (8 : Nat) (row8 fun _ _ ↦ (0 : Int)) (40 : TypeId)]))) else Res.out Ex.ret [AV.tup [AV.own (1 : Nat) (0 : Nat), AV.v (Value.bool false)]] [AB.row false m (9 : Nat) (row9 f) (111 : TypeId), AB.row true (0 : Nat) (8 : Nat) (fun _ ↦ []) (40 : Nat)] else Res.out Ex.ret [AV.tup [AV.own (1 : Nat) (0 : Nat), AV.v (Value.bool false)]] [AB.row false m (9 : Nat) (row9 f) (111 : TypeId), AB.row true (0 : Nat) (8 : Nat) (fun _ ↦ []) (40 : Nat)] := by kernel_rfl

end Go.Proofs.Ytoligfhcogligaa

/- RowOf of both: its word. Conditions: a list of wheels, a number. -/
namespace Go.Proofs.Ytoligfhcogligaa
open Go.RowKit
set_option maxRecDepth 100000

/-- The points in turn. -/
def roF (f : Nat → Nat → Int) (m : Nat) (x : Int) : Nat → Nat → Int := fun j => daV f ((j : Int) * Int.tdiv 24 x) m
def rwB (f : Nat → Nat → Int) (m : Nat) (x : Int) (j : Nat) : Bool := !daOk f ((j : Int) * Int.tdiv 24 x) m
def roV (x : Int) : Bool := decide (x ≥ 1) && (decide (x ≤ 24) && (Int.tmod 24 x == 0))
def roK (f : Nat → Nat → Int) (m : Nat) (x : Int) : Bool := roV x && (okD (listW f m) && noneTo (rwB f m x) x.toNat)
def roT (f : Nat → Nat → Int) (m : Nat) (x : Int) : List Cy := bif roK f m x then listC (roF f m x) x.toNat else []
theorem roV_in {x : Int} (h : roV x = true) : 1 ≤ x ∧ x ≤ 24 := by
  rw [roV, Bool.and_eq_true, Bool.and_eq_true, decide_eq_true_eq, decide_eq_true_eq] at h
  exact ⟨h.1, h.2.1⟩
theorem tdiv24 {n : Nat} (h0 : 1 ≤ n) (h1 : n ≤ 24) : 0 ≤ Int.tdiv 24 (n : Int) ∧ Int.tdiv 24 (n : Int) ≤ 24 := by
  rw [Int.tdiv_eq_ediv_of_nonneg (by omega)]
  exact ⟨Int.ediv_nonneg (by omega) (by omega), Int.ediv_le_self _ (by omega)⟩
theorem ro_mul {i n : Nat} (hi : i < n) (hn : n ≤ 24) : IntKind.wrap IntKind.i64 ((i : Int) * IntKind.wrap IntKind.i64 (Int.tdiv 24 (n : Int))) = (i : Int) * Int.tdiv 24 (n : Int) := by
  have h := tdiv24 (n := n) (by omega) hn
  have hm := mul_bd (x := (i : Int)) (y := Int.tdiv 24 (n : Int)) (A := 24) (B := 24) (by omega) (by omega) (by omega) h.2
  rw [wr_in (x := Int.tdiv 24 (n : Int)) (by omega), wr_in (by omega)]
theorem gmRO_ok : GamOk Try.prog (gmRO daV daOk) := by
  refine ext_ok g0_ok ?_
  rw [FDAo_eq]
  exact ok_DA
theorem gmRV_ok : GamOk Try.prog (gmRV okD) := by
  unfold gmRV
  rw [FdvO_eq]
  exact ext_ok gm_l6In_ok ok_dv
theorem ro_row (f : Nat → Nat → Int) (m n i : Nat) (o : Nat → Nat → Int) (ho : ∀ j, j < i → o j = roF f m n j) (j : Nat) (hj : j < i + 1) : [i64 (bif Nat.blt j i then o j 0 else daV f ((i : Int) * Int.tdiv 24 (n : Int)) m 0), i64 (bif Nat.blt j i then o j 1 else daV f ((i : Int) * Int.tdiv 24 (n : Int)) m 1), i64 (bif Nat.blt j i then o j 2 else daV f ((i : Int) * Int.tdiv 24 (n : Int)) m 2), i64 (bif Nat.blt j i then o j 3 else daV f ((i : Int) * Int.tdiv 24 (n : Int)) m 3), i64 (bif Nat.blt j i then o j 4 else daV f ((i : Int) * Int.tdiv 24 (n : Int)) m 4), i64 (bif Nat.blt j i then o j 5 else daV f ((i : Int) * Int.tdiv 24 (n : Int)) m 5), i64 (bif Nat.blt j i then o j 6 else daV f ((i : Int) * Int.tdiv 24 (n : Int)) m 6), i64 (bif Nat.blt j i then o j 7 else daV f ((i : Int) * Int.tdiv 24 (n : Int)) m 7)] = row8 (roF f m n) j := by
  by_cases h : j < i
  · rw [blt_yes h]
    simp only [cond_true, ho j h]
  · have : j = i := by omega
    subst this
    rw [blt_no]
    rfl
theorem sumRS (m : Nat) (f : Nat → Nat → Int) (n : Nat) (hm : m ≤ 2 ^ 38) (hn : n ≤ 24) :
    SumOk Try.prog 1 (.block 0 (.loop (loopAt 0 fRS))) (atS 42 (lvRS .normal) 1 (stRS m n 0) (hpRO m f 0 fun _ _ => 0) (fun K => cond (noneTo (rwB f m n) n) (K .normal (mkT 0 42 [(6, .own 1 n)]) (hpRO m f n (roF f m n))) (K .ret (mkT 0 42 [(4, .own 1 0), (5, .v (.bool false))]) (hpRO m f 0 fun _ _ => 0)))) := by
  refine for_at gmRO_ok (n := 100) (m := 1) (lv := lvRS) (fun i => stRS m n i) (fun i => hpRO m f i (bif Nat.beq i 0 then (fun _ _ => 0) else roF f m n)) (fun i => noneTo (rwB f m n) i = true) n (fun _ => noLam) (lv3_ris rfl rfl rfl) (Nat.le_refl _) rfl fun K Q hk i hno hi => ⟨noLam_ok _ _ _, ?_⟩
  have ho : ∀ j, j < i → (bif Nat.beq i 0 then (fun _ _ => (0 : Int)) else roF f m n) j = roF f m n j := by
    intro j hj
    cases i with
    | zero => exact absurd hj (Nat.not_lt_zero _)
    | succ i => rfl
  rw [rndRS]
  simp only [row0, daOk_row, daV_row]
  refine good_cond (fun c1 => ?_) fun c1 => ?_
  · have c1 := of_decide_eq_true c1
    have c1' : i < n := by omega
    rw [ro_mul c1' hn, wr_in (x := (i : Int) + 1) (by omega)]
    refine good_needs (by simp only [ob_cons, ob_nil, and_true, Bool.not_eq_true', decide_eq_false_iff_not, decide_eq_true_eq, Nat.ble_eq, allW_row, true_and]; omega) (good_cond (fun q => ?_) fun q => good_needs (by simp only [ob_cons, ob_nil, and_true, Nat.ble_eq]; omega) (good_out ⟨i + 1, ⟨rfl, c1', noneTo_succ hno q⟩, rfl, .cons (ABeq.refl _) (.cons (ABeq.row fun j hj => ?_) .nil)⟩))
    · refine good_out ⟨hpRO m f 0 fun _ _ => 0, .cons (ABeq.refl _) (.cons (ABeq.row fun j hj => absurd hj (Nat.not_lt_zero _)) .nil), ?_⟩
      rw [noneTo_no c1' q] at hk
      exact hk
    · exact ro_row f m n i _ ho j hj
  · have c1 := of_decide_eq_false c1
    have : i = n := by omega
    subst this
    refine good_out ⟨hpRO m f i (roF f m i), .cons (ABeq.refl _) (.cons (ABeq.row fun j hj => row8_congr fun k _ => by rw [ho j hj]) .nil), ?_⟩
    rw [if_pos rfl]
    rw [hno] at hk
    exact hk

def FroY : List SA → Option FR
  | [.row m g, .v (.int .i64 x)] => some { val := valG (roT (itW g) m x), new := newG (roT (itW g) m x), obl := [allW m g, decide (m ≤ 2 ^ 38), roK (itW g) m x] }
  | _ => none
def FroN : List SA → Option FR
  | [.row m g, .v (.int .i64 x)] => some { val := valN, obl := [allW m g, decide (m ≤ 2 ^ 38), !roK (itW g) m x] }
  | _ => none
def UroO (rk : (Nat → Nat → Int) → Nat → Int → Bool) (rt : (Nat → Nat → Int) → Nat → Int → List Cy) : List SA → Option PtR
  | [.row m g, .v (.int .i64 x)] => some ⟨rk (itW g) m x, rt (itW g) m x, [allW m g, decide (m ≤ 2 ^ 38)]⟩
  | _ => none
def FroS (rk : (Nat → Nat → Int) → Nat → Int → Bool) (rt : (Nat → Nat → Int) → Nat → Int → List Cy) : List SA → Option FR
  | [.row m g, .v (.int .i64 x)] => some { val := .tup [.own 0 (rt (itW g) m x).length, .v (.bool (rk (itW g) m x))], new := newG (rt (itW g) m x), obl := [allW m g, decide (m ≤ 2 ^ 38)] }
  | _ => none
theorem roK_parts {f : Nat → Nat → Int} {m : Nat} {x : Int} (h : roK f m x = true) : roV x = true ∧ okD (listW f m) = true ∧ noneTo (rwB f m x) x.toNat = true := by
  rw [roK, Bool.and_eq_true, Bool.and_eq_true] at h
  exact ⟨h.1, h.2.1, h.2.2⟩
theorem roV_parts {x : Int} (h : roV x = true) : decide (x ≥ 1) = true ∧ decide (x ≤ 24) = true ∧ (Int.tmod 24 x == 0) = true := by
  rw [roV, Bool.and_eq_true, Bool.and_eq_true] at h
  exact ⟨h.1, h.2.1, h.2.2⟩
theorem roT_yes {f : Nat → Nat → Int} {m : Nat} {x : Int} (h : roK f m x = true) : roT f m x = listC (roF f m x) x.toNat := by rw [roT, h]; rfl
theorem roT_no {f : Nat → Nat → Int} {m : Nat} {x : Int} (h : roK f m x = false) : roT f m x = [] := by rw [roT, h]; rfl
theorem roT_len (f : Nat → Nat → Int) (m : Nat) (x : Int) : (roT f m x).length ≤ 24 := by
  cases h : roK f m x with
  | true =>
    have := roV_in (roK_parts h).1
    rw [roT_yes h, listC_length]
    omega
  | false => rw [roT_no h]; exact Nat.zero_le _
theorem rs_le {x : Int} (_ : x ≥ 1) (h : Int.tmod 24 x = 0) : x ≤ 24 := by
  by_cases hx : x ≤ 24
  · exact hx
  · exfalso
    rw [Int.tmod_eq_emod_of_nonneg (by omega), Int.emod_eq_of_lt (by omega) (by omega)] at h
    omega
theorem ro_fin {m : Nat} {g : Nat → List Value} {x : Int} {n : Nat} (h1 : allW m g = true) (hk : roK (itW g) m x = true) (hx : x = n) : Hsim (hpRO m (itW g) n (roF (itW g) m n)) ([.row false m 9 g 111] ++ newG (roT (itW g) m x)) ∧ (roT (itW g) m x).length = n := by
  subst hx
  have e := roT_yes hk
  rw [Int.toNat_natCast] at e
  have hl : (roT (itW g) m n).length = n := by rw [e, listC_length]
  refine ⟨.cons (ABeq.row fun j hj => (allW_get h1 j hj).symm) ?_, hl⟩
  show Hsim _ [.row true (roT (itW g) m n).length 8 (row8 (cfun (roT (itW g) m n))) 40]
  rw [hl, e]
  exact .cons (ABeq.row fun j hj => (row8_list _ hj).symm) .nil
theorem ok_roS : SpecOk Try.prog 87 (specR md_wv (FroS roK roT)) := by
  refine specR_hr gmRV_ok Try.func87 rfl fun sas fr hF ho => ?_
  unfold FroS at hF
  split at hF
  · rename_i m g x
    cases hF
    simp only [ob_cons] at ho
    obtain ⟨h1, h2, _⟩ := ho
    have hm := of_decide_eq_true h2
    obtain ⟨n, hn, hn2⟩ : ∃ n : Nat, n ≤ 24 ∧ (roV x = true → x = n) := by
      cases hv : roV x with
      | true => have := roV_in hv; exact ⟨x.toNat, by omega, fun _ => by omega⟩
      | false => exact ⟨0, by omega, fun h => by cases h⟩
    refine ⟨hpR1 m (itW g), lamRS m (itW g) n (noneTo (rwB (itW g) m n) n) (roF (itW g) m n), 100, .cons (ABeq.row fun j hj => allW_get h1 j hj) .nil, lam1 (by kernel_rfl) (sumRS m (itW g) n hm hn), ?_⟩
    show GoodQ (execF Try.prog (gmRV okD) (lamRS m (itW g) n (noneTo (rwB (itW g) m n) n) (roF (itW g) m n)) 100 fRS [.sl 0 9 0 0 m none, .v (i64 x)] (hpR1 m (itW g)) (packK 1)) _
    rw [treeRS]
    simp only [row0, listW_itW]
    have no : ∀ (o : Nat → List Value), roK (itW g) m x = false → GoodQ (.out .ret [.tup [.own 1 0, .v (.bool false)]] [.row false m 9 (row9 (itW g)) 111, .row true 0 8 o 40]) (GivR (abP md_wv [.row m g, .v (.int .i64 x)] []) { val := .tup [.own 0 (roT (itW g) m x).length, .v (.bool (roK (itW g) m x))], new := newG (roT (itW g) m x), obl := [allW m g, decide (m ≤ 2 ^ 38)] }) := by
      intro o h
      rw [roT_no h, h]
      exact good_out ⟨_, rfl, rfl, .cons (ABeq.row fun j hj => (allW_get h1 j hj).symm) (.cons (ABeq.row fun j hj => absurd hj (Nat.not_lt_zero _)) .nil)⟩
    refine good_cond (fun c1 => good_cond (fun c0 => ?_) fun c0 => no _ (by rw [roK, roV, c0, Bool.false_and, Bool.and_false]; rfl)) fun c1 => no _ (by rw [roK, roV, c1]; rfl)
    have c1' := of_decide_eq_true c1
    refine good_needs (by simp only [ob_cons, ob_nil, and_true, Bool.not_eq_true', decide_eq_false_iff_not]; omega) (good_cond (fun c2 => no _ ?_) fun c2 => ?_)
    · have c2 : (Int.tmod 24 x == 0) = false := by simpa using c2
      rw [roK, roV, c2, Bool.and_false, Bool.and_false]
      rfl
    · have c2 : (Int.tmod 24 x == 0) = true := by simpa using c2
      have hv : roV x = true := by rw [roV, c1, c2, c0]; rfl
      have e := hn2 hv
      subst e
      refine good_needs (by simp only [ob_cons, ob_nil, and_true, decide_eq_true_eq, Nat.ble_eq, allW_row, true_and]; omega) (good_cond (fun c3 => no _ ?_) fun c3 => good_needs ?_ (good_cond (fun c4 => ?_) fun c4 => no _ ?_))
      · have c3 : okD (listW (itW g) m) = false := by simpa using c3
        rw [roK, c3, hv]
        rfl
      · simp only [ob_cons, ob_nil, and_true]
        exact chk_of ⟨rfl, .cons (ABeq.refl _) (.cons (ABeq.row fun j hj => absurd hj (Nat.not_lt_zero _)) .nil)⟩
      · have c3 : okD (listW (itW g) m) = true := by simpa using c3
        have hk : roK (itW g) m n = true := by
          rw [roK, c3, hv, Int.toNat_natCast, c4]
          rfl
        obtain ⟨e1, e2⟩ := ro_fin h1 hk rfl
        exact good_out ⟨_, rfl, by rw [e2, hk]; rfl, e1⟩
      · have c3 : okD (listW (itW g) m) = true := by simpa using c3
        rw [roK, c3, hv, Int.toNat_natCast, c4]
        rfl
  · cases hF

end Go.Proofs.Ytoligfhcogligaa

/- l92Poly: its trees. Conditions: those of pick. -/
namespace Go.Proofs.Ytoligfhcogligaa
open Go.RowKit
set_option maxRecDepth 100000

noncomputable abbrev fPy : Func := Try.f40
abbrev lvPy : Ex → List Nat := lv3 [0, 6, 7, 8] [0, 6] [2]
abbrev stPy (n : Int) (i : Nat) : List AV := [.ptr 0 0 0 0, .own 2 i, .v (i64 n), .v (i64 i)]
theorem rndPy (pk : Nat → (Nat → Int) → Int → Int → Int) (l : Nat) (c : Option Nat) (p : Int) (m : Nat) (b : Nat → Int) (tr tb : TypeId) (h : Nat → Nat → Int) (n : Int) (i : Nat) : execC Try.prog (gmPk pk) 100 noLam (loopAt 0 fPy) (mkT 0 66 ((lvPy .normal).zip (stPy n i))) [.cells [.sl 1 1 0 0 l c, .v (i64 p)] tr, .row false m 1 (rowB b) tb, .row true i 8 (row8 h) 40] (leafV 66 lvPy 2)
    = bif decide ((↑i : Int) < n) then needs [okB m (rowB b), decide (l ≤ m), decide ((0 : Int) ≤ p), decide (p ≤ (1073741824 : Int)), decide ((0 : Nat) < m), okB m (rowB b), decide (l ≤ m), decide ((0 : Int) ≤ p + (1 : Int)), decide (p + (1 : Int) ≤ (1073741824 : Int)), decide ((0 : Nat) < m), Nat.ble i i, Nat.ble (i + (1 : Nat)) (549755813888 : Nat)] (Res.out Ex.normal [AV.ptr (0 : Nat) (0 : Nat) (0 : Nat) (0 : Nat), AV.own (2 : Nat) (i + (1 : Nat)), AV.v (Value.int IntKind.i64 n), AV.v (Value.int IntKind.i64 (IntKind.wrap IntKind.i64 ((↑i : Int) + (1 : Int))))] [AB.cells [AV.sl (1 : Nat) (1 : Nat) (0 : Nat) (0 : Nat) l c, AV.v (Value.int IntKind.i64 (p + (1 : Int) + (1 : Int)))] tr, AB.row false m (1 : Nat) (rowB b) tb, AB.row true (i + (1 : Nat)) (8 : Nat) (fun q ↦ [Value.int IntKind.i64 (bif Nat.blt q i then h q (0 : Nat) else IntKind.wrap IntKind.i64 (pk l (itB (rowB b)) p (7 : Int) - (3 : Int))), Value.int IntKind.i64 (bif Nat.blt q i then h q (1 : Nat) else (0 : Int)), Value.int IntKind.i64 (bif Nat.blt q i then h q (2 : Nat) else (0 : Int)), Value.int IntKind.i64 (bif Nat.blt q i then h q (3 : Nat) else (0 : Int)), Value.int IntKind.i64 (bif Nat.blt q i then h q (4 : Nat) else (0 : Int)), Value.int IntKind.i64 (bif Nat.blt q i then h q (5 : Nat) else (0 : Int)), Value.int IntKind.i64 (bif Nat.blt q i then h q (6 : Nat) else IntKind.wrap IntKind.i64 (pk l (itB (rowB b)) (p + (1 : Int)) (7 : Int) - (3 : Int))), Value.int IntKind.i64 (bif Nat.blt q i then h q (7 : Nat) else (0 : Int))]) (40 : Nat)]) else Res.out (Ex.exit (0 : Nat)) [AV.ptr (0 : Nat) (0 : Nat) (0 : Nat) (0 : Nat), AV.own (2 : Nat) i] [AB.cells [AV.sl (1 : Nat) (1 : Nat) (0 : Nat) (0 : Nat) l c, AV.v (Value.int IntKind.i64 p)] tr, AB.row false m (1 : Nat) (rowB b) tb, AB.row true i (8 : Nat) (row8 h) (40 : TypeId)] := by kernel_rfl

noncomputable abbrev lamPy (l : Nat) (c : Option Nat) (m : Nat) (b : Nat → Int) (tr tb : TypeId) (n : Nat) (p1 p2 : Int) (h : Nat → Nat → Int) : Nat → Option Sum := oneL 0 (atS 66 (lvPy .normal) 2 (stPy n 0) [.cells [.sl 1 1 0 0 l c, .v (i64 p1)] tr, .row false m 1 (rowB b) tb, .row true 0 8 (row8 h) 40] (fun K => K .normal (mkT 0 66 [(0, .ptr 0 0 0 0), (6, .own 2 n)]) [.cells [.sl 1 1 0 0 l c, .v (i64 p2)] tr, .row false m 1 (rowB b) tb, .row true n 8 (row8 h) 40]))
def gmPy (pk : Nat → (Nat → Int) → Int → Int → Int) (dl : Nat → (Nat → Int) → Int → List Wh) (dp : Nat → (Nat → Int) → Int → Int) (rk : (Nat → Nat → Int) → Nat → Int → Bool) (rt : (Nat → Nat → Int) → Nat → Int → List Cy) (cf : Nat → (Nat → Int) → Int → Nat → Int) (cp : Nat → (Nat → Int) → Int → Int) : Gam := ext (ext (ext (gmPk pk) 88 (specK [] (FehO dl dp))) 87 (specR md_wv (FroS rk rt))) 90 (specK [] (FcyO cf cp))
theorem treePy (pk : Nat → (Nat → Int) → Int → Int → Int) (dl : Nat → (Nat → Int) → Int → List Wh) (dp : Nat → (Nat → Int) → Int → Int) (rk : (Nat → Nat → Int) → Nat → Int → Bool) (rt : (Nat → Nat → Int) → Nat → Int → List Cy) (cf : Nat → (Nat → Int) → Int → Nat → Int) (cp : Nat → (Nat → Int) → Int → Int) (l : Nat) (c : Option Nat) (p : Int) (m : Nat) (b : Nat → Int) (tr tb : TypeId) (n : Nat) (p1 p2 : Int) (h : Nat → Nat → Int) : execF Try.prog (gmPy pk dl dp rk rt cf cp) (lamPy l c m b tr tb n p1 p2 h) 100 fPy [.ptr 0 0 0 0] (hpRd l c p m b tr tb) (packK 2)
    = needs [okB m (rowB b), decide (l ≤ m), decide ((0 : Int) ≤ p), decide (p ≤ (1073741824 : Int)), decide ((0 : Nat) < m), decide ((0 : Int) ≤ pk l (itB (rowB b)) p (6 : Int)), decide (pk l (itB (rowB b)) p (6 : Int) < (6 : Int)), decide (Int.toNat (pk l (itB (rowB b)) p (6 : Int)) < (6 : Nat)), okB m (rowB b), decide (l ≤ m), decide ((0 : Int) ≤ p + (1 : Int)), decide (p + (1 : Int) ≤ (67108864 : Int)), decide ((0 : Nat) < m), decide ((0 : Nat) < m), Nat.ble (List.length (dl l (itB (rowB b)) (p + (1 : Int)))) (List.length (dl l (itB (rowB b)) (p + (1 : Int)))), allW (List.length (dl l (itB (rowB b)) (p + (1 : Int)))) (row9 (wfun (dl l (itB (rowB b)) (p + (1 : Int))))), decide (List.length (dl l (itB (rowB b)) (p + (1 : Int))) ≤ (274877906944 : Nat))] (bif rk (itW (row9 (wfun (dl l (itB (rowB b)) (p + (1 : Int)))))) (List.length (dl l (itB (rowB b)) (p + (1 : Int)))) (bif Nat.beq (Int.toNat (pk l (itB (rowB b)) p (6 : Int))) (0 : Nat) then (3 : Int) else bif Nat.beq (Int.toNat (pk l (itB (rowB b)) p (6 : Int))) (1 : Nat) then (4 : Int) else bif Nat.beq (Int.toNat (pk l (itB (rowB b)) p (6 : Int))) (2 : Nat) then (6 : Int) else bif Nat.beq (Int.toNat (pk l (itB (rowB b)) p (6 : Int))) (3 : Nat) then (8 : Int) else bif Nat.beq (Int.toNat (pk l (itB (rowB b)) p (6 : Int))) (4 : Nat) then (12 : Int) else (24 : Int)) then needs [okB m (rowB b), decide (l ≤ m), decide ((0 : Int) ≤ dp l (itB (rowB b)) (p + (1 : Int))), decide (dp l (itB (rowB b)) (p + (1 : Int)) ≤ (1073741824 : Int)), decide ((0 : Nat) < m)] (bif pk l (itB (rowB b)) (dp l (itB (rowB b)) (p + (1 : Int))) (2 : Int) == (0 : Int) then Res.out Ex.ret [AV.own (2 : Nat) (List.length (rt (itW (row9 (wfun (dl l (itB (rowB b)) (p + (1 : Int)))))) (List.length (dl l (itB (rowB b)) (p + (1 : Int)))) (bif Nat.beq (Int.toNat (pk l (itB (rowB b)) p (6 : Int))) (0 : Nat) then (3 : Int) else bif Nat.beq (Int.toNat (pk l (itB (rowB b)) p (6 : Int))) (1 : Nat) then (4 : Int) else bif Nat.beq (Int.toNat (pk l (itB (rowB b)) p (6 : Int))) (2 : Nat) then (6 : Int) else bif Nat.beq (Int.toNat (pk l (itB (rowB b)) p (6 : Int))) (3 : Nat) then (8 : Int) else bif Nat.beq (Int.toNat (pk l (itB (rowB b)) p (6 : Int))) (4 : Nat) then (12 : Int) else (24 : Int))))] [AB.cells [AV.sl (1 : Nat) (1 : Nat) (0 : Nat) (0 : Nat) l c, AV.v (Value.int IntKind.i64 (dp l (itB (rowB b)) (p + (1 : Int)) + (1 : Int)))] tr, AB.row false m (1 : Nat) (rowB b) tb, AB.row true (List.length (rt (itW (row9 (wfun (dl l (itB (rowB b)) (p + (1 : Int)))))) (List.length (dl l (itB (rowB b)) (p + (1 : Int)))) (bif Nat.beq (Int.toNat (pk l (itB (rowB b)) p (6 : Int))) (0 : Nat) then (3 : Int) else bif Nat.beq (Int.toNat (pk l (itB (rowB b)) p (6 : Int))) (1 : Nat) then (4 : Int) else bif Nat.beq (Int.toNat (pk l (itB (rowB b)) p (6 : Int))) (2 : Nat) then (6 : Int) else bif Nat.beq (Int.toNat (pk l (itB (rowB b)) p (6 : Int))) (3 : Nat) then (8 : Int) else bif Nat.beq (Int.toNat (pk l (itB (rowB b)) p (6 : Int))) (4 : Nat) then (12 : Int) else (24 : Int)))) (8 : Nat) (row8 (cfun (rt (itW (row9 (wfun (dl l (itB (rowB b)) (p + (1 : Int)))))) (List.length (dl l (itB (rowB b)) (p + (1 : Int)))) (bif Nat.beq (Int.toNat (pk l (itB (rowB b)) p (6 : Int))) (0 : Nat) then (3 : Int) else bif Nat.beq (Int.toNat (pk l (itB (rowB b)) p (6 : Int))) (1 : Nat) then (4 : Int) else bif Nat.beq (Int.toNat (pk l (itB (rowB b)) p (6 : Int))) (2 : Nat) then (6 : Int) else bif Nat.beq (Int.toNat (pk l (itB (rowB b)) p (6 : Int))) (3 : Nat) then (8 : Int) else bif Nat.beq (Int.toNat (pk l (itB (rowB b)) p (6 : Int))) (4 : Nat) then (12 : Int) else (24 : Int))))) (40 : TypeId)] else needs [okB m (rowB b), decide (l ≤ m), decide ((0 : Int) ≤ dp l (itB (rowB b)) (p + (1 : Int)) + (1 : Int)), decide (dp l (itB (rowB b)) (p + (1 : Int)) + (1 : Int) ≤ (1073741824 : Int)), decide ((0 : Nat) < m), chk ([AV.ptr (0 : Nat) (0 : Nat) (0 : Nat) (0 : Nat), AV.own (2 : Nat) (0 : Nat), AV.v (Value.int IntKind.i64 (IntKind.wrap IntKind.i64 ((1 : Int) + pk l (itB (rowB b)) (dp l (itB (rowB b)) (p + (1 : Int)) + (1 : Int)) (6 : Int)))), AV.v (Value.int IntKind.i64 (0 : Int))] = stPy (↑n : Int) (0 : Nat) ∧ Hsim [AB.cells [AV.sl (1 : Nat) (1 : Nat) (0 : Nat) (0 : Nat) l c, AV.v (Value.int IntKind.i64 (dp l (itB (rowB b)) (p + (1 : Int)) + (1 : Int) + (1 : Int)))] tr, AB.row false m (1 : Nat) (rowB b) tb, AB.row true (0 : Nat) (8 : Nat) (fun _ ↦ []) (40 : Nat)] [AB.cells [AV.sl (1 : Nat) (1 : Nat) (0 : Nat) (0 : Nat) l c, AV.v (Value.int IntKind.i64 p1)] tr, AB.row false m (1 : Nat) (rowB b) tb, AB.row true (0 : Nat) (8 : Nat) (row8 h) (40 : TypeId)]), okB m (rowB b), decide (l ≤ m), decide ((0 : Int) ≤ p2), decide (p2 ≤ (1073741824 : Int)), decide ((0 : Nat) < m)] (bif pk l (itB (rowB b)) p2 (24 : Int) == (0 : Int) then Res.out Ex.ret [AV.own (2 : Nat) (0 : Nat)] [AB.cells [AV.sl (1 : Nat) (1 : Nat) (0 : Nat) (0 : Nat) l c, AV.v (Value.int IntKind.i64 (p2 + (1 : Int)))] tr, AB.row false m (1 : Nat) (rowB b) tb, AB.row true (0 : Nat) (8 : Nat) (fun _ ↦ []) (40 : Nat)] else bif pk l (itB (rowB b)) p2 (24 : Int) == (1 : Int) then needs [decide ((0 : Int) < (↑n : Int)), decide ((0 : Nat) < n)] (Res.out Ex.ret [AV.own (2 : Nat) n] [AB.cells [AV.sl (1 : Nat) (1 : Nat) (0 : Nat) (0 : Nat) l c, AV.v (Value.int IntKind.i64 (p2 + (1 : Int)))] tr, AB.row false m (1 : Nat) (rowB b) tb, AB.row true n (8 : Nat) (fun q ↦ [Value.int IntKind.i64 (bif Nat.beq q (0 : Nat) then h (0 : Nat) (0 : Nat) else h q (0 : Nat)), Value.int IntKind.i64 (bif Nat.beq q (0 : Nat) then h (0 : Nat) (1 : Nat) else h q (1 : Nat)), Value.int IntKind.i64 (bif Nat.beq q (0 : Nat) then h (0 : Nat) (2 : Nat) else h q (2 : Nat)), Value.int IntKind.i64 (bif Nat.beq q (0 : Nat) then (101 : Int) else h q (3 : Nat)), Value.int IntKind.i64 (bif Nat.beq q (0 : Nat) then h (0 : Nat) (4 : Nat) else h q (4 : Nat)), Value.int IntKind.i64 (bif Nat.beq q (0 : Nat) then h (0 : Nat) (5 : Nat) else h q (5 : Nat)), Value.int IntKind.i64 (bif Nat.beq q (0 : Nat) then h (0 : Nat) (6 : Nat) else h q (6 : Nat)), Value.int IntKind.i64 (bif Nat.beq q (0 : Nat) then h (0 : Nat) (7 : Nat) else h q (7 : Nat))]) (40 : TypeId)]) else bif pk l (itB (rowB b)) p2 (24 : Int) == (2 : Int) then needs [okB m (rowB b), decide (l ≤ m), decide ((0 : Int) ≤ p2 + (1 : Int)), decide (p2 + (1 : Int) ≤ (536870912 : Int)), decide ((0 : Nat) < m), decide ((0 : Nat) < m), Nat.ble n n, Nat.ble (n + (1 : Nat)) (549755813888 : Nat)] (Res.out Ex.ret [AV.own (2 : Nat) (n + (1 : Nat))] [AB.cells [AV.sl (1 : Nat) (1 : Nat) (0 : Nat) (0 : Nat) l c, AV.v (Value.int IntKind.i64 (cp l (itB (rowB b)) (p2 + (1 : Int))))] tr, AB.row false m (1 : Nat) (rowB b) tb, AB.row true (n + (1 : Nat)) (8 : Nat) (fun q ↦ [Value.int IntKind.i64 (bif Nat.blt q n then h q (0 : Nat) else cf l (itB (rowB b)) (p2 + (1 : Int)) (0 : Nat)), Value.int IntKind.i64 (bif Nat.blt q n then h q (1 : Nat) else cf l (itB (rowB b)) (p2 + (1 : Int)) (1 : Nat)), Value.int IntKind.i64 (bif Nat.blt q n then h q (2 : Nat) else cf l (itB (rowB b)) (p2 + (1 : Int)) (2 : Nat)), Value.int IntKind.i64 (bif Nat.blt q n then h q (3 : Nat) else cf l (itB (rowB b)) (p2 + (1 : Int)) (3 : Nat)), Value.int IntKind.i64 (bif Nat.blt q n then h q (4 : Nat) else cf l (itB (rowB b)) (p2 + (1 : Int)) (4 : Nat)), Value.int IntKind.i64 (bif Nat.blt q n then h q (5 : Nat) else cf l (itB (rowB b)) (p2 + (1 : Int)) (5 : Nat)), Value.int IntKind.i64 (bif Nat.blt q n then h q (6 : Nat) else cf l (itB (rowB b)) (p2 + (1 : Int)) (6 : Nat)), Value.int IntKind.i64 (bif Nat.blt q n then h q (7 : Nat) else cf l (itB (rowB b)) (p2 + (1 : Int)) (7 : Nat))]) (40 : Nat)]) else Res.out Ex.ret [AV.own (2 : Nat) n] [AB.cells [AV.sl (1 : Nat) (1 : Nat) (0 : Nat) (0 : Nat) l c, AV.v (Value.int IntKind.i64 (p2 + (1 : Int)))] tr, AB.row false m (1 : Nat) (rowB b) tb, AB.row true n (8 : Nat) (row8 h) (40 : TypeId)])) else needs [okB m (rowB b), decide (l ≤ m), decide ((0 : Int) ≤ dp l (itB (rowB b)) (p + (1 : Int))), decide (dp l (itB (rowB b)) (p + (1 : Int)) ≤ (1073741824 : Int)), decide ((0 : Nat) < m), chk ([AV.ptr (0 : Nat) (0 : Nat) (0 : Nat) (0 : Nat), AV.own (2 : Nat) (0 : Nat), AV.v (Value.int IntKind.i64 (IntKind.wrap IntKind.i64 ((1 : Int) + pk l (itB (rowB b)) (dp l (itB (rowB b)) (p + (1 : Int))) (6 : Int)))), AV.v (Value.int IntKind.i64 (0 : Int))] = stPy (↑n : Int) (0 : Nat) ∧ Hsim [AB.cells [AV.sl (1 : Nat) (1 : Nat) (0 : Nat) (0 : Nat) l c, AV.v (Value.int IntKind.i64 (dp l (itB (rowB b)) (p + (1 : Int)) + (1 : Int)))] tr, AB.row false m (1 : Nat) (rowB b) tb, AB.row true (0 : Nat) (8 : Nat) (fun _ ↦ []) (40 : Nat)] [AB.cells [AV.sl (1 : Nat) (1 : Nat) (0 : Nat) (0 : Nat) l c, AV.v (Value.int IntKind.i64 p1)] tr, AB.row false m (1 : Nat) (rowB b) tb, AB.row true (0 : Nat) (8 : Nat) (row8 h) (40 : TypeId)]), okB m (rowB b), decide (l ≤ m), decide ((0 : Int) ≤ p2), decide (p2 ≤ (1073741824 : Int)), decide ((0 : Nat) < m)] (bif pk l (itB (rowB b)) p2 (24 : Int) == (0 : Int) then Res.out Ex.ret [AV.own (2 : Nat) (0 : Nat)] [AB.cells [AV.sl (1 : Nat) (1 : Nat) (0 : Nat) (0 : Nat) l c, AV.v (Value.int IntKind.i64 (p2 + (1 : Int)))] tr, AB.row false m (1 : Nat) (rowB b) tb, AB.row true (0 : Nat) (8 : Nat) (fun _ ↦ []) (40 : Nat)] else bif pk l (itB (rowB b)) p2 (24 : Int) == (1 : Int) then needs [decide ((0 : Int) < (↑n : Int)), decide ((0 : Nat) < n)] (Res.out Ex.ret [AV.own (2 : Nat) n] [AB.cells [AV.sl (1 : Nat) (1 : Nat) (0 : Nat) (0 : Nat) l c, AV.v (Value.int IntKind.i64 (p2 + (1 : Int)))] tr, AB.row false m (1 : Nat) (rowB b) tb, AB.row true n (8 : Nat) (fun q ↦ [Value.int IntKind.i64 (bif Nat.beq q (0 : Nat) then h (0 : Nat) (0 : Nat) else h q (0 : Nat)), Value.int IntKind.i64 (bif Nat.beq q (0 : Nat) then h (0 : Nat) (1 : Nat) else h q (1 : Nat)), Value.int IntKind.i64 (bif Nat.beq q (0 : Nat) then h (0 : Nat) (2 : Nat) else h q (2 : Nat)), Value.int IntKind.i64 (bif Nat.beq q (0 : Nat) then (101 : Int) else h q (3 : Nat)), Value.int IntKind.i64 (bif Nat.beq q (0 : Nat) then h (0 : Nat) (4 : Nat) else h q (4 : Nat)), Value.int IntKind.i64 (bif Nat.beq q (0 : Nat) then h (0 : Nat) (5 : Nat) else h q (5 : Nat)), Value.int IntKind.i64 (bif Nat.beq q (0 : Nat) then h (0 : Nat) (6 : Nat) else h q (6 : Nat)), Value.int IntKind.i64 (bif Nat.beq q (0 : Nat) then h (0 : Nat) (7 : Nat) else h q (7 : Nat))]) (40 : TypeId)]) else bif pk l (itB (rowB b)) p2 (24 : Int) == (2 : Int) then needs [okB m (rowB b), decide (l ≤ m), decide ((0 : Int) ≤ p2 + (1 : Int)), decide (p2 + (1 : Int) ≤ (536870912 : Int)), decide ((0 : Nat) < m), decide ((0 : Nat) < m), Nat.ble n n, Nat.ble (n + (1 : Nat)) (549755813888 : Nat)] (Res.out Ex.ret [AV.own (2 : Nat) (n + (1 : Nat))] [AB.cells [AV.sl (1 : Nat) (1 : Nat) (0 : Nat) (0 : Nat) l c, AV.v (Value.int IntKind.i64 (cp l (itB (rowB b)) (p2 + (1 : Int))))] tr, AB.row false m (1 : Nat) (rowB b) tb, AB.row true (n + (1 : Nat)) (8 : Nat) (fun q ↦ [Value.int IntKind.i64 (bif Nat.blt q n then h q (0 : Nat) else cf l (itB (rowB b)) (p2 + (1 : Int)) (0 : Nat)), Value.int IntKind.i64 (bif Nat.blt q n then h q (1 : Nat) else cf l (itB (rowB b)) (p2 + (1 : Int)) (1 : Nat)), Value.int IntKind.i64 (bif Nat.blt q n then h q (2 : Nat) else cf l (itB (rowB b)) (p2 + (1 : Int)) (2 : Nat)), Value.int IntKind.i64 (bif Nat.blt q n then h q (3 : Nat) else cf l (itB (rowB b)) (p2 + (1 : Int)) (3 : Nat)), Value.int IntKind.i64 (bif Nat.blt q n then h q (4 : Nat) else cf l (itB (rowB b)) (p2 + (1 : Int)) (4 : Nat)), Value.int IntKind.i64 (bif Nat.blt q n then h q (5 : Nat) else cf l (itB (rowB b)) (p2 + (1 : Int)) (5 : Nat)), Value.int IntKind.i64 (bif Nat.blt q n then h q (6 : Nat) else cf l (itB (rowB b)) (p2 + (1 : Int)) (6 : Nat)), Value.int IntKind.i64 (bif Nat.blt q n then h q (7 : Nat) else cf l (itB (rowB b)) (p2 + (1 : Int)) (7 : Nat))]) (40 : Nat)]) else Res.out Ex.ret [AV.own (2 : Nat) n] [AB.cells [AV.sl (1 : Nat) (1 : Nat) (0 : Nat) (0 : Nat) l c, AV.v (Value.int IntKind.i64 (p2 + (1 : Int)))] tr, AB.row false m (1 : Nat) (rowB b) tb, AB.row true n (8 : Nat) (row8 h) (40 : TypeId)])) := by kernel_rfl

end Go.Proofs.Ytoligfhcogligaa

/- l91Row: a row of points, whatever the bytes are. Conditions: those of pick. -/
namespace Go.Proofs.Ytoligfhcogligaa
open Go.RowKit
set_option maxRecDepth 100000

noncomputable abbrev fRw : Func := Try.f108
def gmRw (pk : Nat → (Nat → Int) → Int → Int → Int) (cf : Nat → (Nat → Int) → Int → Nat → Int) (cp : Nat → (Nat → Int) → Int → Int) : Gam := ext (gmPk pk) 90 (specK [] (FcyO cf cp))
abbrev lvRw : Ex → List Nat := lv3 [0, 1, 5, 6] [0, 5] [4]
abbrev stRw (n i : Nat) : List AV := [.ptr 0 0 0 0, .v (i64 n), .own 2 i, .v (i64 i)]
abbrev hpRw (l : Nat) (c : Option Nat) (p : Int) (m : Nat) (b : Nat → Int) (tr tb : TypeId) (k : Nat) (h : Nat → Nat → Int) : List AB := [.cells [.sl 1 1 0 0 l c, .v (i64 p)] tr, .row false m 1 (rowB b) tb, .row true k 8 (row8 h) 40]
theorem rndRw (pk : Nat → (Nat → Int) → Int → Int → Int) (cf : Nat → (Nat → Int) → Int → Nat → Int) (cp : Nat → (Nat → Int) → Int → Int) (l : Nat) (c : Option Nat) (p : Int) (m : Nat) (b : Nat → Int) (tr tb : TypeId) (h : Nat → Nat → Int) (n i : Nat) : execC Try.prog (gmRw pk cf cp) 100 noLam (loopAt 0 fRw) (mkT 0 26 ((lvRw .normal).zip (stRw n i))) (hpRw l c p m b tr tb i h) (leafV 26 lvRw 2)
    = bif decide ((↑i : Int) < (↑n : Int)) then needs [okB m (rowB b), decide (l ≤ m), decide ((0 : Int) ≤ p), decide (p ≤ (536870912 : Int)), decide ((0 : Nat) < m), decide ((0 : Nat) < m), Nat.ble i i, Nat.ble (i + (1 : Nat)) (549755813888 : Nat)] (Res.out Ex.normal [AV.ptr (0 : Nat) (0 : Nat) (0 : Nat) (0 : Nat), AV.v (Value.int IntKind.i64 (↑n : Int)), AV.own (2 : Nat) (i + (1 : Nat)), AV.v (Value.int IntKind.i64 (IntKind.wrap IntKind.i64 ((↑i : Int) + (1 : Int))))] [AB.cells [AV.sl (1 : Nat) (1 : Nat) (0 : Nat) (0 : Nat) l c, AV.v (Value.int IntKind.i64 (cp l (itB (rowB b)) p))] tr, AB.row false m (1 : Nat) (rowB b) tb, AB.row true (i + (1 : Nat)) (8 : Nat) (fun q ↦ [Value.int IntKind.i64 (bif Nat.blt q i then h q (0 : Nat) else cf l (itB (rowB b)) p (0 : Nat)), Value.int IntKind.i64 (bif Nat.blt q i then h q (1 : Nat) else cf l (itB (rowB b)) p (1 : Nat)), Value.int IntKind.i64 (bif Nat.blt q i then h q (2 : Nat) else cf l (itB (rowB b)) p (2 : Nat)), Value.int IntKind.i64 (bif Nat.blt q i then h q (3 : Nat) else cf l (itB (rowB b)) p (3 : Nat)), Value.int IntKind.i64 (bif Nat.blt q i then h q (4 : Nat) else cf l (itB (rowB b)) p (4 : Nat)), Value.int IntKind.i64 (bif Nat.blt q i then h q (5 : Nat) else cf l (itB (rowB b)) p (5 : Nat)), Value.int IntKind.i64 (bif Nat.blt q i then h q (6 : Nat) else cf l (itB (rowB b)) p (6 : Nat)), Value.int IntKind.i64 (bif Nat.blt q i then h q (7 : Nat) else cf l (itB (rowB b)) p (7 : Nat))]) (40 : Nat)]) else Res.out (Ex.exit (0 : Nat)) [AV.ptr (0 : Nat) (0 : Nat) (0 : Nat) (0 : Nat), AV.own (2 : Nat) i] [AB.cells [AV.sl (1 : Nat) (1 : Nat) (0 : Nat) (0 : Nat) l c, AV.v (Value.int IntKind.i64 p)] tr, AB.row false m (1 : Nat) (rowB b) tb, AB.row true i (8 : Nat) (row8 h) (40 : TypeId)] := by kernel_rfl

noncomputable abbrev lamRw (l : Nat) (c : Option Nat) (m : Nat) (b : Nat → Int) (tr tb : TypeId) (n : Nat) (p1 p2 : Int) (h : Nat → Nat → Int) : Nat → Option Sum := oneL 0 (atS 26 (lvRw .normal) 2 (stRw n 0) (hpRw l c p1 m b tr tb 0 fun _ _ => 0) (fun K => K .normal (mkT 0 26 [(0, .ptr 0 0 0 0), (5, .own 2 n)]) (hpRw l c p2 m b tr tb n h)))
theorem treeRw (pk : Nat → (Nat → Int) → Int → Int → Int) (cf : Nat → (Nat → Int) → Int → Nat → Int) (cp : Nat → (Nat → Int) → Int → Int) (l : Nat) (c : Option Nat) (p : Int) (m : Nat) (b : Nat → Int) (tr tb : TypeId) (n : Nat) (p1 p2 : Int) (h : Nat → Nat → Int) : execF Try.prog (gmRw pk cf cp) (lamRw l c m b tr tb n p1 p2 h) 100 fRw [.ptr 0 0 0 0, .v (i64 n)] (hpRd l c p m b tr tb) (packK 2)
    = needs [chk ([AV.ptr (0 : Nat) (0 : Nat) (0 : Nat) (0 : Nat), AV.v (Value.int IntKind.i64 (↑n : Int)), AV.own (2 : Nat) (0 : Nat), AV.v (Value.int IntKind.i64 (0 : Int))] = stRw n (0 : Nat) ∧ Hsim [AB.cells [AV.sl (1 : Nat) (1 : Nat) (0 : Nat) (0 : Nat) l c, AV.v (Value.int IntKind.i64 p)] tr, AB.row false m (1 : Nat) (rowB b) tb, AB.row true (0 : Nat) (8 : Nat) (fun _ ↦ []) (40 : Nat)] (hpRw l c p1 m b tr tb (0 : Nat) fun _ _ ↦ (0 : Int))), okB m (rowB b), decide (l ≤ m), decide ((0 : Int) ≤ p2), decide (p2 ≤ (1073741824 : Int)), decide ((0 : Nat) < m)] (bif pk l (itB (rowB b)) p2 (30 : Int) == (0 : Int) then needs [Nat.ble n n, Nat.ble (n + (1 : Nat)) (549755813888 : Nat)] (Res.out Ex.ret [AV.own (2 : Nat) (n + (1 : Nat))] [AB.cells [AV.sl (1 : Nat) (1 : Nat) (0 : Nat) (0 : Nat) l c, AV.v (Value.int IntKind.i64 (p2 + (1 : Int)))] tr, AB.row false m (1 : Nat) (rowB b) tb, AB.row true (n + (1 : Nat)) (8 : Nat) (fun q ↦ [Value.int IntKind.i64 (bif Nat.blt q n then h q (0 : Nat) else (0 : Int)), Value.int IntKind.i64 (bif Nat.blt q n then h q (1 : Nat) else (0 : Int)), Value.int IntKind.i64 (bif Nat.blt q n then h q (2 : Nat) else (0 : Int)), Value.int IntKind.i64 (bif Nat.blt q n then h q (3 : Nat) else (0 : Int)), Value.int IntKind.i64 (bif Nat.blt q n then h q (4 : Nat) else (0 : Int)), Value.int IntKind.i64 (bif Nat.blt q n then h q (5 : Nat) else (0 : Int)), Value.int IntKind.i64 (bif Nat.blt q n then h q (6 : Nat) else (0 : Int)), Value.int IntKind.i64 (bif Nat.blt q n then h q (7 : Nat) else (0 : Int))]) (40 : Nat)]) else Res.out Ex.ret [AV.own (2 : Nat) n] [AB.cells [AV.sl (1 : Nat) (1 : Nat) (0 : Nat) (0 : Nat) l c, AV.v (Value.int IntKind.i64 (p2 + (1 : Int)))] tr, AB.row false m (1 : Nat) (rowB b) tb, AB.row true n (8 : Nat) (row8 h) (40 : TypeId)]) := by kernel_rfl

/-- A row, drawn: how long, its points, where the reader is. -/
def FrwO (rl : Nat → (Nat → Int) → Int → Int → Nat) (rf : Nat → (Nat → Int) → Int → Int → Nat → Nat → Int) (rp : Nat → (Nat → Int) → Int → Int → Int) : List AV → List AB → Option HR
  | [.ptr 0 0 0 0, .v (.int .i64 n)], [.cells [.sl 1 1 0 0 l c, .v (.int .i64 p)] tr, .row false m 1 g tb] => some { val := .own 2 (rl l (itB g) p n), out := [.cells [.sl 1 1 0 0 l c, .v (.int .i64 (rp l (itB g) p n))] tr, .row false m 1 g tb], new := [.row true (rl l (itB g) p n) 8 (row8 (rf l (itB g) p n)) 40], obl := [okB m g, decide (l ≤ m), decide (0 ≤ p), decide (p ≤ 2 ^ 27), decide (0 < m), inR n 0 24] }
  | _, _ => none
def gmRdJ (pk : Nat → (Nat → Int) → Int → Int → Int) (rl : Nat → (Nat → Int) → Int → Int → Nat) (rf : Nat → (Nat → Int) → Int → Int → Nat → Nat → Int) (rp : Nat → (Nat → Int) → Int → Int → Int) (q : Int) : Gam := ext (gmPJ pk 10 q) 108 (specK [] (FrwO rl rf rp))
end Go.Proofs.Ytoligfhcogligaa

/- DrawRowDesign: a list of points, whatever the bytes are. Conditions: bytes, at most 2^21. -/
namespace Go.Proofs.Ytoligfhcogligaa
open Go.RowKit
set_option maxRecDepth 100000

/-- Where the reader is after some points, and these. -/
noncomputable def rwP (l : Nat) (b : Nat → Int) (p : Int) : Nat → Int
  | 0 => p
  | i + 1 => cyP l b (rwP l b p i)
noncomputable def rwG (l : Nat) (b : Nat → Int) (p : Int) : Nat → Nat → Int := fun j => cyF l b (rwP l b p j)
theorem rwP_in (l : Nat) (b : Nat → Int) (p : Int) : ∀ i : Nat, p ≤ rwP l b p i ∧ rwP l b p i ≤ p + 12 * (i : Int)
  | 0 => by show p ≤ p ∧ p ≤ p + 12 * ((0 : Nat) : Int); omega
  | i + 1 => by
    have ih := rwP_in l b p i
    have := cyP_in l b (rwP l b p i)
    show p ≤ cyP l b (rwP l b p i) ∧ cyP l b (rwP l b p i) ≤ p + 12 * ((i + 1 : Nat) : Int)
    omega
theorem gmRw_ok : GamOk Try.prog (gmRw pkV cyF cyP) := ext_ok (ext_ok g0_ok ok_pick) ok_cyc
theorem rw_row (i : Nat) (o : Nat → Nat → Int) (G : Nat → Nat → Int) (ho : ∀ j, j < i → o j = G j) (x : Nat → Int) (hx : ∀ k, k < 8 → x k = G i k) (j : Nat) (hj : j < i + 1) : [i64 (bif Nat.blt j i then o j 0 else x 0), i64 (bif Nat.blt j i then o j 1 else x 1), i64 (bif Nat.blt j i then o j 2 else x 2), i64 (bif Nat.blt j i then o j 3 else x 3), i64 (bif Nat.blt j i then o j 4 else x 4), i64 (bif Nat.blt j i then o j 5 else x 5), i64 (bif Nat.blt j i then o j 6 else x 6), i64 (bif Nat.blt j i then o j 7 else x 7)] = row8 G j := by
  by_cases h : j < i
  · rw [blt_yes h]
    simp only [cond_true, ho j h]
  · have : j = i := by omega
    subst this
    rw [blt_no]
    simp only [cond_false, hx 0 (by omega), hx 1 (by omega), hx 2 (by omega), hx 3 (by omega), hx 4 (by omega), hx 5 (by omega), hx 6 (by omega), hx 7 (by omega)]
theorem sumRw (l : Nat) (c : Option Nat) (p : Int) (m : Nat) (b : Nat → Int) (tr tb : TypeId) (N : Nat) (hN : N ≤ 24) (hb : okB m (rowB b) = true) (hl : l ≤ m) (h0 : 0 ≤ p) (h1 : p ≤ 2 ^ 28) (hm : 0 < m) :
    SumOk Try.prog 2 (.block 0 (.loop (loopAt 0 fRw))) (atS 26 (lvRw .normal) 2 (stRw N 0) (hpRw l c p m b tr tb 0 fun _ _ => 0) (fun K => K .normal (mkT 0 26 [(0, .ptr 0 0 0 0), (5, .own 2 N)]) (hpRw l c (rwP l b p N) m b tr tb N (rwG l b p)))) := by
  refine for_at gmRw_ok (n := 100) (m := 2) (lv := lvRw) (fun i => stRw N i) (fun i => hpRw l c (rwP l b p i) m b tr tb i (bif Nat.beq i 0 then (fun _ _ => 0) else rwG l b p)) (fun _ => True) N (fun _ => noLam) (lv3_ris rfl rfl rfl) (Nat.le_refl _) trivial fun K Q hk i _ hi => ⟨noLam_ok _ _ _, ?_⟩
  have ho : ∀ j, j < i → (bif Nat.beq i 0 then (fun _ _ => (0 : Int)) else rwG l b p) j = rwG l b p j := by
    intro j hj
    cases i with
    | zero => exact absurd hj (Nat.not_lt_zero _)
    | succ i => rfl
  rw [rndRw]
  have hp := rwP_in l b p i
  refine good_cond (fun c1 => ?_) fun c1 => ?_
  · have c1 := of_decide_eq_true c1
    refine good_needs ?_ (good_out ⟨i + 1, ⟨rfl, by omega, trivial⟩, ?_, ?_⟩)
    · simp only [ob_cons, ob_nil, and_true, decide_eq_true_eq, Nat.ble_eq, hb, true_and]
      omega
    · rw [wr_in (x := (i : Int) + 1) (by omega)]
      rfl
    · refine .cons (ABeq.refl _) (.cons (ABeq.refl _) (.cons (ABeq.row fun q hq => ?_) .nil))
      exact rw_row i _ (rwG l b p) ho (cyF l b (rwP l b p i)) (fun _ _ => rfl) q hq
  · have c1 := of_decide_eq_false c1
    have : i = N := by omega
    subst this
    refine good_out ⟨hpRw l c (rwP l b p i) m b tr tb i (rwG l b p), .cons (ABeq.refl _) (.cons (ABeq.refl _) (.cons (ABeq.row fun j hj => row8_congr fun k _ => by rw [ho j hj]) .nil)), ?_⟩
    rw [if_pos rfl]
    exact hk
/-- How long the row is; its points. -/
noncomputable def rwN (l : Nat) (b : Nat → Int) (p n : Int) : Nat := if pkV l b (rwP l b p n.toNat) 30 = 0 then n.toNat + 1 else n.toNat
noncomputable def rwH (l : Nat) (b : Nat → Int) (p n : Int) : Nat → Nat → Int := fun j k => bif Nat.blt j n.toNat then rwG l b p j k else 0
noncomputable def rwE (l : Nat) (b : Nat → Int) (p n : Int) : Int := rwP l b p n.toNat + 1
theorem rwN_le (l : Nat) (b : Nat → Int) (p : Int) {n : Int} (h : n ≤ 24) : rwN l b p n ≤ 25 := by
  unfold rwN
  split <;> omega
theorem ok_rw : SpecOk Try.prog 108 (specK [] (FrwO rwN rwH rwE)) := by
  refine specK_ok gmRw_ok Try.func108 rfl fun avs H hr hF ho => ?_
  unfold FrwO at hF
  split at hF
  · rename_i n l c p tr m g tb
    cases hF
    simp only [ob_cons, decide_eq_true_eq] at ho
    obtain ⟨h1, h2, h3, h4, h5, h6, _⟩ := ho
    have h6 := inR_iff.1 h6
    obtain ⟨n, rfl⟩ := Int.eq_ofNat_of_zero_le h6.1
    have hb := okB_it h1
    have hp := rwP_in l (itB g) p n
    refine ⟨hpRd l c p m (itB g) tr tb, lamRw l c m (itB g) tr tb n p (rwP l (itB g) p n) (rwG l (itB g) p), 100, rd_sim h1, lam1 (by kernel_rfl) (sumRw l c p m (itB g) tr tb n (by omega) hb h2 h3 (by omega) h5), ?_⟩
    show GoodQ (execF Try.prog (gmRw pkV cyF cyP) (lamRw l c m (itB g) tr tb n p (rwP l (itB g) p n) (rwG l (itB g) p)) 100 fRw [.ptr 0 0 0 0, .v (i64 (n : Nat))] (hpRd l c p m (itB g) tr tb) (packK 2)) _
    rw [treeRw]
    simp only [itB_row]
    have eH : ∀ j, j < n → row8 (rwG l (itB g) p) j = row8 (rwH l (itB g) p n) j := fun j hj => row8_congr fun k _ => by
      unfold rwH
      rw [Int.toNat_natCast, blt_yes hj]
      rfl
    refine good_needs ?_ (good_cond (fun q => ?_) fun q => ?_)
    · simp only [ob_cons, ob_nil, and_true, decide_eq_true_eq, hb, true_and]
      exact ⟨chk_of ⟨rfl, .cons (ABeq.refl _) (.cons (ABeq.refl _) (.cons (ABeq.row fun j hj => absurd hj (Nat.not_lt_zero _)) .nil))⟩, h2, by omega, by omega, h5⟩
    · have eN : rwN l (itB g) p n = n + 1 := by unfold rwN; rw [Int.toNat_natCast, if_pos (beq_iff_eq.1 q)]
      refine good_needs (by simp only [ob_cons, ob_nil, and_true, Nat.ble_eq]; omega) (good_out ⟨by rw [eN], .cons (ABeq.refl _) (.cons (ABeq.row fun j hj => (okB_get h1 hj).1.symm) ?_)⟩)
      show Hsim _ [.row true (rwN l (itB g) p n) 8 (row8 (rwH l (itB g) p n)) 40]
      rw [eN]
      exact .cons (ABeq.row fun j hj => rfl) .nil
    · have eN : rwN l (itB g) p n = n := by unfold rwN; rw [Int.toNat_natCast, if_neg (beq_eq_false_iff_ne.1 q)]
      refine good_out ⟨by rw [eN], .cons (ABeq.refl _) (.cons (ABeq.row fun j hj => (okB_get h1 hj).1.symm) ?_)⟩
      show Hsim _ [.row true (rwN l (itB g) p n) 8 (row8 (rwH l (itB g) p n)) 40]
      rw [eN]
      exact .cons (ABeq.row eH) .nil
  · cases hF

def lnT (q : Int) : Int := if q = 0 then 1 else if q = 1 then 2 else if q = 2 then 3 else if q = 3 then 4 else if q = 4 then 6 else if q = 5 then 8 else if q = 6 then 2 else if q = 7 then 3 else if q = 8 then 4 else 12
def rzF : Nat → Nat → Int := fun j k => bif Nat.blt j 1 then (match k with | 0 => 1 | _ => 0) else 0
/-- A row, drawn from bytes: how long, its points. -/
noncomputable def bRdN (m : Nat) (b : Nat → Int) : Nat := if m = 0 then 2 else rwN (lnB m) b 1 (lnT (pkV (lnB m) b 0 10))
noncomputable def bRdF (m : Nat) (b : Nat → Int) : Nat → Nat → Int := if m = 0 then rzF else rwH (lnB m) b 1 (lnT (pkV (lnB m) b 0 10))
theorem lnT_in (q : Int) : 0 ≤ lnT q ∧ lnT q ≤ 24 := by
  unfold lnT
  repeat' split
  all_goals omega
theorem bRd_len (m : Nat) (b : Nat → Int) : bRdN m b ≤ 25 := by
  unfold bRdN
  split
  · omega
  · exact rwN_le _ _ _ (lnT_in _).2
def frC (n : Nat) (h : Nat → Nat → Int) : FR := { val := .own 0 n, new := [.row true n 8 (row8 h) 40] }
theorem gmRdJ_ok (q : Int) : GamOk Try.prog (gmRdJ pkV rwN rwH rwE q) := ext_ok (ext_ok g0_ok (ok_pickJ _ _)) ok_rw
end Go.Proofs.Ytoligfhcogligaa

/- l92Poly: a list of points, whatever the bytes are. Conditions: those of pick. -/
namespace Go.Proofs.Ytoligfhcogligaa
open Go.RowKit
set_option maxRecDepth 100000

noncomputable def pyG (l : Nat) (b : Nat → Int) (p : Int) : Nat → Nat → Int := fun j k => match k with
  | 0 => W (pkV l b (p + 2 * (j : Int)) 7 - 3)
  | 6 => W (pkV l b (p + 2 * (j : Int) + 1) 7 - 3)
  | _ => 0
theorem gmPk_ok' : GamOk Try.prog (gmPk pkV) := ext_ok g0_ok ok_pick
theorem sumPy (l : Nat) (c : Option Nat) (p : Int) (m : Nat) (b : Nat → Int) (tr tb : TypeId) (N : Nat) (hN : N ≤ 6) (hb : okB m (rowB b) = true) (hl : l ≤ m) (h0 : 0 ≤ p) (h1 : p ≤ 2 ^ 28) (hm : 0 < m) :
    ∀ cc, fPy.body = some cc → LamOk Try.prog 2 (lamPy l c m b tr tb N p (p + 2 * (N : Int)) (pyG l b p)) cc := by
  refine lam1 (c := loopAt 0 fPy) (by kernel_rfl) ?_
  have h := for_at (m0 := 2) (N := 66) (id := 0) (c := loopAt 0 fPy) (out := fun K => K .normal (mkT 0 66 [(0, .ptr 0 0 0 0), (6, .own 2 N)]) [.cells [.sl 1 1 0 0 l c, .v (i64 (p + 2 * (N : Int)))] tr, .row false m 1 (rowB b) tb, .row true N 8 (row8 (pyG l b p)) 40]) gmPk_ok' (n := 100) (m := 2) (lv := lvPy) (fun i => stPy N i) (fun i => [.cells [.sl 1 1 0 0 l c, .v (i64 (p + 2 * (i : Int)))] tr, .row false m 1 (rowB b) tb, .row true i 8 (row8 (pyG l b p)) 40]) (fun _ => True) N (fun _ => noLam) (lv3_ris rfl rfl rfl) (Nat.le_refl _) trivial fun K Q hk i _ hi => ⟨noLam_ok _ _ _, ?_⟩
  · rw [show p + 2 * ((0 : Nat) : Int) = p by omega] at h
    exact h
  rw [rndPy]
  refine good_cond (fun c1 => ?_) fun c1 => ?_
  · have c1 := of_decide_eq_true c1
    refine good_needs ?_ (good_out ⟨i + 1, ⟨rfl, by omega, trivial⟩, ?_, ?_⟩)
    · simp only [ob_cons, ob_nil, and_true, decide_eq_true_eq, Nat.ble_eq, hb, true_and]
      omega
    · rw [wr_in (x := (i : Int) + 1) (by omega)]
      rfl
    · refine .cons ?_ (.cons (ABeq.refl _) (.cons (ABeq.row fun q hq => ?_) .nil))
      · rw [show p + 2 * ((i + 1 : Nat) : Int) = p + 2 * (i : Int) + 1 + 1 by omega]
        exact ABeq.refl _
      · exact rw_row i _ (pyG l b p) (fun _ _ => rfl) (pyG l b p i) (fun _ _ => rfl) q hq
  · have c1 := of_decide_eq_false c1
    have : i = N := by omega
    subst this
    refine good_out ⟨_, Hsim.refl _, ?_⟩
    rw [if_pos rfl]
    exact hk
theorem gmPy_ok : GamOk Try.prog (gmPy pkV ehL ehP roK roT cyF cyP) := ext_ok (ext_ok (ext_ok gmPk_ok' ok_design2) ok_roS) ok_cyc

abbrev hpPy (l : Nat) (c : Option Nat) (p : Int) (m : Nat) (b : Nat → Int) (tr tb : TypeId) (n : Nat) (r : Nat → List Value) : List AB := [.cells [.sl 1 1 0 0 l c, .v (i64 p)] tr, .row false m 1 (rowB b) tb, .row true n 8 r 40]
/-- What follows the loop: it begins at q. -/
noncomputable def tailPy (l : Nat) (c : Option Nat) (q : Int) (m : Nat) (b : Nat → Int) (tr tb : TypeId) (n : Nat) (p1 p2 : Int) (h : Nat → Nat → Int) : Res :=
  needs [okB m (rowB b), decide (l ≤ m), decide (0 ≤ q), decide (q ≤ 1073741824), decide (0 < m), chk ([.ptr 0 0 0 0, .own 2 0, .v (i64 (W (1 + pkV l (itB (rowB b)) q 6))), .v (i64 0)] = stPy (n : Int) 0 ∧ Hsim (hpPy l c (q + 1) m b tr tb 0 fun _ => []) (hpPy l c p1 m b tr tb 0 (row8 h))), okB m (rowB b), decide (l ≤ m), decide (0 ≤ p2), decide (p2 ≤ 1073741824), decide (0 < m)]
    (cond (pkV l (itB (rowB b)) p2 24 == 0) (.out .ret [.own 2 0] (hpPy l c (p2 + 1) m b tr tb 0 fun _ => []))
    (cond (pkV l (itB (rowB b)) p2 24 == 1) (needs [decide (0 < (n : Int)), decide (0 < n)] (.out .ret [.own 2 n] (hpPy l c (p2 + 1) m b tr tb n fun q => [i64 (bif Nat.beq q 0 then h 0 0 else h q 0), i64 (bif Nat.beq q 0 then h 0 1 else h q 1), i64 (bif Nat.beq q 0 then h 0 2 else h q 2), i64 (bif Nat.beq q 0 then 101 else h q 3), i64 (bif Nat.beq q 0 then h 0 4 else h q 4), i64 (bif Nat.beq q 0 then h 0 5 else h q 5), i64 (bif Nat.beq q 0 then h 0 6 else h q 6), i64 (bif Nat.beq q 0 then h 0 7 else h q 7)])))
    (cond (pkV l (itB (rowB b)) p2 24 == 2) (needs [okB m (rowB b), decide (l ≤ m), decide (0 ≤ p2 + 1), decide (p2 + 1 ≤ 536870912), decide (0 < m), decide (0 < m), Nat.ble n n, Nat.ble (n + 1) 549755813888] (.out .ret [.own 2 (n + 1)] (hpPy l c (cyP l (itB (rowB b)) (p2 + 1)) m b tr tb (n + 1) fun q => [i64 (bif Nat.blt q n then h q 0 else cyF l (itB (rowB b)) (p2 + 1) 0), i64 (bif Nat.blt q n then h q 1 else cyF l (itB (rowB b)) (p2 + 1) 1), i64 (bif Nat.blt q n then h q 2 else cyF l (itB (rowB b)) (p2 + 1) 2), i64 (bif Nat.blt q n then h q 3 else cyF l (itB (rowB b)) (p2 + 1) 3), i64 (bif Nat.blt q n then h q 4 else cyF l (itB (rowB b)) (p2 + 1) 4), i64 (bif Nat.blt q n then h q 5 else cyF l (itB (rowB b)) (p2 + 1) 5), i64 (bif Nat.blt q n then h q 6 else cyF l (itB (rowB b)) (p2 + 1) 6), i64 (bif Nat.blt q n then h q 7 else cyF l (itB (rowB b)) (p2 + 1) 7)])))
      (.out .ret [.own 2 n] (hpPy l c (p2 + 1) m b tr tb n (row8 h))))))
theorem tail_ex (l : Nat) (b : Nat → Int) (q : Int) : ∃ (N n : Nat) (G : Nat → Nat → Int) (p' : Int), N ≤ 6 ∧ (q ≤ p' ∧ p' ≤ q + 60) ∧ n ≤ 24 ∧ ∀ (c : Option Nat) (m : Nat) (tr tb : TypeId), okB m (rowB b) = true → l ≤ m → 0 ≤ q → q ≤ 2 ^ 27 → 0 < m →
    GoodQ (tailPy l c q m b tr tb N (q + 1) (q + 1 + 2 * (N : Int)) (pyG l b (q + 1))) (fun _ vs He => vs = [.own 2 n] ∧ Hsim He (hpPy l c p' m b tr tb n (row8 G))) := by
  have a0 := pkV_nn l b q 6
  have a1 := pkV_lt l b q (n := 6) (by omega)
  obtain ⟨N, hN, hN6⟩ : ∃ N : Nat, (N : Int) = 1 + pkV l b q 6 ∧ N ≤ 6 := ⟨(1 + pkV l b q 6).toNat, by omega, by omega⟩
  have eN : W (1 + pkV l b q 6) = N := by rw [w64_in (by omega) (by omega)]; omega
  have ob : ∀ (c : Option Nat) (m : Nat) (tr tb : TypeId), okB m (rowB b) = true → l ≤ m → 0 ≤ q → q ≤ 2 ^ 27 → 0 < m → obls [okB m (rowB b), decide (l ≤ m), decide (0 ≤ q), decide (q ≤ 1073741824), decide (0 < m), chk ([AV.ptr 0 0 0 0, .own 2 0, .v (i64 (W (1 + pkV l (itB (rowB b)) q 6))), .v (i64 0)] = stPy (N : Int) 0 ∧ Hsim (hpPy l c (q + 1) m b tr tb 0 fun _ => []) (hpPy l c (q + 1) m b tr tb 0 (row8 (pyG l b (q + 1))))), okB m (rowB b), decide (l ≤ m), decide (0 ≤ q + 1 + 2 * (N : Int)), decide (q + 1 + 2 * (N : Int) ≤ 1073741824), decide (0 < m)] = true := fun c m tr tb hb hl h0 h1 hm => by
    simp only [ob_cons, ob_nil, and_true, decide_eq_true_eq, hb, true_and, itB_row, eN]
    refine ⟨hl, by omega, by omega, hm, chk_of ⟨rfl, .cons (ABeq.refl _) (.cons (ABeq.refl _) (.cons (ABeq.row fun j hj => absurd hj (Nat.not_lt_zero _)) .nil))⟩, hl, by omega, by omega, hm⟩
  by_cases d0 : pkV l b (q + 1 + 2 * (N : Int)) 24 = 0
  · refine ⟨N, 0, fun _ _ => 0, q + 1 + 2 * (N : Int) + 1, hN6, by omega, by omega, fun c m tr tb hb hl h0 h1 hm => ?_⟩
    exact good_needs (ob c m tr tb hb hl h0 h1 hm) (good_true (beq_iff_eq.2 d0) (good_out ⟨rfl, .cons (ABeq.refl _) (.cons (ABeq.refl _) (.cons (ABeq.row fun j hj => absurd hj (Nat.not_lt_zero _)) .nil))⟩))
  by_cases d1 : pkV l b (q + 1 + 2 * (N : Int)) 24 = 1
  · refine ⟨N, N, fun j k => bif Nat.beq j 0 then (bif Nat.beq k 3 then 101 else pyG l b (q + 1) 0 k) else pyG l b (q + 1) j k, q + 1 + 2 * (N : Int) + 1, hN6, by omega, by omega, fun c m tr tb hb hl h0 h1 hm => ?_⟩
    exact good_needs (ob c m tr tb hb hl h0 h1 hm) (good_false (beq_eq_false_iff_ne.2 d0) (good_true (beq_iff_eq.2 d1) (good_needs (by simp only [ob_cons, ob_nil, and_true, decide_eq_true_eq]; omega) (good_out ⟨rfl, Hsim.refl _⟩))))
  by_cases d2 : pkV l b (q + 1 + 2 * (N : Int)) 24 = 2
  · have hc := cyP_in l b (q + 1 + 2 * (N : Int) + 1)
    refine ⟨N, N + 1, fun j k => bif Nat.blt j N then pyG l b (q + 1) j k else cyF l b (q + 1 + 2 * (N : Int) + 1) k, cyP l b (q + 1 + 2 * (N : Int) + 1), hN6, by omega, by omega, fun c m tr tb hb hl h0 h1 hm => ?_⟩
    exact good_needs (ob c m tr tb hb hl h0 h1 hm) (good_false (beq_eq_false_iff_ne.2 d0) (good_false (beq_eq_false_iff_ne.2 d1) (good_true (beq_iff_eq.2 d2) (good_needs (by simp only [ob_cons, ob_nil, and_true, decide_eq_true_eq, hb, true_and, Nat.ble_eq]; omega) (good_out ⟨rfl, Hsim.refl _⟩)))))
  · refine ⟨N, N, pyG l b (q + 1), q + 1 + 2 * (N : Int) + 1, hN6, by omega, by omega, fun c m tr tb hb hl h0 h1 hm => ?_⟩
    exact good_needs (ob c m tr tb hb hl h0 h1 hm) (good_false (beq_eq_false_iff_ne.2 d0) (good_false (beq_eq_false_iff_ne.2 d1) (good_false (beq_eq_false_iff_ne.2 d2) (good_out ⟨rfl, Hsim.refl _⟩))))

theorem py_ex (l : Nat) (b : Nat → Int) (p : Int) : ∃ (n : Nat) (G : Nat → Nat → Int) (p' : Int), (p ≤ p' ∧ p' ≤ p + 200) ∧ n ≤ 24 ∧ ∀ (c : Option Nat) (m : Nat) (tr tb : TypeId), okB m (rowB b) = true → l ≤ m → 0 ≤ p → p ≤ 2 ^ 25 → 0 < m → ∃ Λ, (∀ cc, fPy.body = some cc → LamOk Try.prog 2 Λ cc) ∧
    GoodQ (execF Try.prog (gmPy pkV ehL ehP roK roT cyF cyP) Λ 100 fPy [.ptr 0 0 0 0] (hpRd l c p m b tr tb) (packK 2)) (fun _ vs He => vs = [.own 2 n] ∧ Hsim He [.cells [.sl 1 1 0 0 l c, .v (i64 p')] tr, .row false m 1 (rowB b) tb, .row true n 8 (row8 G) 40]) := by
  have q0 := pkV_nn l b p 6
  have q1 := pkV_lt l b p (n := 6) (by omega)
  have hd := ehP_in l b (p + 1)
  have hlen := ehL_len l b (p + 1)
  have ob0 : ∀ (m : Nat), okB m (rowB b) = true → l ≤ m → 0 ≤ p → p ≤ 2 ^ 25 → 0 < m → obls [okB m (rowB b), decide (l ≤ m), decide (0 ≤ p), decide (p ≤ 1073741824), decide (0 < m), decide (0 ≤ pkV l (itB (rowB b)) p 6), decide (pkV l (itB (rowB b)) p 6 < 6), decide (Int.toNat (pkV l (itB (rowB b)) p 6) < 6), okB m (rowB b), decide (l ≤ m), decide (0 ≤ p + 1), decide (p + 1 ≤ 67108864), decide (0 < m), decide (0 < m), Nat.ble (ehL l (itB (rowB b)) (p + 1)).length (ehL l (itB (rowB b)) (p + 1)).length, allW (ehL l (itB (rowB b)) (p + 1)).length (row9 (wfun (ehL l (itB (rowB b)) (p + 1)))), decide ((ehL l (itB (rowB b)) (p + 1)).length ≤ 274877906944)] = true := fun m hb hl h0 h1 hm => by
    simp only [ob_cons, ob_nil, and_true, decide_eq_true_eq, hb, true_and, itB_row, allW_row, Nat.ble_eq]
    refine ⟨?_, ?_, ?_, ?_, ?_, ?_, ?_, ?_, ?_, ?_, ?_, ?_, ?_, ?_⟩ <;> first | omega | exact hb | exact Nat.le_refl _ | exact decide_eq_true (by omega)
  generalize hx : (bif Nat.beq (Int.toNat (pkV l b p 6)) 0 then (3 : Int) else bif Nat.beq (Int.toNat (pkV l b p 6)) 1 then 4 else bif Nat.beq (Int.toNat (pkV l b p 6)) 2 then 6 else bif Nat.beq (Int.toNat (pkV l b p 6)) 3 then 8 else bif Nat.beq (Int.toNat (pkV l b p 6)) 4 then 12 else 24) = x
  have lam : ∀ (q : Int) (N : Nat), N ≤ 6 → p ≤ q → q ≤ p + 100 → ∀ (c : Option Nat) (m : Nat) (tr tb : TypeId), okB m (rowB b) = true → l ≤ m → 0 ≤ p → p ≤ 2 ^ 25 → 0 < m → ∀ cc, fPy.body = some cc → LamOk Try.prog 2 (lamPy l c m b tr tb N (q + 1) (q + 1 + 2 * (N : Int)) (pyG l b (q + 1))) cc :=
    fun q N hN h1 h2 c m tr tb hb hl h0 h3 hm => sumPy l c (q + 1) m b tr tb N hN hb hl (by omega) (by omega) hm
  have obE : ∀ (m : Nat), okB m (rowB b) = true → l ≤ m → 0 ≤ p → p ≤ 2 ^ 25 → 0 < m → obls [okB m (rowB b), decide (l ≤ m), decide (0 ≤ ehP l b (p + 1)), decide (ehP l b (p + 1) ≤ 1073741824), decide (0 < m)] = true := fun m hb hl h0 h1 hm => obP hb hl hm (by omega) (by omega)
  cases hr : roK (itW (row9 (wfun (ehL l b (p + 1))))) (ehL l b (p + 1)).length x with
  | true =>
    by_cases c2 : pkV l b (ehP l b (p + 1)) 2 = 0
    · refine ⟨_, cfun (roT (itW (row9 (wfun (ehL l b (p + 1))))) (ehL l b (p + 1)).length x), ehP l b (p + 1) + 1, by omega, roT_len (itW (row9 (wfun (ehL l b (p + 1))))) (ehL l b (p + 1)).length x, fun c m tr tb hb hl h0 h1 hm => ⟨_, lam p 0 (by omega) (by omega) (by omega) c m tr tb hb hl h0 h1 hm, ?_⟩⟩
      rw [treePy]
      simp only [itB_row]
      rw [hx]
      exact good_needs (ob0 m hb hl h0 h1 hm) (good_true hr (good_needs (obE m hb hl h0 h1 hm) (good_true (beq_iff_eq.2 c2) (good_out ⟨rfl, Hsim.refl _⟩))))
    · obtain ⟨N, n, G, p', h1, h2, h3, h4⟩ := tail_ex l b (ehP l b (p + 1) + 1)
      refine ⟨n, G, p', by omega, h3, fun c m tr tb hb hl h0 h1' hm => ⟨_, lam (ehP l b (p + 1) + 1) N h1 (by omega) (by omega) c m tr tb hb hl h0 h1' hm, ?_⟩⟩
      rw [treePy]
      simp only [itB_row]
      rw [hx]
      exact good_needs (ob0 m hb hl h0 h1' hm) (good_true hr (good_needs (obE m hb hl h0 h1' hm) (good_false (beq_eq_false_iff_ne.2 c2) (h4 c m tr tb hb hl (by omega) (by omega) hm))))
  | false =>
    obtain ⟨N, n, G, p', h1, h2, h3, h4⟩ := tail_ex l b (ehP l b (p + 1))
    refine ⟨n, G, p', by omega, h3, fun c m tr tb hb hl h0 h1' hm => ⟨_, lam (ehP l b (p + 1)) N h1 (by omega) (by omega) c m tr tb hb hl h0 h1' hm, ?_⟩⟩
    rw [treePy]
    simp only [itB_row]
    rw [hx]
    exact good_needs (ob0 m hb hl h0 h1' hm) (good_false hr (h4 c m tr tb hb hl (by omega) (by omega) hm))
noncomputable def plN (l : Nat) (b : Nat → Int) (p : Int) : Nat := (py_ex l b p).choose
noncomputable def plG (l : Nat) (b : Nat → Int) (p : Int) : Nat → Nat → Int := (py_ex l b p).choose_spec.choose
noncomputable def plP (l : Nat) (b : Nat → Int) (p : Int) : Int := (py_ex l b p).choose_spec.choose_spec.choose
theorem plP_in (l : Nat) (b : Nat → Int) (p : Int) : p ≤ plP l b p ∧ plP l b p ≤ p + 200 := (py_ex l b p).choose_spec.choose_spec.choose_spec.1
theorem plN_le (l : Nat) (b : Nat → Int) (p : Int) : plN l b p ≤ 24 := (py_ex l b p).choose_spec.choose_spec.choose_spec.2.1
/-- A polygon, drawn: how many corners, these, where the reader is. -/
def FpyO (nn : Nat → (Nat → Int) → Int → Nat) (gg : Nat → (Nat → Int) → Int → Nat → Nat → Int) (pp : Nat → (Nat → Int) → Int → Int) : List AV → List AB → Option HR
  | [.ptr 0 0 0 0], [.cells [.sl 1 1 0 0 l c, .v (.int .i64 p)] tr, .row false m 1 g tb] => some { val := .own 2 (nn l (itB g) p), out := [.cells [.sl 1 1 0 0 l c, .v (.int .i64 (pp l (itB g) p))] tr, .row false m 1 g tb], new := [.row true (nn l (itB g) p) 8 (row8 (gg l (itB g) p)) 40], obl := [okB m g, decide (l ≤ m), decide (0 ≤ p), decide (p ≤ 2 ^ 25), decide (0 < m)] }
  | _, _ => none
theorem ok_py : SpecOk Try.prog 40 (specK [] (FpyO plN plG plP)) := by
  refine specK_ok gmPy_ok Try.func40 rfl fun avs H hr hF ho => ?_
  unfold FpyO at hF
  split at hF
  · rename_i l c p tr m g tb
    cases hF
    simp only [ob_cons, decide_eq_true_eq] at ho
    obtain ⟨h1, h2, h3, h4, h5, _⟩ := ho
    obtain ⟨Λ, e1, e2⟩ := (py_ex l (itB g) p).choose_spec.choose_spec.choose_spec.2.2 c m tr tb (okB_it h1) h2 h3 h4 h5
    refine ⟨hpRd l c p m (itB g) tr tb, Λ, 100, rd_sim h1, e1, ⟨res_mono (fun e vs He hq => ?_) e2.out⟩⟩
    refine ⟨hq.1, hq.2.trans' (.cons (ABeq.refl _) (.cons (ABeq.row fun j hj => (okB_get h1 hj).1.symm) (Hsim.refl _)))⟩
  · cases hF

end Go.Proofs.Ytoligfhcogligaa

/- Polygons drawn from bytes: tables, what is drawn. No conditions. -/
namespace Go.Proofs.Ytoligfhcogligaa
open Go.RowKit
set_option maxRecDepth 100000

def gmDrP (nn : Nat → (Nat → Int) → Int → Nat) (gg : Nat → (Nat → Int) → Int → Nat → Nat → Int) (pp : Nat → (Nat → Int) → Int → Int) : Gam := ext g0 40 (specK [] (FpyO nn gg pp))
theorem gmDrP_ok : GamOk Try.prog (gmDrP plN plG plP) := ext_ok g0_ok ok_py
abbrev stPyN (i : Nat) : List AV := [.ptr 0 0 0 0, .own 1 i, .v (i64 1), .v (i64 i)]
abbrev hpPyN (q : Option Addr) (c : Nat) (p : Int) (tr : TypeId) (h : Nat → Nat → Int) (i : Nat) : List AB := [.cells [.v (.slice q 0 c), .v (i64 p)] tr, .row true i 8 (row8 h) 40]
theorem rndPyN (q : Option Addr) (c : Nat) (p : Int) (tr : TypeId) (h : Nat → Nat → Int) (i : Nat) : execC Try.prog gmPk0 100 noLam (loopAt 0 fPy) (mkT 0 66 ((lvPy .normal).zip (stPyN i))) (hpPyN q c p tr h i) (leafV 66 lvPy 1)
    = bif decide ((↑i : Int) < (1 : Int)) then needs [decide ((0 : Int) ≤ p), decide (p ≤ (1073741824 : Int)), decide ((0 : Int) ≤ p + (1 : Int)), decide (p + (1 : Int) ≤ (1073741824 : Int)), Nat.ble i i, Nat.ble (i + (1 : Nat)) (549755813888 : Nat)] (Res.out Ex.normal [AV.ptr (0 : Nat) (0 : Nat) (0 : Nat) (0 : Nat), AV.own (1 : Nat) (i + (1 : Nat)), AV.v (Value.int IntKind.i64 (1 : Int)), AV.v (Value.int IntKind.i64 (IntKind.wrap IntKind.i64 ((↑i : Int) + (1 : Int))))] [AB.cells [AV.v (Value.slice q (0 : Nat) c), AV.v (Value.int IntKind.i64 (p + (1 : Int) + (1 : Int)))] tr, AB.row true (i + (1 : Nat)) (8 : Nat) (fun q ↦ [Value.int IntKind.i64 (bif Nat.blt q i then h q (0 : Nat) else (-3 : Int)), Value.int IntKind.i64 (bif Nat.blt q i then h q (1 : Nat) else (0 : Int)), Value.int IntKind.i64 (bif Nat.blt q i then h q (2 : Nat) else (0 : Int)), Value.int IntKind.i64 (bif Nat.blt q i then h q (3 : Nat) else (0 : Int)), Value.int IntKind.i64 (bif Nat.blt q i then h q (4 : Nat) else (0 : Int)), Value.int IntKind.i64 (bif Nat.blt q i then h q (5 : Nat) else (0 : Int)), Value.int IntKind.i64 (bif Nat.blt q i then h q (6 : Nat) else (-3 : Int)), Value.int IntKind.i64 (bif Nat.blt q i then h q (7 : Nat) else (0 : Int))]) (40 : Nat)]) else Res.out (Ex.exit (0 : Nat)) [AV.ptr (0 : Nat) (0 : Nat) (0 : Nat) (0 : Nat), AV.own (1 : Nat) i] [AB.cells [AV.v (Value.slice q (0 : Nat) c), AV.v (Value.int IntKind.i64 p)] tr, AB.row true i (8 : Nat) (row8 h) (40 : TypeId)] := by kernel_rfl

noncomputable abbrev lamPyN (q : Option Addr) (c : Nat) (tr : TypeId) (h : Nat → Nat → Int) : Nat → Option Sum := oneL 0 (atS 66 (lvPy .normal) 1 (stPyN 0) (hpPyN q c 5 tr h 0) (fun K => K .normal (mkT 0 66 [(0, .ptr 0 0 0 0), (6, .own 1 1)]) (hpPyN q c 7 tr h 1)))
theorem treePyN (q : Option Addr) (c : Nat) (tr : TypeId) (rk : (Nat → Nat → Int) → Nat → Int → Bool) (rt : (Nat → Nat → Int) → Nat → Int → List Cy) (h : Nat → Nat → Int) : execF Try.prog (ext gmPk0 87 (specR md_wv (FroS rk rt))) (lamPyN q c tr h) 100 fPy [.ptr 0 0 0 0] [.cells [.v (.slice q 0 c), .v (i64 0)] tr] (packK 1)
    = bif rk (itW fun _ ↦ [Value.int IntKind.i64 (1001 : Int), Value.int IntKind.i64 (0 : Int), Value.int IntKind.i64 (0 : Int), Value.int IntKind.i64 (0 : Int), Value.int IntKind.i64 (0 : Int), Value.int IntKind.i64 (0 : Int), Value.int IntKind.i64 (0 : Int), Value.int IntKind.i64 (0 : Int), Value.int IntKind.i64 (0 : Int)]) (1 : Nat) (3 : Int) then Res.out Ex.ret [AV.own (1 : Nat) (List.length (rt (itW fun _ ↦ [Value.int IntKind.i64 (1001 : Int), Value.int IntKind.i64 (0 : Int), Value.int IntKind.i64 (0 : Int), Value.int IntKind.i64 (0 : Int), Value.int IntKind.i64 (0 : Int), Value.int IntKind.i64 (0 : Int), Value.int IntKind.i64 (0 : Int), Value.int IntKind.i64 (0 : Int), Value.int IntKind.i64 (0 : Int)]) (1 : Nat) (3 : Int)))] [AB.cells [AV.v (Value.slice q (0 : Nat) c), AV.v (Value.int IntKind.i64 (5 : Int))] tr, AB.row true (List.length (rt (itW fun _ ↦ [Value.int IntKind.i64 (1001 : Int), Value.int IntKind.i64 (0 : Int), Value.int IntKind.i64 (0 : Int), Value.int IntKind.i64 (0 : Int), Value.int IntKind.i64 (0 : Int), Value.int IntKind.i64 (0 : Int), Value.int IntKind.i64 (0 : Int), Value.int IntKind.i64 (0 : Int), Value.int IntKind.i64 (0 : Int)]) (1 : Nat) (3 : Int))) (8 : Nat) (row8 (cfun (rt (itW fun _ ↦ [Value.int IntKind.i64 (1001 : Int), Value.int IntKind.i64 (0 : Int), Value.int IntKind.i64 (0 : Int), Value.int IntKind.i64 (0 : Int), Value.int IntKind.i64 (0 : Int), Value.int IntKind.i64 (0 : Int), Value.int IntKind.i64 (0 : Int), Value.int IntKind.i64 (0 : Int), Value.int IntKind.i64 (0 : Int)]) (1 : Nat) (3 : Int)))) (40 : TypeId)] else needs [chk ([AV.ptr (0 : Nat) (0 : Nat) (0 : Nat) (0 : Nat), AV.own (1 : Nat) (0 : Nat), AV.v (Value.int IntKind.i64 (1 : Int)), AV.v (Value.int IntKind.i64 (0 : Int))] = stPyN (0 : Nat) ∧ Hsim [AB.cells [AV.v (Value.slice q (0 : Nat) c), AV.v (Value.int IntKind.i64 (5 : Int))] tr, AB.row true (0 : Nat) (8 : Nat) (fun _ ↦ []) (40 : Nat)] (hpPyN q c (5 : Int) tr h (0 : Nat)))] (Res.out Ex.ret [AV.own (1 : Nat) (0 : Nat)] [AB.cells [AV.v (Value.slice q (0 : Nat) c), AV.v (Value.int IntKind.i64 (8 : Int))] tr, AB.row true (0 : Nat) (8 : Nat) (fun _ ↦ []) (40 : Nat)]) := by kernel_rfl

def nonH : Nat → Nat → Int := fun _ k => match k with
  | 0 => -3
  | 6 => -3
  | _ => 0
theorem sumPyN (q : Option Addr) (c : Nat) (tr : TypeId) : ∀ cc, fPy.body = some cc → LamOk Try.prog 1 (lamPyN q c tr nonH) cc := by
  refine lam1 (c := loopAt 0 fPy) (by kernel_rfl) ?_
  refine for_at gmPk0_ok (n := 100) (m := 1) (lv := lvPy) (fun i => stPyN i) (fun i => hpPyN q c (5 + 2 * (i : Int)) tr nonH i) (fun _ => True) 1 (fun _ => noLam) (lv3_ris rfl rfl rfl) (Nat.le_refl _) trivial fun K Q hk i _ hi => ⟨noLam_ok _ _ _, ?_⟩
  rw [rndPyN]
  refine good_cond (fun c1 => ?_) fun c1 => ?_
  · have c1 := of_decide_eq_true c1
    refine good_needs ?_ (good_out ⟨i + 1, ⟨rfl, by omega, trivial⟩, ?_, ?_⟩)
    · simp only [ob_cons, ob_nil, and_true, decide_eq_true_eq, Nat.ble_eq]
      omega
    · rw [wr_in (x := (i : Int) + 1) (by omega)]
      rfl
    · refine .cons ?_ (.cons (ABeq.row fun q hq => ?_) .nil)
      · rw [show 5 + 2 * ((i + 1 : Nat) : Int) = 5 + 2 * (i : Int) + 1 + 1 by omega]
        exact ABeq.refl _
      · exact rw_row i _ nonH (fun _ _ => rfl) (nonH i) (fun _ _ => rfl) q hq
  · have c1 := of_decide_eq_false c1
    have : i = 1 := by omega
    subst this
    refine good_out ⟨_, Hsim.refl _, ?_⟩
    rw [if_pos rfl]
    exact hk
theorem nonK : roK (itW fun _ => [i64 1001, i64 0, i64 0, i64 0, i64 0, i64 0, i64 0, i64 0, i64 0]) 1 3 = false := by decide +kernel
/-- Where there are no bytes: a list of no points. -/
def FpyN : List AV → List AB → Option HR
  | [.ptr 0 0 0 0], [.cells [.v (.slice q 0 c), .v (.int .i64 0)] tr] => some { val := .own 1 0, out := [.cells [.v (.slice q 0 c), .v (.int .i64 8)] tr], new := [.row true 0 8 (row8 fun _ _ => 0) 40], obl := [] }
  | _, _ => none
theorem ok_pyN : SpecOk Try.prog 40 (specK [] FpyN) := by
  refine specK_ok (ext_ok gmPk0_ok ok_roS) Try.func40 rfl fun avs H hr hF ho => ?_
  unfold FpyN at hF
  split at hF
  · rename_i q c tr
    cases hF
    refine ⟨[.cells [.v (.slice q 0 c), .v (i64 0)] tr], lamPyN q c tr nonH, 100, Hsim.refl _, sumPyN q c tr, ?_⟩
    rw [show execF Try.prog (ext gmPk0 87 (specR md_wv (FroS roK roT))) (lamPyN q c tr nonH) 100 fPy [.ptr 0 0 0 0] [.cells [.v (.slice q 0 c), .v (i64 0)] tr] (packK [AB.cells [AV.v (.slice q 0 c), .v (i64 0)] tr].length) = _ from treePyN q c tr roK roT nonH]
    refine good_false nonK (good_needs ?_ (good_out ⟨rfl, ?_⟩))
    · rw [ob_cons]
      exact ⟨chk_of ⟨rfl, .cons (ABeq.refl _) (.cons (ABeq.row fun j hj => absurd hj (Nat.not_lt_zero _)) .nil)⟩, rfl⟩
    · exact .cons (ABeq.refl _) (.cons (ABeq.row fun j hj => absurd hj (Nat.not_lt_zero _)) .nil)
  · cases hF
def gmDrP0 : Gam := ext gmPk0 40 (specK [] FpyN)
theorem gmDrP0_ok : GamOk Try.prog gmDrP0 := ext_ok gmPk0_ok ok_pyN
/-- A polygon, drawn from bytes. -/
noncomputable def bPN (m : Nat) (b : Nat → Int) : Nat := if m = 0 then 0 else plN (lnB m) b 0
noncomputable def bPG (m : Nat) (b : Nat → Int) : Nat → Nat → Int := if m = 0 then fun _ _ => 0 else plG (lnB m) b 0
theorem bPN_le (m : Nat) (b : Nat → Int) : bPN m b ≤ 24 := by
  unfold bPN
  split
  · omega
  · exact plN_le _ _ _

end Go.Proofs.Ytoligfhcogligaa

/- The abstract machine at the small functions on surds. No conditions. -/
namespace Go.Proofs.Ytoligfhcogligaa
open Go.RowKit
set_option maxRecDepth 100000

def f_scaled : List Value → Option (Value × List Bool)
  | [.agg ⟨[.int .i64 a0, .int .i64 a1, .int .i64 a2, .int .i64 a3, .int .i64 a4, .int .i64 a5, .int .i64 a6, .int .i64 a7]⟩, .int .i64 n] => some (cyv (scaledF (v8 a0 a1 a2 a3 a4 a5 a6 a7) n), [])
  | _ => none

theorem ok_scaled : SpecOk Try.prog 103 (specV f_scaled) := by
  refine mkV (n := 100) gm_l2Mirror_ok Try.func103 rfl fun vs x ob hF ho => ?_
  unfold f_scaled at hF
  split at hF
  · rename_i a0 a1 a2 a3 a4 a5 a6 a7 n
    simp only [Option.some.injEq, Prod.mk.injEq] at hF
    obtain ⟨rfl, rfl⟩ := hF
    exact one (by kernel_rfl)
  · cases hF

def gm_scaled : Gam := ext gm_l2Mirror 103 (specV f_scaled)
theorem gm_scaled_ok : GamOk Try.prog gm_scaled := ext_ok gm_l2Mirror_ok ok_scaled

def f_minus : List Value → Option (Value × List Bool)
  | [.agg ⟨[.int .i64 a0, .int .i64 a1, .int .i64 a2, .int .i64 a3, .int .i64 a4, .int .i64 a5, .int .i64 a6, .int .i64 a7]⟩, .agg ⟨[.int .i64 b0, .int .i64 b1, .int .i64 b2, .int .i64 b3, .int .i64 b4, .int .i64 b5, .int .i64 b6, .int .i64 b7]⟩] => some (cyv (plusF (v8 a0 a1 a2 a3 a4 a5 a6 a7) (scaledF (v8 b0 b1 b2 b3 b4 b5 b6 b7) (-1))), [])
  | _ => none

theorem ok_minus : SpecOk Try.prog 72 (specV f_minus) := by
  refine mkV (n := 100) gm_scaled_ok Try.func72 rfl fun vs x ob hF ho => ?_
  unfold f_minus at hF
  split at hF
  · rename_i a0 a1 a2 a3 a4 a5 a6 a7 b0 b1 b2 b3 b4 b5 b6 b7
    simp only [Option.some.injEq, Prod.mk.injEq] at hF
    obtain ⟨rfl, rfl⟩ := hF
    exact one (by kernel_rfl)
  · cases hF

def gm_minus : Gam := ext gm_scaled 72 (specV f_minus)
theorem gm_minus_ok : GamOk Try.prog gm_minus := ext_ok gm_scaled_ok ok_minus

theorem ok_l8Small : SpecOk Try.prog 67 (specV f_small) := by
  refine mkV (n := 100) gm_minus_ok Try.func67 rfl fun vs x ob hF ho => ?_
  unfold f_small at hF
  split at hF
  · rename_i a0 a1 a2 a3 a4 a5 a6 a7 m
    simp only [Option.some.injEq, Prod.mk.injEq] at hF
    obtain ⟨rfl, rfl⟩ := hF
    have e : execF Try.prog gm_minus noLam 100 Try.f67 ([.agg ⟨[.int .i64 a0, .int .i64 a1, .int .i64 a2, .int .i64 a3, .int .i64 a4, .int .i64 a5, .int .i64 a6, .int .i64 a7]⟩, .int .i64 m].map .v) [] valK = cond (!inR ((v8 a0 a1 a2 a3 a4 a5 a6 a7) 0) (W (0 - m)) m) (rv (.bool false)) (cond (!inR ((v8 a0 a1 a2 a3 a4 a5 a6 a7) 1) (W (0 - m)) m) (rv (.bool false)) (cond (!inR ((v8 a0 a1 a2 a3 a4 a5 a6 a7) 2) (W (0 - m)) m) (rv (.bool false)) (cond (!inR ((v8 a0 a1 a2 a3 a4 a5 a6 a7) 3) (W (0 - m)) m) (rv (.bool false)) (cond (!inR ((v8 a0 a1 a2 a3 a4 a5 a6 a7) 4) (W (0 - m)) m) (rv (.bool false)) (cond (!inR ((v8 a0 a1 a2 a3 a4 a5 a6 a7) 5) (W (0 - m)) m) (rv (.bool false)) (cond (!inR ((v8 a0 a1 a2 a3 a4 a5 a6 a7) 6) (W (0 - m)) m) (rv (.bool false)) (cond (!inR ((v8 a0 a1 a2 a3 a4 a5 a6 a7) 7) (W (0 - m)) m) (rv (.bool false)) (rv (.bool true))))))))) := by kernel_rfl
    rw [e]
    exact gives_of (by simp only [outV_cond, outV_rv, smallF, v8, cond_some, cond_bool])
  · cases hF

def gm_l8Small : Gam := ext gm_minus 67 (specV f_small)
theorem gm_l8Small_ok : GamOk Try.prog gm_l8Small := ext_ok gm_minus_ok ok_l8Small

def f_splus : List Value → Option (Value × List Bool)
  | [.agg ⟨[.int .i64 s0, .int .i64 s1, .int .i64 s2, .int .i64 s3]⟩, .agg ⟨[.int .i64 t0, .int .i64 t1, .int .i64 t2, .int .i64 t3]⟩] => some (sdv (fun k => W ((v4 s0 s1 s2 s3) k + (v4 t0 t1 t2 t3) k)), [])
  | _ => none

theorem ok_splus : SpecOk Try.prog 58 (specV f_splus) := by
  refine mkV (n := 100) gm_l8Small_ok Try.func58 rfl fun vs x ob hF ho => ?_
  unfold f_splus at hF
  split at hF
  · rename_i s0 s1 s2 s3 t0 t1 t2 t3
    simp only [Option.some.injEq, Prod.mk.injEq] at hF
    obtain ⟨rfl, rfl⟩ := hF
    exact one (by kernel_rfl)
  · cases hF

def gm_splus : Gam := ext gm_l8Small 58 (specV f_splus)
theorem gm_splus_ok : GamOk Try.prog gm_splus := ext_ok gm_l8Small_ok ok_splus

def f_sscaled : List Value → Option (Value × List Bool)
  | [.agg ⟨[.int .i64 s0, .int .i64 s1, .int .i64 s2, .int .i64 s3]⟩, .int .i64 n] => some (sdv (fun k => W (n * (v4 s0 s1 s2 s3) k)), [])
  | _ => none

theorem ok_sscaled : SpecOk Try.prog 106 (specV f_sscaled) := by
  refine mkV (n := 100) gm_splus_ok Try.func106 rfl fun vs x ob hF ho => ?_
  unfold f_sscaled at hF
  split at hF
  · rename_i s0 s1 s2 s3 n
    simp only [Option.some.injEq, Prod.mk.injEq] at hF
    obtain ⟨rfl, rfl⟩ := hF
    exact one (by kernel_rfl)
  · cases hF

def gm_sscaled : Gam := ext gm_splus 106 (specV f_sscaled)
theorem gm_sscaled_ok : GamOk Try.prog gm_sscaled := ext_ok gm_splus_ok ok_sscaled

def f_coslo : List Value → Option (Value × List Bool)
  | [.int .i64 n] => some (sdv (cosT n.toNat), [decide (0 ≤ n), decide (n ≤ (12 : Nat))])
  | _ => none

theorem ok_coslo : SpecOk Try.prog 104 (specV f_coslo) := by
  refine mkV (n := 100) gm_sscaled_ok Try.func104 rfl fun vs x ob hF ho => ?_
  unfold f_coslo at hF
  split at hF
  · rename_i n
    simp only [Option.some.injEq, Prod.mk.injEq] at hF
    obtain ⟨rfl, rfl⟩ := hF
    obtain ⟨h0, h1⟩ := obl2 ho
    have h0 := of_decide_eq_true h0
    have h1 := of_decide_eq_true h1
    obtain ⟨k, rfl⟩ := Int.eq_ofNat_of_zero_le h0
    have hc : k = 0 ∨ k = 1 ∨ k = 2 ∨ k = 3 ∨ k = 4 ∨ k = 5 ∨ k = 6 ∨ k = 7 ∨ k = 8 ∨ k = 9 ∨ k = 10 ∨ k = 11 ∨ k = 12 := by omega
    clear ho h0 h1
    rcases hc with rfl | rfl | rfl | rfl | rfl | rfl | rfl | rfl | rfl | rfl | rfl | rfl | rfl
    · exact one (by kernel_rfl)
    · exact one (by kernel_rfl)
    · exact one (by kernel_rfl)
    · exact one (by kernel_rfl)
    · exact one (by kernel_rfl)
    · exact one (by kernel_rfl)
    · exact one (by kernel_rfl)
    · exact one (by kernel_rfl)
    · exact one (by kernel_rfl)
    · exact one (by kernel_rfl)
    · exact one (by kernel_rfl)
    · exact one (by kernel_rfl)
    · exact one (by kernel_rfl)
  · cases hF

def gm_coslo : Gam := ext gm_sscaled 104 (specV f_coslo)
theorem gm_coslo_ok : GamOk Try.prog gm_coslo := ext_ok gm_sscaled_ok ok_coslo

def f_cosine : List Value → Option (Value × List Bool)
  | [.int .i64 n] => some (sdv (cosT n.toNat), [decide (0 ≤ n), decide (n ≤ (23 : Nat))])
  | _ => none

theorem ok_cosine : SpecOk Try.prog 104 (specV f_cosine) := by
  refine mkV (n := 100) gm_coslo_ok Try.func104 rfl fun vs x ob hF ho => ?_
  unfold f_cosine at hF
  split at hF
  · rename_i n
    simp only [Option.some.injEq, Prod.mk.injEq] at hF
    obtain ⟨rfl, rfl⟩ := hF
    obtain ⟨h0, h1⟩ := obl2 ho
    have h0 := of_decide_eq_true h0
    have h1 := of_decide_eq_true h1
    obtain ⟨k, rfl⟩ := Int.eq_ofNat_of_zero_le h0
    have hc : k = 0 ∨ k = 1 ∨ k = 2 ∨ k = 3 ∨ k = 4 ∨ k = 5 ∨ k = 6 ∨ k = 7 ∨ k = 8 ∨ k = 9 ∨ k = 10 ∨ k = 11 ∨ k = 12 ∨ k = 13 ∨ k = 14 ∨ k = 15 ∨ k = 16 ∨ k = 17 ∨ k = 18 ∨ k = 19 ∨ k = 20 ∨ k = 21 ∨ k = 22 ∨ k = 23 := by omega
    clear ho h0 h1
    rcases hc with rfl | rfl | rfl | rfl | rfl | rfl | rfl | rfl | rfl | rfl | rfl | rfl | rfl | rfl | rfl | rfl | rfl | rfl | rfl | rfl | rfl | rfl | rfl | rfl
    · exact one (by kernel_rfl)
    · exact one (by kernel_rfl)
    · exact one (by kernel_rfl)
    · exact one (by kernel_rfl)
    · exact one (by kernel_rfl)
    · exact one (by kernel_rfl)
    · exact one (by kernel_rfl)
    · exact one (by kernel_rfl)
    · exact one (by kernel_rfl)
    · exact one (by kernel_rfl)
    · exact one (by kernel_rfl)
    · exact one (by kernel_rfl)
    · exact one (by kernel_rfl)
    · exact one (by kernel_rfl)
    · exact one (by kernel_rfl)
    · exact one (by kernel_rfl)
    · exact one (by kernel_rfl)
    · exact one (by kernel_rfl)
    · exact one (by kernel_rfl)
    · exact one (by kernel_rfl)
    · exact one (by kernel_rfl)
    · exact one (by kernel_rfl)
    · exact one (by kernel_rfl)
    · exact one (by kernel_rfl)
  · cases hF

def gm_cosine : Gam := ext gm_coslo 104 (specV f_cosine)
theorem gm_cosine_ok : GamOk Try.prog gm_cosine := ext_ok gm_coslo_ok ok_cosine

def f_im : List Value → Option (Value × List Bool)
  | [.agg ⟨[.int .i64 a0, .int .i64 a1, .int .i64 a2, .int .i64 a3, .int .i64 a4, .int .i64 a5, .int .i64 a6, .int .i64 a7]⟩] => some (sdv (imF (v8 a0 a1 a2 a3 a4 a5 a6 a7)), [])
  | _ => none

theorem ok_im : SpecOk Try.prog 73 (specV f_im) := by
  refine mkV (n := 100) gm_cosine_ok Try.func73 rfl fun vs x ob hF ho => ?_
  unfold f_im at hF
  split at hF
  · rename_i a0 a1 a2 a3 a4 a5 a6 a7
    simp only [Option.some.injEq, Prod.mk.injEq] at hF
    obtain ⟨rfl, rfl⟩ := hF
    have e : getV (execF Try.prog gm_cosine noLam 100 Try.f73 ([.agg ⟨[.int .i64 a0, .int .i64 a1, .int .i64 a2, .int .i64 a3, .int .i64 a4, .int .i64 a5, .int .i64 a6, .int .i64 a7]⟩].map .v) [] valK) = some (sdv (imO (v8 a0 a1 a2 a3 a4 a5 a6 a7) 8)) := by kernel_rfl
    rw [sdv_congr (imO_eq (v8 a0 a1 a2 a3 a4 a5 a6 a7))] at e
    exact one e
  · cases hF

def gm_im : Gam := ext gm_cosine 73 (specV f_im)
theorem gm_im_ok : GamOk Try.prog gm_im := ext_ok gm_cosine_ok ok_im

def f_re : List Value → Option (Value × List Bool)
  | [.agg ⟨[.int .i64 a0, .int .i64 a1, .int .i64 a2, .int .i64 a3, .int .i64 a4, .int .i64 a5, .int .i64 a6, .int .i64 a7]⟩] => some (sdv (reF (v8 a0 a1 a2 a3 a4 a5 a6 a7)), [])
  | _ => none

theorem ok_re : SpecOk Try.prog 94 (specV f_re) := by
  refine mkV (n := 100) gm_im_ok Try.func94 rfl fun vs x ob hF ho => ?_
  unfold f_re at hF
  split at hF
  · rename_i a0 a1 a2 a3 a4 a5 a6 a7
    simp only [Option.some.injEq, Prod.mk.injEq] at hF
    obtain ⟨rfl, rfl⟩ := hF
    have e : getV (execF Try.prog gm_im noLam 100 Try.f94 ([.agg ⟨[.int .i64 a0, .int .i64 a1, .int .i64 a2, .int .i64 a3, .int .i64 a4, .int .i64 a5, .int .i64 a6, .int .i64 a7]⟩].map .v) [] valK) = some (sdv (reO (v8 a0 a1 a2 a3 a4 a5 a6 a7) 8)) := by kernel_rfl
    rw [sdv_congr (reO_eq (v8 a0 a1 a2 a3 a4 a5 a6 a7))] at e
    exact one e
  · cases hF

def gm_re : Gam := ext gm_im 94 (specV f_re)
theorem gm_re_ok : GamOk Try.prog gm_re := ext_ok gm_im_ok ok_re

def f_cross : List Value → Option (Value × List Bool)
  | [.agg ⟨[.int .i64 a0, .int .i64 a1, .int .i64 a2, .int .i64 a3, .int .i64 a4, .int .i64 a5, .int .i64 a6, .int .i64 a7]⟩, .agg ⟨[.int .i64 b0, .int .i64 b1, .int .i64 b2, .int .i64 b3, .int .i64 b4, .int .i64 b5, .int .i64 b6, .int .i64 b7]⟩] => some (sdv (imF (mulF (mirF (v8 a0 a1 a2 a3 a4 a5 a6 a7)) (v8 b0 b1 b2 b3 b4 b5 b6 b7))), [])
  | _ => none

theorem ok_cross : SpecOk Try.prog 59 (specV f_cross) := by
  refine mkV (n := 100) gm_re_ok Try.func59 rfl fun vs x ob hF ho => ?_
  unfold f_cross at hF
  split at hF
  · rename_i a0 a1 a2 a3 a4 a5 a6 a7 b0 b1 b2 b3 b4 b5 b6 b7
    simp only [Option.some.injEq, Prod.mk.injEq] at hF
    obtain ⟨rfl, rfl⟩ := hF
    exact one (by kernel_rfl)
  · cases hF

def gm_cross : Gam := ext gm_re 59 (specV f_cross)
theorem gm_cross_ok : GamOk Try.prog gm_cross := ext_ok gm_re_ok ok_cross

def f_along : List Value → Option (Value × List Bool)
  | [.agg ⟨[.int .i64 a0, .int .i64 a1, .int .i64 a2, .int .i64 a3, .int .i64 a4, .int .i64 a5, .int .i64 a6, .int .i64 a7]⟩, .agg ⟨[.int .i64 b0, .int .i64 b1, .int .i64 b2, .int .i64 b3, .int .i64 b4, .int .i64 b5, .int .i64 b6, .int .i64 b7]⟩] => some (sdv (reF (mulF (mirF (v8 a0 a1 a2 a3 a4 a5 a6 a7)) (v8 b0 b1 b2 b3 b4 b5 b6 b7))), [])
  | _ => none

theorem ok_along : SpecOk Try.prog 50 (specV f_along) := by
  refine mkV (n := 100) gm_cross_ok Try.func50 rfl fun vs x ob hF ho => ?_
  unfold f_along at hF
  split at hF
  · rename_i a0 a1 a2 a3 a4 a5 a6 a7 b0 b1 b2 b3 b4 b5 b6 b7
    simp only [Option.some.injEq, Prod.mk.injEq] at hF
    obtain ⟨rfl, rfl⟩ := hF
    exact one (by kernel_rfl)
  · cases hF

def gm_along : Gam := ext gm_cross 50 (specV f_along)
theorem gm_along_ok : GamOk Try.prog gm_along := ext_ok gm_cross_ok ok_along

def f_l2Turned : List Value → Option (Value × List Bool)
  | [.agg ⟨[.int .i64 a0, .int .i64 a1, .int .i64 a2, .int .i64 a3, .int .i64 a4, .int .i64 a5, .int .i64 a6, .int .i64 a7]⟩, .int .i64 n] => some (cyv (turnedF (v8 a0 a1 a2 a3 a4 a5 a6 a7) n.toNat), [decide (0 ≤ n), decide (n ≤ (23 : Nat))])
  | _ => none

theorem ok_l2Turned : SpecOk Try.prog 132 (specV f_l2Turned) := by
  refine mkV (n := 100) gm_along_ok Try.func132 rfl fun vs x ob hF ho => ?_
  unfold f_l2Turned at hF
  split at hF
  · rename_i a0 a1 a2 a3 a4 a5 a6 a7 n
    simp only [Option.some.injEq, Prod.mk.injEq] at hF
    obtain ⟨rfl, rfl⟩ := hF
    obtain ⟨h0, h1⟩ := obl2 ho
    have h0 := of_decide_eq_true h0
    have h1 := of_decide_eq_true h1
    obtain ⟨k, rfl⟩ := Int.eq_ofNat_of_zero_le h0
    have hc : k = 0 ∨ k = 1 ∨ k = 2 ∨ k = 3 ∨ k = 4 ∨ k = 5 ∨ k = 6 ∨ k = 7 ∨ k = 8 ∨ k = 9 ∨ k = 10 ∨ k = 11 ∨ k = 12 ∨ k = 13 ∨ k = 14 ∨ k = 15 ∨ k = 16 ∨ k = 17 ∨ k = 18 ∨ k = 19 ∨ k = 20 ∨ k = 21 ∨ k = 22 ∨ k = 23 := by omega
    clear ho h0 h1
    rcases hc with rfl | rfl | rfl | rfl | rfl | rfl | rfl | rfl | rfl | rfl | rfl | rfl | rfl | rfl | rfl | rfl | rfl | rfl | rfl | rfl | rfl | rfl | rfl | rfl
    · exact one (by kernel_rfl)
    · exact one (by kernel_rfl)
    · exact one (by kernel_rfl)
    · exact one (by kernel_rfl)
    · exact one (by kernel_rfl)
    · exact one (by kernel_rfl)
    · exact one (by kernel_rfl)
    · exact one (by kernel_rfl)
    · exact one (by kernel_rfl)
    · exact one (by kernel_rfl)
    · exact one (by kernel_rfl)
    · exact one (by kernel_rfl)
    · exact one (by kernel_rfl)
    · exact one (by kernel_rfl)
    · exact one (by kernel_rfl)
    · exact one (by kernel_rfl)
    · exact one (by kernel_rfl)
    · exact one (by kernel_rfl)
    · exact one (by kernel_rfl)
    · exact one (by kernel_rfl)
    · exact one (by kernel_rfl)
    · exact one (by kernel_rfl)
    · exact one (by kernel_rfl)
    · exact one (by kernel_rfl)
  · cases hF

def gm_l2Turned : Gam := ext gm_along 132 (specV f_l2Turned)
theorem gm_l2Turned_ok : GamOk Try.prog gm_l2Turned := ext_ok gm_along_ok ok_l2Turned

def f_l3Im : List Value → Option (Value × List Bool)
  | [.agg ⟨[.int .i64 a0, .int .i64 a1, .int .i64 a2, .int .i64 a3, .int .i64 a4, .int .i64 a5, .int .i64 a6, .int .i64 a7]⟩] => some (sdv (imF (v8 a0 a1 a2 a3 a4 a5 a6 a7)), [])
  | _ => none

theorem ok_l3Im : SpecOk Try.prog 75 (specV f_l3Im) := by
  refine mkV (n := 100) gm_l2Turned_ok Try.func75 rfl fun vs x ob hF ho => ?_
  unfold f_l3Im at hF
  split at hF
  · rename_i a0 a1 a2 a3 a4 a5 a6 a7
    simp only [Option.some.injEq, Prod.mk.injEq] at hF
    obtain ⟨rfl, rfl⟩ := hF
    have e : getV (execF Try.prog gm_l2Turned noLam 100 Try.f75 ([.agg ⟨[.int .i64 a0, .int .i64 a1, .int .i64 a2, .int .i64 a3, .int .i64 a4, .int .i64 a5, .int .i64 a6, .int .i64 a7]⟩].map .v) [] valK) = some (sdv (v4 (W (W (2 * (v8 a0 a1 a2 a3 a4 a5 a6 a7) 2) + W (4 * (v8 a0 a1 a2 a3 a4 a5 a6 a7) 6))) (W (W (W (W (0 - (v8 a0 a1 a2 a3 a4 a5 a6 a7) 1) + W (2 * (v8 a0 a1 a2 a3 a4 a5 a6 a7) 3)) + (v8 a0 a1 a2 a3 a4 a5 a6 a7) 5) + (v8 a0 a1 a2 a3 a4 a5 a6 a7) 7)) (W (2 * (v8 a0 a1 a2 a3 a4 a5 a6 a7) 4)) (W (W ((v8 a0 a1 a2 a3 a4 a5 a6 a7) 1 + (v8 a0 a1 a2 a3 a4 a5 a6 a7) 5) + (v8 a0 a1 a2 a3 a4 a5 a6 a7) 7)))) := by kernel_rfl
    rw [sdv_congr (g := imF (v8 a0 a1 a2 a3 a4 a5 a6 a7)) (forall4 ?_ ?_ ?_ ?_)] at e
    · exact one e
    all_goals (simp only [v4, imF, imZ, w64_add_l, w64_add_r, Int.zero_sub])
  · cases hF

def gm_l3Im : Gam := ext gm_l2Turned 75 (specV f_l3Im)
theorem gm_l3Im_ok : GamOk Try.prog gm_l3Im := ext_ok gm_l2Turned_ok ok_l3Im

def f_l3Re : List Value → Option (Value × List Bool)
  | [.agg ⟨[.int .i64 a0, .int .i64 a1, .int .i64 a2, .int .i64 a3, .int .i64 a4, .int .i64 a5, .int .i64 a6, .int .i64 a7]⟩] => some (sdv (reF (v8 a0 a1 a2 a3 a4 a5 a6 a7)), [])
  | _ => none

theorem ok_l3Re : SpecOk Try.prog 53 (specV f_l3Re) := by
  refine mkV (n := 100) gm_l3Im_ok Try.func53 rfl fun vs x ob hF ho => ?_
  unfold f_l3Re at hF
  split at hF
  · rename_i a0 a1 a2 a3 a4 a5 a6 a7
    simp only [Option.some.injEq, Prod.mk.injEq] at hF
    obtain ⟨rfl, rfl⟩ := hF
    have e : getV (execF Try.prog gm_l3Im noLam 100 Try.f53 ([.agg ⟨[.int .i64 a0, .int .i64 a1, .int .i64 a2, .int .i64 a3, .int .i64 a4, .int .i64 a5, .int .i64 a6, .int .i64 a7]⟩].map .v) [] valK) = some (sdv (v4 (W (W (4 * (v8 a0 a1 a2 a3 a4 a5 a6 a7) 0) + W (2 * (v8 a0 a1 a2 a3 a4 a5 a6 a7) 4))) (W (W (W ((v8 a0 a1 a2 a3 a4 a5 a6 a7) 1 + W (2 * (v8 a0 a1 a2 a3 a4 a5 a6 a7) 3)) - (v8 a0 a1 a2 a3 a4 a5 a6 a7) 5) + (v8 a0 a1 a2 a3 a4 a5 a6 a7) 7)) (W (2 * (v8 a0 a1 a2 a3 a4 a5 a6 a7) 2)) (W (W ((v8 a0 a1 a2 a3 a4 a5 a6 a7) 1 + (v8 a0 a1 a2 a3 a4 a5 a6 a7) 5) - (v8 a0 a1 a2 a3 a4 a5 a6 a7) 7)))) := by kernel_rfl
    rw [sdv_congr (g := reF (v8 a0 a1 a2 a3 a4 a5 a6 a7)) (forall4 ?_ ?_ ?_ ?_)] at e
    · exact one e
    all_goals (simp only [v4, reF, reZ, w64_add_l, w64_add_r, w64_sub_l])
  · cases hF

def gm_l3Re : Gam := ext gm_l3Im 53 (specV f_l3Re)
theorem gm_l3Re_ok : GamOk Try.prog gm_l3Re := ext_ok gm_l3Im_ok ok_l3Re

def f_l8Cross : List Value → Option (Value × List Bool)
  | [.agg ⟨[.int .i64 a0, .int .i64 a1, .int .i64 a2, .int .i64 a3, .int .i64 a4, .int .i64 a5, .int .i64 a6, .int .i64 a7]⟩, .agg ⟨[.int .i64 b0, .int .i64 b1, .int .i64 b2, .int .i64 b3, .int .i64 b4, .int .i64 b5, .int .i64 b6, .int .i64 b7]⟩] => some (sdv (imF (mulF (mirF (v8 a0 a1 a2 a3 a4 a5 a6 a7)) (v8 b0 b1 b2 b3 b4 b5 b6 b7))), [])
  | _ => none

theorem ok_l8Cross : SpecOk Try.prog 45 (specV f_l8Cross) := by
  refine mkV (n := 100) gm_l3Re_ok Try.func45 rfl fun vs x ob hF ho => ?_
  unfold f_l8Cross at hF
  split at hF
  · rename_i a0 a1 a2 a3 a4 a5 a6 a7 b0 b1 b2 b3 b4 b5 b6 b7
    simp only [Option.some.injEq, Prod.mk.injEq] at hF
    obtain ⟨rfl, rfl⟩ := hF
    exact one (by kernel_rfl)
  · cases hF

def gm_l8Cross : Gam := ext gm_l3Re 45 (specV f_l8Cross)
theorem gm_l8Cross_ok : GamOk Try.prog gm_l8Cross := ext_ok gm_l3Re_ok ok_l8Cross

def f_l3Sum : List Value → Option (Value × List Bool)
  | [.agg ⟨[.int .i64 s0, .int .i64 s1, .int .i64 s2, .int .i64 s3]⟩, .int .i64 n, .agg ⟨[.int .i64 t0, .int .i64 t1, .int .i64 t2, .int .i64 t3]⟩] => some (sdv (fun k => W ((v4 s0 s1 s2 s3) k + W (n * (v4 t0 t1 t2 t3) k))), [])
  | _ => none

theorem ok_l3Sum : SpecOk Try.prog 61 (specV f_l3Sum) := by
  refine mkV (n := 100) gm_l8Cross_ok Try.func61 rfl fun vs x ob hF ho => ?_
  unfold f_l3Sum at hF
  split at hF
  · rename_i s0 s1 s2 s3 n t0 t1 t2 t3
    simp only [Option.some.injEq, Prod.mk.injEq] at hF
    obtain ⟨rfl, rfl⟩ := hF
    exact one (by kernel_rfl)
  · cases hF

def gm_l3Sum : Gam := ext gm_l8Cross 61 (specV f_l3Sum)
theorem gm_l3Sum_ok : GamOk Try.prog gm_l3Sum := ext_ok gm_l8Cross_ok ok_l3Sum

end Go.Proofs.Ytoligfhcogligaa

/- Squares in two parts of 64 bits; signs. Plain numbers. -/
namespace Go.Proofs.Ytoligfhcogligaa
open Go.RowKit

abbrev U (n : Int) : Int := IntKind.u64.wrap n
theorem u64_in {n : Int} (h0 : 0 ≤ n) (h1 : n < 18446744073709551616) : U n = n := by
  have : U n = n % 18446744073709551616 := by simp [U, IntKind.wrap, IntKind.signed, IntKind.bits]
  rw [this]; omega
theorem u64_mod (n : Int) : U n = n % 18446744073709551616 := by simp [U, IntKind.wrap, IntKind.signed, IntKind.bits]

abbrev maskU (x : Int) : Int := U ↑(BitVec.ofInt IntKind.u64.bits x &&& BitVec.ofInt IntKind.u64.bits 4294967295).toNat
theorem maskU_eq {x : Int} (h0 : 0 ≤ x) (h1 : x < 18446744073709551616) : maskU x = x % 4294967296 := by
  obtain ⟨k, rfl⟩ := Int.eq_ofNat_of_zero_le h0
  have e : (BitVec.ofInt IntKind.u64.bits (k : Int) &&& BitVec.ofInt IntKind.u64.bits 4294967295).toNat = k % 4294967296 := by
    rw [BitVec.toNat_and]
    simp only [BitVec.toNat_ofInt, IntKind.bits]
    have e1 : ((k : Int) % ((2 ^ 64 : Nat) : Int)).toNat = k := by omega
    have e2 : ((4294967295 : Int) % ((2 ^ 64 : Nat) : Int)).toNat = 2 ^ 32 - 1 := by decide
    rw [e1, e2, Nat.and_two_pow_sub_one_eq_mod]
  show U _ = _
  rw [e, u64_in (by omega) (by omega)]
  omega

abbrev shrU (x : Int) (n : Int) : Int := x.fdiv (2 ^ min n.toNat IntKind.u64.bits)
theorem shr32 (x : Int) : shrU x 32 = x / 4294967296 := by
  show x.fdiv 4294967296 = _
  rw [Int.fdiv_eq_ediv_of_nonneg _ (by decide)]
theorem shr31 (x : Int) : shrU x 31 = x / 2147483648 := by
  show x.fdiv 2147483648 = _
  rw [Int.fdiv_eq_ediv_of_nonneg _ (by decide)]
theorem shr63 (x : Int) : shrU x 63 = x / 9223372036854775808 := by
  show x.fdiv 9223372036854775808 = _
  rw [Int.fdiv_eq_ediv_of_nonneg _ (by decide)]

theorem mul_bound {a b : Int} {m : Int} (ha : 0 ≤ a) (hb : 0 ≤ b) (ha1 : a ≤ m) (hb1 : b ≤ m) : 0 ≤ a * b ∧ a * b ≤ m * m :=
  ⟨Int.mul_nonneg ha hb, Int.mul_le_mul ha1 hb1 hb (by omega)⟩

/-- The square, by halves. -/
theorem sq_parts {x : Int} (h0 : 0 ≤ x) (h1 : x < 18446744073709551616) :
    let lo := x % 4294967296
    let hi := x / 4294967296
    let mid := U (lo * hi)
    let out := U (lo * lo)
    let sum := U (out + U (mid * 8589934592))
    let top := U (U (hi * hi) + mid / 2147483648)
    sum = x * x % 18446744073709551616 ∧ (if sum < out then U (top + 1) else top) = x * x / 18446744073709551616 := by
  intro lo hi mid out sum top
  have hlo0 : 0 ≤ lo := Int.emod_nonneg _ (by decide)
  have hlo1 : lo ≤ 4294967295 := by show x % 4294967296 ≤ _; omega
  have hhi0 : 0 ≤ hi := by show 0 ≤ x / 4294967296; omega
  have hhi1 : hi ≤ 4294967295 := by show x / 4294967296 ≤ _; omega
  have hx : x = hi * 4294967296 + lo := by show x = x / 4294967296 * 4294967296 + x % 4294967296; omega
  have hxx : x * x = (hi * hi) * 18446744073709551616 + (lo * hi) * 8589934592 + lo * lo := by
    rw [hx]
    simp only [Int.add_mul, Int.mul_add]
    rw [Int.mul_comm (hi * 4294967296) lo, ← Int.mul_assoc lo hi, show hi * 4294967296 * (hi * 4294967296) = hi * hi * 18446744073709551616 by
      rw [Int.mul_assoc, Int.mul_left_comm 4294967296 hi 4294967296, ← Int.mul_assoc]; rfl]
    omega
  obtain ⟨A0, A1⟩ := mul_bound hlo0 hlo0 hlo1 hlo1
  obtain ⟨B0, B1⟩ := mul_bound hlo0 hhi0 hlo1 hhi1
  obtain ⟨C0, C1⟩ := mul_bound hhi0 hhi0 hhi1 hhi1
  have hmid : mid = lo * hi := u64_in B0 (by omega)
  have hout : out = lo * lo := u64_in A0 (by omega)
  have hC : U (hi * hi) = hi * hi := u64_in C0 (by omega)
  have hsum : sum = (lo * lo + lo * hi * 8589934592 % 18446744073709551616) % 18446744073709551616 := by
    show U (out + U (mid * 8589934592)) = _
    rw [hout, hmid, u64_mod, u64_mod]
  have htop : top = hi * hi + lo * hi / 2147483648 := by
    show U (U (hi * hi) + mid / 2147483648) = _
    rw [hC, hmid]
    exact u64_in (by omega) (by omega)
  rw [htop, hsum, hout, hxx, u64_mod]
  generalize lo * lo = A at *
  generalize lo * hi = B at *
  generalize hi * hi = C at *
  clear hxx hmid hout hC hsum htop
  constructor
  · omega
  · split <;> omega

/-- The product, by halves. -/
theorem mul_parts {x y : Int} (h0 : 0 ≤ x) (h1 : x < 18446744073709551616) (k0 : 0 ≤ y) (k1 : y < 18446744073709551616) :
    let x0 := x % 4294967296
    let x1 := x / 4294967296
    let y0 := y % 4294967296
    let y1 := y / 4294967296
    let t := U (U (x1 * y0) + U (x0 * y0) / 4294967296)
    U (U (U (x1 * y1) + t / 4294967296) + U (t % 4294967296 + U (x0 * y1)) / 4294967296) = x * y / 18446744073709551616 ∧ 0 ≤ t ∧ t < 18446744073709551616 := by
  intro x0 x1 y0 y1 t
  have a0 : 0 ≤ x0 := Int.emod_nonneg _ (by decide)
  have a1 : x0 ≤ 4294967295 := by show x % 4294967296 ≤ _; omega
  have b0 : 0 ≤ x1 := by show 0 ≤ x / 4294967296; omega
  have b1 : x1 ≤ 4294967295 := by show x / 4294967296 ≤ _; omega
  have c0 : 0 ≤ y0 := Int.emod_nonneg _ (by decide)
  have c1 : y0 ≤ 4294967295 := by show y % 4294967296 ≤ _; omega
  have d0 : 0 ≤ y1 := by show 0 ≤ y / 4294967296; omega
  have d1 : y1 ≤ 4294967295 := by show y / 4294967296 ≤ _; omega
  have hx : x = x1 * 4294967296 + x0 := by show x = x / 4294967296 * 4294967296 + x % 4294967296; omega
  have hy : y = y1 * 4294967296 + y0 := by show y = y / 4294967296 * 4294967296 + y % 4294967296; omega
  have hxy : x * y = (x1 * y1) * 18446744073709551616 + (x1 * y0 + x0 * y1) * 4294967296 + x0 * y0 := by
    rw [hx, hy]
    simp only [Int.add_mul, Int.mul_add]
    rw [show x1 * 4294967296 * (y1 * 4294967296) = x1 * y1 * 18446744073709551616 by
      rw [Int.mul_assoc, Int.mul_left_comm 4294967296 y1 4294967296, ← Int.mul_assoc]; rfl, show x1 * 4294967296 * y0 = x1 * y0 * 4294967296 by rw [Int.mul_assoc, Int.mul_comm 4294967296 y0, Int.mul_assoc], ← Int.mul_assoc x0 y1]
    omega
  obtain ⟨A0, A1⟩ := mul_bound a0 c0 a1 c1
  obtain ⟨B0, B1⟩ := mul_bound b0 c0 b1 c1
  obtain ⟨C0, C1⟩ := mul_bound a0 d0 a1 d1
  obtain ⟨D0, D1⟩ := mul_bound b0 d0 b1 d1
  have ht : t = x1 * y0 + x0 * y0 / 4294967296 := by
    show U (U (x1 * y0) + U (x0 * y0) / 4294967296) = _
    rw [u64_in B0 (by omega), u64_in A0 (by omega), u64_in (by omega) (by omega)]
  rw [ht, hxy, u64_in C0 (by omega), u64_in D0 (by omega)]
  generalize x0 * y0 = A at *
  generalize x1 * y0 = B at *
  generalize x0 * y1 = C at *
  generalize x1 * y1 = D at *
  clear hxy ht t
  refine ⟨?_, by omega, by omega⟩
  rw [u64_in (n := (B + A / 4294967296) % 4294967296 + C) (by omega) (by omega), u64_in (n := D + (B + A / 4294967296) / 4294967296) (by omega) (by omega), u64_in (by omega) (by omega)]
  omega

theorem size_eq {x : Int} (h0 : -9223372036854775808 ≤ x) (h1 : x ≤ 9223372036854775807) : U (if W (0 - x) > x then W (0 - x) else x) = (x.natAbs : Int) := by
  by_cases hx : x = -9223372036854775808
  · subst hx; rfl
  · rw [w64_in (x := 0 - x) (by omega) (by omega)]
    split
    · rw [u64_in (by omega) (by omega)]; omega
    · rw [u64_in (by omega) (by omega)]; omega

end Go.Proofs.Ytoligfhcogligaa

/- Signs: the functions on words of 64 bits. No conditions but bounds. -/
namespace Go.Proofs.Ytoligfhcogligaa
open Go.RowKit
set_option maxRecDepth 100000

theorem f_bool {v : Value} {x y : Bool} (h : outV (rv (.bool x)) = some v) (e : x = y) : outV (rv (.bool y)) = some v := e ▸ h

def f_nanI : List Value → Option (Value × List Bool)
  | [.int .i64 _] => some (.bool false, [])
  | _ => none

theorem ok_nanI : SpecOk Try.prog 145 (specV f_nanI) := by
  refine mkV (n := 100) gm_l3Sum_ok Try.func145 rfl fun vs x ob hF ho => ?_
  unfold f_nanI at hF
  split at hF
  · rename_i x
    simp only [Option.some.injEq, Prod.mk.injEq] at hF
    obtain ⟨rfl, rfl⟩ := hF
    have e : getV (execF Try.prog gm_l3Sum noLam 100 Try.f145 ([.int .i64 x].map .v) [] valK) = some (.bool (bif x == x then false else true)) := by kernel_rfl
    rw [show (bif x == x then false else true) = false by simp] at e
    exact one e
  · cases hF

def gm_nanI : Gam := ext gm_l3Sum 145 (specV f_nanI)
theorem gm_nanI_ok : GamOk Try.prog gm_nanI := ext_ok gm_l3Sum_ok ok_nanI

def f_nanU : List Value → Option (Value × List Bool)
  | [.int .u64 _] => some (.bool false, [])
  | _ => none

theorem ok_nanU : SpecOk Try.prog 141 (specV f_nanU) := by
  refine mkV (n := 100) gm_nanI_ok Try.func141 rfl fun vs x ob hF ho => ?_
  unfold f_nanU at hF
  split at hF
  · rename_i x
    simp only [Option.some.injEq, Prod.mk.injEq] at hF
    obtain ⟨rfl, rfl⟩ := hF
    have e : getV (execF Try.prog gm_nanI noLam 100 Try.f141 ([.int .u64 x].map .v) [] valK) = some (.bool (bif x == x then false else true)) := by kernel_rfl
    rw [show (bif x == x then false else true) = false by simp] at e
    exact one e
  · cases hF

def gm_nanU : Gam := ext gm_nanI 141 (specV f_nanU)
theorem gm_nanU_ok : GamOk Try.prog gm_nanU := ext_ok gm_nanI_ok ok_nanU

def f_cmpI : List Value → Option (Value × List Bool)
  | [.int .i64 x, .int .i64 y] => some (.int .i64 (sgZ x y), [])
  | _ => none

theorem ok_cmpI : SpecOk Try.prog 140 (specV f_cmpI) := by
  refine mkV (n := 100) gm_nanU_ok Try.func140 rfl fun vs x ob hF ho => ?_
  unfold f_cmpI at hF
  split at hF
  · rename_i x y
    simp only [Option.some.injEq, Prod.mk.injEq] at hF
    obtain ⟨rfl, rfl⟩ := hF
    have e : execF Try.prog gm_nanU noLam 100 Try.f140 ([.int .i64 x, .int .i64 y].map .v) [] valK = cond (decide (x < y)) (rv (.int .i64 (-1))) (cond (decide (x > y)) (rv (.int .i64 1)) (rv (.int .i64 0))) := by kernel_rfl
    rw [e]
    exact gives_of (by simp only [outV_cond, outV_rv, cond_some, cond_int, sgZ])
  · cases hF

def gm_cmpI : Gam := ext gm_nanU 140 (specV f_cmpI)
theorem gm_cmpI_ok : GamOk Try.prog gm_cmpI := ext_ok gm_nanU_ok ok_cmpI

def f_cmpU : List Value → Option (Value × List Bool)
  | [.int .u64 x, .int .u64 y] => some (.int .i64 (sgZ x y), [])
  | _ => none

theorem ok_cmpU : SpecOk Try.prog 130 (specV f_cmpU) := by
  refine mkV (n := 100) gm_cmpI_ok Try.func130 rfl fun vs x ob hF ho => ?_
  unfold f_cmpU at hF
  split at hF
  · rename_i x y
    simp only [Option.some.injEq, Prod.mk.injEq] at hF
    obtain ⟨rfl, rfl⟩ := hF
    have e : execF Try.prog gm_cmpI noLam 100 Try.f130 ([.int .u64 x, .int .u64 y].map .v) [] valK = cond (decide (x < y)) (rv (.int .i64 (-1))) (cond (decide (x > y)) (rv (.int .i64 1)) (rv (.int .i64 0))) := by kernel_rfl
    rw [e]
    exact gives_of (by simp only [outV_cond, outV_rv, cond_some, cond_int, sgZ])
  · cases hF

def gm_cmpU : Gam := ext gm_cmpI 130 (specV f_cmpU)
theorem gm_cmpU_ok : GamOk Try.prog gm_cmpU := ext_ok gm_cmpI_ok ok_cmpU

def f_size : List Value → Option (Value × List Bool)
  | [.int .i64 x] => some (.int .u64 (x.natAbs : Int), [inR x (-9223372036854775808) 9223372036854775807])
  | _ => none

theorem ok_size : SpecOk Try.prog 128 (specV f_size) := by
  refine mkV (n := 100) gm_cmpU_ok Try.func128 rfl fun vs x ob hF ho => ?_
  unfold f_size at hF
  split at hF
  · rename_i x
    simp only [Option.some.injEq, Prod.mk.injEq] at hF
    obtain ⟨rfl, rfl⟩ := hF
    have hb := inR_iff.1 (show inR x (-9223372036854775808) 9223372036854775807 = true by simpa [obls] using ho)
    have e : getV (execF Try.prog gm_cmpU noLam 100 Try.f128 ([.int .i64 x].map .v) [] valK) = some (.int .u64 (U (if W (0 - x) > x then W (0 - x) else x))) := by kernel_rfl
    rw [size_eq hb.1 hb.2] at e
    exact one e
  · cases hF

def gm_size : Gam := ext gm_cmpU 128 (specV f_size)
theorem gm_size_ok : GamOk Try.prog gm_size := ext_ok gm_cmpU_ok ok_size

def f_l3Size : List Value → Option (Value × List Bool)
  | [.int .i64 x] => some (.int .u64 (x.natAbs : Int), [inR x (-9223372036854775808) 9223372036854775807])
  | _ => none

theorem ok_l3Size : SpecOk Try.prog 124 (specV f_l3Size) := by
  refine mkV (n := 100) gm_size_ok Try.func124 rfl fun vs x ob hF ho => ?_
  unfold f_l3Size at hF
  split at hF
  · rename_i x
    simp only [Option.some.injEq, Prod.mk.injEq] at hF
    obtain ⟨rfl, rfl⟩ := hF
    have hb := inR_iff.1 (show inR x (-9223372036854775808) 9223372036854775807 = true by simpa [obls] using ho)
    have e : getV (execF Try.prog gm_size noLam 100 Try.f124 ([.int .i64 x].map .v) [] valK) = some (.int .u64 (U (if W (0 - x) > x then W (0 - x) else x))) := by kernel_rfl
    rw [size_eq hb.1 hb.2] at e
    exact one e
  · cases hF

def gm_l3Size : Gam := ext gm_size 124 (specV f_l3Size)
theorem gm_l3Size_ok : GamOk Try.prog gm_l3Size := ext_ok gm_size_ok ok_l3Size

def f_l3Square : List Value → Option (Value × List Bool)
  | [.int .u64 x] => some (.tuple #[.int .u64 (x * x / 18446744073709551616), .int .u64 (x * x % 18446744073709551616)], [decide (0 ≤ x), decide (x < 18446744073709551616)])
  | _ => none

theorem ok_l3Square : SpecOk Try.prog 123 (specV f_l3Square) := by
  refine mkV (n := 100) gm_l3Size_ok Try.func123 rfl fun vs x ob hF ho => ?_
  unfold f_l3Square at hF
  split at hF
  · rename_i x
    simp only [Option.some.injEq, Prod.mk.injEq] at hF
    obtain ⟨rfl, rfl⟩ := hF
    obtain ⟨h0, h1⟩ := obl2 ho
    have h0 := of_decide_eq_true h0
    have h1 := of_decide_eq_true h1
    have e : execF Try.prog gm_l3Size noLam 100 Try.f123 ([.int .u64 x].map .v) [] valK = cond (decide (U (U (maskU x * maskU x) + U (U (maskU x * shrU x 32) * 8589934592)) < U (maskU x * maskU x)))
      (rt [.v (.int .u64 (U (U (U (shrU x 32 * shrU x 32) + shrU (U (maskU x * shrU x 32)) 31) + 1))), .v (.int .u64 (U (U (maskU x * maskU x) + U (U (maskU x * shrU x 32) * 8589934592))))])
      (rt [.v (.int .u64 (U (U (shrU x 32 * shrU x 32) + shrU (U (maskU x * shrU x 32)) 31))), .v (.int .u64 (U (U (maskU x * maskU x) + U (U (maskU x * shrU x 32) * 8589934592))))]) := by kernel_rfl
    rw [e, maskU_eq h0 h1, shr32, shr31]
    obtain ⟨p1, p2⟩ := sq_parts h0 h1
    clear e
    rw [p1]
    rw [p1] at p2
    by_cases hc : x * x % 18446744073709551616 < U (x % 4294967296 * (x % 4294967296))
    · rw [if_pos hc] at p2
      rw [decide_eq_true hc, cond_true, p2]
      exact one rfl
    · rw [if_neg hc] at p2
      rw [decide_eq_false hc, cond_false, p2]
      exact one rfl
  · cases hF

def gm_l3Square : Gam := ext gm_l3Size 123 (specV f_l3Square)
theorem gm_l3Square_ok : GamOk Try.prog gm_l3Square := ext_ok gm_l3Size_ok ok_l3Square

def f_mul64 : List Value → Option (Value × List Bool)
  | [.int .u64 x, .int .u64 y] => some (.tuple #[.int .u64 (x * y / 18446744073709551616), .int .u64 (U (x * y))], [decide (0 ≤ x), decide (x < 18446744073709551616), decide (0 ≤ y), decide (y < 18446744073709551616)])
  | _ => none

theorem ok_mul64 : SpecOk Try.prog 127 (specV f_mul64) := by
  refine mkV (n := 100) gm_l3Square_ok Try.func127 rfl fun vs x ob hF ho => ?_
  unfold f_mul64 at hF
  split at hF
  · rename_i x y
    simp only [Option.some.injEq, Prod.mk.injEq] at hF
    obtain ⟨rfl, rfl⟩ := hF
    simp only [obls, List.all_cons, List.all_nil, Bool.and_true, Bool.and_eq_true, id, decide_eq_true_eq] at ho
    obtain ⟨h0, h1, k0, k1⟩ := ho
    have e : getV (execF Try.prog gm_l3Square noLam 100 Try.f127 ([.int .u64 x, .int .u64 y].map .v) [] valK) = some (.tuple #[.int .u64 (U (U (U (shrU x 32 * shrU y 32) + shrU (U (U (shrU x 32 * maskU y) + shrU (U (maskU x * maskU y)) 32)) 32) + shrU (U (maskU (U (U (shrU x 32 * maskU y) + shrU (U (maskU x * maskU y)) 32)) + U (maskU x * shrU y 32))) 32)), .int .u64 (U (x * y))]) := by kernel_rfl
    obtain ⟨p1, p2, p3⟩ := mul_parts h0 h1 k0 k1
    simp only [shr32] at e
    rw [maskU_eq h0 h1, maskU_eq k0 k1, maskU_eq p2 p3, p1] at e
    exact one e
  · cases hF

def gm_mul64 : Gam := ext gm_l3Square 127 (specV f_mul64)
theorem gm_mul64_ok : GamOk Try.prog gm_mul64 := ext_ok gm_l3Square_ok ok_mul64

end Go.Proofs.Ytoligfhcogligaa

/- The sign of x + y root 2. Plain numbers. -/
namespace Go.Proofs.Ytoligfhcogligaa
open Go.RowKit

theorem no_root : ∀ (n x y : Nat), x ≤ n → x * x = 2 * (y * y) → x = 0
  | 0, x, y, h, _ => by omega
  | n + 1, x, y, h, e => by
    rcases Nat.eq_zero_or_pos x with hx | hx
    · exact hx
    · exfalso
      have h2 : x % 2 = 0 := by
        have : (x * x) % 2 = 0 := by omega
        rw [Nat.mul_mod] at this
        rcases Nat.mod_two_eq_zero_or_one x with h | h
        · exact h
        · rw [h] at this; simp at this
      obtain ⟨a, rfl⟩ : ∃ a, x = 2 * a := ⟨x / 2, by omega⟩
      have e1 : y * y = 2 * (a * a) := by
        have : 2 * a * (2 * a) = 4 * (a * a) := by rw [Nat.mul_mul_mul_comm]
        omega
      have ha : a * a < y * y := by
        have : 0 < a * a := Nat.mul_pos (by omega) (by omega)
        omega
      have hy : y * y < 2 * a * (2 * a) := by
        have : 2 * a * (2 * a) = 4 * (a * a) := by rw [Nat.mul_mul_mul_comm]
        have : 0 < a * a := Nat.mul_pos (by omega) (by omega)
        omega
      have hlt : y < 2 * a := by
        rcases Nat.lt_or_ge y (2 * a) with h | h
        · exact h
        · have := Nat.mul_le_mul h h; omega
      have := no_root n y a (by omega) e1
      subst this
      omega

/-- The sign of x + y root 2. -/
def sg2 (x y : Int) : Int :=
  if 0 ≤ x ∧ 0 ≤ y then (if x = 0 ∧ y = 0 then 0 else 1)
  else if x ≤ 0 ∧ y ≤ 0 then -1
  else if x < 0 then (if x * x > 2 * (y * y) then -1 else 1)
  else (if x * x > 2 * (y * y) then 1 else -1)

abbrev topU (h l : Int) : Int := U ↑(BitVec.ofInt IntKind.u64.bits (U (h * 2)) ||| BitVec.ofInt IntKind.u64.bits (shrU l 63)).toNat
theorem topU_eq {h l : Int} (h0 : 0 ≤ h) (h1 : h * 2 < 18446744073709551616) (l0 : 0 ≤ l) (l1 : l < 18446744073709551616) : topU h l = h * 2 + l / 9223372036854775808 := by
  obtain ⟨a, rfl⟩ := Int.eq_ofNat_of_zero_le h0
  obtain ⟨b, hb⟩ := Int.eq_ofNat_of_zero_le (a := l / 9223372036854775808) (by omega)
  have hb2 : b < 2 := by omega
  show U _ = _
  rw [shr63, u64_in (n := (a : Int) * 2) (by omega) h1, hb]
  have e : (BitVec.ofInt IntKind.u64.bits ((a : Int) * 2) ||| BitVec.ofInt IntKind.u64.bits (b : Int)).toNat = a * 2 + b := by
    rw [BitVec.toNat_or]
    simp only [BitVec.toNat_ofInt, IntKind.bits]
    have e1 : (((a : Int) * 2) % ((2 ^ 64 : Nat) : Int)).toNat = a * 2 := by omega
    have e2 : ((b : Int) % ((2 ^ 64 : Nat) : Int)).toNat = b := by omega
    rw [e1, e2]
    have := Nat.shiftLeft_add_eq_or_of_lt (i := 1) (b := b) (by omega) a
    rw [Nat.shiftLeft_eq] at this
    simpa using this.symm
  rw [e, u64_in (by omega) (by omega)]
  omega

/-- Squares of 64 bits against twice squares. -/
theorem sq_cmp {x y : Int} (hx0 : -9223372036854775808 ≤ x) (hx1 : x ≤ 9223372036854775807) (hy0 : -9223372036854775808 ≤ y) (hy1 : y ≤ 9223372036854775807) :
    let X : Int := x.natAbs
    let Y : Int := y.natAbs
    let hx := X * X / 18446744073709551616
    let lx := X * X % 18446744073709551616
    let hy := Y * Y / 18446744073709551616
    let ly := Y * Y % 18446744073709551616
    let top := topU hy ly
    let rest := U (ly * 2)
    (hx > top ∨ (hx = top ∧ lx > rest) ↔ x * x > 2 * (y * y)) ∧ (hx = top ∧ lx = rest ↔ x * x = 2 * (y * y)) := by
  intro X Y hx lx hy ly top rest
  have eX : X * X = x * x := by show (x.natAbs : Int) * x.natAbs = _; exact Int.natAbs_mul_self
  have eY : Y * Y = y * y := by show (y.natAbs : Int) * y.natAbs = _; exact Int.natAbs_mul_self
  have bY : 0 ≤ Y * Y ∧ Y * Y ≤ 9223372036854775808 * 9223372036854775808 := mul_bound (by show (0 : Int) ≤ (y.natAbs : Int); omega) (by show (0 : Int) ≤ (y.natAbs : Int); omega) (by show (y.natAbs : Int) ≤ _; omega) (by show (y.natAbs : Int) ≤ _; omega)
  have bX : 0 ≤ X * X ∧ X * X ≤ 9223372036854775808 * 9223372036854775808 := mul_bound (by show (0 : Int) ≤ (x.natAbs : Int); omega) (by show (0 : Int) ≤ (x.natAbs : Int); omega) (by show (x.natAbs : Int) ≤ _; omega) (by show (x.natAbs : Int) ≤ _; omega)
  have ht : top = hy * 2 + ly / 9223372036854775808 := topU_eq (by show 0 ≤ Y * Y / _; omega) (by show Y * Y / 18446744073709551616 * 2 < _; omega) (by show 0 ≤ Y * Y % _; omega) (by show Y * Y % 18446744073709551616 < _; omega)
  have hr : rest = (ly * 2) % 18446744073709551616 := u64_mod _
  rw [ht, hr, ← eX, ← eY]
  simp only [hx, lx, hy, ly]
  generalize X * X = P at *
  generalize Y * Y = R at *
  clear ht hr eX eY
  omega

theorem no_root_int {x y : Int} (h : x * x = 2 * (y * y)) : x = 0 := by
  have e : x.natAbs * x.natAbs = 2 * (y.natAbs * y.natAbs) := by
    have h1 : ((x.natAbs * x.natAbs : Nat) : Int) = ((2 * (y.natAbs * y.natAbs) : Nat) : Int) := by
      push_cast
      rw [Int.natAbs_mul_self', Int.natAbs_mul_self']
      exact h
    exact_mod_cast h1
  have := no_root _ _ _ (Nat.le_refl _) e
  omega

theorem sgZ_cases (a b : Int) : (a < b ∧ sgZ a b = -1) ∨ (a = b ∧ sgZ a b = 0) ∨ (a > b ∧ sgZ a b = 1) := by
  unfold sgZ
  by_cases h1 : a < b
  · exact .inl ⟨h1, by rw [decide_eq_true h1]; rfl⟩
  · by_cases h2 : a > b
    · exact .inr (.inr ⟨h2, by rw [decide_eq_false h1, decide_eq_true h2]; rfl⟩)
    · exact .inr (.inl ⟨by omega, by rw [decide_eq_false h1, decide_eq_false h2]; rfl⟩)

theorem beqI (a b : Int) : (a == b) = decide (a = b) := by
  by_cases h : a = b
  · subst h; simp
  · simp [h]

/-- By the signs of both, and then by the squares. -/
theorem signA_eq {x y : Int} {u1 u2 v1 v2 : Int} (h1 : u1 > v1 ∨ (u1 = v1 ∧ u2 > v2) ↔ x * x > 2 * (y * y)) (h2 : u1 = v1 ∧ u2 = v2 ↔ x * x = 2 * (y * y)) :
    (bif sgZ x 0 == sgZ y 0 then sgZ x 0 else bif sgZ y 0 == 0 then sgZ x 0 else bif sgZ x 0 == 0 then sgZ y 0 else
      bif sgZ u1 v1 != 0 then (bif sgZ u1 v1 == 1 then sgZ x 0 else bif sgZ u1 v1 == -1 then sgZ y 0 else 0) else
      bif sgZ u2 v2 != 0 then (bif sgZ u2 v2 == 1 then sgZ x 0 else bif sgZ u2 v2 == -1 then sgZ y 0 else 0) else 0) = sg2 x y := by
  have h3 : x * x = 2 * (y * y) → x = 0 := no_root_int
  unfold sg2
  generalize x * x = P at *
  generalize y * y = R at *
  rcases sgZ_cases x 0 with ⟨a1, a2⟩ | ⟨a1, a2⟩ | ⟨a1, a2⟩ <;> rcases sgZ_cases y 0 with ⟨b1, b2⟩ | ⟨b1, b2⟩ | ⟨b1, b2⟩ <;> rw [a2, b2] <;>
    first
      | (simp only [show ((-1 : Int) == -1) = true from rfl, show ((0 : Int) == 0) = true from rfl, show ((1 : Int) == 1) = true from rfl, show ((-1 : Int) == 0) = false from rfl, show ((-1 : Int) == 1) = false from rfl, show ((1 : Int) == 0) = false from rfl, show ((1 : Int) == -1) = false from rfl, show ((0 : Int) == 1) = false from rfl, show ((0 : Int) == -1) = false from rfl, cond_true, cond_false]
         repeat' split
         all_goals omega)
      | (rcases sgZ_cases u1 v1 with ⟨c1, c2⟩ | ⟨c1, c2⟩ | ⟨c1, c2⟩ <;> rcases sgZ_cases u2 v2 with ⟨d1, d2⟩ | ⟨d1, d2⟩ | ⟨d1, d2⟩ <;> rw [c2, d2] <;>
          simp only [bne, show ((-1 : Int) == -1) = true from rfl, show ((0 : Int) == 0) = true from rfl, show ((1 : Int) == 1) = true from rfl, show ((-1 : Int) == 0) = false from rfl, show ((-1 : Int) == 1) = false from rfl, show ((1 : Int) == 0) = false from rfl, show ((1 : Int) == -1) = false from rfl, show ((0 : Int) == 1) = false from rfl, show ((0 : Int) == -1) = false from rfl, cond_true, cond_false, Bool.not_true, Bool.not_false] <;>
          (repeat' split) <;> omega)

theorem flat_eq {x y : Int} (h : 0 ≤ x ∧ 0 ≤ y ∨ x ≤ 0 ∧ y ≤ 0) :
    (if (if IntKind.i64.wrap ((if (if x < 1 then x else 1) > -1 then (if x < 1 then x else 1) else -1) + (if (if y < 1 then y else 1) > -1 then (if y < 1 then y else 1) else -1)) > -1 then IntKind.i64.wrap ((if (if x < 1 then x else 1) > -1 then (if x < 1 then x else 1) else -1) + (if (if y < 1 then y else 1) > -1 then (if y < 1 then y else 1) else -1)) else -1) < 1 then
      (if IntKind.i64.wrap ((if (if x < 1 then x else 1) > -1 then (if x < 1 then x else 1) else -1) + (if (if y < 1 then y else 1) > -1 then (if y < 1 then y else 1) else -1)) > -1 then IntKind.i64.wrap ((if (if x < 1 then x else 1) > -1 then (if x < 1 then x else 1) else -1) + (if (if y < 1 then y else 1) > -1 then (if y < 1 then y else 1) else -1)) else -1) else 1) = sg2 x y := by
  have e : ∀ z : Int, (if (if z < 1 then z else 1) > -1 then (if z < 1 then z else 1) else -1) = (if z < 0 then -1 else if z = 0 then 0 else 1) := by
    intro z
    repeat' split
    all_goals omega
  rw [e x, e y]
  have w : ∀ n : Int, -2 ≤ n → n ≤ 2 → IntKind.i64.wrap n = n := fun n h1 h2 => w64_in (by omega) (by omega)
  rw [w _ (by repeat' split; all_goals omega) (by repeat' split; all_goals omega)]
  unfold sg2
  generalize x * x = P at *
  generalize y * y = R at *
  repeat' split
  all_goals omega

end Go.Proofs.Ytoligfhcogligaa

/- The sign of x + y root 2, by the program and by the reference. No conditions but bounds. -/
namespace Go.Proofs.Ytoligfhcogligaa
open Go.RowKit
set_option maxRecDepth 100000

def fMul (hi : Int → Int → Int) : List Value → Option (Value × List Bool)
  | [.int .u64 x, .int .u64 y] => some (.tuple #[.int .u64 (hi x y), .int .u64 (U (x * y))], [])
  | _ => none
def fSq (hi lo : Int → Int) : List Value → Option (Value × List Bool)
  | [.int .u64 x] => some (.tuple #[.int .u64 (hi x), .int .u64 (lo x)], [])
  | _ => none
def fSz (sz : Int → Int) : List Value → Option (Value × List Bool)
  | [.int .i64 x] => some (.int .u64 (sz x), [])
  | _ => none
def fSg (sg : Int → Int) : List Value → Option (Value × List Bool)
  | [.int .i64 x] => some (.int .i64 (sg x), [])
  | _ => none
def fCu (cu : Int → Int → Int) : List Value → Option (Value × List Bool)
  | [.int .u64 x, .int .u64 y] => some (.int .i64 (cu x y), [])
  | _ => none

def rawHi (x y : Int) : Int := U (U (U (shrU x 32 * shrU y 32) + shrU (U (U (shrU x 32 * maskU y) + shrU (U (maskU x * maskU y)) 32)) 32) + shrU (U (maskU (U (U (shrU x 32 * maskU y) + shrU (U (maskU x * maskU y)) 32)) + U (maskU x * shrU y 32))) 32)
def rawSz (x : Int) : Int := U (if W (0 - x) > x then W (0 - x) else x)
def rawLo (x : Int) : Int := U (U (maskU x * maskU x) + U (U (maskU x * shrU x 32) * 8589934592))
def rawTop (x : Int) : Int := bif decide (U (U (maskU x * maskU x) + U (U (maskU x * shrU x 32) * 8589934592)) < U (maskU x * maskU x)) then U (U (U (shrU x 32 * shrU x 32) + shrU (U (maskU x * shrU x 32)) 31) + 1) else U (U (shrU x 32 * shrU x 32) + shrU (U (maskU x * shrU x 32)) 31)

theorem rawHi_eq {x : Int} (h0 : 0 ≤ x) (h1 : x < 18446744073709551616) : rawHi x x = x * x / 18446744073709551616 := by
  obtain ⟨p1, p2, p3⟩ := mul_parts h0 h1 h0 h1
  unfold rawHi
  simp only [shr32]
  rw [maskU_eq h0 h1, maskU_eq p2 p3, p1]
theorem rawLo_eq {x : Int} (h0 : 0 ≤ x) (h1 : x < 18446744073709551616) : rawLo x = x * x % 18446744073709551616 := by
  unfold rawLo
  rw [maskU_eq h0 h1, shr32]
  exact (sq_parts h0 h1).1
theorem rawTop_eq {x : Int} (h0 : 0 ≤ x) (h1 : x < 18446744073709551616) : rawTop x = x * x / 18446744073709551616 := by
  unfold rawTop
  rw [maskU_eq h0 h1, shr32, shr31]
  rw [← (sq_parts h0 h1).2, Bool.cond_decide]
theorem rawSz_eq {x : Int} (h0 : -9223372036854775808 ≤ x) (h1 : x ≤ 9223372036854775807) : rawSz x = x.natAbs := size_eq h0 h1

theorem okr_mul : SpecOk Try.prog 127 (specV (fMul rawHi)) := by
  refine mkV (n := 100) g0_ok Try.func127 rfl fun vs x ob hF ho => ?_
  unfold fMul at hF
  split at hF
  · rename_i x y
    cases hF
    exact one (by kernel_rfl)
  · cases hF
theorem okr_size : SpecOk Try.prog 128 (specV (fSz rawSz)) := by
  refine mkV (n := 100) g0_ok Try.func128 rfl fun vs x ob hF ho => ?_
  unfold fSz at hF
  split at hF
  · rename_i x
    cases hF
    exact one (by kernel_rfl)
  · cases hF
theorem okr_size' : SpecOk Try.prog 124 (specV (fSz rawSz)) := by
  refine mkV (n := 100) g0_ok Try.func124 rfl fun vs x ob hF ho => ?_
  unfold fSz at hF
  split at hF
  · rename_i x
    cases hF
    exact one (by kernel_rfl)
  · cases hF
theorem okr_sq : SpecOk Try.prog 123 (specV (fSq rawTop rawLo)) := by
  refine mkV (n := 100) g0_ok Try.func123 rfl fun vs x ob hF ho => ?_
  unfold fSq at hF
  split at hF
  · rename_i x
    cases hF
    have e : execF Try.prog g0 noLam 100 Try.f123 ([.int .u64 x].map .v) [] valK = cond (decide (U (U (maskU x * maskU x) + U (U (maskU x * shrU x 32) * 8589934592)) < U (maskU x * maskU x)))
        (rt [.v (.int .u64 (U (U (U (shrU x 32 * shrU x 32) + shrU (U (maskU x * shrU x 32)) 31) + 1))), .v (.int .u64 (rawLo x))])
        (rt [.v (.int .u64 (U (U (shrU x 32 * shrU x 32) + shrU (U (maskU x * shrU x 32)) 31))), .v (.int .u64 (rawLo x))]) := by kernel_rfl
    rw [e]
    unfold rawTop
    generalize hb : decide (U (U (maskU x * maskU x) + U (U (maskU x * shrU x 32) * 8589934592)) < U (maskU x * maskU x)) = b
    cases b
    · exact one rfl
    · exact one rfl
  · cases hF
theorem okr_sg : SpecOk Try.prog 126 (specV (fSg fun x => sgZ x 0)) := by
  refine mkV (n := 100) gm_cmpU_ok Try.func126 rfl fun vs x ob hF ho => ?_
  unfold fSg at hF
  split at hF
  · rename_i x
    cases hF
    exact one (by kernel_rfl)
  · cases hF
theorem okr_cu : SpecOk Try.prog 130 (specV (fCu sgZ)) := by
  refine mkV (n := 100) gm_nanU_ok Try.func130 rfl fun vs x ob hF ho => ?_
  unfold fCu at hF
  split at hF
  · rename_i x y
    cases hF
    have e : execF Try.prog gm_nanU noLam 100 Try.f130 ([.int .u64 x, .int .u64 y].map .v) [] valK = cond (decide (x < y)) (rv (.int .i64 (-1))) (cond (decide (x > y)) (rv (.int .i64 1)) (rv (.int .i64 0))) := by kernel_rfl
    rw [e]
    exact gives_of (by simp only [outV_cond, outV_rv, cond_some, cond_int, sgZ])
  · cases hF

/-- The tables, with what the callees return left open. -/
def gmA (hi cu : Int → Int → Int) (sg sz : Int → Int) : Gam := ext (ext (ext (ext g0 127 (specV (fMul hi))) 128 (specV (fSz sz))) 126 (specV (fSg sg))) 130 (specV (fCu cu))
def gmB (hi lo sz : Int → Int) : Gam := ext (ext g0 123 (specV (fSq hi lo))) 124 (specV (fSz sz))
theorem gmA_ok : GamOk Try.prog (gmA rawHi sgZ (fun x => sgZ x 0) rawSz) := ext_ok (ext_ok (ext_ok (ext_ok g0_ok okr_mul) okr_size) okr_sg) okr_cu
theorem gmB_ok : GamOk Try.prog (gmB rawTop rawLo rawSz) := ext_ok (ext_ok g0_ok okr_sq) okr_size'

abbrev ri (x : Int) : Res := rv (.int .i64 x)
theorem treeA (x y : Int) (hi cu : Int → Int → Int) (sg sz : Int → Int) : execF Try.prog (gmA hi cu sg sz) noLam 100 Try.f95 ([.int .i64 x, .int .i64 y].map .v) [] valK
    = cond (sg x == sg y) (ri (sg x)) (cond (sg y == 0) (ri (sg x)) (cond (sg x == 0) (ri (sg y))
      (cond (cu (hi (sz x) (sz x)) (topU (hi (sz y) (sz y)) (U (sz y * sz y))) != 0)
        (cond (cu (hi (sz x) (sz x)) (topU (hi (sz y) (sz y)) (U (sz y * sz y))) == 1) (ri (sg x)) (cond (cu (hi (sz x) (sz x)) (topU (hi (sz y) (sz y)) (U (sz y * sz y))) == -1) (ri (sg y)) (ri 0)))
        (cond (cu (U (sz x * sz x)) (U (U (sz y * sz y) * 2)) != 0)
          (cond (cu (U (sz x * sz x)) (U (U (sz y * sz y) * 2)) == 1) (ri (sg x)) (cond (cu (U (sz x * sz x)) (U (U (sz y * sz y) * 2)) == -1) (ri (sg y)) (ri 0))) (ri 0))))) := by kernel_rfl

abbrev mnI (a : Int) : Int := if a < 1 then a else 1
abbrev mxI (a : Int) : Int := if a > -1 then a else -1
abbrev flatI (x y : Int) : Int := mnI (mxI (IntKind.i64.wrap (mxI (mnI x) + mxI (mnI y))))
abbrev cmpB (x y : Int) (hi lo sz : Int → Int) (s : Int) : Res := cond (decide (hi (sz x) > topU (hi (sz y)) (lo (sz y)))) (ri s) (cond (hi (sz x) == topU (hi (sz y)) (lo (sz y))) (cond (decide (lo (sz x) > U (lo (sz y) * 2))) (ri s) (ri (IntKind.i64.wrap (0 - s)))) (ri (IntKind.i64.wrap (0 - s))))
abbrev tailB (x y : Int) (hi lo sz : Int → Int) : Res := cond (decide (x < 0)) (cmpB x y hi lo sz (-1)) (cmpB x y hi lo sz 1)
theorem treeB (x y : Int) (hi lo sz : Int → Int) : execF Try.prog (gmB hi lo sz) noLam 100 Try.f91 ([.int .i64 x, .int .i64 y].map .v) [] valK
    = cond (decide (x ≥ 0)) (cond (decide (y ≥ 0)) (ri (flatI x y)) (cond (decide (x ≤ 0)) (cond (decide (y ≤ 0)) (ri (flatI x y)) (tailB x y hi lo sz)) (tailB x y hi lo sz)))
      (cond (decide (x ≤ 0)) (cond (decide (y ≤ 0)) (ri (flatI x y)) (tailB x y hi lo sz)) (tailB x y hi lo sz)) := by kernel_rfl

theorem topU_raw {x y : Int} (hx : inR x (-9223372036854775808) 9223372036854775807 = true) (hy : inR y (-9223372036854775808) 9223372036854775807 = true) {u1 v1 u2 v2 : Int}
    (e1 : u1 = (x.natAbs : Int) * x.natAbs / 18446744073709551616) (e2 : v1 = topU ((y.natAbs : Int) * y.natAbs / 18446744073709551616) ((y.natAbs : Int) * y.natAbs % 18446744073709551616)) (e3 : u2 = (x.natAbs : Int) * x.natAbs % 18446744073709551616) (e4 : v2 = U ((y.natAbs : Int) * y.natAbs % 18446744073709551616 * 2)) :
    (u1 > v1 ∨ (u1 = v1 ∧ u2 > v2) ↔ x * x > 2 * (y * y)) ∧ (u1 = v1 ∧ u2 = v2 ↔ x * x = 2 * (y * y)) := by
  have hx := inR_iff.1 hx
  have hy := inR_iff.1 hy
  subst e1 e2 e3 e4
  exact sq_cmp hx.1 hx.2 hy.1 hy.2

def f_two : List Value → Option (Value × List Bool)
  | [.int .i64 x, .int .i64 y] => some (.int .i64 (sg2 x y), [inR x (-9223372036854775808) 9223372036854775807, inR y (-9223372036854775808) 9223372036854775807])
  | _ => none

theorem nat_in {x : Int} (hx : inR x (-9223372036854775808) 9223372036854775807 = true) : (0 : Int) ≤ (x.natAbs : Int) ∧ (x.natAbs : Int) < 18446744073709551616 := by
  have hx := inR_iff.1 hx
  omega

theorem ok_sign2 : SpecOk Try.prog 95 (specV f_two) := by
  refine mkV (n := 100) gmA_ok Try.func95 rfl fun vs v ob hF ho => ?_
  unfold f_two at hF
  split at hF
  · rename_i x y
    cases hF
    obtain ⟨hx, hy⟩ := obl2 ho
    have hx' := inR_iff.1 hx
    have hy' := inR_iff.1 hy
    rw [treeA x y rawHi sgZ (fun x => sgZ x 0) rawSz]
    refine gives_of ?_
    simp only [outV_cond, outV_rv, cond_some, cond_int]
    congr 2
    obtain ⟨h1, h2⟩ := topU_raw hx hy (u1 := rawHi (rawSz x) (rawSz x)) (v1 := topU (rawHi (rawSz y) (rawSz y)) (U (rawSz y * rawSz y))) (u2 := U (rawSz x * rawSz x)) (v2 := U (U (rawSz y * rawSz y) * 2))
      (by rw [rawSz_eq hx'.1 hx'.2, rawHi_eq (nat_in hx).1 (nat_in hx).2]) (by rw [rawSz_eq hy'.1 hy'.2, rawHi_eq (nat_in hy).1 (nat_in hy).2, u64_mod (_ * _)]) (by rw [rawSz_eq hx'.1 hx'.2, u64_mod]) (by rw [rawSz_eq hy'.1 hy'.2, u64_mod ((y.natAbs : Int) * (y.natAbs : Int))])
    exact signA_eq h1 h2
  · cases hF

theorem two_eq {x y : Int} {u1 u2 v1 v2 : Int} (h1 : u1 > v1 ∨ (u1 = v1 ∧ u2 > v2) ↔ x * x > 2 * (y * y)) (s : Int) (hs : s = 1 ∨ s = -1) :
    (bif decide (u1 > v1) then s else bif u1 == v1 then (bif decide (u2 > v2) then s else IntKind.i64.wrap (0 - s)) else IntKind.i64.wrap (0 - s)) = if x * x > 2 * (y * y) then s else 0 - s := by
  have hw : IntKind.i64.wrap (0 - s) = 0 - s := by rcases hs with rfl | rfl <;> rfl
  rw [hw, beqI]
  generalize x * x = P at *
  generalize y * y = R at *
  simp only [Bool.cond_decide]
  repeat' split
  all_goals first | rfl | (exfalso; omega)

theorem ok_l3Two : SpecOk Try.prog 91 (specV f_two) := by
  refine mkV (n := 100) gmB_ok Try.func91 rfl fun vs v ob hF ho => ?_
  unfold f_two at hF
  split at hF
  · rename_i x y
    cases hF
    obtain ⟨hx, hy⟩ := obl2 ho
    have hx' := inR_iff.1 hx
    have hy' := inR_iff.1 hy
    rw [treeB x y rawTop rawLo rawSz]
    refine gives_of ?_
    obtain ⟨h1, h2⟩ := topU_raw hx hy (u1 := rawTop (rawSz x)) (v1 := topU (rawTop (rawSz y)) (rawLo (rawSz y))) (u2 := rawLo (rawSz x)) (v2 := U (rawLo (rawSz y) * 2))
      (by rw [rawSz_eq hx'.1 hx'.2, rawTop_eq (nat_in hx).1 (nat_in hx).2]) (by rw [rawSz_eq hy'.1 hy'.2, rawTop_eq (nat_in hy).1 (nat_in hy).2, rawLo_eq (nat_in hy).1 (nat_in hy).2]) (by rw [rawSz_eq hx'.1 hx'.2, rawLo_eq (nat_in hx).1 (nat_in hx).2]) (by rw [rawSz_eq hy'.1 hy'.2, rawLo_eq (nat_in hy).1 (nat_in hy).2])
    have t1 := two_eq h1 1 (.inl rfl)
    have t2 := two_eq h1 (-1) (.inr rfl)
    simp only [outV_cond, outV_rv, cond_some, cond_int]
    rw [t1, t2]
    have fl := @flat_eq x y
    congr 2
    by_cases c : (0 ≤ x ∧ 0 ≤ y) ∨ (x ≤ 0 ∧ y ≤ 0)
    · have fl := fl c
      simp only [flatI, mnI, mxI]
      rw [fl]
      simp only [Bool.cond_decide]
      repeat' split
      all_goals first | rfl | (exfalso; omega)
    · clear fl
      unfold sg2
      generalize x * x = P at *
      generalize y * y = R at *
      simp only [Bool.cond_decide]
      repeat' split
      all_goals first | rfl | (exfalso; omega)
  · cases hF

end Go.Proofs.Ytoligfhcogligaa

/- The sign of a surd, by the program and by the reference. No conditions but bounds. -/
namespace Go.Proofs.Ytoligfhcogligaa
open Go.RowKit
set_option maxRecDepth 100000

def fTwo (two : Int → Int → Int) (ob : Int → Bool) : List Value → Option (Value × List Bool)
  | [.int .i64 x, .int .i64 y] => some (.int .i64 (two x y), [ob x, ob y])
  | _ => none
abbrev i64B (x : Int) : Bool := inR x (-9223372036854775808) 9223372036854775807
theorem fTwo_eq : fTwo sg2 i64B = f_two := by
  funext vs
  unfold fTwo f_two
  rfl
theorem i64B_W (x : Int) : i64B (W x) = true := inR_iff.2 (w64_range x)

def gmT (two : Int → Int → Int) (ob : Int → Bool) (f : FuncId) : Gam := ext g0 f (specV (fTwo two ob))
abbrev xq (s : Nat → Int) : Int := W (W (W (W (s 0 * s 0) + W (W (2 * s 1) * s 1)) - W (W (3 * s 2) * s 2)) - W (W (6 * s 3) * s 3))
abbrev yq (s : Nat → Int) : Int := W (W (W (2 * s 0) * s 1) - W (W (6 * s 2) * s 3))
theorem treeS (s : Nat → Int) (two : Int → Int → Int) (ob : Int → Bool) : execF Try.prog (gmT two ob 95) noLam 100 Try.f51 ([sdv s].map .v) [] valK
    = needs [ob (s 0), ob (s 1), ob (s 2), ob (s 3)] (cond (two (s 0) (s 1) == two (s 2) (s 3)) (ri (two (s 0) (s 1))) (cond (two (s 2) (s 3) == 0) (ri (two (s 0) (s 1))) (cond (two (s 0) (s 1) == 0) (ri (two (s 2) (s 3)))
      (needs [ob (xq s), ob (yq s)] (ri (W (two (s 0) (s 1) * two (xq s) (yq s)))))))) := by kernel_rfl
theorem treeS' (s : Nat → Int) (two : Int → Int → Int) (ob : Int → Bool) : execF Try.prog (gmT two ob 91) noLam 100 Try.f44 ([sdv s].map .v) [] valK
    = needs [ob (s 0), ob (s 1), ob (s 2), ob (s 3)] (cond (decide (W (two (s 0) (s 1) * two (s 2) (s 3)) ≥ 0)) (ri (mnI (mxI (W (two (s 0) (s 1) + two (s 2) (s 3))))))
      (needs [ob (xq s), ob (yq s)] (ri (W (two (s 0) (s 1) * two (xq s) (yq s)))))) := by kernel_rfl

theorem gmT_ok {f : FuncId} (h : SpecOk Try.prog f (specV f_two)) : GamOk Try.prog (gmT sg2 i64B f) := ext_ok g0_ok (fTwo_eq ▸ h)

theorem sg2_range (x y : Int) : sg2 x y = -1 ∨ sg2 x y = 0 ∨ sg2 x y = 1 := by
  unfold sg2
  repeat' split
  all_goals omega

/-- The sign of a surd. -/
def sgn4 (s : Nat → Int) : Int := if sg2 (s 0) (s 1) = sg2 (s 2) (s 3) ∨ sg2 (s 2) (s 3) = 0 then sg2 (s 0) (s 1) else if sg2 (s 0) (s 1) = 0 then sg2 (s 2) (s 3) else sg2 (s 0) (s 1) * sg2 (xq s) (yq s)
theorem sgn4_range (s : Nat → Int) : sgn4 s = -1 ∨ sgn4 s = 0 ∨ sgn4 s = 1 := by
  have h1 := sg2_range (s 0) (s 1)
  have h2 := sg2_range (s 2) (s 3)
  have h3 := sg2_range (xq s) (yq s)
  unfold sgn4
  generalize sg2 (s 0) (s 1) = p at *
  generalize sg2 (s 2) (s 3) = q at *
  generalize sg2 (xq s) (yq s) = r at *
  rcases h1 with rfl | rfl | rfl <;> rcases h2 with rfl | rfl | rfl <;> rcases h3 with rfl | rfl | rfl <;> decide

theorem good_needsV {bs : List Bool} {r : Res} {x : Value} (h : obls bs = true) (k : Good r x) : Good (needs bs r) x := by
  induction bs with
  | nil => exact k
  | cons b bs ih =>
    have : b = true ∧ obls bs = true := by simpa [obls] using h
    rw [this.1]
    exact ⟨(ih this.2).out⟩

def f_sgn : List Value → Option (Value × List Bool)
  | [.agg ⟨[.int .i64 s0, .int .i64 s1, .int .i64 s2, .int .i64 s3]⟩] => some (.int .i64 (sgn4 (v4 s0 s1 s2 s3)), [i64B s0, i64B s1, i64B s2, i64B s3])
  | _ => none

theorem ok_sign : SpecOk Try.prog 51 (specV f_sgn) := by
  refine mkV (n := 100) (gmT_ok ok_sign2) Try.func51 rfl fun vs v ob hF ho => ?_
  unfold f_sgn at hF
  split at hF
  · rename_i s0 s1 s2 s3
    cases hF
    show Good (execF Try.prog (gmT sg2 i64B 95) noLam 100 Try.f51 ([sdv (v4 s0 s1 s2 s3)].map .v) [] valK) _
    rw [treeS]
    generalize hs : v4 s0 s1 s2 s3 = s
    have e0 : s 0 = s0 := by rw [← hs]; rfl
    have e1 : s 1 = s1 := by rw [← hs]; rfl
    have e2 : s 2 = s2 := by rw [← hs]; rfl
    have e3 : s 3 = s3 := by rw [← hs]; rfl
    refine good_needsV (by rw [e0, e1, e2, e3]; exact ho) ?_
    have ho2 : obls [i64B (xq s), i64B (yq s)] = true := by simp [obls, i64B_W]
    have h1 := sg2_range (s 0) (s 1)
    have h2 := sg2_range (s 2) (s 3)
    have h3 := sg2_range (xq s) (yq s)
    unfold sgn4
    generalize sg2 (s 0) (s 1) = p at *
    generalize sg2 (s 2) (s 3) = q at *
    generalize hr : sg2 (xq s) (yq s) = r at *
    rcases h1 with rfl | rfl | rfl <;> rcases h2 with rfl | rfl | rfl <;> first | exact one rfl | exact good_needsV ho2 (by rcases h3 with rfl | rfl | rfl <;> exact one rfl)
  · cases hF

theorem ok_l3Sign : SpecOk Try.prog 44 (specV f_sgn) := by
  refine mkV (n := 100) (gmT_ok ok_l3Two) Try.func44 rfl fun vs v ob hF ho => ?_
  unfold f_sgn at hF
  split at hF
  · rename_i s0 s1 s2 s3
    cases hF
    show Good (execF Try.prog (gmT sg2 i64B 91) noLam 100 Try.f44 ([sdv (v4 s0 s1 s2 s3)].map .v) [] valK) _
    rw [treeS']
    generalize hs : v4 s0 s1 s2 s3 = s
    have e0 : s 0 = s0 := by rw [← hs]; rfl
    have e1 : s 1 = s1 := by rw [← hs]; rfl
    have e2 : s 2 = s2 := by rw [← hs]; rfl
    have e3 : s 3 = s3 := by rw [← hs]; rfl
    refine good_needsV (by rw [e0, e1, e2, e3]; exact ho) ?_
    have ho2 : obls [i64B (xq s), i64B (yq s)] = true := by simp [obls, i64B_W]
    have h1 := sg2_range (s 0) (s 1)
    have h2 := sg2_range (s 2) (s 3)
    have h3 := sg2_range (xq s) (yq s)
    unfold sgn4
    generalize sg2 (s 0) (s 1) = p at *
    generalize sg2 (s 2) (s 3) = q at *
    generalize hr : sg2 (xq s) (yq s) = r at *
    rcases h1 with rfl | rfl | rfl <;> rcases h2 with rfl | rfl | rfl <;> first | exact one rfl | exact good_needsV ho2 (by rcases h3 with rfl | rfl | rfl <;> exact one rfl)
  · cases hF

def gm_sign : Gam := ext gm_l3Sum 51 (specV f_sgn)
theorem gm_sign_ok : GamOk Try.prog gm_sign := ext_ok gm_l3Sum_ok ok_sign
def gm_l3Sign : Gam := ext gm_sign 44 (specV f_sgn)
theorem gm_l3Sign_ok : GamOk Try.prog gm_l3Sign := ext_ok gm_sign_ok ok_l3Sign

end Go.Proofs.Ytoligfhcogligaa
