/- The sign of x + y root 2. Plain numbers. -/
import Derived.Test.YtoligfhcogligaaZS0
import Derived.Test.YtoligfhcogligaaZS1
import Derived.Test.YtoligfhcogligaaZS2
import Derived.Test.YtoligfhcogligaaZS3
import Derived.Test.YtoligfhcogligaaZS4
import Derived.Test.YtoligfhcogligaaZS5
/- l91Cyc: its trees. Conditions: those of pick. -/
namespace Go.Proofs.Ytoligfhcogligaa
open Go.RowKit
set_option maxRecDepth 100000

noncomputable abbrev fCy : Func := Try.f90
def gmPJ (pk : Nat → (Nat → Int) → Int → Int → Int) (N q : Int) : Gam := ext g0 86 (specK [] (FpkJ pk N q))
abbrev lvCy : Ex → List Nat := lv3 [0, 2, 3, 6, 7] [0, 2, 3] [2]
abbrev stCy (n : Int) (i : Nat) : List AV := [.ptr 0 0 0 0, .ptr 2 0 0 0, .ptr 3 0 0 0, .v (i64 n), .v (i64 i)]
abbrev hpCy (l : Nat) (c : Option Nat) (p : Int) (m : Nat) (b : Nat → Int) (tr tb : TypeId) (a : Nat → Int) : List AB := [.cells [.sl 1 1 0 0 l c, .v (i64 p)] tr, .row false m 1 (rowB b) tb, .cells (cyC fun _ => 0) 40, .cells (cyC a) 40]
noncomputable abbrev exCy (pk : Nat → (Nat → Int) → Int → Int → Int) (l : Nat) (c : Option Nat) (p : Int) (m : Nat) (b : Nat → Int) (tr tb : TypeId) (a : Nat → Int) (n : Int) (i : Nat) (q : Int) : Res := execC Try.prog (gmPJ pk 8 q) 100 noLam (loopAt 1 fCy) (mkT 0 57 ((lvCy .normal).zip (stCy n i))) (hpCy l c p m b tr tb a) (leafV 57 lvCy 2)
theorem rndCy0 (pk : Nat → (Nat → Int) → Int → Int → Int) (l : Nat) (c : Option Nat) (p : Int) (m : Nat) (b : Nat → Int) (tr tb : TypeId) (a : Nat → Int) (n : Int) (i : Nat) : exCy pk l c p m b tr tb a n i 0
    = bif decide ((↑i : Int) < n) then needs [okB m (rowB b), decide (l ≤ m), decide ((0 : Int) ≤ p), decide (p ≤ (1073741824 : Int)), decide (pk l (itB (rowB b)) p (8 : Int) = (0 : Int)), decide ((0 : Nat) < m), okB m (rowB b), decide (l ≤ m), decide ((0 : Int) ≤ p + (1 : Int)), decide (p + (1 : Int) ≤ (1073741824 : Int)), decide ((0 : Nat) < m)] (Res.out Ex.normal [AV.ptr (0 : Nat) (0 : Nat) (0 : Nat) (0 : Nat), AV.ptr (2 : Nat) (0 : Nat) (0 : Nat) (0 : Nat), AV.ptr (3 : Nat) (0 : Nat) (0 : Nat) (0 : Nat), AV.v (Value.int IntKind.i64 n), AV.v (Value.int IntKind.i64 (IntKind.wrap IntKind.i64 ((↑i : Int) + (1 : Int))))] [AB.cells [AV.sl (1 : Nat) (1 : Nat) (0 : Nat) (0 : Nat) l c, AV.v (Value.int IntKind.i64 (p + (1 : Int) + (1 : Int)))] tr, AB.row false m (1 : Nat) (rowB b) tb, AB.cells [AV.v (Value.int IntKind.i64 (0 : Int)), AV.v (Value.int IntKind.i64 (0 : Int)), AV.v (Value.int IntKind.i64 (0 : Int)), AV.v (Value.int IntKind.i64 (0 : Int)), AV.v (Value.int IntKind.i64 (0 : Int)), AV.v (Value.int IntKind.i64 (0 : Int)), AV.v (Value.int IntKind.i64 (0 : Int)), AV.v (Value.int IntKind.i64 (0 : Int))] (40 : TypeId), AB.cells [AV.v (Value.int IntKind.i64 (IntKind.wrap IntKind.i64 (pk l (itB (rowB b)) (p + (1 : Int)) (9 : Int) - (4 : Int)))), AV.v (Value.int IntKind.i64 (a (1 : Nat))), AV.v (Value.int IntKind.i64 (a (2 : Nat))), AV.v (Value.int IntKind.i64 (a (3 : Nat))), AV.v (Value.int IntKind.i64 (a (4 : Nat))), AV.v (Value.int IntKind.i64 (a (5 : Nat))), AV.v (Value.int IntKind.i64 (a (6 : Nat))), AV.v (Value.int IntKind.i64 (a (7 : Nat)))] (40 : TypeId)]) else Res.out (Ex.exit (1 : Nat)) [AV.ptr (0 : Nat) (0 : Nat) (0 : Nat) (0 : Nat), AV.ptr (2 : Nat) (0 : Nat) (0 : Nat) (0 : Nat), AV.ptr (3 : Nat) (0 : Nat) (0 : Nat) (0 : Nat)] [AB.cells [AV.sl (1 : Nat) (1 : Nat) (0 : Nat) (0 : Nat) l c, AV.v (Value.int IntKind.i64 p)] tr, AB.row false m (1 : Nat) (rowB b) tb, AB.cells [AV.v (Value.int IntKind.i64 (0 : Int)), AV.v (Value.int IntKind.i64 (0 : Int)), AV.v (Value.int IntKind.i64 (0 : Int)), AV.v (Value.int IntKind.i64 (0 : Int)), AV.v (Value.int IntKind.i64 (0 : Int)), AV.v (Value.int IntKind.i64 (0 : Int)), AV.v (Value.int IntKind.i64 (0 : Int)), AV.v (Value.int IntKind.i64 (0 : Int))] (40 : TypeId), AB.cells [AV.v (Value.int IntKind.i64 (a (0 : Nat))), AV.v (Value.int IntKind.i64 (a (1 : Nat))), AV.v (Value.int IntKind.i64 (a (2 : Nat))), AV.v (Value.int IntKind.i64 (a (3 : Nat))), AV.v (Value.int IntKind.i64 (a (4 : Nat))), AV.v (Value.int IntKind.i64 (a (5 : Nat))), AV.v (Value.int IntKind.i64 (a (6 : Nat))), AV.v (Value.int IntKind.i64 (a (7 : Nat)))] (40 : TypeId)] := by kernel_rfl

theorem rndCy1 (pk : Nat → (Nat → Int) → Int → Int → Int) (l : Nat) (c : Option Nat) (p : Int) (m : Nat) (b : Nat → Int) (tr tb : TypeId) (a : Nat → Int) (n : Int) (i : Nat) : exCy pk l c p m b tr tb a n i 1
    = bif decide ((↑i : Int) < n) then needs [okB m (rowB b), decide (l ≤ m), decide ((0 : Int) ≤ p), decide (p ≤ (1073741824 : Int)), decide (pk l (itB (rowB b)) p (8 : Int) = (1 : Int)), decide ((0 : Nat) < m), okB m (rowB b), decide (l ≤ m), decide ((0 : Int) ≤ p + (1 : Int)), decide (p + (1 : Int) ≤ (1073741824 : Int)), decide ((0 : Nat) < m)] (Res.out Ex.normal [AV.ptr (0 : Nat) (0 : Nat) (0 : Nat) (0 : Nat), AV.ptr (2 : Nat) (0 : Nat) (0 : Nat) (0 : Nat), AV.ptr (3 : Nat) (0 : Nat) (0 : Nat) (0 : Nat), AV.v (Value.int IntKind.i64 n), AV.v (Value.int IntKind.i64 (IntKind.wrap IntKind.i64 ((↑i : Int) + (1 : Int))))] [AB.cells [AV.sl (1 : Nat) (1 : Nat) (0 : Nat) (0 : Nat) l c, AV.v (Value.int IntKind.i64 (p + (1 : Int) + (1 : Int)))] tr, AB.row false m (1 : Nat) (rowB b) tb, AB.cells [AV.v (Value.int IntKind.i64 (0 : Int)), AV.v (Value.int IntKind.i64 (0 : Int)), AV.v (Value.int IntKind.i64 (0 : Int)), AV.v (Value.int IntKind.i64 (0 : Int)), AV.v (Value.int IntKind.i64 (0 : Int)), AV.v (Value.int IntKind.i64 (0 : Int)), AV.v (Value.int IntKind.i64 (0 : Int)), AV.v (Value.int IntKind.i64 (0 : Int))] (40 : TypeId), AB.cells [AV.v (Value.int IntKind.i64 (a (0 : Nat))), AV.v (Value.int IntKind.i64 (IntKind.wrap IntKind.i64 (pk l (itB (rowB b)) (p + (1 : Int)) (9 : Int) - (4 : Int)))), AV.v (Value.int IntKind.i64 (a (2 : Nat))), AV.v (Value.int IntKind.i64 (a (3 : Nat))), AV.v (Value.int IntKind.i64 (a (4 : Nat))), AV.v (Value.int IntKind.i64 (a (5 : Nat))), AV.v (Value.int IntKind.i64 (a (6 : Nat))), AV.v (Value.int IntKind.i64 (a (7 : Nat)))] (40 : TypeId)]) else Res.out (Ex.exit (1 : Nat)) [AV.ptr (0 : Nat) (0 : Nat) (0 : Nat) (0 : Nat), AV.ptr (2 : Nat) (0 : Nat) (0 : Nat) (0 : Nat), AV.ptr (3 : Nat) (0 : Nat) (0 : Nat) (0 : Nat)] [AB.cells [AV.sl (1 : Nat) (1 : Nat) (0 : Nat) (0 : Nat) l c, AV.v (Value.int IntKind.i64 p)] tr, AB.row false m (1 : Nat) (rowB b) tb, AB.cells [AV.v (Value.int IntKind.i64 (0 : Int)), AV.v (Value.int IntKind.i64 (0 : Int)), AV.v (Value.int IntKind.i64 (0 : Int)), AV.v (Value.int IntKind.i64 (0 : Int)), AV.v (Value.int IntKind.i64 (0 : Int)), AV.v (Value.int IntKind.i64 (0 : Int)), AV.v (Value.int IntKind.i64 (0 : Int)), AV.v (Value.int IntKind.i64 (0 : Int))] (40 : TypeId), AB.cells [AV.v (Value.int IntKind.i64 (a (0 : Nat))), AV.v (Value.int IntKind.i64 (a (1 : Nat))), AV.v (Value.int IntKind.i64 (a (2 : Nat))), AV.v (Value.int IntKind.i64 (a (3 : Nat))), AV.v (Value.int IntKind.i64 (a (4 : Nat))), AV.v (Value.int IntKind.i64 (a (5 : Nat))), AV.v (Value.int IntKind.i64 (a (6 : Nat))), AV.v (Value.int IntKind.i64 (a (7 : Nat)))] (40 : TypeId)] := by kernel_rfl

theorem rndCy2 (pk : Nat → (Nat → Int) → Int → Int → Int) (l : Nat) (c : Option Nat) (p : Int) (m : Nat) (b : Nat → Int) (tr tb : TypeId) (a : Nat → Int) (n : Int) (i : Nat) : exCy pk l c p m b tr tb a n i 2
    = bif decide ((↑i : Int) < n) then needs [okB m (rowB b), decide (l ≤ m), decide ((0 : Int) ≤ p), decide (p ≤ (1073741824 : Int)), decide (pk l (itB (rowB b)) p (8 : Int) = (2 : Int)), decide ((0 : Nat) < m), okB m (rowB b), decide (l ≤ m), decide ((0 : Int) ≤ p + (1 : Int)), decide (p + (1 : Int) ≤ (1073741824 : Int)), decide ((0 : Nat) < m)] (Res.out Ex.normal [AV.ptr (0 : Nat) (0 : Nat) (0 : Nat) (0 : Nat), AV.ptr (2 : Nat) (0 : Nat) (0 : Nat) (0 : Nat), AV.ptr (3 : Nat) (0 : Nat) (0 : Nat) (0 : Nat), AV.v (Value.int IntKind.i64 n), AV.v (Value.int IntKind.i64 (IntKind.wrap IntKind.i64 ((↑i : Int) + (1 : Int))))] [AB.cells [AV.sl (1 : Nat) (1 : Nat) (0 : Nat) (0 : Nat) l c, AV.v (Value.int IntKind.i64 (p + (1 : Int) + (1 : Int)))] tr, AB.row false m (1 : Nat) (rowB b) tb, AB.cells [AV.v (Value.int IntKind.i64 (0 : Int)), AV.v (Value.int IntKind.i64 (0 : Int)), AV.v (Value.int IntKind.i64 (0 : Int)), AV.v (Value.int IntKind.i64 (0 : Int)), AV.v (Value.int IntKind.i64 (0 : Int)), AV.v (Value.int IntKind.i64 (0 : Int)), AV.v (Value.int IntKind.i64 (0 : Int)), AV.v (Value.int IntKind.i64 (0 : Int))] (40 : TypeId), AB.cells [AV.v (Value.int IntKind.i64 (a (0 : Nat))), AV.v (Value.int IntKind.i64 (a (1 : Nat))), AV.v (Value.int IntKind.i64 (IntKind.wrap IntKind.i64 (pk l (itB (rowB b)) (p + (1 : Int)) (9 : Int) - (4 : Int)))), AV.v (Value.int IntKind.i64 (a (3 : Nat))), AV.v (Value.int IntKind.i64 (a (4 : Nat))), AV.v (Value.int IntKind.i64 (a (5 : Nat))), AV.v (Value.int IntKind.i64 (a (6 : Nat))), AV.v (Value.int IntKind.i64 (a (7 : Nat)))] (40 : TypeId)]) else Res.out (Ex.exit (1 : Nat)) [AV.ptr (0 : Nat) (0 : Nat) (0 : Nat) (0 : Nat), AV.ptr (2 : Nat) (0 : Nat) (0 : Nat) (0 : Nat), AV.ptr (3 : Nat) (0 : Nat) (0 : Nat) (0 : Nat)] [AB.cells [AV.sl (1 : Nat) (1 : Nat) (0 : Nat) (0 : Nat) l c, AV.v (Value.int IntKind.i64 p)] tr, AB.row false m (1 : Nat) (rowB b) tb, AB.cells [AV.v (Value.int IntKind.i64 (0 : Int)), AV.v (Value.int IntKind.i64 (0 : Int)), AV.v (Value.int IntKind.i64 (0 : Int)), AV.v (Value.int IntKind.i64 (0 : Int)), AV.v (Value.int IntKind.i64 (0 : Int)), AV.v (Value.int IntKind.i64 (0 : Int)), AV.v (Value.int IntKind.i64 (0 : Int)), AV.v (Value.int IntKind.i64 (0 : Int))] (40 : TypeId), AB.cells [AV.v (Value.int IntKind.i64 (a (0 : Nat))), AV.v (Value.int IntKind.i64 (a (1 : Nat))), AV.v (Value.int IntKind.i64 (a (2 : Nat))), AV.v (Value.int IntKind.i64 (a (3 : Nat))), AV.v (Value.int IntKind.i64 (a (4 : Nat))), AV.v (Value.int IntKind.i64 (a (5 : Nat))), AV.v (Value.int IntKind.i64 (a (6 : Nat))), AV.v (Value.int IntKind.i64 (a (7 : Nat)))] (40 : TypeId)] := by kernel_rfl

theorem rndCy3 (pk : Nat → (Nat → Int) → Int → Int → Int) (l : Nat) (c : Option Nat) (p : Int) (m : Nat) (b : Nat → Int) (tr tb : TypeId) (a : Nat → Int) (n : Int) (i : Nat) : exCy pk l c p m b tr tb a n i 3
    = bif decide ((↑i : Int) < n) then needs [okB m (rowB b), decide (l ≤ m), decide ((0 : Int) ≤ p), decide (p ≤ (1073741824 : Int)), decide (pk l (itB (rowB b)) p (8 : Int) = (3 : Int)), decide ((0 : Nat) < m), okB m (rowB b), decide (l ≤ m), decide ((0 : Int) ≤ p + (1 : Int)), decide (p + (1 : Int) ≤ (1073741824 : Int)), decide ((0 : Nat) < m)] (Res.out Ex.normal [AV.ptr (0 : Nat) (0 : Nat) (0 : Nat) (0 : Nat), AV.ptr (2 : Nat) (0 : Nat) (0 : Nat) (0 : Nat), AV.ptr (3 : Nat) (0 : Nat) (0 : Nat) (0 : Nat), AV.v (Value.int IntKind.i64 n), AV.v (Value.int IntKind.i64 (IntKind.wrap IntKind.i64 ((↑i : Int) + (1 : Int))))] [AB.cells [AV.sl (1 : Nat) (1 : Nat) (0 : Nat) (0 : Nat) l c, AV.v (Value.int IntKind.i64 (p + (1 : Int) + (1 : Int)))] tr, AB.row false m (1 : Nat) (rowB b) tb, AB.cells [AV.v (Value.int IntKind.i64 (0 : Int)), AV.v (Value.int IntKind.i64 (0 : Int)), AV.v (Value.int IntKind.i64 (0 : Int)), AV.v (Value.int IntKind.i64 (0 : Int)), AV.v (Value.int IntKind.i64 (0 : Int)), AV.v (Value.int IntKind.i64 (0 : Int)), AV.v (Value.int IntKind.i64 (0 : Int)), AV.v (Value.int IntKind.i64 (0 : Int))] (40 : TypeId), AB.cells [AV.v (Value.int IntKind.i64 (a (0 : Nat))), AV.v (Value.int IntKind.i64 (a (1 : Nat))), AV.v (Value.int IntKind.i64 (a (2 : Nat))), AV.v (Value.int IntKind.i64 (IntKind.wrap IntKind.i64 (pk l (itB (rowB b)) (p + (1 : Int)) (9 : Int) - (4 : Int)))), AV.v (Value.int IntKind.i64 (a (4 : Nat))), AV.v (Value.int IntKind.i64 (a (5 : Nat))), AV.v (Value.int IntKind.i64 (a (6 : Nat))), AV.v (Value.int IntKind.i64 (a (7 : Nat)))] (40 : TypeId)]) else Res.out (Ex.exit (1 : Nat)) [AV.ptr (0 : Nat) (0 : Nat) (0 : Nat) (0 : Nat), AV.ptr (2 : Nat) (0 : Nat) (0 : Nat) (0 : Nat), AV.ptr (3 : Nat) (0 : Nat) (0 : Nat) (0 : Nat)] [AB.cells [AV.sl (1 : Nat) (1 : Nat) (0 : Nat) (0 : Nat) l c, AV.v (Value.int IntKind.i64 p)] tr, AB.row false m (1 : Nat) (rowB b) tb, AB.cells [AV.v (Value.int IntKind.i64 (0 : Int)), AV.v (Value.int IntKind.i64 (0 : Int)), AV.v (Value.int IntKind.i64 (0 : Int)), AV.v (Value.int IntKind.i64 (0 : Int)), AV.v (Value.int IntKind.i64 (0 : Int)), AV.v (Value.int IntKind.i64 (0 : Int)), AV.v (Value.int IntKind.i64 (0 : Int)), AV.v (Value.int IntKind.i64 (0 : Int))] (40 : TypeId), AB.cells [AV.v (Value.int IntKind.i64 (a (0 : Nat))), AV.v (Value.int IntKind.i64 (a (1 : Nat))), AV.v (Value.int IntKind.i64 (a (2 : Nat))), AV.v (Value.int IntKind.i64 (a (3 : Nat))), AV.v (Value.int IntKind.i64 (a (4 : Nat))), AV.v (Value.int IntKind.i64 (a (5 : Nat))), AV.v (Value.int IntKind.i64 (a (6 : Nat))), AV.v (Value.int IntKind.i64 (a (7 : Nat)))] (40 : TypeId)] := by kernel_rfl

theorem rndCy4 (pk : Nat → (Nat → Int) → Int → Int → Int) (l : Nat) (c : Option Nat) (p : Int) (m : Nat) (b : Nat → Int) (tr tb : TypeId) (a : Nat → Int) (n : Int) (i : Nat) : exCy pk l c p m b tr tb a n i 4
    = bif decide ((↑i : Int) < n) then needs [okB m (rowB b), decide (l ≤ m), decide ((0 : Int) ≤ p), decide (p ≤ (1073741824 : Int)), decide (pk l (itB (rowB b)) p (8 : Int) = (4 : Int)), decide ((0 : Nat) < m), okB m (rowB b), decide (l ≤ m), decide ((0 : Int) ≤ p + (1 : Int)), decide (p + (1 : Int) ≤ (1073741824 : Int)), decide ((0 : Nat) < m)] (Res.out Ex.normal [AV.ptr (0 : Nat) (0 : Nat) (0 : Nat) (0 : Nat), AV.ptr (2 : Nat) (0 : Nat) (0 : Nat) (0 : Nat), AV.ptr (3 : Nat) (0 : Nat) (0 : Nat) (0 : Nat), AV.v (Value.int IntKind.i64 n), AV.v (Value.int IntKind.i64 (IntKind.wrap IntKind.i64 ((↑i : Int) + (1 : Int))))] [AB.cells [AV.sl (1 : Nat) (1 : Nat) (0 : Nat) (0 : Nat) l c, AV.v (Value.int IntKind.i64 (p + (1 : Int) + (1 : Int)))] tr, AB.row false m (1 : Nat) (rowB b) tb, AB.cells [AV.v (Value.int IntKind.i64 (0 : Int)), AV.v (Value.int IntKind.i64 (0 : Int)), AV.v (Value.int IntKind.i64 (0 : Int)), AV.v (Value.int IntKind.i64 (0 : Int)), AV.v (Value.int IntKind.i64 (0 : Int)), AV.v (Value.int IntKind.i64 (0 : Int)), AV.v (Value.int IntKind.i64 (0 : Int)), AV.v (Value.int IntKind.i64 (0 : Int))] (40 : TypeId), AB.cells [AV.v (Value.int IntKind.i64 (a (0 : Nat))), AV.v (Value.int IntKind.i64 (a (1 : Nat))), AV.v (Value.int IntKind.i64 (a (2 : Nat))), AV.v (Value.int IntKind.i64 (a (3 : Nat))), AV.v (Value.int IntKind.i64 (IntKind.wrap IntKind.i64 (pk l (itB (rowB b)) (p + (1 : Int)) (9 : Int) - (4 : Int)))), AV.v (Value.int IntKind.i64 (a (5 : Nat))), AV.v (Value.int IntKind.i64 (a (6 : Nat))), AV.v (Value.int IntKind.i64 (a (7 : Nat)))] (40 : TypeId)]) else Res.out (Ex.exit (1 : Nat)) [AV.ptr (0 : Nat) (0 : Nat) (0 : Nat) (0 : Nat), AV.ptr (2 : Nat) (0 : Nat) (0 : Nat) (0 : Nat), AV.ptr (3 : Nat) (0 : Nat) (0 : Nat) (0 : Nat)] [AB.cells [AV.sl (1 : Nat) (1 : Nat) (0 : Nat) (0 : Nat) l c, AV.v (Value.int IntKind.i64 p)] tr, AB.row false m (1 : Nat) (rowB b) tb, AB.cells [AV.v (Value.int IntKind.i64 (0 : Int)), AV.v (Value.int IntKind.i64 (0 : Int)), AV.v (Value.int IntKind.i64 (0 : Int)), AV.v (Value.int IntKind.i64 (0 : Int)), AV.v (Value.int IntKind.i64 (0 : Int)), AV.v (Value.int IntKind.i64 (0 : Int)), AV.v (Value.int IntKind.i64 (0 : Int)), AV.v (Value.int IntKind.i64 (0 : Int))] (40 : TypeId), AB.cells [AV.v (Value.int IntKind.i64 (a (0 : Nat))), AV.v (Value.int IntKind.i64 (a (1 : Nat))), AV.v (Value.int IntKind.i64 (a (2 : Nat))), AV.v (Value.int IntKind.i64 (a (3 : Nat))), AV.v (Value.int IntKind.i64 (a (4 : Nat))), AV.v (Value.int IntKind.i64 (a (5 : Nat))), AV.v (Value.int IntKind.i64 (a (6 : Nat))), AV.v (Value.int IntKind.i64 (a (7 : Nat)))] (40 : TypeId)] := by kernel_rfl

theorem rndCy5 (pk : Nat → (Nat → Int) → Int → Int → Int) (l : Nat) (c : Option Nat) (p : Int) (m : Nat) (b : Nat → Int) (tr tb : TypeId) (a : Nat → Int) (n : Int) (i : Nat) : exCy pk l c p m b tr tb a n i 5
    = bif decide ((↑i : Int) < n) then needs [okB m (rowB b), decide (l ≤ m), decide ((0 : Int) ≤ p), decide (p ≤ (1073741824 : Int)), decide (pk l (itB (rowB b)) p (8 : Int) = (5 : Int)), decide ((0 : Nat) < m), okB m (rowB b), decide (l ≤ m), decide ((0 : Int) ≤ p + (1 : Int)), decide (p + (1 : Int) ≤ (1073741824 : Int)), decide ((0 : Nat) < m)] (Res.out Ex.normal [AV.ptr (0 : Nat) (0 : Nat) (0 : Nat) (0 : Nat), AV.ptr (2 : Nat) (0 : Nat) (0 : Nat) (0 : Nat), AV.ptr (3 : Nat) (0 : Nat) (0 : Nat) (0 : Nat), AV.v (Value.int IntKind.i64 n), AV.v (Value.int IntKind.i64 (IntKind.wrap IntKind.i64 ((↑i : Int) + (1 : Int))))] [AB.cells [AV.sl (1 : Nat) (1 : Nat) (0 : Nat) (0 : Nat) l c, AV.v (Value.int IntKind.i64 (p + (1 : Int) + (1 : Int)))] tr, AB.row false m (1 : Nat) (rowB b) tb, AB.cells [AV.v (Value.int IntKind.i64 (0 : Int)), AV.v (Value.int IntKind.i64 (0 : Int)), AV.v (Value.int IntKind.i64 (0 : Int)), AV.v (Value.int IntKind.i64 (0 : Int)), AV.v (Value.int IntKind.i64 (0 : Int)), AV.v (Value.int IntKind.i64 (0 : Int)), AV.v (Value.int IntKind.i64 (0 : Int)), AV.v (Value.int IntKind.i64 (0 : Int))] (40 : TypeId), AB.cells [AV.v (Value.int IntKind.i64 (a (0 : Nat))), AV.v (Value.int IntKind.i64 (a (1 : Nat))), AV.v (Value.int IntKind.i64 (a (2 : Nat))), AV.v (Value.int IntKind.i64 (a (3 : Nat))), AV.v (Value.int IntKind.i64 (a (4 : Nat))), AV.v (Value.int IntKind.i64 (IntKind.wrap IntKind.i64 (pk l (itB (rowB b)) (p + (1 : Int)) (9 : Int) - (4 : Int)))), AV.v (Value.int IntKind.i64 (a (6 : Nat))), AV.v (Value.int IntKind.i64 (a (7 : Nat)))] (40 : TypeId)]) else Res.out (Ex.exit (1 : Nat)) [AV.ptr (0 : Nat) (0 : Nat) (0 : Nat) (0 : Nat), AV.ptr (2 : Nat) (0 : Nat) (0 : Nat) (0 : Nat), AV.ptr (3 : Nat) (0 : Nat) (0 : Nat) (0 : Nat)] [AB.cells [AV.sl (1 : Nat) (1 : Nat) (0 : Nat) (0 : Nat) l c, AV.v (Value.int IntKind.i64 p)] tr, AB.row false m (1 : Nat) (rowB b) tb, AB.cells [AV.v (Value.int IntKind.i64 (0 : Int)), AV.v (Value.int IntKind.i64 (0 : Int)), AV.v (Value.int IntKind.i64 (0 : Int)), AV.v (Value.int IntKind.i64 (0 : Int)), AV.v (Value.int IntKind.i64 (0 : Int)), AV.v (Value.int IntKind.i64 (0 : Int)), AV.v (Value.int IntKind.i64 (0 : Int)), AV.v (Value.int IntKind.i64 (0 : Int))] (40 : TypeId), AB.cells [AV.v (Value.int IntKind.i64 (a (0 : Nat))), AV.v (Value.int IntKind.i64 (a (1 : Nat))), AV.v (Value.int IntKind.i64 (a (2 : Nat))), AV.v (Value.int IntKind.i64 (a (3 : Nat))), AV.v (Value.int IntKind.i64 (a (4 : Nat))), AV.v (Value.int IntKind.i64 (a (5 : Nat))), AV.v (Value.int IntKind.i64 (a (6 : Nat))), AV.v (Value.int IntKind.i64 (a (7 : Nat)))] (40 : TypeId)] := by kernel_rfl

theorem rndCy6 (pk : Nat → (Nat → Int) → Int → Int → Int) (l : Nat) (c : Option Nat) (p : Int) (m : Nat) (b : Nat → Int) (tr tb : TypeId) (a : Nat → Int) (n : Int) (i : Nat) : exCy pk l c p m b tr tb a n i 6
    = bif decide ((↑i : Int) < n) then needs [okB m (rowB b), decide (l ≤ m), decide ((0 : Int) ≤ p), decide (p ≤ (1073741824 : Int)), decide (pk l (itB (rowB b)) p (8 : Int) = (6 : Int)), decide ((0 : Nat) < m), okB m (rowB b), decide (l ≤ m), decide ((0 : Int) ≤ p + (1 : Int)), decide (p + (1 : Int) ≤ (1073741824 : Int)), decide ((0 : Nat) < m)] (Res.out Ex.normal [AV.ptr (0 : Nat) (0 : Nat) (0 : Nat) (0 : Nat), AV.ptr (2 : Nat) (0 : Nat) (0 : Nat) (0 : Nat), AV.ptr (3 : Nat) (0 : Nat) (0 : Nat) (0 : Nat), AV.v (Value.int IntKind.i64 n), AV.v (Value.int IntKind.i64 (IntKind.wrap IntKind.i64 ((↑i : Int) + (1 : Int))))] [AB.cells [AV.sl (1 : Nat) (1 : Nat) (0 : Nat) (0 : Nat) l c, AV.v (Value.int IntKind.i64 (p + (1 : Int) + (1 : Int)))] tr, AB.row false m (1 : Nat) (rowB b) tb, AB.cells [AV.v (Value.int IntKind.i64 (0 : Int)), AV.v (Value.int IntKind.i64 (0 : Int)), AV.v (Value.int IntKind.i64 (0 : Int)), AV.v (Value.int IntKind.i64 (0 : Int)), AV.v (Value.int IntKind.i64 (0 : Int)), AV.v (Value.int IntKind.i64 (0 : Int)), AV.v (Value.int IntKind.i64 (0 : Int)), AV.v (Value.int IntKind.i64 (0 : Int))] (40 : TypeId), AB.cells [AV.v (Value.int IntKind.i64 (a (0 : Nat))), AV.v (Value.int IntKind.i64 (a (1 : Nat))), AV.v (Value.int IntKind.i64 (a (2 : Nat))), AV.v (Value.int IntKind.i64 (a (3 : Nat))), AV.v (Value.int IntKind.i64 (a (4 : Nat))), AV.v (Value.int IntKind.i64 (a (5 : Nat))), AV.v (Value.int IntKind.i64 (IntKind.wrap IntKind.i64 (pk l (itB (rowB b)) (p + (1 : Int)) (9 : Int) - (4 : Int)))), AV.v (Value.int IntKind.i64 (a (7 : Nat)))] (40 : TypeId)]) else Res.out (Ex.exit (1 : Nat)) [AV.ptr (0 : Nat) (0 : Nat) (0 : Nat) (0 : Nat), AV.ptr (2 : Nat) (0 : Nat) (0 : Nat) (0 : Nat), AV.ptr (3 : Nat) (0 : Nat) (0 : Nat) (0 : Nat)] [AB.cells [AV.sl (1 : Nat) (1 : Nat) (0 : Nat) (0 : Nat) l c, AV.v (Value.int IntKind.i64 p)] tr, AB.row false m (1 : Nat) (rowB b) tb, AB.cells [AV.v (Value.int IntKind.i64 (0 : Int)), AV.v (Value.int IntKind.i64 (0 : Int)), AV.v (Value.int IntKind.i64 (0 : Int)), AV.v (Value.int IntKind.i64 (0 : Int)), AV.v (Value.int IntKind.i64 (0 : Int)), AV.v (Value.int IntKind.i64 (0 : Int)), AV.v (Value.int IntKind.i64 (0 : Int)), AV.v (Value.int IntKind.i64 (0 : Int))] (40 : TypeId), AB.cells [AV.v (Value.int IntKind.i64 (a (0 : Nat))), AV.v (Value.int IntKind.i64 (a (1 : Nat))), AV.v (Value.int IntKind.i64 (a (2 : Nat))), AV.v (Value.int IntKind.i64 (a (3 : Nat))), AV.v (Value.int IntKind.i64 (a (4 : Nat))), AV.v (Value.int IntKind.i64 (a (5 : Nat))), AV.v (Value.int IntKind.i64 (a (6 : Nat))), AV.v (Value.int IntKind.i64 (a (7 : Nat)))] (40 : TypeId)] := by kernel_rfl

theorem rndCy7 (pk : Nat → (Nat → Int) → Int → Int → Int) (l : Nat) (c : Option Nat) (p : Int) (m : Nat) (b : Nat → Int) (tr tb : TypeId) (a : Nat → Int) (n : Int) (i : Nat) : exCy pk l c p m b tr tb a n i 7
    = bif decide ((↑i : Int) < n) then needs [okB m (rowB b), decide (l ≤ m), decide ((0 : Int) ≤ p), decide (p ≤ (1073741824 : Int)), decide (pk l (itB (rowB b)) p (8 : Int) = (7 : Int)), decide ((0 : Nat) < m), okB m (rowB b), decide (l ≤ m), decide ((0 : Int) ≤ p + (1 : Int)), decide (p + (1 : Int) ≤ (1073741824 : Int)), decide ((0 : Nat) < m)] (Res.out Ex.normal [AV.ptr (0 : Nat) (0 : Nat) (0 : Nat) (0 : Nat), AV.ptr (2 : Nat) (0 : Nat) (0 : Nat) (0 : Nat), AV.ptr (3 : Nat) (0 : Nat) (0 : Nat) (0 : Nat), AV.v (Value.int IntKind.i64 n), AV.v (Value.int IntKind.i64 (IntKind.wrap IntKind.i64 ((↑i : Int) + (1 : Int))))] [AB.cells [AV.sl (1 : Nat) (1 : Nat) (0 : Nat) (0 : Nat) l c, AV.v (Value.int IntKind.i64 (p + (1 : Int) + (1 : Int)))] tr, AB.row false m (1 : Nat) (rowB b) tb, AB.cells [AV.v (Value.int IntKind.i64 (0 : Int)), AV.v (Value.int IntKind.i64 (0 : Int)), AV.v (Value.int IntKind.i64 (0 : Int)), AV.v (Value.int IntKind.i64 (0 : Int)), AV.v (Value.int IntKind.i64 (0 : Int)), AV.v (Value.int IntKind.i64 (0 : Int)), AV.v (Value.int IntKind.i64 (0 : Int)), AV.v (Value.int IntKind.i64 (0 : Int))] (40 : TypeId), AB.cells [AV.v (Value.int IntKind.i64 (a (0 : Nat))), AV.v (Value.int IntKind.i64 (a (1 : Nat))), AV.v (Value.int IntKind.i64 (a (2 : Nat))), AV.v (Value.int IntKind.i64 (a (3 : Nat))), AV.v (Value.int IntKind.i64 (a (4 : Nat))), AV.v (Value.int IntKind.i64 (a (5 : Nat))), AV.v (Value.int IntKind.i64 (a (6 : Nat))), AV.v (Value.int IntKind.i64 (IntKind.wrap IntKind.i64 (pk l (itB (rowB b)) (p + (1 : Int)) (9 : Int) - (4 : Int))))] (40 : TypeId)]) else Res.out (Ex.exit (1 : Nat)) [AV.ptr (0 : Nat) (0 : Nat) (0 : Nat) (0 : Nat), AV.ptr (2 : Nat) (0 : Nat) (0 : Nat) (0 : Nat), AV.ptr (3 : Nat) (0 : Nat) (0 : Nat) (0 : Nat)] [AB.cells [AV.sl (1 : Nat) (1 : Nat) (0 : Nat) (0 : Nat) l c, AV.v (Value.int IntKind.i64 p)] tr, AB.row false m (1 : Nat) (rowB b) tb, AB.cells [AV.v (Value.int IntKind.i64 (0 : Int)), AV.v (Value.int IntKind.i64 (0 : Int)), AV.v (Value.int IntKind.i64 (0 : Int)), AV.v (Value.int IntKind.i64 (0 : Int)), AV.v (Value.int IntKind.i64 (0 : Int)), AV.v (Value.int IntKind.i64 (0 : Int)), AV.v (Value.int IntKind.i64 (0 : Int)), AV.v (Value.int IntKind.i64 (0 : Int))] (40 : TypeId), AB.cells [AV.v (Value.int IntKind.i64 (a (0 : Nat))), AV.v (Value.int IntKind.i64 (a (1 : Nat))), AV.v (Value.int IntKind.i64 (a (2 : Nat))), AV.v (Value.int IntKind.i64 (a (3 : Nat))), AV.v (Value.int IntKind.i64 (a (4 : Nat))), AV.v (Value.int IntKind.i64 (a (5 : Nat))), AV.v (Value.int IntKind.i64 (a (6 : Nat))), AV.v (Value.int IntKind.i64 (a (7 : Nat)))] (40 : TypeId)] := by kernel_rfl

noncomputable abbrev lamCy (l : Nat) (c : Option Nat) (m : Nat) (b : Nat → Int) (tr tb : TypeId) (n p1 p2 : Int) (a : Nat → Int) : Nat → Option Sum := oneL 1 (atS 57 (lvCy .normal) 2 (stCy n 0) (hpCy l c p1 m b tr tb fun _ => 0) (fun K => K .normal (mkT 0 57 [(0, .ptr 0 0 0 0), (2, .ptr 2 0 0 0), (3, .ptr 3 0 0 0)]) (hpCy l c p2 m b tr tb a)))
def gmCy (pk : Nat → (Nat → Int) → Int → Int → Int) (is : Int → Bool) (tu : (Nat → Int) → Int → Nat → Int) : Gam := ext (ext (ext g0 86 (specK [] (FpkO pk))) 131 (specV (fIsO is))) 132 (specR [.val, .val] (FtuO tu))
theorem treeCy (pk : Nat → (Nat → Int) → Int → Int → Int) (is : Int → Bool) (tu : (Nat → Int) → Int → Nat → Int) (l : Nat) (c : Option Nat) (p : Int) (m : Nat) (b : Nat → Int) (tr tb : TypeId) (n p1 p2 : Int) (a : Nat → Int) : execF Try.prog (gmCy pk is tu) (lamCy l c m b tr tb n p1 p2 a) 100 fCy [.ptr 0 0 0 0] (hpRd l c p m b tr tb) (packK 2)
    = needs [okB m (rowB b), decide (l ≤ m), decide ((0 : Int) ≤ p), decide (p ≤ (1073741824 : Int)), decide ((0 : Nat) < m)] (bif pk l (itB (rowB b)) p (8 : Int) == (0 : Int) then needs [okB m (rowB b), decide (l ≤ m), decide ((0 : Int) ≤ p + (1 : Int)), decide (p + (1 : Int) ≤ (1073741824 : Int)), decide ((0 : Nat) < m)] (bif !is (pk l (itB (rowB b)) (p + (1 : Int)) (24 : Int)) then Res.out Ex.ret [AV.agg [AV.v (Value.int IntKind.i64 (0 : Int)), AV.v (Value.int IntKind.i64 (0 : Int)), AV.v (Value.int IntKind.i64 (0 : Int)), AV.v (Value.int IntKind.i64 (0 : Int)), AV.v (Value.int IntKind.i64 (0 : Int)), AV.v (Value.int IntKind.i64 (0 : Int)), AV.v (Value.int IntKind.i64 (0 : Int)), AV.v (Value.int IntKind.i64 (0 : Int))]] [AB.cells [AV.sl (1 : Nat) (1 : Nat) (0 : Nat) (0 : Nat) l c, AV.v (Value.int IntKind.i64 (p + (1 : Int) + (1 : Int)))] tr, AB.row false m (1 : Nat) (rowB b) tb] else needs [decide (pk l (itB (rowB b)) (p + (1 : Int)) (24 : Int) ≤ (1099511627776 : Int))] (Res.out Ex.ret [AV.agg [AV.v (Value.int IntKind.i64 (tu (v8 (1 : Int) (0 : Int) (0 : Int) (0 : Int) (0 : Int) (0 : Int) (0 : Int) (0 : Int)) (pk l (itB (rowB b)) (p + (1 : Int)) (24 : Int)) (0 : Nat))), AV.v (Value.int IntKind.i64 (tu (v8 (1 : Int) (0 : Int) (0 : Int) (0 : Int) (0 : Int) (0 : Int) (0 : Int) (0 : Int)) (pk l (itB (rowB b)) (p + (1 : Int)) (24 : Int)) (1 : Nat))), AV.v (Value.int IntKind.i64 (tu (v8 (1 : Int) (0 : Int) (0 : Int) (0 : Int) (0 : Int) (0 : Int) (0 : Int) (0 : Int)) (pk l (itB (rowB b)) (p + (1 : Int)) (24 : Int)) (2 : Nat))), AV.v (Value.int IntKind.i64 (tu (v8 (1 : Int) (0 : Int) (0 : Int) (0 : Int) (0 : Int) (0 : Int) (0 : Int) (0 : Int)) (pk l (itB (rowB b)) (p + (1 : Int)) (24 : Int)) (3 : Nat))), AV.v (Value.int IntKind.i64 (tu (v8 (1 : Int) (0 : Int) (0 : Int) (0 : Int) (0 : Int) (0 : Int) (0 : Int) (0 : Int)) (pk l (itB (rowB b)) (p + (1 : Int)) (24 : Int)) (4 : Nat))), AV.v (Value.int IntKind.i64 (tu (v8 (1 : Int) (0 : Int) (0 : Int) (0 : Int) (0 : Int) (0 : Int) (0 : Int) (0 : Int)) (pk l (itB (rowB b)) (p + (1 : Int)) (24 : Int)) (5 : Nat))), AV.v (Value.int IntKind.i64 (tu (v8 (1 : Int) (0 : Int) (0 : Int) (0 : Int) (0 : Int) (0 : Int) (0 : Int) (0 : Int)) (pk l (itB (rowB b)) (p + (1 : Int)) (24 : Int)) (6 : Nat))), AV.v (Value.int IntKind.i64 (tu (v8 (1 : Int) (0 : Int) (0 : Int) (0 : Int) (0 : Int) (0 : Int) (0 : Int) (0 : Int)) (pk l (itB (rowB b)) (p + (1 : Int)) (24 : Int)) (7 : Nat)))]] [AB.cells [AV.sl (1 : Nat) (1 : Nat) (0 : Nat) (0 : Nat) l c, AV.v (Value.int IntKind.i64 (p + (1 : Int) + (1 : Int)))] tr, AB.row false m (1 : Nat) (rowB b) tb])) else bif pk l (itB (rowB b)) p (8 : Int) == (1 : Int) then needs [okB m (rowB b), decide (l ≤ m), decide ((0 : Int) ≤ p + (1 : Int)), decide (p + (1 : Int) ≤ (1073741824 : Int)), decide ((0 : Nat) < m), okB m (rowB b), decide (l ≤ m), decide ((0 : Int) ≤ p + (1 : Int) + (1 : Int)), decide (p + (1 : Int) + (1 : Int) ≤ (1073741824 : Int)), decide ((0 : Nat) < m)] (Res.out Ex.ret [AV.agg [AV.v (Value.int IntKind.i64 (IntKind.wrap IntKind.i64 (pk l (itB (rowB b)) (p + (1 : Int)) (9 : Int) - (4 : Int)))), AV.v (Value.int IntKind.i64 (0 : Int)), AV.v (Value.int IntKind.i64 (0 : Int)), AV.v (Value.int IntKind.i64 (0 : Int)), AV.v (Value.int IntKind.i64 (0 : Int)), AV.v (Value.int IntKind.i64 (0 : Int)), AV.v (Value.int IntKind.i64 (IntKind.wrap IntKind.i64 (pk l (itB (rowB b)) (p + (1 : Int) + (1 : Int)) (9 : Int) - (4 : Int)))), AV.v (Value.int IntKind.i64 (0 : Int))]] [AB.cells [AV.sl (1 : Nat) (1 : Nat) (0 : Nat) (0 : Nat) l c, AV.v (Value.int IntKind.i64 (p + (1 : Int) + (1 : Int) + (1 : Int)))] tr, AB.row false m (1 : Nat) (rowB b) tb]) else bif pk l (itB (rowB b)) p (8 : Int) == (2 : Int) then Res.out Ex.ret [AV.agg [AV.v (Value.int IntKind.i64 (0 : Int)), AV.v (Value.int IntKind.i64 (0 : Int)), AV.v (Value.int IntKind.i64 (0 : Int)), AV.v (Value.int IntKind.i64 (0 : Int)), AV.v (Value.int IntKind.i64 (0 : Int)), AV.v (Value.int IntKind.i64 (0 : Int)), AV.v (Value.int IntKind.i64 (0 : Int)), AV.v (Value.int IntKind.i64 (0 : Int))]] [AB.cells [AV.sl (1 : Nat) (1 : Nat) (0 : Nat) (0 : Nat) l c, AV.v (Value.int IntKind.i64 (p + (1 : Int)))] tr, AB.row false m (1 : Nat) (rowB b) tb] else needs [okB m (rowB b), decide (l ≤ m), decide ((0 : Int) ≤ p + (1 : Int)), decide (p + (1 : Int) ≤ (1073741824 : Int)), decide ((0 : Nat) < m), chk ([AV.ptr (0 : Nat) (0 : Nat) (0 : Nat) (0 : Nat), AV.ptr (2 : Nat) (0 : Nat) (0 : Nat) (0 : Nat), AV.ptr (3 : Nat) (0 : Nat) (0 : Nat) (0 : Nat), AV.v (Value.int IntKind.i64 (IntKind.wrap IntKind.i64 ((1 : Int) + pk l (itB (rowB b)) (p + (1 : Int)) (3 : Int)))), AV.v (Value.int IntKind.i64 (0 : Int))] = stCy n (0 : Nat) ∧ Hsim [AB.cells [AV.sl (1 : Nat) (1 : Nat) (0 : Nat) (0 : Nat) l c, AV.v (Value.int IntKind.i64 (p + (1 : Int) + (1 : Int)))] tr, AB.row false m (1 : Nat) (rowB b) tb, AB.cells [AV.v (Value.int IntKind.i64 (0 : Int)), AV.v (Value.int IntKind.i64 (0 : Int)), AV.v (Value.int IntKind.i64 (0 : Int)), AV.v (Value.int IntKind.i64 (0 : Int)), AV.v (Value.int IntKind.i64 (0 : Int)), AV.v (Value.int IntKind.i64 (0 : Int)), AV.v (Value.int IntKind.i64 (0 : Int)), AV.v (Value.int IntKind.i64 (0 : Int))] (40 : Nat), AB.cells [AV.v (Value.int IntKind.i64 (0 : Int)), AV.v (Value.int IntKind.i64 (0 : Int)), AV.v (Value.int IntKind.i64 (0 : Int)), AV.v (Value.int IntKind.i64 (0 : Int)), AV.v (Value.int IntKind.i64 (0 : Int)), AV.v (Value.int IntKind.i64 (0 : Int)), AV.v (Value.int IntKind.i64 (0 : Int)), AV.v (Value.int IntKind.i64 (0 : Int))] (40 : Nat)] (hpCy l c p1 m b tr tb fun _ ↦ (0 : Int))), okB m (rowB b), decide (l ≤ m), decide ((0 : Int) ≤ p2), decide (p2 ≤ (1073741824 : Int)), decide ((0 : Nat) < m)] (bif pk l (itB (rowB b)) p2 (30 : Int) == (0 : Int) then Res.out Ex.ret [AV.agg [AV.v (Value.int IntKind.i64 (1000001 : Int)), AV.v (Value.int IntKind.i64 (a (1 : Nat))), AV.v (Value.int IntKind.i64 (a (2 : Nat))), AV.v (Value.int IntKind.i64 (a (3 : Nat))), AV.v (Value.int IntKind.i64 (a (4 : Nat))), AV.v (Value.int IntKind.i64 (a (5 : Nat))), AV.v (Value.int IntKind.i64 (a (6 : Nat))), AV.v (Value.int IntKind.i64 (a (7 : Nat)))]] [AB.cells [AV.sl (1 : Nat) (1 : Nat) (0 : Nat) (0 : Nat) l c, AV.v (Value.int IntKind.i64 (p2 + (1 : Int)))] tr, AB.row false m (1 : Nat) (rowB b) tb] else bif pk l (itB (rowB b)) p2 (30 : Int) == (1 : Int) then Res.out Ex.ret [AV.agg [AV.v (Value.int IntKind.i64 (a (0 : Nat))), AV.v (Value.int IntKind.i64 (a (1 : Nat))), AV.v (Value.int IntKind.i64 (a (2 : Nat))), AV.v (Value.int IntKind.i64 (a (3 : Nat))), AV.v (Value.int IntKind.i64 (a (4 : Nat))), AV.v (Value.int IntKind.i64 (a (5 : Nat))), AV.v (Value.int IntKind.i64 (a (6 : Nat))), AV.v (Value.int IntKind.i64 (1000000 : Int))]] [AB.cells [AV.sl (1 : Nat) (1 : Nat) (0 : Nat) (0 : Nat) l c, AV.v (Value.int IntKind.i64 (p2 + (1 : Int)))] tr, AB.row false m (1 : Nat) (rowB b) tb] else Res.out Ex.ret [AV.agg [AV.v (Value.int IntKind.i64 (a (0 : Nat))), AV.v (Value.int IntKind.i64 (a (1 : Nat))), AV.v (Value.int IntKind.i64 (a (2 : Nat))), AV.v (Value.int IntKind.i64 (a (3 : Nat))), AV.v (Value.int IntKind.i64 (a (4 : Nat))), AV.v (Value.int IntKind.i64 (a (5 : Nat))), AV.v (Value.int IntKind.i64 (a (6 : Nat))), AV.v (Value.int IntKind.i64 (a (7 : Nat)))]] [AB.cells [AV.sl (1 : Nat) (1 : Nat) (0 : Nat) (0 : Nat) l c, AV.v (Value.int IntKind.i64 (p2 + (1 : Int)))] tr, AB.row false m (1 : Nat) (rowB b) tb])) := by kernel_rfl

end Go.Proofs.Ytoligfhcogligaa

/- The abstract machine, 28: loops whose table of callees goes by the round. Conditions: those of the tables. -/
namespace Go.Proofs.Ytoligfhcogligaa
open Go.RowKit

theorem loop_atG {id n m m0 N : Nat} {c : Code} {lv : Ex → List Nat} {out : Kont → Res} {σ : Type} (Γ : σ → Gam) (hΓ : ∀ s, GamOk Try.prog (Γ s)) (st : σ → List AV) (hp : σ → List AB) (Inv : σ → Prop) (μ : σ → Nat) (s0 : σ) (Λ : σ → Nat → Option Sum)
    (hr : ∀ e, risB (lv e) = true) (hm : m0 ≤ m) (h0 : Inv s0)
    (h : ∀ K Q, (out K).ok Q → ∀ s, Inv s → LamOk Try.prog m0 (Λ s) c ∧ GoodQ (execC Try.prog (Γ s) n (Λ s) c (mkT 0 N ((lv .normal).zip (st s))) (hp s) (leafV N lv m)) (RoundV N id lv st hp (fun s' => Inv s' ∧ μ s' < μ s) K Q)) :
    SumOk Try.prog m0 (.block id (.loop c)) (atS N (lv .normal) m (st s0) (hp s0) out) := by
  intro M w0 ν0 hM hm0 T H K Q a w ν hS hR hd
  unfold atS at hS
  cases hN : Nat.beq T.length N with
  | false => rw [hN] at hS; exact hS.elim
  | true =>
    rw [hN, cond_true] at hS
    have hN := Nat.eq_of_beq_eq_true hN
    split at hS
    · rename_i p hw
      rcases cond_ok hS with ⟨hc, hk⟩ | ⟨_, hk⟩
      · obtain ⟨hv, hsim⟩ := of_chk hc
        have hw' := weakL_some hw (hr .normal)
        rw [hN, hv] at hw'
        have hν : ∀ i b, ν0 i = some b → i < m := fun i b hb => Nat.lt_of_lt_of_le (hm0 i b hb) hm
        have key : ∀ (r : Nat) (s : σ) (a : Act) (w : World) (ν : Nu), Inv s → μ s < r → SR M w0 ν0 (mkT 0 N ((lv .normal).zip (st s))) (hp s) a w ν → a.defers = [] → Code.rounds Try.prog c (Exit.inBlock id (post M w0 ν0 K Q)) r a w := by
          intro r
          induction r with
          | zero => intro s a w ν _ hlt; omega
          | succ r ih =>
            intro s a w ν hi hlt hR hd
            rw [rounds_succ]
            obtain ⟨hL, hG⟩ := h K Q hk s hi
            refine wp_mono (execC_sound (hΓ s) mixed enters n m0 (Λ s) c hL M w0 ν0 hM hm0 _ _ _ _ a w ν hG.out hR hd) fun e a' w' hpp => ?_
            obtain ⟨e', T', H', ν', rfl, hk', hS', hd'⟩ := hpp
            unfold leafV at hk'
            cases hN' : Nat.beq T'.length N with
            | false => rw [hN'] at hk'; exact hk'.elim
            | true =>
              rw [hN', cond_true] at hk'
              have hN' := Nat.eq_of_beq_eq_true hN'
              split at hk'
              · rename_i q hwk
                have hwk' := weakL_some hwk (hr e')
                rw [hN'] at hwk'
                have hR' := weak_sound hwk' hS' hν
                cases e' with
                | normal =>
                  obtain ⟨s', ⟨i', hmu⟩, he, hs'⟩ := hk'
                  rw [he] at hR'
                  exact ih s' a' w' _ i' (by omega) (hR'.sim hs') hd'
                | exit j =>
                  simp only [Ex.to, Exit.then, Exit.inBlock]
                  obtain ⟨H'', hs', hkk⟩ := hk'
                  split
                  · rename_i hj
                    rw [if_pos hj] at hkk
                    exact ⟨.normal, _, _, _, rfl, hkk, hR'.sim hs', hd'⟩
                  · rename_i hj
                    rw [if_neg hj] at hkk
                    exact ⟨.exit j, _, _, _, rfl, hkk, hR'.sim hs', hd'⟩
                | ret =>
                  obtain ⟨H'', hs', hkk⟩ := hk'
                  exact ⟨.ret, _, _, _, rfl, hkk, hR'.sim hs', hd'⟩
              · exact hk'.elim
        have hR0 := (weak_sound hw' hR hν).sim hsim
        exact wp_block (wp_loop_rounds (μ s0 + 1) (key _ s0 a w _ h0 (Nat.lt_succ_self _) hR0 hd))
      · exact hk.elim
    · exact hS.elim

/-- A loop that counts. -/
theorem for_atG {id n m m0 N : Nat} {c : Code} {lv : Ex → List Nat} {out : Kont → Res} (Γ : Nat → Gam) (hΓ : ∀ s, GamOk Try.prog (Γ s)) (st : Nat → List AV) (hp : Nat → List AB) (okI : Nat → Prop) (len : Nat) (Λ : Nat → Nat → Option Sum)
    (hr : ∀ e, risB (lv e) = true) (hm : m0 ≤ m) (h0 : okI 0)
    (h : ∀ K Q, (out K).ok Q → ∀ i, okI i → i ≤ len → LamOk Try.prog m0 (Λ i) c ∧ GoodQ (execC Try.prog (Γ i) n (Λ i) c (mkT 0 N ((lv .normal).zip (st i))) (hp i) (leafV N lv m)) (RoundV N id lv st hp (fun s' => s' = i + 1 ∧ i < len ∧ okI (i + 1)) K Q)) :
    SumOk Try.prog m0 (.block id (.loop c)) (atS N (lv .normal) m (st 0) (hp 0) out) := by
  refine loop_atG (n := n) Γ hΓ st hp (fun i => okI i ∧ i ≤ len) (fun i => len - i) 0 Λ hr hm ⟨h0, Nat.zero_le _⟩ fun K Q hk i hi => ?_
  obtain ⟨h1, h2⟩ := h K Q hk i hi.1 hi.2
  refine ⟨h1, ⟨res_mono (fun e vs H' hq => ?_) h2.out⟩⟩
  cases e with
  | normal =>
    obtain ⟨s', ⟨rfl, hlt, hok⟩, h3, h4⟩ := hq
    exact ⟨_, ⟨⟨hok, hlt⟩, by omega⟩, h3, h4⟩
  | exit j => exact hq
  | ret => exact hq

end Go.Proofs.Ytoligfhcogligaa

/- l91Cyc: an exact point, whatever the bytes are. Conditions: those of pick. -/
namespace Go.Proofs.Ytoligfhcogligaa
open Go.RowKit
set_option maxRecDepth 100000

/-- The coefficients after some rounds. -/
def caF (l : Nat) (b : Nat → Int) (p : Int) : Nat → Nat → Int
  | 0 => fun _ => 0
  | i + 1 => fun k => if (k : Int) = pkV l b (p + 2 * (i : Int)) 8 then W (pkV l b (p + 2 * (i : Int) + 1) 9 - 4) else caF l b p i k
theorem caF_next (l : Nat) (b : Nat → Int) (p : Int) (i : Nat) {q : Int} (h : pkV l b (p + 2 * (i : Int)) 8 = q) (k : Nat) : caF l b p (i + 1) k = if (k : Int) = q then W (pkV l b (p + 2 * (i : Int) + 1) 9 - 4) else caF l b p i k := by
  subst h; rfl
theorem sumCy (l : Nat) (c : Option Nat) (p : Int) (m : Nat) (b : Nat → Int) (tr tb : TypeId) (N : Nat) (hb : okB m (rowB b) = true) (hl : l ≤ m) (h0 : 0 ≤ p) (h1 : p + 2 * (N : Int) ≤ 2 ^ 30) (hm : 0 < m) :
    SumOk Try.prog 2 (.block 1 (.loop (loopAt 1 fCy))) (atS 57 (lvCy .normal) 2 (stCy N 0) (hpCy l c p m b tr tb fun _ => 0) (fun K => K .normal (mkT 0 57 [(0, .ptr 0 0 0 0), (2, .ptr 2 0 0 0), (3, .ptr 3 0 0 0)]) (hpCy l c (p + 2 * (N : Int)) m b tr tb (caF l b p N)))) := by
  have e0 : hpCy l c p m b tr tb (fun _ => 0) = hpCy l c (p + 2 * ((0 : Nat) : Int)) m b tr tb (caF l b p 0) := by
    rw [show p + 2 * ((0 : Nat) : Int) = p by omega]
    rfl
  rw [e0]
  refine for_atG (n := 100) (m := 2) (lv := lvCy) (fun i => gmPJ pkV 8 (pkV l b (p + 2 * (i : Int)) 8)) (fun i => ext_ok g0_ok (ok_pickJ _ _)) (fun i => stCy N i) (fun i => hpCy l c (p + 2 * (i : Int)) m b tr tb (caF l b p i)) (fun _ => True) N (fun _ => noLam) (lv3_ris rfl rfl rfl) (Nat.le_refl _) trivial fun K Q hk i _ hi => ⟨noLam_ok _ _ _, ?_⟩
  show GoodQ (exCy pkV l c (p + 2 * (i : Int)) m b tr tb (caF l b p i) N i (pkV l b (p + 2 * (i : Int)) 8)) _
  have q0 := pkV_nn l b (p + 2 * (i : Int)) 8
  have q1 := pkV_lt l b (p + 2 * (i : Int)) (n := 8) (by omega)
  have key := fun (q : Int) (h : pkV l b (p + 2 * (i : Int)) 8 = q) => caF_next l b p i h
  have e2 : p + 2 * (i : Int) + 1 + 1 = p + 2 * ((i + 1 : Nat) : Int) := by omega
  generalize hq : pkV l b (p + 2 * (i : Int)) 8 = q at q0 q1 ⊢
  have hc := key q hq
  rcases (by omega : q = 0 ∨ q = 1 ∨ q = 2 ∨ q = 3 ∨ q = 4 ∨ q = 5 ∨ q = 6 ∨ q = 7) with rfl | rfl | rfl | rfl | rfl | rfl | rfl | rfl
  all_goals first | rw [rndCy0] | rw [rndCy1] | rw [rndCy2] | rw [rndCy3] | rw [rndCy4] | rw [rndCy5] | rw [rndCy6] | rw [rndCy7]
  all_goals
    refine good_cond (fun c1 => ?_) fun c1 => ?_
    · have c1 := of_decide_eq_true c1
      refine good_needs ?_ (good_out ⟨i + 1, ⟨rfl, by omega, trivial⟩, ?_, ?_⟩)
      · simp only [ob_cons, ob_nil, and_true, decide_eq_true_eq, itB_row, hb, hq, true_and]
        omega
      · rw [wr_in (x := (i : Int) + 1) (by omega)]
        rfl
      · show Hsim _ (hpCy l c (p + 2 * ((i + 1 : Nat) : Int)) m b tr tb (caF l b p (i + 1)))
        rw [← e2]
        unfold hpCy cyC
        rw [hc 0, hc 1, hc 2, hc 3, hc 4, hc 5, hc 6, hc 7]
        exact Hsim.refl _
    · have c1 := of_decide_eq_false c1
      have : i = N := by omega
      subst this
      refine good_out ⟨_, Hsim.refl _, ?_⟩
      rw [if_pos rfl]
      exact hk

theorem gmCy_ok : GamOk Try.prog (gmCy pkV (fun n => inR n 0 23) (fun a n => turnedF a n.toNat)) := by
  unfold gmCy
  rw [fIsO_eq, FtuO_eq]
  exact ext_ok (ext_ok (ext_ok g0_ok ok_pick) ok_l1Is) ok_turnedS
/-- Whatever the bytes are, a point comes out, and the reader goes on. -/
theorem cyc_ex (l : Nat) (b : Nat → Int) (p : Int) : ∃ (a : Nat → Int) (p' : Int), (p ≤ p' ∧ p' ≤ p + 12) ∧ ∀ (c : Option Nat) (m : Nat) (tr tb : TypeId), okB m (rowB b) = true → l ≤ m → 0 ≤ p → p ≤ 2 ^ 29 → 0 < m → ∃ Λ, (∀ cc, fCy.body = some cc → LamOk Try.prog 2 Λ cc) ∧
    GoodQ (execF Try.prog (gmCy pkV (fun n => inR n 0 23) (fun a n => turnedF a n.toNat)) Λ 100 fCy [.ptr 0 0 0 0] (hpRd l c p m b tr tb) (packK 2)) (fun _ vs He => vs = [.agg (cyC a)] ∧ Hsim He (hpRd l c p' m b tr tb)) := by
  have n0 := pkV_nn l b (p + 1) 3
  have n1 := pkV_lt l b (p + 1) (n := 3) (by omega)
  obtain ⟨N, hN⟩ : ∃ N : Nat, (N : Int) = 1 + pkV l b (p + 1) 3 := ⟨(1 + pkV l b (p + 1) 3).toNat, by omega⟩
  have lam : ∀ (c : Option Nat) (m : Nat) (tr tb : TypeId), okB m (rowB b) = true → l ≤ m → 0 ≤ p → p ≤ 2 ^ 29 → 0 < m → (∀ cc, fCy.body = some cc → LamOk Try.prog 2 (lamCy l c m b tr tb N (p + 1 + 1) (p + 1 + 1 + 2 * (N : Int)) (caF l b (p + 1 + 1) N)) cc) :=
    fun c m tr tb hb hl h0 h1 hm => lam1 (by kernel_rfl) (sumCy l c (p + 1 + 1) m b tr tb N hb hl (by omega) (by omega) hm)
  have ob1 : ∀ (m : Nat), okB m (rowB b) = true → l ≤ m → 0 < m → ∀ x : Int, 0 ≤ x → x ≤ 2 ^ 30 → obls [okB m (rowB b), decide (l ≤ m), decide (0 ≤ x), decide (x ≤ 1073741824), decide (0 < m)] = true := fun m hb hl hm x hx hx2 => by
    simp only [ob_cons, ob_nil, and_true, decide_eq_true_eq, hb, true_and]
    omega
  by_cases c0 : pkV l b p 8 = 0
  · have r0 := pkV_nn l b (p + 1) 24
    have r1 := pkV_lt l b (p + 1) (n := 24) (by omega)
    have ri : inR (pkV l b (p + 1) 24) 0 23 = true := by
      unfold inR
      simp only [Bool.and_eq_true, decide_eq_true_eq]
      omega
    refine ⟨turnedF (v8 1 0 0 0 0 0 0 0) (pkV l b (p + 1) 24).toNat, p + 1 + 1, by omega, fun c m tr tb hb hl h0 h1 hm => ⟨_, lam c m tr tb hb hl h0 h1 hm, ?_⟩⟩
    rw [treeCy]
    refine good_needs (ob1 m hb hl hm _ h0 (by omega)) (good_true (beq_iff_eq.2 c0) (good_needs (ob1 m hb hl hm _ (by omega) (by omega)) (good_false ?_ (good_needs ?_ (good_out ⟨rfl, Hsim.refl _⟩)))))
    · rw [itB_row, ri]; rfl
    · rw [ob_cons]
      exact ⟨decide_eq_true (show pkV l b (p + 1) 24 ≤ 1099511627776 by omega), rfl⟩
  · by_cases c1 : pkV l b p 8 = 1
    · refine ⟨v8 (W (pkV l b (p + 1) 9 - 4)) 0 0 0 0 0 (W (pkV l b (p + 1 + 1) 9 - 4)) 0, p + 1 + 1 + 1, by omega, fun c m tr tb hb hl h0 h1 hm => ⟨_, lam c m tr tb hb hl h0 h1 hm, ?_⟩⟩
      rw [treeCy]
      refine good_needs (ob1 m hb hl hm _ h0 (by omega)) (good_false (beq_eq_false_iff_ne.2 c0) (good_true (beq_iff_eq.2 c1) (good_needs ?_ (good_out ⟨rfl, Hsim.refl _⟩))))
      simp only [ob_cons, ob_nil, and_true, decide_eq_true_eq, hb, true_and]
      omega
    · by_cases c2 : pkV l b p 8 = 2
      · refine ⟨fun _ => 0, p + 1, by omega, fun c m tr tb hb hl h0 h1 hm => ⟨_, lam c m tr tb hb hl h0 h1 hm, ?_⟩⟩
        rw [treeCy]
        exact good_needs (ob1 m hb hl hm _ h0 (by omega)) (good_false (beq_eq_false_iff_ne.2 c0) (good_false (beq_eq_false_iff_ne.2 c1) (good_true (beq_iff_eq.2 c2) (good_out ⟨rfl, Hsim.refl _⟩))))
      · have ob2 : ∀ (c : Option Nat) (m : Nat) (tr tb : TypeId), okB m (rowB b) = true → l ≤ m → 0 ≤ p → p ≤ 2 ^ 29 → 0 < m → obls [okB m (rowB b), decide (l ≤ m), decide (0 ≤ p + 1), decide (p + 1 ≤ 1073741824), decide (0 < m), chk ([AV.ptr 0 0 0 0, AV.ptr 2 0 0 0, AV.ptr 3 0 0 0, AV.v (i64 (W (1 + pkV l b (p + 1) 3))), AV.v (i64 0)] = stCy N 0 ∧ Hsim (hpCy l c (p + 1 + 1) m b tr tb fun _ => 0) (hpCy l c (p + 1 + 1) m b tr tb fun _ => 0)), okB m (rowB b), decide (l ≤ m), decide (0 ≤ p + 1 + 1 + 2 * (N : Int)), decide (p + 1 + 1 + 2 * (N : Int) ≤ 1073741824), decide (0 < m)] = true := fun c m tr tb hb hl h0 h1 hm => by
          simp only [ob_cons, ob_nil, and_true, decide_eq_true_eq, hb, true_and]
          refine ⟨by omega, by omega, by omega, by omega, chk_of ⟨?_, Hsim.refl _⟩, by omega, by omega, by omega, by omega⟩
          rw [w64_in (x := 1 + pkV l b (p + 1) 3) (by omega) (by omega), ← hN]
          rfl
        by_cases c3 : pkV l b (p + 1 + 1 + 2 * (N : Int)) 30 = 0
        · refine ⟨v8 1000001 (caF l b (p + 1 + 1) N 1) (caF l b (p + 1 + 1) N 2) (caF l b (p + 1 + 1) N 3) (caF l b (p + 1 + 1) N 4) (caF l b (p + 1 + 1) N 5) (caF l b (p + 1 + 1) N 6) (caF l b (p + 1 + 1) N 7), p + 1 + 1 + 2 * (N : Int) + 1, by omega, fun c m tr tb hb hl h0 h1 hm => ⟨_, lam c m tr tb hb hl h0 h1 hm, ?_⟩⟩
          rw [treeCy]
          exact good_needs (ob1 m hb hl hm _ h0 (by omega)) (good_false (beq_eq_false_iff_ne.2 c0) (good_false (beq_eq_false_iff_ne.2 c1) (good_false (beq_eq_false_iff_ne.2 c2) (good_needs (ob2 c m tr tb hb hl h0 h1 hm) (good_true (beq_iff_eq.2 c3) (good_out ⟨rfl, Hsim.refl _⟩))))))
        · by_cases c4 : pkV l b (p + 1 + 1 + 2 * (N : Int)) 30 = 1
          · refine ⟨v8 (caF l b (p + 1 + 1) N 0) (caF l b (p + 1 + 1) N 1) (caF l b (p + 1 + 1) N 2) (caF l b (p + 1 + 1) N 3) (caF l b (p + 1 + 1) N 4) (caF l b (p + 1 + 1) N 5) (caF l b (p + 1 + 1) N 6) 1000000, p + 1 + 1 + 2 * (N : Int) + 1, by omega, fun c m tr tb hb hl h0 h1 hm => ⟨_, lam c m tr tb hb hl h0 h1 hm, ?_⟩⟩
            rw [treeCy]
            exact good_needs (ob1 m hb hl hm _ h0 (by omega)) (good_false (beq_eq_false_iff_ne.2 c0) (good_false (beq_eq_false_iff_ne.2 c1) (good_false (beq_eq_false_iff_ne.2 c2) (good_needs (ob2 c m tr tb hb hl h0 h1 hm) (good_false (beq_eq_false_iff_ne.2 c3) (good_true (beq_iff_eq.2 c4) (good_out ⟨rfl, Hsim.refl _⟩)))))))
          · refine ⟨caF l b (p + 1 + 1) N, p + 1 + 1 + 2 * (N : Int) + 1, by omega, fun c m tr tb hb hl h0 h1 hm => ⟨_, lam c m tr tb hb hl h0 h1 hm, ?_⟩⟩
            rw [treeCy]
            exact good_needs (ob1 m hb hl hm _ h0 (by omega)) (good_false (beq_eq_false_iff_ne.2 c0) (good_false (beq_eq_false_iff_ne.2 c1) (good_false (beq_eq_false_iff_ne.2 c2) (good_needs (ob2 c m tr tb hb hl h0 h1 hm) (good_false (beq_eq_false_iff_ne.2 c3) (good_false (beq_eq_false_iff_ne.2 c4) (good_out ⟨rfl, Hsim.refl _⟩)))))))

noncomputable def cyF (l : Nat) (b : Nat → Int) (p : Int) : Nat → Int := (cyc_ex l b p).choose
noncomputable def cyP (l : Nat) (b : Nat → Int) (p : Int) : Int := (cyc_ex l b p).choose_spec.choose
theorem cyP_in (l : Nat) (b : Nat → Int) (p : Int) : p ≤ cyP l b p ∧ cyP l b p ≤ p + 12 := (cyc_ex l b p).choose_spec.choose_spec.1
def FcyO (cf : Nat → (Nat → Int) → Int → Nat → Int) (cp : Nat → (Nat → Int) → Int → Int) : List AV → List AB → Option HR
  | [.ptr 0 0 0 0], [.cells [.sl 1 1 0 0 l c, .v (.int .i64 p)] tr, .row false m 1 g tb] => some { val := .agg (cyC (cf l (itB g) p)), out := [.cells [.sl 1 1 0 0 l c, .v (.int .i64 (cp l (itB g) p))] tr, .row false m 1 g tb], obl := [okB m g, decide (l ≤ m), decide (0 ≤ p), decide (p ≤ 2 ^ 29), decide (0 < m)] }
  | _, _ => none
theorem okB_it {m : Nat} {g : Nat → List Value} (h : okB m g = true) : okB m (rowB (itB g)) = true := List.all_eq_true.2 fun j hj => by
  have := List.all_eq_true.1 h j hj
  rwa [(okB_get h (by simpa using hj)).1] at this
theorem ok_cyc : SpecOk Try.prog 90 (specK [] (FcyO cyF cyP)) := by
  refine specK_ok gmCy_ok Try.func90 rfl fun avs H hr hF ho => ?_
  unfold FcyO at hF
  split at hF
  · rename_i l c p tr m g tb
    cases hF
    simp only [ob_cons, decide_eq_true_eq] at ho
    obtain ⟨h1, h2, h3, h4, h5, _⟩ := ho
    obtain ⟨Λ, e1, e2⟩ := (cyc_ex l (itB g) p).choose_spec.choose_spec.2 c m tr tb (okB_it h1) h2 h3 h4 h5
    refine ⟨hpRd l c p m (itB g) tr tb, Λ, 100, rd_sim h1, e1, ⟨res_mono (fun e vs He hq => ?_) e2.out⟩⟩
    exact ⟨hq.1, hq.2.trans' (rd_sim' h1)⟩
  · cases hF

end Go.Proofs.Ytoligfhcogligaa

/- l91Turn and l91Design: their trees. Conditions: those of pick. -/
namespace Go.Proofs.Ytoligfhcogligaa
open Go.RowKit
set_option maxRecDepth 100000

def gmPk (pk : Nat → (Nat → Int) → Int → Int → Int) : Gam := ext g0 86 (specK [] (FpkO pk))
noncomputable abbrev fDs : Func := Try.f121
def gmDs (pk : Nat → (Nat → Int) → Int → Int → Int) (cf : Nat → (Nat → Int) → Int → Nat → Int) (cp : Nat → (Nat → Int) → Int → Int) : Gam := ext (gmPk pk) 90 (specK [] (FcyO cf cp))
abbrev lvDs : Ex → List Nat := lv3 [0, 3, 4, 5] [0, 3] [2]
abbrev stDs (n : Nat) (i : Nat) : List AV := [.ptr 0 0 0 0, .own 2 i, .v (i64 n), .v (i64 i)]
abbrev hpDs (l : Nat) (c : Option Nat) (p : Int) (m : Nat) (b : Nat → Int) (tr tb : TypeId) (k : Nat) (h : Nat → Nat → Int) : List AB := [.cells [.sl 1 1 0 0 l c, .v (i64 p)] tr, .row false m 1 (rowB b) tb, .row true k 9 (row9 h) 111]
theorem rndDs (pk : Nat → (Nat → Int) → Int → Int → Int) (cf : Nat → (Nat → Int) → Int → Nat → Int) (cp : Nat → (Nat → Int) → Int → Int) (l : Nat) (c : Option Nat) (p : Int) (m : Nat) (b : Nat → Int) (tr tb : TypeId) (h : Nat → Nat → Int) (n : Nat) (i : Nat) : execC Try.prog (gmDs pk cf cp) 100 noLam (loopAt 0 fDs) (mkT 0 40 ((lvDs .normal).zip (stDs n i))) (hpDs l c p m b tr tb i h) (leafV 40 lvDs 2)
    = bif decide ((↑i : Int) < (↑n : Int)) then needs [okB m (rowB b), decide (l ≤ m), decide ((0 : Int) ≤ p), decide (p ≤ (1073741824 : Int)), decide ((0 : Nat) < m), okB m (rowB b), decide (l ≤ m), decide ((0 : Int) ≤ p + (1 : Int)), decide (p + (1 : Int) ≤ (536870912 : Int)), decide ((0 : Nat) < m), decide ((0 : Nat) < m), Nat.ble i i, Nat.ble (i + (1 : Nat)) (549755813888 : Nat)] (Res.out Ex.normal [AV.ptr (0 : Nat) (0 : Nat) (0 : Nat) (0 : Nat), AV.own (2 : Nat) (i + (1 : Nat)), AV.v (Value.int IntKind.i64 (↑n : Int)), AV.v (Value.int IntKind.i64 (IntKind.wrap IntKind.i64 ((↑i : Int) + (1 : Int))))] [AB.cells [AV.sl (1 : Nat) (1 : Nat) (0 : Nat) (0 : Nat) l c, AV.v (Value.int IntKind.i64 (cp l (itB (rowB b)) (p + (1 : Int))))] tr, AB.row false m (1 : Nat) (rowB b) tb, AB.row true (i + (1 : Nat)) (9 : Nat) (fun q ↦ [Value.int IntKind.i64 (bif Nat.blt q i then h q (0 : Nat) else IntKind.wrap IntKind.i64 (pk l (itB (rowB b)) p (13 : Int) - (6 : Int))), Value.int IntKind.i64 (bif Nat.blt q i then h q (1 : Nat) else cf l (itB (rowB b)) (p + (1 : Int)) (0 : Nat)), Value.int IntKind.i64 (bif Nat.blt q i then h q (2 : Nat) else cf l (itB (rowB b)) (p + (1 : Int)) (1 : Nat)), Value.int IntKind.i64 (bif Nat.blt q i then h q (3 : Nat) else cf l (itB (rowB b)) (p + (1 : Int)) (2 : Nat)), Value.int IntKind.i64 (bif Nat.blt q i then h q (4 : Nat) else cf l (itB (rowB b)) (p + (1 : Int)) (3 : Nat)), Value.int IntKind.i64 (bif Nat.blt q i then h q (5 : Nat) else cf l (itB (rowB b)) (p + (1 : Int)) (4 : Nat)), Value.int IntKind.i64 (bif Nat.blt q i then h q (6 : Nat) else cf l (itB (rowB b)) (p + (1 : Int)) (5 : Nat)), Value.int IntKind.i64 (bif Nat.blt q i then h q (7 : Nat) else cf l (itB (rowB b)) (p + (1 : Int)) (6 : Nat)), Value.int IntKind.i64 (bif Nat.blt q i then h q (8 : Nat) else cf l (itB (rowB b)) (p + (1 : Int)) (7 : Nat))]) (111 : Nat)]) else Res.out (Ex.exit (0 : Nat)) [AV.ptr (0 : Nat) (0 : Nat) (0 : Nat) (0 : Nat), AV.own (2 : Nat) i] [AB.cells [AV.sl (1 : Nat) (1 : Nat) (0 : Nat) (0 : Nat) l c, AV.v (Value.int IntKind.i64 p)] tr, AB.row false m (1 : Nat) (rowB b) tb, AB.row true i (9 : Nat) (row9 h) (111 : TypeId)] := by kernel_rfl

noncomputable abbrev lamDs (l : Nat) (c : Option Nat) (m : Nat) (b : Nat → Int) (tr tb : TypeId) (n : Nat) (p1 p2 : Int) (h : Nat → Nat → Int) : Nat → Option Sum := oneL 0 (atS 40 (lvDs .normal) 2 (stDs n 0) (hpDs l c p1 m b tr tb 0 (wfun [])) (fun K => K .normal (mkT 0 40 [(0, .ptr 0 0 0 0), (3, .own 2 n)]) (hpDs l c p2 m b tr tb n h)))
theorem treeDs (pk : Nat → (Nat → Int) → Int → Int → Int) (cf : Nat → (Nat → Int) → Int → Nat → Int) (cp : Nat → (Nat → Int) → Int → Int) (l : Nat) (c : Option Nat) (p : Int) (m : Nat) (b : Nat → Int) (tr tb : TypeId) (n : Nat) (p1 p2 : Int) (h : Nat → Nat → Int) : execF Try.prog (gmDs pk cf cp) (lamDs l c m b tr tb n p1 p2 h) 100 fDs [.ptr 0 0 0 0] (hpRd l c p m b tr tb) (packK 2)
    = needs [okB m (rowB b), decide (l ≤ m), decide ((0 : Int) ≤ p), decide (p ≤ (1073741824 : Int)), decide ((0 : Nat) < m), chk ([AV.ptr (0 : Nat) (0 : Nat) (0 : Nat) (0 : Nat), AV.own (2 : Nat) (0 : Nat), AV.v (Value.int IntKind.i64 (pk l (itB (rowB b)) p (4 : Int))), AV.v (Value.int IntKind.i64 (0 : Int))] = stDs n (0 : Nat) ∧ Hsim [AB.cells [AV.sl (1 : Nat) (1 : Nat) (0 : Nat) (0 : Nat) l c, AV.v (Value.int IntKind.i64 (p + (1 : Int)))] tr, AB.row false m (1 : Nat) (rowB b) tb, AB.row true (0 : Nat) (9 : Nat) (fun _ ↦ []) (111 : Nat)] (hpDs l c p1 m b tr tb (0 : Nat) (wfun []))), okB m (rowB b), decide (l ≤ m), decide ((0 : Int) ≤ p2), decide (p2 ≤ (1073741824 : Int)), decide ((0 : Nat) < m)] (bif pk l (itB (rowB b)) p2 (30 : Int) == (0 : Int) then needs [Nat.ble n n, Nat.ble (n + (1 : Nat)) (549755813888 : Nat)] (Res.out Ex.ret [AV.own (2 : Nat) (n + (1 : Nat))] [AB.cells [AV.sl (1 : Nat) (1 : Nat) (0 : Nat) (0 : Nat) l c, AV.v (Value.int IntKind.i64 (p2 + (1 : Int)))] tr, AB.row false m (1 : Nat) (rowB b) tb, AB.row true (n + (1 : Nat)) (9 : Nat) (fun q ↦ [Value.int IntKind.i64 (bif Nat.blt q n then h q (0 : Nat) else (1001 : Int)), Value.int IntKind.i64 (bif Nat.blt q n then h q (1 : Nat) else (0 : Int)), Value.int IntKind.i64 (bif Nat.blt q n then h q (2 : Nat) else (0 : Int)), Value.int IntKind.i64 (bif Nat.blt q n then h q (3 : Nat) else (0 : Int)), Value.int IntKind.i64 (bif Nat.blt q n then h q (4 : Nat) else (0 : Int)), Value.int IntKind.i64 (bif Nat.blt q n then h q (5 : Nat) else (0 : Int)), Value.int IntKind.i64 (bif Nat.blt q n then h q (6 : Nat) else (0 : Int)), Value.int IntKind.i64 (bif Nat.blt q n then h q (7 : Nat) else (0 : Int)), Value.int IntKind.i64 (bif Nat.blt q n then h q (8 : Nat) else (0 : Int))]) (111 : Nat)]) else bif pk l (itB (rowB b)) p2 (30 : Int) == (1 : Int) then needs [Nat.ble n n, Nat.ble (n + n) (549755813888 : Nat), Nat.ble n n, Nat.ble (n + n) (n + n), Nat.ble (n + n + (n + n)) (549755813888 : Nat), Nat.ble (n + n) (n + n)] (Res.out Ex.ret [AV.own (2 : Nat) (n + n + (n + n))] [AB.cells [AV.sl (1 : Nat) (1 : Nat) (0 : Nat) (0 : Nat) l c, AV.v (Value.int IntKind.i64 (p2 + (1 : Int)))] tr, AB.row false m (1 : Nat) (rowB b) tb, AB.row true (n + n + (n + n)) (9 : Nat) (fun q ↦ [Value.int IntKind.i64 (bif Nat.blt q (n + n) then bif Nat.blt q n then h q (0 : Nat) else h (q - n) (0 : Nat) else bif Nat.blt (q - (n + n)) n then h (q - (n + n)) (0 : Nat) else h (q - (n + n) - n) (0 : Nat)), Value.int IntKind.i64 (bif Nat.blt q (n + n) then bif Nat.blt q n then h q (1 : Nat) else h (q - n) (1 : Nat) else bif Nat.blt (q - (n + n)) n then h (q - (n + n)) (1 : Nat) else h (q - (n + n) - n) (1 : Nat)), Value.int IntKind.i64 (bif Nat.blt q (n + n) then bif Nat.blt q n then h q (2 : Nat) else h (q - n) (2 : Nat) else bif Nat.blt (q - (n + n)) n then h (q - (n + n)) (2 : Nat) else h (q - (n + n) - n) (2 : Nat)), Value.int IntKind.i64 (bif Nat.blt q (n + n) then bif Nat.blt q n then h q (3 : Nat) else h (q - n) (3 : Nat) else bif Nat.blt (q - (n + n)) n then h (q - (n + n)) (3 : Nat) else h (q - (n + n) - n) (3 : Nat)), Value.int IntKind.i64 (bif Nat.blt q (n + n) then bif Nat.blt q n then h q (4 : Nat) else h (q - n) (4 : Nat) else bif Nat.blt (q - (n + n)) n then h (q - (n + n)) (4 : Nat) else h (q - (n + n) - n) (4 : Nat)), Value.int IntKind.i64 (bif Nat.blt q (n + n) then bif Nat.blt q n then h q (5 : Nat) else h (q - n) (5 : Nat) else bif Nat.blt (q - (n + n)) n then h (q - (n + n)) (5 : Nat) else h (q - (n + n) - n) (5 : Nat)), Value.int IntKind.i64 (bif Nat.blt q (n + n) then bif Nat.blt q n then h q (6 : Nat) else h (q - n) (6 : Nat) else bif Nat.blt (q - (n + n)) n then h (q - (n + n)) (6 : Nat) else h (q - (n + n) - n) (6 : Nat)), Value.int IntKind.i64 (bif Nat.blt q (n + n) then bif Nat.blt q n then h q (7 : Nat) else h (q - n) (7 : Nat) else bif Nat.blt (q - (n + n)) n then h (q - (n + n)) (7 : Nat) else h (q - (n + n) - n) (7 : Nat)), Value.int IntKind.i64 (bif Nat.blt q (n + n) then bif Nat.blt q n then h q (8 : Nat) else h (q - n) (8 : Nat) else bif Nat.blt (q - (n + n)) n then h (q - (n + n)) (8 : Nat) else h (q - (n + n) - n) (8 : Nat))]) (111 : Nat)]) else Res.out Ex.ret [AV.own (2 : Nat) n] [AB.cells [AV.sl (1 : Nat) (1 : Nat) (0 : Nat) (0 : Nat) l c, AV.v (Value.int IntKind.i64 (p2 + (1 : Int)))] tr, AB.row false m (1 : Nat) (rowB b) tb, AB.row true n (9 : Nat) (row9 h) (111 : TypeId)]) := by kernel_rfl

end Go.Proofs.Ytoligfhcogligaa

/- l91Turn and l91Design: a number and a list of wheels, whatever the bytes are. Conditions: those of pick. -/
namespace Go.Proofs.Ytoligfhcogligaa
open Go.RowKit
set_option maxRecDepth 100000

theorem obP {l m : Nat} {b : Nat → Int} {M : Int} {x : Int} (hb : okB m (rowB b) = true) (hl : l ≤ m) (hm : 0 < m) (h0 : 0 ≤ x) (h1 : x ≤ M) : obls [okB m (rowB b), decide (l ≤ m), decide (0 ≤ x), decide (x ≤ M), decide (0 < m)] = true := by
  simp only [ob_cons, ob_nil, and_true, decide_eq_true_eq, hb, true_and]
  exact ⟨hl, h0, h1, hm⟩
def FtnO (tf tp : Nat → (Nat → Int) → Int → Int) : List AV → List AB → Option HR
  | [.ptr 0 0 0 0], [.cells [.sl 1 1 0 0 l c, .v (.int .i64 p)] tr, .row false m 1 g tb] => some { val := .v (.int .i64 (tf l (itB g) p)), out := [.cells [.sl 1 1 0 0 l c, .v (.int .i64 (tp l (itB g) p))] tr, .row false m 1 g tb], obl := [okB m g, decide (l ≤ m), decide (0 ≤ p), decide (p ≤ 2 ^ 29), decide (0 < m)] }
  | _, _ => none
def tnF (_ : Nat) (_ : Nat → Int) (_ : Int) : Int := 0
def tnP (_ : Nat) (_ : Nat → Int) (p : Int) : Int := p
theorem tnP_in (l : Nat) (b : Nat → Int) (p : Int) : p ≤ tnP l b p ∧ tnP l b p ≤ p + 2 := by unfold tnP; omega
/-- Where the reader is after some wheels, and these. -/
noncomputable def dsP (l : Nat) (b : Nat → Int) (p : Int) : Nat → Int
  | 0 => p
  | i + 1 => cyP l b (dsP l b p i + 1)
noncomputable def dsL (l : Nat) (b : Nat → Int) (p : Int) : Nat → List Wh
  | 0 => []
  | i + 1 => dsL l b p i ++ [⟨W (pkV l b (dsP l b p i) 13 - 6), cyOf (cyF l b (dsP l b p i + 1))⟩]
theorem dsP_in (l : Nat) (b : Nat → Int) (p : Int) : ∀ i : Nat, p ≤ dsP l b p i ∧ dsP l b p i ≤ p + 13 * (i : Int)
  | 0 => by show p ≤ p ∧ p ≤ p + 13 * ((0 : Nat) : Int); omega
  | i + 1 => by
    have ih := dsP_in l b p i
    have := cyP_in l b (dsP l b p i + 1)
    show p ≤ cyP l b (dsP l b p i + 1) ∧ cyP l b (dsP l b p i + 1) ≤ p + 13 * ((i + 1 : Nat) : Int)
    omega
theorem dsL_len (l : Nat) (b : Nat → Int) (p : Int) : ∀ i : Nat, (dsL l b p i).length = i
  | 0 => rfl
  | i + 1 => by
    show (dsL l b p i ++ [_]).length = i + 1
    rw [List.length_append, dsL_len l b p i]
    rfl
theorem gmDs_ok : GamOk Try.prog (gmDs pkV cyF cyP) := ext_ok (ext_ok g0_ok ok_pick) ok_cyc
theorem sumDs (l : Nat) (c : Option Nat) (p : Int) (m : Nat) (b : Nat → Int) (tr tb : TypeId) (N : Nat) (hN : N ≤ 3) (hb : okB m (rowB b) = true) (hl : l ≤ m) (h0 : 0 ≤ p) (h1 : p ≤ 2 ^ 28) (hm : 0 < m) :
    SumOk Try.prog 2 (.block 0 (.loop (loopAt 0 fDs))) (atS 40 (lvDs .normal) 2 (stDs N 0) (hpDs l c p m b tr tb 0 (wfun [])) (fun K => K .normal (mkT 0 40 [(0, .ptr 0 0 0 0), (3, .own 2 N)]) (hpDs l c (dsP l b p N) m b tr tb N (wfun (dsL l b p N))))) := by
  refine for_at gmDs_ok (n := 100) (m := 2) (lv := lvDs) (fun i => stDs N i) (fun i => hpDs l c (dsP l b p i) m b tr tb i (wfun (dsL l b p i))) (fun _ => True) N (fun _ => noLam) (lv3_ris rfl rfl rfl) (Nat.le_refl _) trivial fun K Q hk i _ hi => ⟨noLam_ok _ _ _, ?_⟩
  rw [rndDs]
  have hp := dsP_in l b p i
  refine good_cond (fun c1 => ?_) fun c1 => ?_
  · have c1 := of_decide_eq_true c1
    refine good_needs ?_ (good_out ⟨i + 1, ⟨rfl, by omega, trivial⟩, ?_, ?_⟩)
    · simp only [ob_cons, ob_nil, and_true, decide_eq_true_eq, Nat.ble_eq, hb, true_and]
      omega
    · rw [wr_in (x := (i : Int) + 1) (by omega)]
      rfl
    · refine .cons (ABeq.refl _) (.cons (ABeq.refl _) (.cons (ABeq.row fun q hq => ?_) .nil))
      exact ch_row (dsL l b p i) ⟨W (pkV l b (dsP l b p i) 13 - 6), cyOf (cyF l b (dsP l b p i + 1))⟩ i (dsL_len l b p i) q hq
  · have c1 := of_decide_eq_false c1
    have : i = N := by omega
    subst this
    refine good_out ⟨_, Hsim.refl _, ?_⟩
    rw [if_pos rfl]
    exact hk

theorem wfun_app (A B : List Wh) (q k : Nat) : wfun (A ++ B) q k = bif Nat.blt q A.length then wfun A q k else wfun B (q - A.length) k := by
  unfold wfun
  by_cases h : q < A.length
  · rw [List.getElem?_append_left h, blt_yes h]
    rfl
  · have hb : Nat.blt q A.length = false := by
      cases hb : Nat.blt q A.length with
      | false => rfl
      | true => rw [Nat.blt_eq] at hb; omega
    rw [List.getElem?_append_right (by omega), hb]
    rfl
theorem ds_ex (l : Nat) (b : Nat → Int) (p : Int) : ∃ (L : List Wh) (p' : Int), (p ≤ p' ∧ p' ≤ p + 64) ∧ L.length ≤ 12 ∧ ∀ (c : Option Nat) (m : Nat) (tr tb : TypeId), okB m (rowB b) = true → l ≤ m → 0 ≤ p → p ≤ 2 ^ 27 → 0 < m → ∃ Λ, (∀ cc, fDs.body = some cc → LamOk Try.prog 2 Λ cc) ∧
    GoodQ (execF Try.prog (gmDs pkV cyF cyP) Λ 100 fDs [.ptr 0 0 0 0] (hpRd l c p m b tr tb) (packK 2)) (fun _ vs He => vs = [.own 2 L.length] ∧ Hsim He (hpDs l c p' m b tr tb L.length (wfun L))) := by
  have n0 := pkV_nn l b p 4
  have n1 := pkV_lt l b p (n := 4) (by omega)
  obtain ⟨N, hN⟩ : ∃ N : Nat, (N : Int) = pkV l b p 4 := ⟨(pkV l b p 4).toNat, by omega⟩
  have hN3 : N ≤ 3 := by omega
  have hD := dsL_len l b (p + 1) N
  have hP := dsP_in l b (p + 1) N
  have lam : ∀ (c : Option Nat) (m : Nat) (tr tb : TypeId), okB m (rowB b) = true → l ≤ m → 0 ≤ p → p ≤ 2 ^ 27 → 0 < m → (∀ cc, fDs.body = some cc → LamOk Try.prog 2 (lamDs l c m b tr tb N (p + 1) (dsP l b (p + 1) N) (wfun (dsL l b (p + 1) N))) cc) :=
    fun c m tr tb hb hl h0 h1 hm => lam1 (by kernel_rfl) (sumDs l c (p + 1) m b tr tb N hN3 hb hl (by omega) (by omega) hm)
  have ob1 : ∀ (c : Option Nat) (m : Nat) (tr tb : TypeId), okB m (rowB b) = true → l ≤ m → 0 ≤ p → p ≤ 2 ^ 27 → 0 < m → obls [okB m (rowB b), decide (l ≤ m), decide (0 ≤ p), decide (p ≤ 1073741824), decide (0 < m), chk ([AV.ptr 0 0 0 0, AV.own 2 0, AV.v (i64 (pkV l b p 4)), AV.v (i64 0)] = stDs N 0 ∧ Hsim [AB.cells [AV.sl 1 1 0 0 l c, AV.v (i64 (p + 1))] tr, AB.row false m 1 (rowB b) tb, AB.row true 0 9 (fun _ => []) 111] (hpDs l c (p + 1) m b tr tb 0 (wfun []))), okB m (rowB b), decide (l ≤ m), decide (0 ≤ dsP l b (p + 1) N), decide (dsP l b (p + 1) N ≤ 1073741824), decide (0 < m)] = true := fun c m tr tb hb hl h0 h1 hm => by
    simp only [ob_cons, ob_nil, and_true, decide_eq_true_eq, hb, true_and]
    refine ⟨by omega, by omega, by omega, by omega, chk_of ⟨?_, .cons (ABeq.refl _) (.cons (ABeq.refl _) (.cons (ABeq.row fun j hj => absurd hj (Nat.not_lt_zero _)) .nil))⟩, by omega, by omega, by omega, by omega⟩
    rw [← hN]
    rfl
  by_cases c0 : pkV l b (dsP l b (p + 1) N) 30 = 0
  · refine ⟨dsL l b (p + 1) N ++ [⟨1001, cyZ⟩], dsP l b (p + 1) N + 1, by omega, by rw [List.length_append, hD]; show N + 1 ≤ 12; omega, fun c m tr tb hb hl h0 h1 hm => ⟨_, lam c m tr tb hb hl h0 h1 hm, ?_⟩⟩
    rw [treeDs]
    refine good_needs (ob1 c m tr tb hb hl h0 h1 hm) (good_true (beq_iff_eq.2 c0) (good_needs ?_ (good_out ⟨?_, ?_⟩)))
    · simp only [ob_cons, ob_nil, and_true, Nat.ble_eq]
      omega
    · rw [List.length_append, hD]; rfl
    · rw [show (dsL l b (p + 1) N ++ [(⟨1001, cyZ⟩ : Wh)]).length = N + 1 by rw [List.length_append, hD]; rfl]
      exact .cons (ABeq.refl _) (.cons (ABeq.refl _) (.cons (ABeq.row fun q hq => ch_row (dsL l b (p + 1) N) ⟨1001, cyZ⟩ N hD q hq) .nil))
  · by_cases c1 : pkV l b (dsP l b (p + 1) N) 30 = 1
    · generalize hDD : dsL l b (p + 1) N = D at hD lam ob1
      have hD2 : (D ++ D).length = N + N := by rw [List.length_append, hD]
      have hD4 : ((D ++ D) ++ (D ++ D)).length = N + N + (N + N) := by rw [List.length_append, hD2]
      refine ⟨(D ++ D) ++ (D ++ D), dsP l b (p + 1) N + 1, by omega, by rw [hD4]; omega, fun c m tr tb hb hl h0 h1 hm => ⟨_, lam c m tr tb hb hl h0 h1 hm, ?_⟩⟩
      rw [treeDs]
      refine good_needs (ob1 c m tr tb hb hl h0 h1 hm) (good_false (beq_eq_false_iff_ne.2 c0) (good_true (beq_iff_eq.2 c1) (good_needs ?_ (good_out ⟨?_, ?_⟩))))
      · simp only [ob_cons, ob_nil, and_true, Nat.ble_eq]
        omega
      · rw [hD4]
      · rw [hD4]
        refine .cons (ABeq.refl _) (.cons (ABeq.refl _) (.cons (ABeq.row fun q hq => ?_) .nil))
        have hk : ∀ k, wfun ((D ++ D) ++ (D ++ D)) q k = bif Nat.blt q (N + N) then bif Nat.blt q N then wfun D q k else wfun D (q - N) k else bif Nat.blt (q - (N + N)) N then wfun D (q - (N + N)) k else wfun D (q - (N + N) - N) k := fun k => by
          rw [wfun_app, hD2, wfun_app, wfun_app, hD]
        unfold row9
        rw [hk 0, hk 1, hk 2, hk 3, hk 4, hk 5, hk 6, hk 7, hk 8]
    · refine ⟨dsL l b (p + 1) N, dsP l b (p + 1) N + 1, by omega, by rw [hD]; omega, fun c m tr tb hb hl h0 h1 hm => ⟨_, lam c m tr tb hb hl h0 h1 hm, ?_⟩⟩
      rw [treeDs]
      refine good_needs (ob1 c m tr tb hb hl h0 h1 hm) (good_false (beq_eq_false_iff_ne.2 c0) (good_false (beq_eq_false_iff_ne.2 c1) (good_out ⟨?_, ?_⟩)))
      · rw [hD]
      · rw [hD]
        exact Hsim.refl _
noncomputable def dgL (l : Nat) (b : Nat → Int) (p : Int) : List Wh := (ds_ex l b p).choose
noncomputable def dgP (l : Nat) (b : Nat → Int) (p : Int) : Int := (ds_ex l b p).choose_spec.choose
theorem dgP_in (l : Nat) (b : Nat → Int) (p : Int) : p ≤ dgP l b p ∧ dgP l b p ≤ p + 64 := (ds_ex l b p).choose_spec.choose_spec.1
theorem dgL_len (l : Nat) (b : Nat → Int) (p : Int) : (dgL l b p).length ≤ 12 := (ds_ex l b p).choose_spec.choose_spec.2.1
def FdgO (dl : Nat → (Nat → Int) → Int → List Wh) (dp : Nat → (Nat → Int) → Int → Int) : List AV → List AB → Option HR
  | [.ptr 0 0 0 0], [.cells [.sl 1 1 0 0 l c, .v (.int .i64 p)] tr, .row false m 1 g tb] => some { val := .own 2 (dl l (itB g) p).length, out := [.cells [.sl 1 1 0 0 l c, .v (.int .i64 (dp l (itB g) p))] tr, .row false m 1 g tb], new := [.row true (dl l (itB g) p).length 9 (row9 (wfun (dl l (itB g) p))) 111], obl := [okB m g, decide (l ≤ m), decide (0 ≤ p), decide (p ≤ 2 ^ 27), decide (0 < m)] }
  | _, _ => none
theorem ok_design : SpecOk Try.prog 121 (specK [] (FdgO dgL dgP)) := by
  refine specK_ok gmDs_ok Try.func121 rfl fun avs H hr hF ho => ?_
  unfold FdgO at hF
  split at hF
  · rename_i l c p tr m g tb
    cases hF
    simp only [ob_cons, decide_eq_true_eq] at ho
    obtain ⟨h1, h2, h3, h4, h5, _⟩ := ho
    obtain ⟨Λ, e1, e2⟩ := (ds_ex l (itB g) p).choose_spec.choose_spec.2.2 c m tr tb (okB_it h1) h2 h3 h4 h5
    refine ⟨hpRd l c p m (itB g) tr tb, Λ, 100, rd_sim h1, e1, ⟨res_mono (fun e vs He hq => ?_) e2.out⟩⟩
    refine ⟨hq.1, hq.2.trans' (.cons (ABeq.refl _) (.cons (ABeq.row fun j hj => (okB_get h1 hj).1.symm) (Hsim.refl _)))⟩
  · cases hF

end Go.Proofs.Ytoligfhcogligaa

/- What is drawn from bytes: the word of a drawing function. Conditions: bytes, at most 2^21. -/
namespace Go.Proofs.Ytoligfhcogligaa
open Go.RowKit
set_option maxRecDepth 100000

def md_co : List Md := [.rd 1 5]
def FdrO (R : Nat → (Nat → Int) → FR) : List SA → Option FR
  | [.row m g] => some { val := (R m (itB g)).val, new := (R m (itB g)).new, obl := [okB m g, decide (m ≤ 2 ^ 21)] }
  | _ => none
theorem draw_ok {f : FuncId} {fn : Func} {R : Nat → (Nat → Int) → FR} (hf : Try.prog.funcs[f]? = some fn) (hb : fn.body.isSome = true)
    (h1 : ∀ (m : Nat) (b : Nat → Int), 0 < m → m ≤ 2 ^ 21 → okB m (rowB b) = true → ∃ Γ, GamOk Try.prog Γ ∧ GoodQ (execF Try.prog Γ noLam 100 fn [.sl 0 1 0 0 m none] [.row false m 1 (rowB b) 5] (packK 1)) (GivR [.row false m 1 (rowB b) 5] (R m b)))
    (h0 : ∀ (q : Option Addr) (c : Nat) (g : Nat → List Value) (b : Nat → Int), ∃ Γ, GamOk Try.prog Γ ∧ GoodQ (execF Try.prog Γ noLam 100 fn [.v (.slice q 0 c)] [.row false 0 1 g 5] (packK 1)) (GivR [.row false 0 1 g 5] (R 0 b))) : SpecOk Try.prog f (specR md_co (FdrO R)) := by
  refine specR_calls enters hf hb fun sas fr hF ho => ?_
  unfold FdrO at hF
  split at hF
  · rename_i m g
    cases hF
    simp only [ob_cons, decide_eq_true_eq] at ho
    obtain ⟨e1, e2, _⟩ := ho
    by_cases hm : m = 0
    · subst hm
      refine ⟨[.row false 0 1 g 5], Hsim.refl _, fun M vals w ν hM hv hH hdom => ?_⟩
      have hv0 : VRs ν [.sl 0 1 0 0 0 none] vals := hv
      cases vals with
      | nil => simp only [VRs] at hv0
      | cons v vs =>
        cases vs with
        | cons => simp only [VRs] at hv0; exact hv0.2.elim
        | nil =>
          simp only [VRs, VR] at hv0
          obtain ⟨⟨q, c, rfl, _⟩, _⟩ := hv0
          obtain ⟨Γ, g1, g2⟩ := h0 q c g (itB g)
          have hv2 : VRs ν [.v (.slice q 0 c)] [.slice q 0 c] := by simp only [VRs, VR]; exact ⟨trivial, trivial⟩
          exact calls_pack g1 mixed enters hf (noLam' _) hM g2.out hv2 hH hdom
    · obtain ⟨Γ, g1, g2⟩ := h1 m (itB g) (by omega) e2 (okB_it e1)
      refine ⟨[.row false m 1 (rowB (itB g)) 5], .cons (ABeq.row fun j hj => (okB_get e1 hj).1) .nil, fun M vals w ν hM hv hH hdom => ?_⟩
      have g3 : GoodQ (execF Try.prog Γ noLam 100 fn [.sl 0 1 0 0 m none] [.row false m 1 (rowB (itB g)) 5] (packK 1)) (GivR (abP md_co [.row m g] []) { val := (R m (itB g)).val, new := (R m (itB g)).new, obl := [okB m g, decide (m ≤ 2 ^ 21)] }) :=
        ⟨res_mono (fun e vs He ⟨av, q1, q2, q3⟩ => ⟨av, q1, q2, q3.trans' (.cons (ABeq.row fun j hj => (okB_get e1 hj).1.symm) (Hsim.refl _))⟩) g2.out⟩
      exact calls_pack g1 mixed enters hf (noLam' _) hM g3.out hv hH hdom
  · cases hF

def gmDr (_ _ : Nat → (Nat → Int) → Int → Int) (dl : Nat → (Nat → Int) → Int → List Wh) (dp : Nat → (Nat → Int) → Int → Int) (pk : Nat → (Nat → Int) → Int → Int → Int) : Gam := ext (gmPk pk) 121 (specK [] (FdgO dl dp))
theorem gmDr_ok : GamOk Try.prog (gmDr tnF tnP dgL dgP pkV) := ext_ok (ext_ok g0_ok ok_pick) ok_design
/-- How many bytes are read. -/
def lnB (m : Nat) : Nat := if 2000 < m then 2000 else m
theorem lnB_le (m : Nat) : lnB m ≤ m := by unfold lnB; split <;> omega
/-- The design of no bytes. -/
def noneL : List Wh := [⟨1001, cyZ⟩]

end Go.Proofs.Ytoligfhcogligaa

/- What is drawn: lists of wheels, and numbers. No conditions. -/
namespace Go.Proofs.Ytoligfhcogligaa
open Go.RowKit
set_option maxRecDepth 100000

/-- A design, drawn from bytes. -/
noncomputable def bDesign (m : Nat) (b : Nat → Int) : List Wh := if m = 0 then noneL else dgL (lnB m) b 0
/-- A design and a turn. -/
noncomputable def bLater (m : Nat) (b : Nat → Int) : List Wh × Int := if m = 0 then (noneL, -1) else (dgL (lnB m) b 0, tnF (lnB m) b (dgP (lnB m) b 0))
/-- Two designs. -/
noncomputable def bTwo (m : Nat) (b : Nat → Int) : List Wh × List Wh := if m = 0 then (noneL, noneL) else (dgL (lnB m) b 0, dgL (lnB m) b (dgP (lnB m) b 0))
theorem bDesign_len (m : Nat) (b : Nat → Int) : (bDesign m b).length ≤ 12 := by
  unfold bDesign
  split
  · show 1 ≤ 12; omega
  · exact dgL_len _ _ _
theorem bLater_len (m : Nat) (b : Nat → Int) : (bLater m b).1.length ≤ 12 := by
  unfold bLater
  split
  · show 1 ≤ 12; omega
  · exact dgL_len _ _ _
theorem bTwo_len (m : Nat) (b : Nat → Int) : (bTwo m b).1.length ≤ 12 ∧ (bTwo m b).2.length ≤ 12 := by
  unfold bTwo
  split
  · show 1 ≤ 12 ∧ 1 ≤ 12; omega
  · exact ⟨dgL_len _ _ _, dgL_len _ _ _⟩
def rowL (L : List Wh) : AB := .row true L.length 9 (row9 (wfun L)) 111
def frL (L : List Wh) : FR := { val := .own 0 L.length, new := [rowL L] }
def frLN (L : List Wh) (x : Int) : FR := { val := .tup [.own 0 L.length, .v (.int .i64 x)], new := [rowL L] }
def frLL (L M : List Wh) : FR := { val := .tup [.own 0 L.length, .own 1 M.length], new := [rowL L, rowL M] }
theorem none_row (j : Nat) (hj : j < 1) : [Value.int .i64 1001, .int .i64 0, .int .i64 0, .int .i64 0, .int .i64 0, .int .i64 0, .int .i64 0, .int .i64 0, .int .i64 0] = row9 (wfun noneL) j := by
  have : j = 0 := by omega
  subst this
  rfl
/-- Where the code is longer than 2000 bytes, it is cut. -/
theorem ln_cut {m : Nat} (h : (m : Int) > 2000) : lnB m = 2000 := by unfold lnB; rw [if_pos (by omega)]
theorem ln_all {m : Nat} (h : ¬ (m : Int) > 2000) : lnB m = m := by unfold lnB; rw [if_neg (by omega)]
/-- The tree of a drawing function: cut or not. -/
theorem good_ln {m : Nat} {Q : Ex → List AV → List AB → Prop} {ob1 ob2 : List Bool} {r1 r2 : Res}
    (h1 : lnB m = 2000 → (m : Int) > 2000 → obls ob1 = true ∧ GoodQ r1 Q) (h2 : lnB m = m → (m : Int) ≤ 2000 → obls ob2 = true ∧ GoodQ r2 Q) : GoodQ (bif decide ((m : Int) > 2000) then needs ob1 r1 else needs ob2 r2) Q := by
  refine good_cond (fun c => ?_) fun c => ?_
  · have c := of_decide_eq_true c
    exact good_needs (h1 (ln_cut c) c).1 (h1 (ln_cut c) c).2
  · have c := of_decide_eq_false c
    exact good_needs (h2 (ln_all c) (by omega)).1 (h2 (ln_all c) (by omega)).2

end Go.Proofs.Ytoligfhcogligaa

/- pick, where there are no bytes; the lengths of rows. No conditions. -/
namespace Go.Proofs.Ytoligfhcogligaa
open Go.RowKit
set_option maxRecDepth 100000

theorem treePk0 (q : Option Addr) (c : Nat) (p n : Int) (tr : TypeId) : execF Try.prog g0 noLam 100 Try.f86 [.ptr 0 0 0 0, .v (i64 n)] [.cells [.v (.slice q 0 c), .v (i64 p)] tr] (packK 1)
    = bif decide (n < (1 : Int)) then Res.out Ex.ret [AV.v (Value.int IntKind.i64 (0 : Int))] [AB.cells [AV.v (Value.slice q (0 : Nat) c), AV.v (Value.int IntKind.i64 (IntKind.wrap IntKind.i64 (p + (1 : Int))))] tr] else Res.out Ex.ret [AV.v (Value.int IntKind.i64 (0 : Int))] [AB.cells [AV.v (Value.slice q (0 : Nat) c), AV.v (Value.int IntKind.i64 (IntKind.wrap IntKind.i64 (p + (1 : Int))))] tr] := by kernel_rfl

/-- pick, where there are no bytes. -/
def Fpk0 : List AV → List AB → Option HR
  | [.ptr 0 0 0 0, .v (.int .i64 _)], [.cells [.v (.slice q 0 c), .v (.int .i64 p)] tr] => some { val := .v (.int .i64 0), out := [.cells [.v (.slice q 0 c), .v (.int .i64 (p + 1))] tr], obl := [decide (0 ≤ p), decide (p ≤ 2 ^ 30)] }
  | _, _ => none
theorem ok_pick0 : SpecOk Try.prog 86 (specK [] Fpk0) := by
  refine specK_ok g0_ok Try.func86 rfl fun avs H hr hF ho => ?_
  unfold Fpk0 at hF
  split at hF
  · rename_i n q c p tr
    cases hF
    simp only [ob_cons, decide_eq_true_eq] at ho
    obtain ⟨h1, h2, _⟩ := ho
    refine ⟨[.cells [.v (.slice q 0 c), .v (i64 p)] tr], noLam, 100, Hsim.refl _, noLam' _, ?_⟩
    rw [show execF Try.prog g0 noLam 100 Try.f86 [.ptr 0 0 0 0, .v (.int .i64 n)] [.cells [.v (.slice q 0 c), .v (i64 p)] tr] (packK [AB.cells [AV.v (.slice q 0 c), .v (i64 p)] tr].length) = _ from treePk0 q c p n tr]
    rw [wr_in (x := p + 1) (by omega)]
    exact good_cond (fun _ => good_out ⟨rfl, Hsim.refl _⟩) fun _ => good_out ⟨rfl, Hsim.refl _⟩
  · cases hF
def gmPk0 : Gam := ext g0 86 (specK [] Fpk0)
theorem gmPk0_ok : GamOk Try.prog gmPk0 := ext_ok g0_ok ok_pick0
def rowN (q : Int) : Int := if q = 0 then 1 else if q = 1 then 2 else if q = 2 then 3 else if q = 3 then 4 else if q = 4 then 6 else if q = 5 then 8 else if q = 6 then 12 else if q = 7 then 24 else if q = 8 then 5 else 0

end Go.Proofs.Ytoligfhcogligaa

/- Rows of points. No conditions. -/
namespace Go.Proofs.Ytoligfhcogligaa
open Go.RowKit
set_option maxRecDepth 100000

abbrev row8 (f : Nat → Nat → Int) : Nat → List Value := fun j => [i64 (f j 0), i64 (f j 1), i64 (f j 2), i64 (f j 3), i64 (f j 4), i64 (f j 5), i64 (f j 6), i64 (f j 7)]
def is8 : List Value → Bool
  | [.int .i64 _, .int .i64 _, .int .i64 _, .int .i64 _, .int .i64 _, .int .i64 _, .int .i64 _, .int .i64 _] => true
  | _ => false
def it8 (g : Nat → List Value) : Nat → Nat → Int := fun j k => intOf ((g j).getD k undef)
def all8 (m : Nat) (g : Nat → List Value) : Bool := (List.range m).all fun j => is8 (g j)
theorem all8_get {m : Nat} {g : Nat → List Value} (h : all8 m g = true) (j : Nat) (hj : j < m) : g j = row8 (it8 g) j := by
  have := List.all_eq_true.1 h j (by simpa using hj)
  simp only [row8, it8, i64]
  unfold is8 at this
  split at this
  · rename_i e; rw [e]; rfl
  · cases this
theorem all8_row (m : Nat) (f : Nat → Nat → Int) : all8 m (row8 f) = true := List.all_eq_true.2 fun _ _ => rfl
theorem row8_it8 (f : Nat → Nat → Int) : row8 (it8 (row8 f)) = row8 f := rfl
theorem row80 (f : Nat → Nat → Int) : (fun q => row8 f (0 + q)) = row8 f := by
  funext q
  rw [Nat.zero_add]
def listC (f : Nat → Nat → Int) (m : Nat) : List Cy := (List.range m).map fun j => cyOf (f j)
def cfun (L : List Cy) : Nat → Nat → Int := fun j k => match L[j]? with
  | some c => c.f k
  | none => 0
theorem listC_length (f : Nat → Nat → Int) (m : Nat) : (listC f m).length = m := by simp [listC]
theorem listC_get (f : Nat → Nat → Int) {m j : Nat} (hj : j < m) : (listC f m)[j]? = some (cyOf (f j)) := by simp [listC, hj]
theorem listC_fun (L : List Cy) : listC (cfun L) L.length = L := by
  apply List.ext_getElem?
  intro j
  by_cases hj : j < L.length
  · rw [listC_get _ hj, List.getElem?_eq_getElem hj]
    have : cfun L j = L[j].f := by
      funext k
      simp only [cfun, List.getElem?_eq_getElem hj]
    rw [this, cyOf_f]
  · rw [List.getElem?_eq_none (by rw [listC_length]; omega), List.getElem?_eq_none (by omega)]
theorem listC_it8 (f : Nat → Nat → Int) (m : Nat) : listC (it8 (row8 f)) m = listC f m := rfl
theorem listC_me (L : List Cy) : listC (it8 (row8 (cfun L))) L.length = L := by rw [listC_it8, listC_fun]
theorem listC_succ (f : Nat → Nat → Int) (m : Nat) : listC f (m + 1) = listC f m ++ [cyOf (f m)] := by simp [listC, List.range_succ]
theorem row8_congr {f g : Nat → Nat → Int} {j : Nat} (h : ∀ k, k < 8 → f j k = g j k) : row8 f j = row8 g j := by
  simp only [row8, h 0 (by omega), h 1 (by omega), h 2 (by omega), h 3 (by omega), h 4 (by omega), h 5 (by omega), h 6 (by omega), h 7 (by omega)]
theorem cfun_get {L : List Cy} {j : Nat} (hj : j < L.length) : cfun L j = L[j].f := by
  funext k
  simp only [cfun, List.getElem?_eq_getElem hj]
theorem row8_list (f : Nat → Nat → Int) {m j : Nat} (hj : j < m) : row8 (cfun (listC f m)) j = row8 f j := by
  refine row8_congr fun k hk => ?_
  simp only [cfun, listC_get f hj]
  rcases (by omega : k = 0 ∨ k = 1 ∨ k = 2 ∨ k = 3 ∨ k = 4 ∨ k = 5 ∨ k = 6 ∨ k = 7) with rfl | rfl | rfl | rfl | rfl | rfl | rfl | rfl <;> rfl

end Go.Proofs.Ytoligfhcogligaa

/- l91Row: a row of points, whatever the bytes are. Conditions: those of pick. -/
namespace Go.Proofs.Ytoligfhcogligaa
open Go.RowKit
set_option maxRecDepth 100000

noncomputable abbrev fRw : Func := Try.f108
def gmRw (pk : Nat → (Nat → Int) → Int → Int → Int) (cf : Nat → (Nat → Int) → Int → Nat → Int) (cp : Nat → (Nat → Int) → Int → Int) : Gam := ext (gmPk pk) 90 (specK [] (FcyO cf cp))
abbrev lvRw : Ex → List Nat := lv3 [0, 1, 5, 6] [0, 5] [4]
abbrev stRw (n i : Nat) : List AV := [.ptr 0 0 0 0, .v (i64 n), .own 2 i, .v (i64 i)]
abbrev hpRw (l : Nat) (c : Option Nat) (p : Int) (m : Nat) (b : Nat → Int) (tr tb : TypeId) (k : Nat) (h : Nat → Nat → Int) : List AB := [.cells [.sl 1 1 0 0 l c, .v (i64 p)] tr, .row false m 1 (rowB b) tb, .row true k 8 (row8 h) 40]
theorem rndRw (pk : Nat → (Nat → Int) → Int → Int → Int) (cf : Nat → (Nat → Int) → Int → Nat → Int) (cp : Nat → (Nat → Int) → Int → Int) (l : Nat) (c : Option Nat) (p : Int) (m : Nat) (b : Nat → Int) (tr tb : TypeId) (h : Nat → Nat → Int) (n i : Nat) : execC Try.prog (gmRw pk cf cp) 100 noLam (loopAt 0 fRw) (mkT 0 26 ((lvRw .normal).zip (stRw n i))) (hpRw l c p m b tr tb i h) (leafV 26 lvRw 2)
    = bif decide ((↑i : Int) < (↑n : Int)) then needs [okB m (rowB b), decide (l ≤ m), decide ((0 : Int) ≤ p), decide (p ≤ (536870912 : Int)), decide ((0 : Nat) < m), decide ((0 : Nat) < m), Nat.ble i i, Nat.ble (i + (1 : Nat)) (549755813888 : Nat)] (Res.out Ex.normal [AV.ptr (0 : Nat) (0 : Nat) (0 : Nat) (0 : Nat), AV.v (Value.int IntKind.i64 (↑n : Int)), AV.own (2 : Nat) (i + (1 : Nat)), AV.v (Value.int IntKind.i64 (IntKind.wrap IntKind.i64 ((↑i : Int) + (1 : Int))))] [AB.cells [AV.sl (1 : Nat) (1 : Nat) (0 : Nat) (0 : Nat) l c, AV.v (Value.int IntKind.i64 (cp l (itB (rowB b)) p))] tr, AB.row false m (1 : Nat) (rowB b) tb, AB.row true (i + (1 : Nat)) (8 : Nat) (fun q ↦ [Value.int IntKind.i64 (bif Nat.blt q i then h q (0 : Nat) else cf l (itB (rowB b)) p (0 : Nat)), Value.int IntKind.i64 (bif Nat.blt q i then h q (1 : Nat) else cf l (itB (rowB b)) p (1 : Nat)), Value.int IntKind.i64 (bif Nat.blt q i then h q (2 : Nat) else cf l (itB (rowB b)) p (2 : Nat)), Value.int IntKind.i64 (bif Nat.blt q i then h q (3 : Nat) else cf l (itB (rowB b)) p (3 : Nat)), Value.int IntKind.i64 (bif Nat.blt q i then h q (4 : Nat) else cf l (itB (rowB b)) p (4 : Nat)), Value.int IntKind.i64 (bif Nat.blt q i then h q (5 : Nat) else cf l (itB (rowB b)) p (5 : Nat)), Value.int IntKind.i64 (bif Nat.blt q i then h q (6 : Nat) else cf l (itB (rowB b)) p (6 : Nat)), Value.int IntKind.i64 (bif Nat.blt q i then h q (7 : Nat) else cf l (itB (rowB b)) p (7 : Nat))]) (40 : Nat)]) else Res.out (Ex.exit (0 : Nat)) [AV.ptr (0 : Nat) (0 : Nat) (0 : Nat) (0 : Nat), AV.own (2 : Nat) i] [AB.cells [AV.sl (1 : Nat) (1 : Nat) (0 : Nat) (0 : Nat) l c, AV.v (Value.int IntKind.i64 p)] tr, AB.row false m (1 : Nat) (rowB b) tb, AB.row true i (8 : Nat) (row8 h) (40 : TypeId)] := by kernel_rfl

noncomputable abbrev lamRw (l : Nat) (c : Option Nat) (m : Nat) (b : Nat → Int) (tr tb : TypeId) (n : Nat) (p1 p2 : Int) (h : Nat → Nat → Int) : Nat → Option Sum := oneL 0 (atS 26 (lvRw .normal) 2 (stRw n 0) (hpRw l c p1 m b tr tb 0 fun _ _ => 0) (fun K => K .normal (mkT 0 26 [(0, .ptr 0 0 0 0), (5, .own 2 n)]) (hpRw l c p2 m b tr tb n h)))
theorem treeRw (pk : Nat → (Nat → Int) → Int → Int → Int) (cf : Nat → (Nat → Int) → Int → Nat → Int) (cp : Nat → (Nat → Int) → Int → Int) (l : Nat) (c : Option Nat) (p : Int) (m : Nat) (b : Nat → Int) (tr tb : TypeId) (n : Nat) (p1 p2 : Int) (h : Nat → Nat → Int) : execF Try.prog (gmRw pk cf cp) (lamRw l c m b tr tb n p1 p2 h) 100 fRw [.ptr 0 0 0 0, .v (i64 n)] (hpRd l c p m b tr tb) (packK 2)
    = needs [chk ([AV.ptr (0 : Nat) (0 : Nat) (0 : Nat) (0 : Nat), AV.v (Value.int IntKind.i64 (↑n : Int)), AV.own (2 : Nat) (0 : Nat), AV.v (Value.int IntKind.i64 (0 : Int))] = stRw n (0 : Nat) ∧ Hsim [AB.cells [AV.sl (1 : Nat) (1 : Nat) (0 : Nat) (0 : Nat) l c, AV.v (Value.int IntKind.i64 p)] tr, AB.row false m (1 : Nat) (rowB b) tb, AB.row true (0 : Nat) (8 : Nat) (fun _ ↦ []) (40 : Nat)] (hpRw l c p1 m b tr tb (0 : Nat) fun _ _ ↦ (0 : Int))), okB m (rowB b), decide (l ≤ m), decide ((0 : Int) ≤ p2), decide (p2 ≤ (1073741824 : Int)), decide ((0 : Nat) < m)] (bif pk l (itB (rowB b)) p2 (30 : Int) == (0 : Int) then needs [Nat.ble n n, Nat.ble (n + (1 : Nat)) (549755813888 : Nat)] (Res.out Ex.ret [AV.own (2 : Nat) (n + (1 : Nat))] [AB.cells [AV.sl (1 : Nat) (1 : Nat) (0 : Nat) (0 : Nat) l c, AV.v (Value.int IntKind.i64 (p2 + (1 : Int)))] tr, AB.row false m (1 : Nat) (rowB b) tb, AB.row true (n + (1 : Nat)) (8 : Nat) (fun q ↦ [Value.int IntKind.i64 (bif Nat.blt q n then h q (0 : Nat) else (0 : Int)), Value.int IntKind.i64 (bif Nat.blt q n then h q (1 : Nat) else (0 : Int)), Value.int IntKind.i64 (bif Nat.blt q n then h q (2 : Nat) else (0 : Int)), Value.int IntKind.i64 (bif Nat.blt q n then h q (3 : Nat) else (0 : Int)), Value.int IntKind.i64 (bif Nat.blt q n then h q (4 : Nat) else (0 : Int)), Value.int IntKind.i64 (bif Nat.blt q n then h q (5 : Nat) else (0 : Int)), Value.int IntKind.i64 (bif Nat.blt q n then h q (6 : Nat) else (0 : Int)), Value.int IntKind.i64 (bif Nat.blt q n then h q (7 : Nat) else (0 : Int))]) (40 : Nat)]) else Res.out Ex.ret [AV.own (2 : Nat) n] [AB.cells [AV.sl (1 : Nat) (1 : Nat) (0 : Nat) (0 : Nat) l c, AV.v (Value.int IntKind.i64 (p2 + (1 : Int)))] tr, AB.row false m (1 : Nat) (rowB b) tb, AB.row true n (8 : Nat) (row8 h) (40 : TypeId)]) := by kernel_rfl

/-- A row, drawn: how long, its points, where the reader is. -/
def FrwO (rl : Nat → (Nat → Int) → Int → Int → Nat) (rf : Nat → (Nat → Int) → Int → Int → Nat → Nat → Int) (rp : Nat → (Nat → Int) → Int → Int → Int) : List AV → List AB → Option HR
  | [.ptr 0 0 0 0, .v (.int .i64 n)], [.cells [.sl 1 1 0 0 l c, .v (.int .i64 p)] tr, .row false m 1 g tb] => some { val := .own 2 (rl l (itB g) p n), out := [.cells [.sl 1 1 0 0 l c, .v (.int .i64 (rp l (itB g) p n))] tr, .row false m 1 g tb], new := [.row true (rl l (itB g) p n) 8 (row8 (rf l (itB g) p n)) 40], obl := [okB m g, decide (l ≤ m), decide (0 ≤ p), decide (p ≤ 2 ^ 27), decide (0 < m), inR n 0 24] }
  | _, _ => none
def gmRdJ (pk : Nat → (Nat → Int) → Int → Int → Int) (rl : Nat → (Nat → Int) → Int → Int → Nat) (rf : Nat → (Nat → Int) → Int → Int → Nat → Nat → Int) (rp : Nat → (Nat → Int) → Int → Int → Int) (q : Int) : Gam := ext (gmPJ pk 10 q) 108 (specK [] (FrwO rl rf rp))
end Go.Proofs.Ytoligfhcogligaa

/- DrawRowDesign: a list of points, whatever the bytes are. Conditions: bytes, at most 2^21. -/
namespace Go.Proofs.Ytoligfhcogligaa
open Go.RowKit
set_option maxRecDepth 100000

/-- Where the reader is after some points, and these. -/
noncomputable def rwP (l : Nat) (b : Nat → Int) (p : Int) : Nat → Int
  | 0 => p
  | i + 1 => cyP l b (rwP l b p i)
noncomputable def rwG (l : Nat) (b : Nat → Int) (p : Int) : Nat → Nat → Int := fun j => cyF l b (rwP l b p j)
theorem rwP_in (l : Nat) (b : Nat → Int) (p : Int) : ∀ i : Nat, p ≤ rwP l b p i ∧ rwP l b p i ≤ p + 12 * (i : Int)
  | 0 => by show p ≤ p ∧ p ≤ p + 12 * ((0 : Nat) : Int); omega
  | i + 1 => by
    have ih := rwP_in l b p i
    have := cyP_in l b (rwP l b p i)
    show p ≤ cyP l b (rwP l b p i) ∧ cyP l b (rwP l b p i) ≤ p + 12 * ((i + 1 : Nat) : Int)
    omega
theorem gmRw_ok : GamOk Try.prog (gmRw pkV cyF cyP) := ext_ok (ext_ok g0_ok ok_pick) ok_cyc
theorem rw_row (i : Nat) (o : Nat → Nat → Int) (G : Nat → Nat → Int) (ho : ∀ j, j < i → o j = G j) (x : Nat → Int) (hx : ∀ k, k < 8 → x k = G i k) (j : Nat) (hj : j < i + 1) : [i64 (bif Nat.blt j i then o j 0 else x 0), i64 (bif Nat.blt j i then o j 1 else x 1), i64 (bif Nat.blt j i then o j 2 else x 2), i64 (bif Nat.blt j i then o j 3 else x 3), i64 (bif Nat.blt j i then o j 4 else x 4), i64 (bif Nat.blt j i then o j 5 else x 5), i64 (bif Nat.blt j i then o j 6 else x 6), i64 (bif Nat.blt j i then o j 7 else x 7)] = row8 G j := by
  by_cases h : j < i
  · rw [blt_yes h]
    simp only [cond_true, ho j h]
  · have : j = i := by omega
    subst this
    rw [blt_no]
    simp only [cond_false, hx 0 (by omega), hx 1 (by omega), hx 2 (by omega), hx 3 (by omega), hx 4 (by omega), hx 5 (by omega), hx 6 (by omega), hx 7 (by omega)]
theorem sumRw (l : Nat) (c : Option Nat) (p : Int) (m : Nat) (b : Nat → Int) (tr tb : TypeId) (N : Nat) (hN : N ≤ 24) (hb : okB m (rowB b) = true) (hl : l ≤ m) (h0 : 0 ≤ p) (h1 : p ≤ 2 ^ 28) (hm : 0 < m) :
    SumOk Try.prog 2 (.block 0 (.loop (loopAt 0 fRw))) (atS 26 (lvRw .normal) 2 (stRw N 0) (hpRw l c p m b tr tb 0 fun _ _ => 0) (fun K => K .normal (mkT 0 26 [(0, .ptr 0 0 0 0), (5, .own 2 N)]) (hpRw l c (rwP l b p N) m b tr tb N (rwG l b p)))) := by
  refine for_at gmRw_ok (n := 100) (m := 2) (lv := lvRw) (fun i => stRw N i) (fun i => hpRw l c (rwP l b p i) m b tr tb i (bif Nat.beq i 0 then (fun _ _ => 0) else rwG l b p)) (fun _ => True) N (fun _ => noLam) (lv3_ris rfl rfl rfl) (Nat.le_refl _) trivial fun K Q hk i _ hi => ⟨noLam_ok _ _ _, ?_⟩
  have ho : ∀ j, j < i → (bif Nat.beq i 0 then (fun _ _ => (0 : Int)) else rwG l b p) j = rwG l b p j := by
    intro j hj
    cases i with
    | zero => exact absurd hj (Nat.not_lt_zero _)
    | succ i => rfl
  rw [rndRw]
  have hp := rwP_in l b p i
  refine good_cond (fun c1 => ?_) fun c1 => ?_
  · have c1 := of_decide_eq_true c1
    refine good_needs ?_ (good_out ⟨i + 1, ⟨rfl, by omega, trivial⟩, ?_, ?_⟩)
    · simp only [ob_cons, ob_nil, and_true, decide_eq_true_eq, Nat.ble_eq, hb, true_and]
      omega
    · rw [wr_in (x := (i : Int) + 1) (by omega)]
      rfl
    · refine .cons (ABeq.refl _) (.cons (ABeq.refl _) (.cons (ABeq.row fun q hq => ?_) .nil))
      exact rw_row i _ (rwG l b p) ho (cyF l b (rwP l b p i)) (fun _ _ => rfl) q hq
  · have c1 := of_decide_eq_false c1
    have : i = N := by omega
    subst this
    refine good_out ⟨hpRw l c (rwP l b p i) m b tr tb i (rwG l b p), .cons (ABeq.refl _) (.cons (ABeq.refl _) (.cons (ABeq.row fun j hj => row8_congr fun k _ => by rw [ho j hj]) .nil)), ?_⟩
    rw [if_pos rfl]
    exact hk
/-- How long the row is; its points. -/
noncomputable def rwN (l : Nat) (b : Nat → Int) (p n : Int) : Nat := if pkV l b (rwP l b p n.toNat) 30 = 0 then n.toNat + 1 else n.toNat
noncomputable def rwH (l : Nat) (b : Nat → Int) (p n : Int) : Nat → Nat → Int := fun j k => bif Nat.blt j n.toNat then rwG l b p j k else 0
noncomputable def rwE (l : Nat) (b : Nat → Int) (p n : Int) : Int := rwP l b p n.toNat + 1
theorem rwN_le (l : Nat) (b : Nat → Int) (p : Int) {n : Int} (h : n ≤ 24) : rwN l b p n ≤ 25 := by
  unfold rwN
  split <;> omega
theorem ok_rw : SpecOk Try.prog 108 (specK [] (FrwO rwN rwH rwE)) := by
  refine specK_ok gmRw_ok Try.func108 rfl fun avs H hr hF ho => ?_
  unfold FrwO at hF
  split at hF
  · rename_i n l c p tr m g tb
    cases hF
    simp only [ob_cons, decide_eq_true_eq] at ho
    obtain ⟨h1, h2, h3, h4, h5, h6, _⟩ := ho
    have h6 := inR_iff.1 h6
    obtain ⟨n, rfl⟩ := Int.eq_ofNat_of_zero_le h6.1
    have hb := okB_it h1
    have hp := rwP_in l (itB g) p n
    refine ⟨hpRd l c p m (itB g) tr tb, lamRw l c m (itB g) tr tb n p (rwP l (itB g) p n) (rwG l (itB g) p), 100, rd_sim h1, lam1 (by kernel_rfl) (sumRw l c p m (itB g) tr tb n (by omega) hb h2 h3 (by omega) h5), ?_⟩
    show GoodQ (execF Try.prog (gmRw pkV cyF cyP) (lamRw l c m (itB g) tr tb n p (rwP l (itB g) p n) (rwG l (itB g) p)) 100 fRw [.ptr 0 0 0 0, .v (i64 (n : Nat))] (hpRd l c p m (itB g) tr tb) (packK 2)) _
    rw [treeRw]
    simp only [itB_row]
    have eH : ∀ j, j < n → row8 (rwG l (itB g) p) j = row8 (rwH l (itB g) p n) j := fun j hj => row8_congr fun k _ => by
      unfold rwH
      rw [Int.toNat_natCast, blt_yes hj]
      rfl
    refine good_needs ?_ (good_cond (fun q => ?_) fun q => ?_)
    · simp only [ob_cons, ob_nil, and_true, decide_eq_true_eq, hb, true_and]
      exact ⟨chk_of ⟨rfl, .cons (ABeq.refl _) (.cons (ABeq.refl _) (.cons (ABeq.row fun j hj => absurd hj (Nat.not_lt_zero _)) .nil))⟩, h2, by omega, by omega, h5⟩
    · have eN : rwN l (itB g) p n = n + 1 := by unfold rwN; rw [Int.toNat_natCast, if_pos (beq_iff_eq.1 q)]
      refine good_needs (by simp only [ob_cons, ob_nil, and_true, Nat.ble_eq]; omega) (good_out ⟨by rw [eN], .cons (ABeq.refl _) (.cons (ABeq.row fun j hj => (okB_get h1 hj).1.symm) ?_)⟩)
      show Hsim _ [.row true (rwN l (itB g) p n) 8 (row8 (rwH l (itB g) p n)) 40]
      rw [eN]
      exact .cons (ABeq.row fun j hj => rfl) .nil
    · have eN : rwN l (itB g) p n = n := by unfold rwN; rw [Int.toNat_natCast, if_neg (beq_eq_false_iff_ne.1 q)]
      refine good_out ⟨by rw [eN], .cons (ABeq.refl _) (.cons (ABeq.row fun j hj => (okB_get h1 hj).1.symm) ?_)⟩
      show Hsim _ [.row true (rwN l (itB g) p n) 8 (row8 (rwH l (itB g) p n)) 40]
      rw [eN]
      exact .cons (ABeq.row eH) .nil
  · cases hF

def lnT (q : Int) : Int := if q = 0 then 1 else if q = 1 then 2 else if q = 2 then 3 else if q = 3 then 4 else if q = 4 then 6 else if q = 5 then 8 else if q = 6 then 2 else if q = 7 then 3 else if q = 8 then 4 else 12
def rzF : Nat → Nat → Int := fun j k => bif Nat.blt j 1 then (match k with | 0 => 1 | _ => 0) else 0
/-- A row, drawn from bytes: how long, its points. -/
noncomputable def bRdN (m : Nat) (b : Nat → Int) : Nat := if m = 0 then 2 else rwN (lnB m) b 1 (lnT (pkV (lnB m) b 0 10))
noncomputable def bRdF (m : Nat) (b : Nat → Int) : Nat → Nat → Int := if m = 0 then rzF else rwH (lnB m) b 1 (lnT (pkV (lnB m) b 0 10))
theorem lnT_in (q : Int) : 0 ≤ lnT q ∧ lnT q ≤ 24 := by
  unfold lnT
  repeat' split
  all_goals omega
theorem bRd_len (m : Nat) (b : Nat → Int) : bRdN m b ≤ 25 := by
  unfold bRdN
  split
  · omega
  · exact rwN_le _ _ _ (lnT_in _).2
def frC (n : Nat) (h : Nat → Nat → Int) : FR := { val := .own 0 n, new := [.row true n 8 (row8 h) 40] }
theorem gmRdJ_ok (q : Int) : GamOk Try.prog (gmRdJ pkV rwN rwH rwE q) := ext_ok (ext_ok g0_ok (ok_pickJ _ _)) ok_rw
end Go.Proofs.Ytoligfhcogligaa

/- DrawRowSquares: a list of points, whatever the bytes are. Conditions: bytes, at most 2^21. -/
namespace Go.Proofs.Ytoligfhcogligaa
open Go.RowKit
set_option maxRecDepth 100000

theorem treeRSq0 (pk : Nat → (Nat → Int) → Int → Int → Int) (rl : Nat → (Nat → Int) → Int → Int → Nat) (rf : Nat → (Nat → Int) → Int → Int → Nat → Nat → Int) (rp : Nat → (Nat → Int) → Int → Int → Int) (m : Nat) (b : Nat → Int) : execF Try.prog (gmRdJ pk rl rf rp 0) noLam 100 Try.f33 [.sl 0 1 0 0 m none] [.row false m 1 (rowB b) 5] (packK 1)
    = bif decide ((↑m : Int) > (2000 : Int)) then needs [decide ((2000 : Int) ≤ (↑m : Int)), decide ((↑m : Int) ≤ (↑m : Int)), okB m (rowB b), decide (Int.toNat ((2000 : Int) - (0 : Int)) ≤ m), decide (pk (Int.toNat ((2000 : Int) - (0 : Int))) (itB (rowB b)) (0 : Int) (10 : Int) = (0 : Int)), decide ((0 : Nat) < m), okB m (rowB b), decide (Int.toNat ((2000 : Int) - (0 : Int)) ≤ m), decide ((0 : Nat) < m), decide ((0 : Nat) < m)] (Res.out Ex.ret [AV.own (1 : Nat) (rl (Int.toNat ((2000 : Int) - (0 : Int))) (itB (rowB b)) (1 : Int) (bif Nat.beq (Int.toNat (0 : Int)) (0 : Nat) then (1 : Int) else bif Nat.beq (Int.toNat (0 : Int)) (1 : Nat) then (2 : Int) else bif Nat.beq (Int.toNat (0 : Int)) (2 : Nat) then (3 : Int) else bif Nat.beq (Int.toNat (0 : Int)) (3 : Nat) then (4 : Int) else bif Nat.beq (Int.toNat (0 : Int)) (4 : Nat) then (6 : Int) else bif Nat.beq (Int.toNat (0 : Int)) (5 : Nat) then (8 : Int) else bif Nat.beq (Int.toNat (0 : Int)) (6 : Nat) then (2 : Int) else bif Nat.beq (Int.toNat (0 : Int)) (7 : Nat) then (3 : Int) else bif Nat.beq (Int.toNat (0 : Int)) (8 : Nat) then (4 : Int) else (12 : Int)))] [AB.row false m (1 : Nat) (rowB b) (5 : TypeId), AB.row true (rl (Int.toNat ((2000 : Int) - (0 : Int))) (itB (rowB b)) (1 : Int) (bif Nat.beq (Int.toNat (0 : Int)) (0 : Nat) then (1 : Int) else bif Nat.beq (Int.toNat (0 : Int)) (1 : Nat) then (2 : Int) else bif Nat.beq (Int.toNat (0 : Int)) (2 : Nat) then (3 : Int) else bif Nat.beq (Int.toNat (0 : Int)) (3 : Nat) then (4 : Int) else bif Nat.beq (Int.toNat (0 : Int)) (4 : Nat) then (6 : Int) else bif Nat.beq (Int.toNat (0 : Int)) (5 : Nat) then (8 : Int) else bif Nat.beq (Int.toNat (0 : Int)) (6 : Nat) then (2 : Int) else bif Nat.beq (Int.toNat (0 : Int)) (7 : Nat) then (3 : Int) else bif Nat.beq (Int.toNat (0 : Int)) (8 : Nat) then (4 : Int) else (12 : Int))) (8 : Nat) (row8 (rf (Int.toNat ((2000 : Int) - (0 : Int))) (itB (rowB b)) (1 : Int) (bif Nat.beq (Int.toNat (0 : Int)) (0 : Nat) then (1 : Int) else bif Nat.beq (Int.toNat (0 : Int)) (1 : Nat) then (2 : Int) else bif Nat.beq (Int.toNat (0 : Int)) (2 : Nat) then (3 : Int) else bif Nat.beq (Int.toNat (0 : Int)) (3 : Nat) then (4 : Int) else bif Nat.beq (Int.toNat (0 : Int)) (4 : Nat) then (6 : Int) else bif Nat.beq (Int.toNat (0 : Int)) (5 : Nat) then (8 : Int) else bif Nat.beq (Int.toNat (0 : Int)) (6 : Nat) then (2 : Int) else bif Nat.beq (Int.toNat (0 : Int)) (7 : Nat) then (3 : Int) else bif Nat.beq (Int.toNat (0 : Int)) (8 : Nat) then (4 : Int) else (12 : Int)))) (40 : TypeId)]) else needs [okB m (rowB b), decide (m ≤ m), decide (pk m (itB (rowB b)) (0 : Int) (10 : Int) = (0 : Int)), decide ((0 : Nat) < m), okB m (rowB b), decide (m ≤ m), decide ((0 : Nat) < m), decide ((0 : Nat) < m)] (Res.out Ex.ret [AV.own (1 : Nat) (rl m (itB (rowB b)) (1 : Int) (bif Nat.beq (Int.toNat (0 : Int)) (0 : Nat) then (1 : Int) else bif Nat.beq (Int.toNat (0 : Int)) (1 : Nat) then (2 : Int) else bif Nat.beq (Int.toNat (0 : Int)) (2 : Nat) then (3 : Int) else bif Nat.beq (Int.toNat (0 : Int)) (3 : Nat) then (4 : Int) else bif Nat.beq (Int.toNat (0 : Int)) (4 : Nat) then (6 : Int) else bif Nat.beq (Int.toNat (0 : Int)) (5 : Nat) then (8 : Int) else bif Nat.beq (Int.toNat (0 : Int)) (6 : Nat) then (2 : Int) else bif Nat.beq (Int.toNat (0 : Int)) (7 : Nat) then (3 : Int) else bif Nat.beq (Int.toNat (0 : Int)) (8 : Nat) then (4 : Int) else (12 : Int)))] [AB.row false m (1 : Nat) (rowB b) (5 : TypeId), AB.row true (rl m (itB (rowB b)) (1 : Int) (bif Nat.beq (Int.toNat (0 : Int)) (0 : Nat) then (1 : Int) else bif Nat.beq (Int.toNat (0 : Int)) (1 : Nat) then (2 : Int) else bif Nat.beq (Int.toNat (0 : Int)) (2 : Nat) then (3 : Int) else bif Nat.beq (Int.toNat (0 : Int)) (3 : Nat) then (4 : Int) else bif Nat.beq (Int.toNat (0 : Int)) (4 : Nat) then (6 : Int) else bif Nat.beq (Int.toNat (0 : Int)) (5 : Nat) then (8 : Int) else bif Nat.beq (Int.toNat (0 : Int)) (6 : Nat) then (2 : Int) else bif Nat.beq (Int.toNat (0 : Int)) (7 : Nat) then (3 : Int) else bif Nat.beq (Int.toNat (0 : Int)) (8 : Nat) then (4 : Int) else (12 : Int))) (8 : Nat) (row8 (rf m (itB (rowB b)) (1 : Int) (bif Nat.beq (Int.toNat (0 : Int)) (0 : Nat) then (1 : Int) else bif Nat.beq (Int.toNat (0 : Int)) (1 : Nat) then (2 : Int) else bif Nat.beq (Int.toNat (0 : Int)) (2 : Nat) then (3 : Int) else bif Nat.beq (Int.toNat (0 : Int)) (3 : Nat) then (4 : Int) else bif Nat.beq (Int.toNat (0 : Int)) (4 : Nat) then (6 : Int) else bif Nat.beq (Int.toNat (0 : Int)) (5 : Nat) then (8 : Int) else bif Nat.beq (Int.toNat (0 : Int)) (6 : Nat) then (2 : Int) else bif Nat.beq (Int.toNat (0 : Int)) (7 : Nat) then (3 : Int) else bif Nat.beq (Int.toNat (0 : Int)) (8 : Nat) then (4 : Int) else (12 : Int)))) (40 : TypeId)]) := by kernel_rfl

theorem treeRSq1 (pk : Nat → (Nat → Int) → Int → Int → Int) (rl : Nat → (Nat → Int) → Int → Int → Nat) (rf : Nat → (Nat → Int) → Int → Int → Nat → Nat → Int) (rp : Nat → (Nat → Int) → Int → Int → Int) (m : Nat) (b : Nat → Int) : execF Try.prog (gmRdJ pk rl rf rp 1) noLam 100 Try.f33 [.sl 0 1 0 0 m none] [.row false m 1 (rowB b) 5] (packK 1)
    = bif decide ((↑m : Int) > (2000 : Int)) then needs [decide ((2000 : Int) ≤ (↑m : Int)), decide ((↑m : Int) ≤ (↑m : Int)), okB m (rowB b), decide (Int.toNat ((2000 : Int) - (0 : Int)) ≤ m), decide (pk (Int.toNat ((2000 : Int) - (0 : Int))) (itB (rowB b)) (0 : Int) (10 : Int) = (1 : Int)), decide ((0 : Nat) < m), okB m (rowB b), decide (Int.toNat ((2000 : Int) - (0 : Int)) ≤ m), decide ((0 : Nat) < m), decide ((0 : Nat) < m)] (Res.out Ex.ret [AV.own (1 : Nat) (rl (Int.toNat ((2000 : Int) - (0 : Int))) (itB (rowB b)) (1 : Int) (bif Nat.beq (Int.toNat (1 : Int)) (0 : Nat) then (1 : Int) else bif Nat.beq (Int.toNat (1 : Int)) (1 : Nat) then (2 : Int) else bif Nat.beq (Int.toNat (1 : Int)) (2 : Nat) then (3 : Int) else bif Nat.beq (Int.toNat (1 : Int)) (3 : Nat) then (4 : Int) else bif Nat.beq (Int.toNat (1 : Int)) (4 : Nat) then (6 : Int) else bif Nat.beq (Int.toNat (1 : Int)) (5 : Nat) then (8 : Int) else bif Nat.beq (Int.toNat (1 : Int)) (6 : Nat) then (2 : Int) else bif Nat.beq (Int.toNat (1 : Int)) (7 : Nat) then (3 : Int) else bif Nat.beq (Int.toNat (1 : Int)) (8 : Nat) then (4 : Int) else (12 : Int)))] [AB.row false m (1 : Nat) (rowB b) (5 : TypeId), AB.row true (rl (Int.toNat ((2000 : Int) - (0 : Int))) (itB (rowB b)) (1 : Int) (bif Nat.beq (Int.toNat (1 : Int)) (0 : Nat) then (1 : Int) else bif Nat.beq (Int.toNat (1 : Int)) (1 : Nat) then (2 : Int) else bif Nat.beq (Int.toNat (1 : Int)) (2 : Nat) then (3 : Int) else bif Nat.beq (Int.toNat (1 : Int)) (3 : Nat) then (4 : Int) else bif Nat.beq (Int.toNat (1 : Int)) (4 : Nat) then (6 : Int) else bif Nat.beq (Int.toNat (1 : Int)) (5 : Nat) then (8 : Int) else bif Nat.beq (Int.toNat (1 : Int)) (6 : Nat) then (2 : Int) else bif Nat.beq (Int.toNat (1 : Int)) (7 : Nat) then (3 : Int) else bif Nat.beq (Int.toNat (1 : Int)) (8 : Nat) then (4 : Int) else (12 : Int))) (8 : Nat) (row8 (rf (Int.toNat ((2000 : Int) - (0 : Int))) (itB (rowB b)) (1 : Int) (bif Nat.beq (Int.toNat (1 : Int)) (0 : Nat) then (1 : Int) else bif Nat.beq (Int.toNat (1 : Int)) (1 : Nat) then (2 : Int) else bif Nat.beq (Int.toNat (1 : Int)) (2 : Nat) then (3 : Int) else bif Nat.beq (Int.toNat (1 : Int)) (3 : Nat) then (4 : Int) else bif Nat.beq (Int.toNat (1 : Int)) (4 : Nat) then (6 : Int) else bif Nat.beq (Int.toNat (1 : Int)) (5 : Nat) then (8 : Int) else bif Nat.beq (Int.toNat (1 : Int)) (6 : Nat) then (2 : Int) else bif Nat.beq (Int.toNat (1 : Int)) (7 : Nat) then (3 : Int) else bif Nat.beq (Int.toNat (1 : Int)) (8 : Nat) then (4 : Int) else (12 : Int)))) (40 : TypeId)]) else needs [okB m (rowB b), decide (m ≤ m), decide (pk m (itB (rowB b)) (0 : Int) (10 : Int) = (1 : Int)), decide ((0 : Nat) < m), okB m (rowB b), decide (m ≤ m), decide ((0 : Nat) < m), decide ((0 : Nat) < m)] (Res.out Ex.ret [AV.own (1 : Nat) (rl m (itB (rowB b)) (1 : Int) (bif Nat.beq (Int.toNat (1 : Int)) (0 : Nat) then (1 : Int) else bif Nat.beq (Int.toNat (1 : Int)) (1 : Nat) then (2 : Int) else bif Nat.beq (Int.toNat (1 : Int)) (2 : Nat) then (3 : Int) else bif Nat.beq (Int.toNat (1 : Int)) (3 : Nat) then (4 : Int) else bif Nat.beq (Int.toNat (1 : Int)) (4 : Nat) then (6 : Int) else bif Nat.beq (Int.toNat (1 : Int)) (5 : Nat) then (8 : Int) else bif Nat.beq (Int.toNat (1 : Int)) (6 : Nat) then (2 : Int) else bif Nat.beq (Int.toNat (1 : Int)) (7 : Nat) then (3 : Int) else bif Nat.beq (Int.toNat (1 : Int)) (8 : Nat) then (4 : Int) else (12 : Int)))] [AB.row false m (1 : Nat) (rowB b) (5 : TypeId), AB.row true (rl m (itB (rowB b)) (1 : Int) (bif Nat.beq (Int.toNat (1 : Int)) (0 : Nat) then (1 : Int) else bif Nat.beq (Int.toNat (1 : Int)) (1 : Nat) then (2 : Int) else bif Nat.beq (Int.toNat (1 : Int)) (2 : Nat) then (3 : Int) else bif Nat.beq (Int.toNat (1 : Int)) (3 : Nat) then (4 : Int) else bif Nat.beq (Int.toNat (1 : Int)) (4 : Nat) then (6 : Int) else bif Nat.beq (Int.toNat (1 : Int)) (5 : Nat) then (8 : Int) else bif Nat.beq (Int.toNat (1 : Int)) (6 : Nat) then (2 : Int) else bif Nat.beq (Int.toNat (1 : Int)) (7 : Nat) then (3 : Int) else bif Nat.beq (Int.toNat (1 : Int)) (8 : Nat) then (4 : Int) else (12 : Int))) (8 : Nat) (row8 (rf m (itB (rowB b)) (1 : Int) (bif Nat.beq (Int.toNat (1 : Int)) (0 : Nat) then (1 : Int) else bif Nat.beq (Int.toNat (1 : Int)) (1 : Nat) then (2 : Int) else bif Nat.beq (Int.toNat (1 : Int)) (2 : Nat) then (3 : Int) else bif Nat.beq (Int.toNat (1 : Int)) (3 : Nat) then (4 : Int) else bif Nat.beq (Int.toNat (1 : Int)) (4 : Nat) then (6 : Int) else bif Nat.beq (Int.toNat (1 : Int)) (5 : Nat) then (8 : Int) else bif Nat.beq (Int.toNat (1 : Int)) (6 : Nat) then (2 : Int) else bif Nat.beq (Int.toNat (1 : Int)) (7 : Nat) then (3 : Int) else bif Nat.beq (Int.toNat (1 : Int)) (8 : Nat) then (4 : Int) else (12 : Int)))) (40 : TypeId)]) := by kernel_rfl

theorem treeRSq2 (pk : Nat → (Nat → Int) → Int → Int → Int) (rl : Nat → (Nat → Int) → Int → Int → Nat) (rf : Nat → (Nat → Int) → Int → Int → Nat → Nat → Int) (rp : Nat → (Nat → Int) → Int → Int → Int) (m : Nat) (b : Nat → Int) : execF Try.prog (gmRdJ pk rl rf rp 2) noLam 100 Try.f33 [.sl 0 1 0 0 m none] [.row false m 1 (rowB b) 5] (packK 1)
    = bif decide ((↑m : Int) > (2000 : Int)) then needs [decide ((2000 : Int) ≤ (↑m : Int)), decide ((↑m : Int) ≤ (↑m : Int)), okB m (rowB b), decide (Int.toNat ((2000 : Int) - (0 : Int)) ≤ m), decide (pk (Int.toNat ((2000 : Int) - (0 : Int))) (itB (rowB b)) (0 : Int) (10 : Int) = (2 : Int)), decide ((0 : Nat) < m), okB m (rowB b), decide (Int.toNat ((2000 : Int) - (0 : Int)) ≤ m), decide ((0 : Nat) < m), decide ((0 : Nat) < m)] (Res.out Ex.ret [AV.own (1 : Nat) (rl (Int.toNat ((2000 : Int) - (0 : Int))) (itB (rowB b)) (1 : Int) (bif Nat.beq (Int.toNat (2 : Int)) (0 : Nat) then (1 : Int) else bif Nat.beq (Int.toNat (2 : Int)) (1 : Nat) then (2 : Int) else bif Nat.beq (Int.toNat (2 : Int)) (2 : Nat) then (3 : Int) else bif Nat.beq (Int.toNat (2 : Int)) (3 : Nat) then (4 : Int) else bif Nat.beq (Int.toNat (2 : Int)) (4 : Nat) then (6 : Int) else bif Nat.beq (Int.toNat (2 : Int)) (5 : Nat) then (8 : Int) else bif Nat.beq (Int.toNat (2 : Int)) (6 : Nat) then (2 : Int) else bif Nat.beq (Int.toNat (2 : Int)) (7 : Nat) then (3 : Int) else bif Nat.beq (Int.toNat (2 : Int)) (8 : Nat) then (4 : Int) else (12 : Int)))] [AB.row false m (1 : Nat) (rowB b) (5 : TypeId), AB.row true (rl (Int.toNat ((2000 : Int) - (0 : Int))) (itB (rowB b)) (1 : Int) (bif Nat.beq (Int.toNat (2 : Int)) (0 : Nat) then (1 : Int) else bif Nat.beq (Int.toNat (2 : Int)) (1 : Nat) then (2 : Int) else bif Nat.beq (Int.toNat (2 : Int)) (2 : Nat) then (3 : Int) else bif Nat.beq (Int.toNat (2 : Int)) (3 : Nat) then (4 : Int) else bif Nat.beq (Int.toNat (2 : Int)) (4 : Nat) then (6 : Int) else bif Nat.beq (Int.toNat (2 : Int)) (5 : Nat) then (8 : Int) else bif Nat.beq (Int.toNat (2 : Int)) (6 : Nat) then (2 : Int) else bif Nat.beq (Int.toNat (2 : Int)) (7 : Nat) then (3 : Int) else bif Nat.beq (Int.toNat (2 : Int)) (8 : Nat) then (4 : Int) else (12 : Int))) (8 : Nat) (row8 (rf (Int.toNat ((2000 : Int) - (0 : Int))) (itB (rowB b)) (1 : Int) (bif Nat.beq (Int.toNat (2 : Int)) (0 : Nat) then (1 : Int) else bif Nat.beq (Int.toNat (2 : Int)) (1 : Nat) then (2 : Int) else bif Nat.beq (Int.toNat (2 : Int)) (2 : Nat) then (3 : Int) else bif Nat.beq (Int.toNat (2 : Int)) (3 : Nat) then (4 : Int) else bif Nat.beq (Int.toNat (2 : Int)) (4 : Nat) then (6 : Int) else bif Nat.beq (Int.toNat (2 : Int)) (5 : Nat) then (8 : Int) else bif Nat.beq (Int.toNat (2 : Int)) (6 : Nat) then (2 : Int) else bif Nat.beq (Int.toNat (2 : Int)) (7 : Nat) then (3 : Int) else bif Nat.beq (Int.toNat (2 : Int)) (8 : Nat) then (4 : Int) else (12 : Int)))) (40 : TypeId)]) else needs [okB m (rowB b), decide (m ≤ m), decide (pk m (itB (rowB b)) (0 : Int) (10 : Int) = (2 : Int)), decide ((0 : Nat) < m), okB m (rowB b), decide (m ≤ m), decide ((0 : Nat) < m), decide ((0 : Nat) < m)] (Res.out Ex.ret [AV.own (1 : Nat) (rl m (itB (rowB b)) (1 : Int) (bif Nat.beq (Int.toNat (2 : Int)) (0 : Nat) then (1 : Int) else bif Nat.beq (Int.toNat (2 : Int)) (1 : Nat) then (2 : Int) else bif Nat.beq (Int.toNat (2 : Int)) (2 : Nat) then (3 : Int) else bif Nat.beq (Int.toNat (2 : Int)) (3 : Nat) then (4 : Int) else bif Nat.beq (Int.toNat (2 : Int)) (4 : Nat) then (6 : Int) else bif Nat.beq (Int.toNat (2 : Int)) (5 : Nat) then (8 : Int) else bif Nat.beq (Int.toNat (2 : Int)) (6 : Nat) then (2 : Int) else bif Nat.beq (Int.toNat (2 : Int)) (7 : Nat) then (3 : Int) else bif Nat.beq (Int.toNat (2 : Int)) (8 : Nat) then (4 : Int) else (12 : Int)))] [AB.row false m (1 : Nat) (rowB b) (5 : TypeId), AB.row true (rl m (itB (rowB b)) (1 : Int) (bif Nat.beq (Int.toNat (2 : Int)) (0 : Nat) then (1 : Int) else bif Nat.beq (Int.toNat (2 : Int)) (1 : Nat) then (2 : Int) else bif Nat.beq (Int.toNat (2 : Int)) (2 : Nat) then (3 : Int) else bif Nat.beq (Int.toNat (2 : Int)) (3 : Nat) then (4 : Int) else bif Nat.beq (Int.toNat (2 : Int)) (4 : Nat) then (6 : Int) else bif Nat.beq (Int.toNat (2 : Int)) (5 : Nat) then (8 : Int) else bif Nat.beq (Int.toNat (2 : Int)) (6 : Nat) then (2 : Int) else bif Nat.beq (Int.toNat (2 : Int)) (7 : Nat) then (3 : Int) else bif Nat.beq (Int.toNat (2 : Int)) (8 : Nat) then (4 : Int) else (12 : Int))) (8 : Nat) (row8 (rf m (itB (rowB b)) (1 : Int) (bif Nat.beq (Int.toNat (2 : Int)) (0 : Nat) then (1 : Int) else bif Nat.beq (Int.toNat (2 : Int)) (1 : Nat) then (2 : Int) else bif Nat.beq (Int.toNat (2 : Int)) (2 : Nat) then (3 : Int) else bif Nat.beq (Int.toNat (2 : Int)) (3 : Nat) then (4 : Int) else bif Nat.beq (Int.toNat (2 : Int)) (4 : Nat) then (6 : Int) else bif Nat.beq (Int.toNat (2 : Int)) (5 : Nat) then (8 : Int) else bif Nat.beq (Int.toNat (2 : Int)) (6 : Nat) then (2 : Int) else bif Nat.beq (Int.toNat (2 : Int)) (7 : Nat) then (3 : Int) else bif Nat.beq (Int.toNat (2 : Int)) (8 : Nat) then (4 : Int) else (12 : Int)))) (40 : TypeId)]) := by kernel_rfl

theorem treeRSq3 (pk : Nat → (Nat → Int) → Int → Int → Int) (rl : Nat → (Nat → Int) → Int → Int → Nat) (rf : Nat → (Nat → Int) → Int → Int → Nat → Nat → Int) (rp : Nat → (Nat → Int) → Int → Int → Int) (m : Nat) (b : Nat → Int) : execF Try.prog (gmRdJ pk rl rf rp 3) noLam 100 Try.f33 [.sl 0 1 0 0 m none] [.row false m 1 (rowB b) 5] (packK 1)
    = bif decide ((↑m : Int) > (2000 : Int)) then needs [decide ((2000 : Int) ≤ (↑m : Int)), decide ((↑m : Int) ≤ (↑m : Int)), okB m (rowB b), decide (Int.toNat ((2000 : Int) - (0 : Int)) ≤ m), decide (pk (Int.toNat ((2000 : Int) - (0 : Int))) (itB (rowB b)) (0 : Int) (10 : Int) = (3 : Int)), decide ((0 : Nat) < m), okB m (rowB b), decide (Int.toNat ((2000 : Int) - (0 : Int)) ≤ m), decide ((0 : Nat) < m), decide ((0 : Nat) < m)] (Res.out Ex.ret [AV.own (1 : Nat) (rl (Int.toNat ((2000 : Int) - (0 : Int))) (itB (rowB b)) (1 : Int) (bif Nat.beq (Int.toNat (3 : Int)) (0 : Nat) then (1 : Int) else bif Nat.beq (Int.toNat (3 : Int)) (1 : Nat) then (2 : Int) else bif Nat.beq (Int.toNat (3 : Int)) (2 : Nat) then (3 : Int) else bif Nat.beq (Int.toNat (3 : Int)) (3 : Nat) then (4 : Int) else bif Nat.beq (Int.toNat (3 : Int)) (4 : Nat) then (6 : Int) else bif Nat.beq (Int.toNat (3 : Int)) (5 : Nat) then (8 : Int) else bif Nat.beq (Int.toNat (3 : Int)) (6 : Nat) then (2 : Int) else bif Nat.beq (Int.toNat (3 : Int)) (7 : Nat) then (3 : Int) else bif Nat.beq (Int.toNat (3 : Int)) (8 : Nat) then (4 : Int) else (12 : Int)))] [AB.row false m (1 : Nat) (rowB b) (5 : TypeId), AB.row true (rl (Int.toNat ((2000 : Int) - (0 : Int))) (itB (rowB b)) (1 : Int) (bif Nat.beq (Int.toNat (3 : Int)) (0 : Nat) then (1 : Int) else bif Nat.beq (Int.toNat (3 : Int)) (1 : Nat) then (2 : Int) else bif Nat.beq (Int.toNat (3 : Int)) (2 : Nat) then (3 : Int) else bif Nat.beq (Int.toNat (3 : Int)) (3 : Nat) then (4 : Int) else bif Nat.beq (Int.toNat (3 : Int)) (4 : Nat) then (6 : Int) else bif Nat.beq (Int.toNat (3 : Int)) (5 : Nat) then (8 : Int) else bif Nat.beq (Int.toNat (3 : Int)) (6 : Nat) then (2 : Int) else bif Nat.beq (Int.toNat (3 : Int)) (7 : Nat) then (3 : Int) else bif Nat.beq (Int.toNat (3 : Int)) (8 : Nat) then (4 : Int) else (12 : Int))) (8 : Nat) (row8 (rf (Int.toNat ((2000 : Int) - (0 : Int))) (itB (rowB b)) (1 : Int) (bif Nat.beq (Int.toNat (3 : Int)) (0 : Nat) then (1 : Int) else bif Nat.beq (Int.toNat (3 : Int)) (1 : Nat) then (2 : Int) else bif Nat.beq (Int.toNat (3 : Int)) (2 : Nat) then (3 : Int) else bif Nat.beq (Int.toNat (3 : Int)) (3 : Nat) then (4 : Int) else bif Nat.beq (Int.toNat (3 : Int)) (4 : Nat) then (6 : Int) else bif Nat.beq (Int.toNat (3 : Int)) (5 : Nat) then (8 : Int) else bif Nat.beq (Int.toNat (3 : Int)) (6 : Nat) then (2 : Int) else bif Nat.beq (Int.toNat (3 : Int)) (7 : Nat) then (3 : Int) else bif Nat.beq (Int.toNat (3 : Int)) (8 : Nat) then (4 : Int) else (12 : Int)))) (40 : TypeId)]) else needs [okB m (rowB b), decide (m ≤ m), decide (pk m (itB (rowB b)) (0 : Int) (10 : Int) = (3 : Int)), decide ((0 : Nat) < m), okB m (rowB b), decide (m ≤ m), decide ((0 : Nat) < m), decide ((0 : Nat) < m)] (Res.out Ex.ret [AV.own (1 : Nat) (rl m (itB (rowB b)) (1 : Int) (bif Nat.beq (Int.toNat (3 : Int)) (0 : Nat) then (1 : Int) else bif Nat.beq (Int.toNat (3 : Int)) (1 : Nat) then (2 : Int) else bif Nat.beq (Int.toNat (3 : Int)) (2 : Nat) then (3 : Int) else bif Nat.beq (Int.toNat (3 : Int)) (3 : Nat) then (4 : Int) else bif Nat.beq (Int.toNat (3 : Int)) (4 : Nat) then (6 : Int) else bif Nat.beq (Int.toNat (3 : Int)) (5 : Nat) then (8 : Int) else bif Nat.beq (Int.toNat (3 : Int)) (6 : Nat) then (2 : Int) else bif Nat.beq (Int.toNat (3 : Int)) (7 : Nat) then (3 : Int) else bif Nat.beq (Int.toNat (3 : Int)) (8 : Nat) then (4 : Int) else (12 : Int)))] [AB.row false m (1 : Nat) (rowB b) (5 : TypeId), AB.row true (rl m (itB (rowB b)) (1 : Int) (bif Nat.beq (Int.toNat (3 : Int)) (0 : Nat) then (1 : Int) else bif Nat.beq (Int.toNat (3 : Int)) (1 : Nat) then (2 : Int) else bif Nat.beq (Int.toNat (3 : Int)) (2 : Nat) then (3 : Int) else bif Nat.beq (Int.toNat (3 : Int)) (3 : Nat) then (4 : Int) else bif Nat.beq (Int.toNat (3 : Int)) (4 : Nat) then (6 : Int) else bif Nat.beq (Int.toNat (3 : Int)) (5 : Nat) then (8 : Int) else bif Nat.beq (Int.toNat (3 : Int)) (6 : Nat) then (2 : Int) else bif Nat.beq (Int.toNat (3 : Int)) (7 : Nat) then (3 : Int) else bif Nat.beq (Int.toNat (3 : Int)) (8 : Nat) then (4 : Int) else (12 : Int))) (8 : Nat) (row8 (rf m (itB (rowB b)) (1 : Int) (bif Nat.beq (Int.toNat (3 : Int)) (0 : Nat) then (1 : Int) else bif Nat.beq (Int.toNat (3 : Int)) (1 : Nat) then (2 : Int) else bif Nat.beq (Int.toNat (3 : Int)) (2 : Nat) then (3 : Int) else bif Nat.beq (Int.toNat (3 : Int)) (3 : Nat) then (4 : Int) else bif Nat.beq (Int.toNat (3 : Int)) (4 : Nat) then (6 : Int) else bif Nat.beq (Int.toNat (3 : Int)) (5 : Nat) then (8 : Int) else bif Nat.beq (Int.toNat (3 : Int)) (6 : Nat) then (2 : Int) else bif Nat.beq (Int.toNat (3 : Int)) (7 : Nat) then (3 : Int) else bif Nat.beq (Int.toNat (3 : Int)) (8 : Nat) then (4 : Int) else (12 : Int)))) (40 : TypeId)]) := by kernel_rfl

theorem treeRSq4 (pk : Nat → (Nat → Int) → Int → Int → Int) (rl : Nat → (Nat → Int) → Int → Int → Nat) (rf : Nat → (Nat → Int) → Int → Int → Nat → Nat → Int) (rp : Nat → (Nat → Int) → Int → Int → Int) (m : Nat) (b : Nat → Int) : execF Try.prog (gmRdJ pk rl rf rp 4) noLam 100 Try.f33 [.sl 0 1 0 0 m none] [.row false m 1 (rowB b) 5] (packK 1)
    = bif decide ((↑m : Int) > (2000 : Int)) then needs [decide ((2000 : Int) ≤ (↑m : Int)), decide ((↑m : Int) ≤ (↑m : Int)), okB m (rowB b), decide (Int.toNat ((2000 : Int) - (0 : Int)) ≤ m), decide (pk (Int.toNat ((2000 : Int) - (0 : Int))) (itB (rowB b)) (0 : Int) (10 : Int) = (4 : Int)), decide ((0 : Nat) < m), okB m (rowB b), decide (Int.toNat ((2000 : Int) - (0 : Int)) ≤ m), decide ((0 : Nat) < m), decide ((0 : Nat) < m)] (Res.out Ex.ret [AV.own (1 : Nat) (rl (Int.toNat ((2000 : Int) - (0 : Int))) (itB (rowB b)) (1 : Int) (bif Nat.beq (Int.toNat (4 : Int)) (0 : Nat) then (1 : Int) else bif Nat.beq (Int.toNat (4 : Int)) (1 : Nat) then (2 : Int) else bif Nat.beq (Int.toNat (4 : Int)) (2 : Nat) then (3 : Int) else bif Nat.beq (Int.toNat (4 : Int)) (3 : Nat) then (4 : Int) else bif Nat.beq (Int.toNat (4 : Int)) (4 : Nat) then (6 : Int) else bif Nat.beq (Int.toNat (4 : Int)) (5 : Nat) then (8 : Int) else bif Nat.beq (Int.toNat (4 : Int)) (6 : Nat) then (2 : Int) else bif Nat.beq (Int.toNat (4 : Int)) (7 : Nat) then (3 : Int) else bif Nat.beq (Int.toNat (4 : Int)) (8 : Nat) then (4 : Int) else (12 : Int)))] [AB.row false m (1 : Nat) (rowB b) (5 : TypeId), AB.row true (rl (Int.toNat ((2000 : Int) - (0 : Int))) (itB (rowB b)) (1 : Int) (bif Nat.beq (Int.toNat (4 : Int)) (0 : Nat) then (1 : Int) else bif Nat.beq (Int.toNat (4 : Int)) (1 : Nat) then (2 : Int) else bif Nat.beq (Int.toNat (4 : Int)) (2 : Nat) then (3 : Int) else bif Nat.beq (Int.toNat (4 : Int)) (3 : Nat) then (4 : Int) else bif Nat.beq (Int.toNat (4 : Int)) (4 : Nat) then (6 : Int) else bif Nat.beq (Int.toNat (4 : Int)) (5 : Nat) then (8 : Int) else bif Nat.beq (Int.toNat (4 : Int)) (6 : Nat) then (2 : Int) else bif Nat.beq (Int.toNat (4 : Int)) (7 : Nat) then (3 : Int) else bif Nat.beq (Int.toNat (4 : Int)) (8 : Nat) then (4 : Int) else (12 : Int))) (8 : Nat) (row8 (rf (Int.toNat ((2000 : Int) - (0 : Int))) (itB (rowB b)) (1 : Int) (bif Nat.beq (Int.toNat (4 : Int)) (0 : Nat) then (1 : Int) else bif Nat.beq (Int.toNat (4 : Int)) (1 : Nat) then (2 : Int) else bif Nat.beq (Int.toNat (4 : Int)) (2 : Nat) then (3 : Int) else bif Nat.beq (Int.toNat (4 : Int)) (3 : Nat) then (4 : Int) else bif Nat.beq (Int.toNat (4 : Int)) (4 : Nat) then (6 : Int) else bif Nat.beq (Int.toNat (4 : Int)) (5 : Nat) then (8 : Int) else bif Nat.beq (Int.toNat (4 : Int)) (6 : Nat) then (2 : Int) else bif Nat.beq (Int.toNat (4 : Int)) (7 : Nat) then (3 : Int) else bif Nat.beq (Int.toNat (4 : Int)) (8 : Nat) then (4 : Int) else (12 : Int)))) (40 : TypeId)]) else needs [okB m (rowB b), decide (m ≤ m), decide (pk m (itB (rowB b)) (0 : Int) (10 : Int) = (4 : Int)), decide ((0 : Nat) < m), okB m (rowB b), decide (m ≤ m), decide ((0 : Nat) < m), decide ((0 : Nat) < m)] (Res.out Ex.ret [AV.own (1 : Nat) (rl m (itB (rowB b)) (1 : Int) (bif Nat.beq (Int.toNat (4 : Int)) (0 : Nat) then (1 : Int) else bif Nat.beq (Int.toNat (4 : Int)) (1 : Nat) then (2 : Int) else bif Nat.beq (Int.toNat (4 : Int)) (2 : Nat) then (3 : Int) else bif Nat.beq (Int.toNat (4 : Int)) (3 : Nat) then (4 : Int) else bif Nat.beq (Int.toNat (4 : Int)) (4 : Nat) then (6 : Int) else bif Nat.beq (Int.toNat (4 : Int)) (5 : Nat) then (8 : Int) else bif Nat.beq (Int.toNat (4 : Int)) (6 : Nat) then (2 : Int) else bif Nat.beq (Int.toNat (4 : Int)) (7 : Nat) then (3 : Int) else bif Nat.beq (Int.toNat (4 : Int)) (8 : Nat) then (4 : Int) else (12 : Int)))] [AB.row false m (1 : Nat) (rowB b) (5 : TypeId), AB.row true (rl m (itB (rowB b)) (1 : Int) (bif Nat.beq (Int.toNat (4 : Int)) (0 : Nat) then (1 : Int) else bif Nat.beq (Int.toNat (4 : Int)) (1 : Nat) then (2 : Int) else bif Nat.beq (Int.toNat (4 : Int)) (2 : Nat) then (3 : Int) else bif Nat.beq (Int.toNat (4 : Int)) (3 : Nat) then (4 : Int) else bif Nat.beq (Int.toNat (4 : Int)) (4 : Nat) then (6 : Int) else bif Nat.beq (Int.toNat (4 : Int)) (5 : Nat) then (8 : Int) else bif Nat.beq (Int.toNat (4 : Int)) (6 : Nat) then (2 : Int) else bif Nat.beq (Int.toNat (4 : Int)) (7 : Nat) then (3 : Int) else bif Nat.beq (Int.toNat (4 : Int)) (8 : Nat) then (4 : Int) else (12 : Int))) (8 : Nat) (row8 (rf m (itB (rowB b)) (1 : Int) (bif Nat.beq (Int.toNat (4 : Int)) (0 : Nat) then (1 : Int) else bif Nat.beq (Int.toNat (4 : Int)) (1 : Nat) then (2 : Int) else bif Nat.beq (Int.toNat (4 : Int)) (2 : Nat) then (3 : Int) else bif Nat.beq (Int.toNat (4 : Int)) (3 : Nat) then (4 : Int) else bif Nat.beq (Int.toNat (4 : Int)) (4 : Nat) then (6 : Int) else bif Nat.beq (Int.toNat (4 : Int)) (5 : Nat) then (8 : Int) else bif Nat.beq (Int.toNat (4 : Int)) (6 : Nat) then (2 : Int) else bif Nat.beq (Int.toNat (4 : Int)) (7 : Nat) then (3 : Int) else bif Nat.beq (Int.toNat (4 : Int)) (8 : Nat) then (4 : Int) else (12 : Int)))) (40 : TypeId)]) := by kernel_rfl

theorem treeRSq5 (pk : Nat → (Nat → Int) → Int → Int → Int) (rl : Nat → (Nat → Int) → Int → Int → Nat) (rf : Nat → (Nat → Int) → Int → Int → Nat → Nat → Int) (rp : Nat → (Nat → Int) → Int → Int → Int) (m : Nat) (b : Nat → Int) : execF Try.prog (gmRdJ pk rl rf rp 5) noLam 100 Try.f33 [.sl 0 1 0 0 m none] [.row false m 1 (rowB b) 5] (packK 1)
    = bif decide ((↑m : Int) > (2000 : Int)) then needs [decide ((2000 : Int) ≤ (↑m : Int)), decide ((↑m : Int) ≤ (↑m : Int)), okB m (rowB b), decide (Int.toNat ((2000 : Int) - (0 : Int)) ≤ m), decide (pk (Int.toNat ((2000 : Int) - (0 : Int))) (itB (rowB b)) (0 : Int) (10 : Int) = (5 : Int)), decide ((0 : Nat) < m), okB m (rowB b), decide (Int.toNat ((2000 : Int) - (0 : Int)) ≤ m), decide ((0 : Nat) < m), decide ((0 : Nat) < m)] (Res.out Ex.ret [AV.own (1 : Nat) (rl (Int.toNat ((2000 : Int) - (0 : Int))) (itB (rowB b)) (1 : Int) (bif Nat.beq (Int.toNat (5 : Int)) (0 : Nat) then (1 : Int) else bif Nat.beq (Int.toNat (5 : Int)) (1 : Nat) then (2 : Int) else bif Nat.beq (Int.toNat (5 : Int)) (2 : Nat) then (3 : Int) else bif Nat.beq (Int.toNat (5 : Int)) (3 : Nat) then (4 : Int) else bif Nat.beq (Int.toNat (5 : Int)) (4 : Nat) then (6 : Int) else bif Nat.beq (Int.toNat (5 : Int)) (5 : Nat) then (8 : Int) else bif Nat.beq (Int.toNat (5 : Int)) (6 : Nat) then (2 : Int) else bif Nat.beq (Int.toNat (5 : Int)) (7 : Nat) then (3 : Int) else bif Nat.beq (Int.toNat (5 : Int)) (8 : Nat) then (4 : Int) else (12 : Int)))] [AB.row false m (1 : Nat) (rowB b) (5 : TypeId), AB.row true (rl (Int.toNat ((2000 : Int) - (0 : Int))) (itB (rowB b)) (1 : Int) (bif Nat.beq (Int.toNat (5 : Int)) (0 : Nat) then (1 : Int) else bif Nat.beq (Int.toNat (5 : Int)) (1 : Nat) then (2 : Int) else bif Nat.beq (Int.toNat (5 : Int)) (2 : Nat) then (3 : Int) else bif Nat.beq (Int.toNat (5 : Int)) (3 : Nat) then (4 : Int) else bif Nat.beq (Int.toNat (5 : Int)) (4 : Nat) then (6 : Int) else bif Nat.beq (Int.toNat (5 : Int)) (5 : Nat) then (8 : Int) else bif Nat.beq (Int.toNat (5 : Int)) (6 : Nat) then (2 : Int) else bif Nat.beq (Int.toNat (5 : Int)) (7 : Nat) then (3 : Int) else bif Nat.beq (Int.toNat (5 : Int)) (8 : Nat) then (4 : Int) else (12 : Int))) (8 : Nat) (row8 (rf (Int.toNat ((2000 : Int) - (0 : Int))) (itB (rowB b)) (1 : Int) (bif Nat.beq (Int.toNat (5 : Int)) (0 : Nat) then (1 : Int) else bif Nat.beq (Int.toNat (5 : Int)) (1 : Nat) then (2 : Int) else bif Nat.beq (Int.toNat (5 : Int)) (2 : Nat) then (3 : Int) else bif Nat.beq (Int.toNat (5 : Int)) (3 : Nat) then (4 : Int) else bif Nat.beq (Int.toNat (5 : Int)) (4 : Nat) then (6 : Int) else bif Nat.beq (Int.toNat (5 : Int)) (5 : Nat) then (8 : Int) else bif Nat.beq (Int.toNat (5 : Int)) (6 : Nat) then (2 : Int) else bif Nat.beq (Int.toNat (5 : Int)) (7 : Nat) then (3 : Int) else bif Nat.beq (Int.toNat (5 : Int)) (8 : Nat) then (4 : Int) else (12 : Int)))) (40 : TypeId)]) else needs [okB m (rowB b), decide (m ≤ m), decide (pk m (itB (rowB b)) (0 : Int) (10 : Int) = (5 : Int)), decide ((0 : Nat) < m), okB m (rowB b), decide (m ≤ m), decide ((0 : Nat) < m), decide ((0 : Nat) < m)] (Res.out Ex.ret [AV.own (1 : Nat) (rl m (itB (rowB b)) (1 : Int) (bif Nat.beq (Int.toNat (5 : Int)) (0 : Nat) then (1 : Int) else bif Nat.beq (Int.toNat (5 : Int)) (1 : Nat) then (2 : Int) else bif Nat.beq (Int.toNat (5 : Int)) (2 : Nat) then (3 : Int) else bif Nat.beq (Int.toNat (5 : Int)) (3 : Nat) then (4 : Int) else bif Nat.beq (Int.toNat (5 : Int)) (4 : Nat) then (6 : Int) else bif Nat.beq (Int.toNat (5 : Int)) (5 : Nat) then (8 : Int) else bif Nat.beq (Int.toNat (5 : Int)) (6 : Nat) then (2 : Int) else bif Nat.beq (Int.toNat (5 : Int)) (7 : Nat) then (3 : Int) else bif Nat.beq (Int.toNat (5 : Int)) (8 : Nat) then (4 : Int) else (12 : Int)))] [AB.row false m (1 : Nat) (rowB b) (5 : TypeId), AB.row true (rl m (itB (rowB b)) (1 : Int) (bif Nat.beq (Int.toNat (5 : Int)) (0 : Nat) then (1 : Int) else bif Nat.beq (Int.toNat (5 : Int)) (1 : Nat) then (2 : Int) else bif Nat.beq (Int.toNat (5 : Int)) (2 : Nat) then (3 : Int) else bif Nat.beq (Int.toNat (5 : Int)) (3 : Nat) then (4 : Int) else bif Nat.beq (Int.toNat (5 : Int)) (4 : Nat) then (6 : Int) else bif Nat.beq (Int.toNat (5 : Int)) (5 : Nat) then (8 : Int) else bif Nat.beq (Int.toNat (5 : Int)) (6 : Nat) then (2 : Int) else bif Nat.beq (Int.toNat (5 : Int)) (7 : Nat) then (3 : Int) else bif Nat.beq (Int.toNat (5 : Int)) (8 : Nat) then (4 : Int) else (12 : Int))) (8 : Nat) (row8 (rf m (itB (rowB b)) (1 : Int) (bif Nat.beq (Int.toNat (5 : Int)) (0 : Nat) then (1 : Int) else bif Nat.beq (Int.toNat (5 : Int)) (1 : Nat) then (2 : Int) else bif Nat.beq (Int.toNat (5 : Int)) (2 : Nat) then (3 : Int) else bif Nat.beq (Int.toNat (5 : Int)) (3 : Nat) then (4 : Int) else bif Nat.beq (Int.toNat (5 : Int)) (4 : Nat) then (6 : Int) else bif Nat.beq (Int.toNat (5 : Int)) (5 : Nat) then (8 : Int) else bif Nat.beq (Int.toNat (5 : Int)) (6 : Nat) then (2 : Int) else bif Nat.beq (Int.toNat (5 : Int)) (7 : Nat) then (3 : Int) else bif Nat.beq (Int.toNat (5 : Int)) (8 : Nat) then (4 : Int) else (12 : Int)))) (40 : TypeId)]) := by kernel_rfl

theorem treeRSq6 (pk : Nat → (Nat → Int) → Int → Int → Int) (rl : Nat → (Nat → Int) → Int → Int → Nat) (rf : Nat → (Nat → Int) → Int → Int → Nat → Nat → Int) (rp : Nat → (Nat → Int) → Int → Int → Int) (m : Nat) (b : Nat → Int) : execF Try.prog (gmRdJ pk rl rf rp 6) noLam 100 Try.f33 [.sl 0 1 0 0 m none] [.row false m 1 (rowB b) 5] (packK 1)
    = bif decide ((↑m : Int) > (2000 : Int)) then needs [decide ((2000 : Int) ≤ (↑m : Int)), decide ((↑m : Int) ≤ (↑m : Int)), okB m (rowB b), decide (Int.toNat ((2000 : Int) - (0 : Int)) ≤ m), decide (pk (Int.toNat ((2000 : Int) - (0 : Int))) (itB (rowB b)) (0 : Int) (10 : Int) = (6 : Int)), decide ((0 : Nat) < m), okB m (rowB b), decide (Int.toNat ((2000 : Int) - (0 : Int)) ≤ m), decide ((0 : Nat) < m), decide ((0 : Nat) < m)] (Res.out Ex.ret [AV.own (1 : Nat) (rl (Int.toNat ((2000 : Int) - (0 : Int))) (itB (rowB b)) (1 : Int) (bif Nat.beq (Int.toNat (6 : Int)) (0 : Nat) then (1 : Int) else bif Nat.beq (Int.toNat (6 : Int)) (1 : Nat) then (2 : Int) else bif Nat.beq (Int.toNat (6 : Int)) (2 : Nat) then (3 : Int) else bif Nat.beq (Int.toNat (6 : Int)) (3 : Nat) then (4 : Int) else bif Nat.beq (Int.toNat (6 : Int)) (4 : Nat) then (6 : Int) else bif Nat.beq (Int.toNat (6 : Int)) (5 : Nat) then (8 : Int) else bif Nat.beq (Int.toNat (6 : Int)) (6 : Nat) then (2 : Int) else bif Nat.beq (Int.toNat (6 : Int)) (7 : Nat) then (3 : Int) else bif Nat.beq (Int.toNat (6 : Int)) (8 : Nat) then (4 : Int) else (12 : Int)))] [AB.row false m (1 : Nat) (rowB b) (5 : TypeId), AB.row true (rl (Int.toNat ((2000 : Int) - (0 : Int))) (itB (rowB b)) (1 : Int) (bif Nat.beq (Int.toNat (6 : Int)) (0 : Nat) then (1 : Int) else bif Nat.beq (Int.toNat (6 : Int)) (1 : Nat) then (2 : Int) else bif Nat.beq (Int.toNat (6 : Int)) (2 : Nat) then (3 : Int) else bif Nat.beq (Int.toNat (6 : Int)) (3 : Nat) then (4 : Int) else bif Nat.beq (Int.toNat (6 : Int)) (4 : Nat) then (6 : Int) else bif Nat.beq (Int.toNat (6 : Int)) (5 : Nat) then (8 : Int) else bif Nat.beq (Int.toNat (6 : Int)) (6 : Nat) then (2 : Int) else bif Nat.beq (Int.toNat (6 : Int)) (7 : Nat) then (3 : Int) else bif Nat.beq (Int.toNat (6 : Int)) (8 : Nat) then (4 : Int) else (12 : Int))) (8 : Nat) (row8 (rf (Int.toNat ((2000 : Int) - (0 : Int))) (itB (rowB b)) (1 : Int) (bif Nat.beq (Int.toNat (6 : Int)) (0 : Nat) then (1 : Int) else bif Nat.beq (Int.toNat (6 : Int)) (1 : Nat) then (2 : Int) else bif Nat.beq (Int.toNat (6 : Int)) (2 : Nat) then (3 : Int) else bif Nat.beq (Int.toNat (6 : Int)) (3 : Nat) then (4 : Int) else bif Nat.beq (Int.toNat (6 : Int)) (4 : Nat) then (6 : Int) else bif Nat.beq (Int.toNat (6 : Int)) (5 : Nat) then (8 : Int) else bif Nat.beq (Int.toNat (6 : Int)) (6 : Nat) then (2 : Int) else bif Nat.beq (Int.toNat (6 : Int)) (7 : Nat) then (3 : Int) else bif Nat.beq (Int.toNat (6 : Int)) (8 : Nat) then (4 : Int) else (12 : Int)))) (40 : TypeId)]) else needs [okB m (rowB b), decide (m ≤ m), decide (pk m (itB (rowB b)) (0 : Int) (10 : Int) = (6 : Int)), decide ((0 : Nat) < m), okB m (rowB b), decide (m ≤ m), decide ((0 : Nat) < m), decide ((0 : Nat) < m)] (Res.out Ex.ret [AV.own (1 : Nat) (rl m (itB (rowB b)) (1 : Int) (bif Nat.beq (Int.toNat (6 : Int)) (0 : Nat) then (1 : Int) else bif Nat.beq (Int.toNat (6 : Int)) (1 : Nat) then (2 : Int) else bif Nat.beq (Int.toNat (6 : Int)) (2 : Nat) then (3 : Int) else bif Nat.beq (Int.toNat (6 : Int)) (3 : Nat) then (4 : Int) else bif Nat.beq (Int.toNat (6 : Int)) (4 : Nat) then (6 : Int) else bif Nat.beq (Int.toNat (6 : Int)) (5 : Nat) then (8 : Int) else bif Nat.beq (Int.toNat (6 : Int)) (6 : Nat) then (2 : Int) else bif Nat.beq (Int.toNat (6 : Int)) (7 : Nat) then (3 : Int) else bif Nat.beq (Int.toNat (6 : Int)) (8 : Nat) then (4 : Int) else (12 : Int)))] [AB.row false m (1 : Nat) (rowB b) (5 : TypeId), AB.row true (rl m (itB (rowB b)) (1 : Int) (bif Nat.beq (Int.toNat (6 : Int)) (0 : Nat) then (1 : Int) else bif Nat.beq (Int.toNat (6 : Int)) (1 : Nat) then (2 : Int) else bif Nat.beq (Int.toNat (6 : Int)) (2 : Nat) then (3 : Int) else bif Nat.beq (Int.toNat (6 : Int)) (3 : Nat) then (4 : Int) else bif Nat.beq (Int.toNat (6 : Int)) (4 : Nat) then (6 : Int) else bif Nat.beq (Int.toNat (6 : Int)) (5 : Nat) then (8 : Int) else bif Nat.beq (Int.toNat (6 : Int)) (6 : Nat) then (2 : Int) else bif Nat.beq (Int.toNat (6 : Int)) (7 : Nat) then (3 : Int) else bif Nat.beq (Int.toNat (6 : Int)) (8 : Nat) then (4 : Int) else (12 : Int))) (8 : Nat) (row8 (rf m (itB (rowB b)) (1 : Int) (bif Nat.beq (Int.toNat (6 : Int)) (0 : Nat) then (1 : Int) else bif Nat.beq (Int.toNat (6 : Int)) (1 : Nat) then (2 : Int) else bif Nat.beq (Int.toNat (6 : Int)) (2 : Nat) then (3 : Int) else bif Nat.beq (Int.toNat (6 : Int)) (3 : Nat) then (4 : Int) else bif Nat.beq (Int.toNat (6 : Int)) (4 : Nat) then (6 : Int) else bif Nat.beq (Int.toNat (6 : Int)) (5 : Nat) then (8 : Int) else bif Nat.beq (Int.toNat (6 : Int)) (6 : Nat) then (2 : Int) else bif Nat.beq (Int.toNat (6 : Int)) (7 : Nat) then (3 : Int) else bif Nat.beq (Int.toNat (6 : Int)) (8 : Nat) then (4 : Int) else (12 : Int)))) (40 : TypeId)]) := by kernel_rfl

theorem treeRSq7 (pk : Nat → (Nat → Int) → Int → Int → Int) (rl : Nat → (Nat → Int) → Int → Int → Nat) (rf : Nat → (Nat → Int) → Int → Int → Nat → Nat → Int) (rp : Nat → (Nat → Int) → Int → Int → Int) (m : Nat) (b : Nat → Int) : execF Try.prog (gmRdJ pk rl rf rp 7) noLam 100 Try.f33 [.sl 0 1 0 0 m none] [.row false m 1 (rowB b) 5] (packK 1)
    = bif decide ((↑m : Int) > (2000 : Int)) then needs [decide ((2000 : Int) ≤ (↑m : Int)), decide ((↑m : Int) ≤ (↑m : Int)), okB m (rowB b), decide (Int.toNat ((2000 : Int) - (0 : Int)) ≤ m), decide (pk (Int.toNat ((2000 : Int) - (0 : Int))) (itB (rowB b)) (0 : Int) (10 : Int) = (7 : Int)), decide ((0 : Nat) < m), okB m (rowB b), decide (Int.toNat ((2000 : Int) - (0 : Int)) ≤ m), decide ((0 : Nat) < m), decide ((0 : Nat) < m)] (Res.out Ex.ret [AV.own (1 : Nat) (rl (Int.toNat ((2000 : Int) - (0 : Int))) (itB (rowB b)) (1 : Int) (bif Nat.beq (Int.toNat (7 : Int)) (0 : Nat) then (1 : Int) else bif Nat.beq (Int.toNat (7 : Int)) (1 : Nat) then (2 : Int) else bif Nat.beq (Int.toNat (7 : Int)) (2 : Nat) then (3 : Int) else bif Nat.beq (Int.toNat (7 : Int)) (3 : Nat) then (4 : Int) else bif Nat.beq (Int.toNat (7 : Int)) (4 : Nat) then (6 : Int) else bif Nat.beq (Int.toNat (7 : Int)) (5 : Nat) then (8 : Int) else bif Nat.beq (Int.toNat (7 : Int)) (6 : Nat) then (2 : Int) else bif Nat.beq (Int.toNat (7 : Int)) (7 : Nat) then (3 : Int) else bif Nat.beq (Int.toNat (7 : Int)) (8 : Nat) then (4 : Int) else (12 : Int)))] [AB.row false m (1 : Nat) (rowB b) (5 : TypeId), AB.row true (rl (Int.toNat ((2000 : Int) - (0 : Int))) (itB (rowB b)) (1 : Int) (bif Nat.beq (Int.toNat (7 : Int)) (0 : Nat) then (1 : Int) else bif Nat.beq (Int.toNat (7 : Int)) (1 : Nat) then (2 : Int) else bif Nat.beq (Int.toNat (7 : Int)) (2 : Nat) then (3 : Int) else bif Nat.beq (Int.toNat (7 : Int)) (3 : Nat) then (4 : Int) else bif Nat.beq (Int.toNat (7 : Int)) (4 : Nat) then (6 : Int) else bif Nat.beq (Int.toNat (7 : Int)) (5 : Nat) then (8 : Int) else bif Nat.beq (Int.toNat (7 : Int)) (6 : Nat) then (2 : Int) else bif Nat.beq (Int.toNat (7 : Int)) (7 : Nat) then (3 : Int) else bif Nat.beq (Int.toNat (7 : Int)) (8 : Nat) then (4 : Int) else (12 : Int))) (8 : Nat) (row8 (rf (Int.toNat ((2000 : Int) - (0 : Int))) (itB (rowB b)) (1 : Int) (bif Nat.beq (Int.toNat (7 : Int)) (0 : Nat) then (1 : Int) else bif Nat.beq (Int.toNat (7 : Int)) (1 : Nat) then (2 : Int) else bif Nat.beq (Int.toNat (7 : Int)) (2 : Nat) then (3 : Int) else bif Nat.beq (Int.toNat (7 : Int)) (3 : Nat) then (4 : Int) else bif Nat.beq (Int.toNat (7 : Int)) (4 : Nat) then (6 : Int) else bif Nat.beq (Int.toNat (7 : Int)) (5 : Nat) then (8 : Int) else bif Nat.beq (Int.toNat (7 : Int)) (6 : Nat) then (2 : Int) else bif Nat.beq (Int.toNat (7 : Int)) (7 : Nat) then (3 : Int) else bif Nat.beq (Int.toNat (7 : Int)) (8 : Nat) then (4 : Int) else (12 : Int)))) (40 : TypeId)]) else needs [okB m (rowB b), decide (m ≤ m), decide (pk m (itB (rowB b)) (0 : Int) (10 : Int) = (7 : Int)), decide ((0 : Nat) < m), okB m (rowB b), decide (m ≤ m), decide ((0 : Nat) < m), decide ((0 : Nat) < m)] (Res.out Ex.ret [AV.own (1 : Nat) (rl m (itB (rowB b)) (1 : Int) (bif Nat.beq (Int.toNat (7 : Int)) (0 : Nat) then (1 : Int) else bif Nat.beq (Int.toNat (7 : Int)) (1 : Nat) then (2 : Int) else bif Nat.beq (Int.toNat (7 : Int)) (2 : Nat) then (3 : Int) else bif Nat.beq (Int.toNat (7 : Int)) (3 : Nat) then (4 : Int) else bif Nat.beq (Int.toNat (7 : Int)) (4 : Nat) then (6 : Int) else bif Nat.beq (Int.toNat (7 : Int)) (5 : Nat) then (8 : Int) else bif Nat.beq (Int.toNat (7 : Int)) (6 : Nat) then (2 : Int) else bif Nat.beq (Int.toNat (7 : Int)) (7 : Nat) then (3 : Int) else bif Nat.beq (Int.toNat (7 : Int)) (8 : Nat) then (4 : Int) else (12 : Int)))] [AB.row false m (1 : Nat) (rowB b) (5 : TypeId), AB.row true (rl m (itB (rowB b)) (1 : Int) (bif Nat.beq (Int.toNat (7 : Int)) (0 : Nat) then (1 : Int) else bif Nat.beq (Int.toNat (7 : Int)) (1 : Nat) then (2 : Int) else bif Nat.beq (Int.toNat (7 : Int)) (2 : Nat) then (3 : Int) else bif Nat.beq (Int.toNat (7 : Int)) (3 : Nat) then (4 : Int) else bif Nat.beq (Int.toNat (7 : Int)) (4 : Nat) then (6 : Int) else bif Nat.beq (Int.toNat (7 : Int)) (5 : Nat) then (8 : Int) else bif Nat.beq (Int.toNat (7 : Int)) (6 : Nat) then (2 : Int) else bif Nat.beq (Int.toNat (7 : Int)) (7 : Nat) then (3 : Int) else bif Nat.beq (Int.toNat (7 : Int)) (8 : Nat) then (4 : Int) else (12 : Int))) (8 : Nat) (row8 (rf m (itB (rowB b)) (1 : Int) (bif Nat.beq (Int.toNat (7 : Int)) (0 : Nat) then (1 : Int) else bif Nat.beq (Int.toNat (7 : Int)) (1 : Nat) then (2 : Int) else bif Nat.beq (Int.toNat (7 : Int)) (2 : Nat) then (3 : Int) else bif Nat.beq (Int.toNat (7 : Int)) (3 : Nat) then (4 : Int) else bif Nat.beq (Int.toNat (7 : Int)) (4 : Nat) then (6 : Int) else bif Nat.beq (Int.toNat (7 : Int)) (5 : Nat) then (8 : Int) else bif Nat.beq (Int.toNat (7 : Int)) (6 : Nat) then (2 : Int) else bif Nat.beq (Int.toNat (7 : Int)) (7 : Nat) then (3 : Int) else bif Nat.beq (Int.toNat (7 : Int)) (8 : Nat) then (4 : Int) else (12 : Int)))) (40 : TypeId)]) := by kernel_rfl

theorem treeRSq8 (pk : Nat → (Nat → Int) → Int → Int → Int) (rl : Nat → (Nat → Int) → Int → Int → Nat) (rf : Nat → (Nat → Int) → Int → Int → Nat → Nat → Int) (rp : Nat → (Nat → Int) → Int → Int → Int) (m : Nat) (b : Nat → Int) : execF Try.prog (gmRdJ pk rl rf rp 8) noLam 100 Try.f33 [.sl 0 1 0 0 m none] [.row false m 1 (rowB b) 5] (packK 1)
    = bif decide ((↑m : Int) > (2000 : Int)) then needs [decide ((2000 : Int) ≤ (↑m : Int)), decide ((↑m : Int) ≤ (↑m : Int)), okB m (rowB b), decide (Int.toNat ((2000 : Int) - (0 : Int)) ≤ m), decide (pk (Int.toNat ((2000 : Int) - (0 : Int))) (itB (rowB b)) (0 : Int) (10 : Int) = (8 : Int)), decide ((0 : Nat) < m), okB m (rowB b), decide (Int.toNat ((2000 : Int) - (0 : Int)) ≤ m), decide ((0 : Nat) < m), decide ((0 : Nat) < m)] (Res.out Ex.ret [AV.own (1 : Nat) (rl (Int.toNat ((2000 : Int) - (0 : Int))) (itB (rowB b)) (1 : Int) (bif Nat.beq (Int.toNat (8 : Int)) (0 : Nat) then (1 : Int) else bif Nat.beq (Int.toNat (8 : Int)) (1 : Nat) then (2 : Int) else bif Nat.beq (Int.toNat (8 : Int)) (2 : Nat) then (3 : Int) else bif Nat.beq (Int.toNat (8 : Int)) (3 : Nat) then (4 : Int) else bif Nat.beq (Int.toNat (8 : Int)) (4 : Nat) then (6 : Int) else bif Nat.beq (Int.toNat (8 : Int)) (5 : Nat) then (8 : Int) else bif Nat.beq (Int.toNat (8 : Int)) (6 : Nat) then (2 : Int) else bif Nat.beq (Int.toNat (8 : Int)) (7 : Nat) then (3 : Int) else bif Nat.beq (Int.toNat (8 : Int)) (8 : Nat) then (4 : Int) else (12 : Int)))] [AB.row false m (1 : Nat) (rowB b) (5 : TypeId), AB.row true (rl (Int.toNat ((2000 : Int) - (0 : Int))) (itB (rowB b)) (1 : Int) (bif Nat.beq (Int.toNat (8 : Int)) (0 : Nat) then (1 : Int) else bif Nat.beq (Int.toNat (8 : Int)) (1 : Nat) then (2 : Int) else bif Nat.beq (Int.toNat (8 : Int)) (2 : Nat) then (3 : Int) else bif Nat.beq (Int.toNat (8 : Int)) (3 : Nat) then (4 : Int) else bif Nat.beq (Int.toNat (8 : Int)) (4 : Nat) then (6 : Int) else bif Nat.beq (Int.toNat (8 : Int)) (5 : Nat) then (8 : Int) else bif Nat.beq (Int.toNat (8 : Int)) (6 : Nat) then (2 : Int) else bif Nat.beq (Int.toNat (8 : Int)) (7 : Nat) then (3 : Int) else bif Nat.beq (Int.toNat (8 : Int)) (8 : Nat) then (4 : Int) else (12 : Int))) (8 : Nat) (row8 (rf (Int.toNat ((2000 : Int) - (0 : Int))) (itB (rowB b)) (1 : Int) (bif Nat.beq (Int.toNat (8 : Int)) (0 : Nat) then (1 : Int) else bif Nat.beq (Int.toNat (8 : Int)) (1 : Nat) then (2 : Int) else bif Nat.beq (Int.toNat (8 : Int)) (2 : Nat) then (3 : Int) else bif Nat.beq (Int.toNat (8 : Int)) (3 : Nat) then (4 : Int) else bif Nat.beq (Int.toNat (8 : Int)) (4 : Nat) then (6 : Int) else bif Nat.beq (Int.toNat (8 : Int)) (5 : Nat) then (8 : Int) else bif Nat.beq (Int.toNat (8 : Int)) (6 : Nat) then (2 : Int) else bif Nat.beq (Int.toNat (8 : Int)) (7 : Nat) then (3 : Int) else bif Nat.beq (Int.toNat (8 : Int)) (8 : Nat) then (4 : Int) else (12 : Int)))) (40 : TypeId)]) else needs [okB m (rowB b), decide (m ≤ m), decide (pk m (itB (rowB b)) (0 : Int) (10 : Int) = (8 : Int)), decide ((0 : Nat) < m), okB m (rowB b), decide (m ≤ m), decide ((0 : Nat) < m), decide ((0 : Nat) < m)] (Res.out Ex.ret [AV.own (1 : Nat) (rl m (itB (rowB b)) (1 : Int) (bif Nat.beq (Int.toNat (8 : Int)) (0 : Nat) then (1 : Int) else bif Nat.beq (Int.toNat (8 : Int)) (1 : Nat) then (2 : Int) else bif Nat.beq (Int.toNat (8 : Int)) (2 : Nat) then (3 : Int) else bif Nat.beq (Int.toNat (8 : Int)) (3 : Nat) then (4 : Int) else bif Nat.beq (Int.toNat (8 : Int)) (4 : Nat) then (6 : Int) else bif Nat.beq (Int.toNat (8 : Int)) (5 : Nat) then (8 : Int) else bif Nat.beq (Int.toNat (8 : Int)) (6 : Nat) then (2 : Int) else bif Nat.beq (Int.toNat (8 : Int)) (7 : Nat) then (3 : Int) else bif Nat.beq (Int.toNat (8 : Int)) (8 : Nat) then (4 : Int) else (12 : Int)))] [AB.row false m (1 : Nat) (rowB b) (5 : TypeId), AB.row true (rl m (itB (rowB b)) (1 : Int) (bif Nat.beq (Int.toNat (8 : Int)) (0 : Nat) then (1 : Int) else bif Nat.beq (Int.toNat (8 : Int)) (1 : Nat) then (2 : Int) else bif Nat.beq (Int.toNat (8 : Int)) (2 : Nat) then (3 : Int) else bif Nat.beq (Int.toNat (8 : Int)) (3 : Nat) then (4 : Int) else bif Nat.beq (Int.toNat (8 : Int)) (4 : Nat) then (6 : Int) else bif Nat.beq (Int.toNat (8 : Int)) (5 : Nat) then (8 : Int) else bif Nat.beq (Int.toNat (8 : Int)) (6 : Nat) then (2 : Int) else bif Nat.beq (Int.toNat (8 : Int)) (7 : Nat) then (3 : Int) else bif Nat.beq (Int.toNat (8 : Int)) (8 : Nat) then (4 : Int) else (12 : Int))) (8 : Nat) (row8 (rf m (itB (rowB b)) (1 : Int) (bif Nat.beq (Int.toNat (8 : Int)) (0 : Nat) then (1 : Int) else bif Nat.beq (Int.toNat (8 : Int)) (1 : Nat) then (2 : Int) else bif Nat.beq (Int.toNat (8 : Int)) (2 : Nat) then (3 : Int) else bif Nat.beq (Int.toNat (8 : Int)) (3 : Nat) then (4 : Int) else bif Nat.beq (Int.toNat (8 : Int)) (4 : Nat) then (6 : Int) else bif Nat.beq (Int.toNat (8 : Int)) (5 : Nat) then (8 : Int) else bif Nat.beq (Int.toNat (8 : Int)) (6 : Nat) then (2 : Int) else bif Nat.beq (Int.toNat (8 : Int)) (7 : Nat) then (3 : Int) else bif Nat.beq (Int.toNat (8 : Int)) (8 : Nat) then (4 : Int) else (12 : Int)))) (40 : TypeId)]) := by kernel_rfl

theorem treeRSq9 (pk : Nat → (Nat → Int) → Int → Int → Int) (rl : Nat → (Nat → Int) → Int → Int → Nat) (rf : Nat → (Nat → Int) → Int → Int → Nat → Nat → Int) (rp : Nat → (Nat → Int) → Int → Int → Int) (m : Nat) (b : Nat → Int) : execF Try.prog (gmRdJ pk rl rf rp 9) noLam 100 Try.f33 [.sl 0 1 0 0 m none] [.row false m 1 (rowB b) 5] (packK 1)
    = bif decide ((↑m : Int) > (2000 : Int)) then needs [decide ((2000 : Int) ≤ (↑m : Int)), decide ((↑m : Int) ≤ (↑m : Int)), okB m (rowB b), decide (Int.toNat ((2000 : Int) - (0 : Int)) ≤ m), decide (pk (Int.toNat ((2000 : Int) - (0 : Int))) (itB (rowB b)) (0 : Int) (10 : Int) = (9 : Int)), decide ((0 : Nat) < m), okB m (rowB b), decide (Int.toNat ((2000 : Int) - (0 : Int)) ≤ m), decide ((0 : Nat) < m), decide ((0 : Nat) < m)] (Res.out Ex.ret [AV.own (1 : Nat) (rl (Int.toNat ((2000 : Int) - (0 : Int))) (itB (rowB b)) (1 : Int) (bif Nat.beq (Int.toNat (9 : Int)) (0 : Nat) then (1 : Int) else bif Nat.beq (Int.toNat (9 : Int)) (1 : Nat) then (2 : Int) else bif Nat.beq (Int.toNat (9 : Int)) (2 : Nat) then (3 : Int) else bif Nat.beq (Int.toNat (9 : Int)) (3 : Nat) then (4 : Int) else bif Nat.beq (Int.toNat (9 : Int)) (4 : Nat) then (6 : Int) else bif Nat.beq (Int.toNat (9 : Int)) (5 : Nat) then (8 : Int) else bif Nat.beq (Int.toNat (9 : Int)) (6 : Nat) then (2 : Int) else bif Nat.beq (Int.toNat (9 : Int)) (7 : Nat) then (3 : Int) else bif Nat.beq (Int.toNat (9 : Int)) (8 : Nat) then (4 : Int) else (12 : Int)))] [AB.row false m (1 : Nat) (rowB b) (5 : TypeId), AB.row true (rl (Int.toNat ((2000 : Int) - (0 : Int))) (itB (rowB b)) (1 : Int) (bif Nat.beq (Int.toNat (9 : Int)) (0 : Nat) then (1 : Int) else bif Nat.beq (Int.toNat (9 : Int)) (1 : Nat) then (2 : Int) else bif Nat.beq (Int.toNat (9 : Int)) (2 : Nat) then (3 : Int) else bif Nat.beq (Int.toNat (9 : Int)) (3 : Nat) then (4 : Int) else bif Nat.beq (Int.toNat (9 : Int)) (4 : Nat) then (6 : Int) else bif Nat.beq (Int.toNat (9 : Int)) (5 : Nat) then (8 : Int) else bif Nat.beq (Int.toNat (9 : Int)) (6 : Nat) then (2 : Int) else bif Nat.beq (Int.toNat (9 : Int)) (7 : Nat) then (3 : Int) else bif Nat.beq (Int.toNat (9 : Int)) (8 : Nat) then (4 : Int) else (12 : Int))) (8 : Nat) (row8 (rf (Int.toNat ((2000 : Int) - (0 : Int))) (itB (rowB b)) (1 : Int) (bif Nat.beq (Int.toNat (9 : Int)) (0 : Nat) then (1 : Int) else bif Nat.beq (Int.toNat (9 : Int)) (1 : Nat) then (2 : Int) else bif Nat.beq (Int.toNat (9 : Int)) (2 : Nat) then (3 : Int) else bif Nat.beq (Int.toNat (9 : Int)) (3 : Nat) then (4 : Int) else bif Nat.beq (Int.toNat (9 : Int)) (4 : Nat) then (6 : Int) else bif Nat.beq (Int.toNat (9 : Int)) (5 : Nat) then (8 : Int) else bif Nat.beq (Int.toNat (9 : Int)) (6 : Nat) then (2 : Int) else bif Nat.beq (Int.toNat (9 : Int)) (7 : Nat) then (3 : Int) else bif Nat.beq (Int.toNat (9 : Int)) (8 : Nat) then (4 : Int) else (12 : Int)))) (40 : TypeId)]) else needs [okB m (rowB b), decide (m ≤ m), decide (pk m (itB (rowB b)) (0 : Int) (10 : Int) = (9 : Int)), decide ((0 : Nat) < m), okB m (rowB b), decide (m ≤ m), decide ((0 : Nat) < m), decide ((0 : Nat) < m)] (Res.out Ex.ret [AV.own (1 : Nat) (rl m (itB (rowB b)) (1 : Int) (bif Nat.beq (Int.toNat (9 : Int)) (0 : Nat) then (1 : Int) else bif Nat.beq (Int.toNat (9 : Int)) (1 : Nat) then (2 : Int) else bif Nat.beq (Int.toNat (9 : Int)) (2 : Nat) then (3 : Int) else bif Nat.beq (Int.toNat (9 : Int)) (3 : Nat) then (4 : Int) else bif Nat.beq (Int.toNat (9 : Int)) (4 : Nat) then (6 : Int) else bif Nat.beq (Int.toNat (9 : Int)) (5 : Nat) then (8 : Int) else bif Nat.beq (Int.toNat (9 : Int)) (6 : Nat) then (2 : Int) else bif Nat.beq (Int.toNat (9 : Int)) (7 : Nat) then (3 : Int) else bif Nat.beq (Int.toNat (9 : Int)) (8 : Nat) then (4 : Int) else (12 : Int)))] [AB.row false m (1 : Nat) (rowB b) (5 : TypeId), AB.row true (rl m (itB (rowB b)) (1 : Int) (bif Nat.beq (Int.toNat (9 : Int)) (0 : Nat) then (1 : Int) else bif Nat.beq (Int.toNat (9 : Int)) (1 : Nat) then (2 : Int) else bif Nat.beq (Int.toNat (9 : Int)) (2 : Nat) then (3 : Int) else bif Nat.beq (Int.toNat (9 : Int)) (3 : Nat) then (4 : Int) else bif Nat.beq (Int.toNat (9 : Int)) (4 : Nat) then (6 : Int) else bif Nat.beq (Int.toNat (9 : Int)) (5 : Nat) then (8 : Int) else bif Nat.beq (Int.toNat (9 : Int)) (6 : Nat) then (2 : Int) else bif Nat.beq (Int.toNat (9 : Int)) (7 : Nat) then (3 : Int) else bif Nat.beq (Int.toNat (9 : Int)) (8 : Nat) then (4 : Int) else (12 : Int))) (8 : Nat) (row8 (rf m (itB (rowB b)) (1 : Int) (bif Nat.beq (Int.toNat (9 : Int)) (0 : Nat) then (1 : Int) else bif Nat.beq (Int.toNat (9 : Int)) (1 : Nat) then (2 : Int) else bif Nat.beq (Int.toNat (9 : Int)) (2 : Nat) then (3 : Int) else bif Nat.beq (Int.toNat (9 : Int)) (3 : Nat) then (4 : Int) else bif Nat.beq (Int.toNat (9 : Int)) (4 : Nat) then (6 : Int) else bif Nat.beq (Int.toNat (9 : Int)) (5 : Nat) then (8 : Int) else bif Nat.beq (Int.toNat (9 : Int)) (6 : Nat) then (2 : Int) else bif Nat.beq (Int.toNat (9 : Int)) (7 : Nat) then (3 : Int) else bif Nat.beq (Int.toNat (9 : Int)) (8 : Nat) then (4 : Int) else (12 : Int)))) (40 : TypeId)]) := by kernel_rfl

theorem treeRSqN (q : Option Addr) (c : Nat) (g : Nat → List Value) : execF Try.prog gmPk0 noLam 100 Try.f33 [.v (.slice q 0 c)] [.row false 0 1 g 5] (packK 1)
    = Res.out Ex.ret [AV.own (1 : Nat) (2 : Nat)] [AB.row false (0 : Nat) (1 : Nat) g (5 : TypeId), AB.row true (2 : Nat) (8 : Nat) (fun q ↦ [Value.int IntKind.i64 (bif Nat.blt q (1 : Nat) then (1 : Int) else (0 : Int)), Value.int IntKind.i64 (bif Nat.blt q (1 : Nat) then (0 : Int) else (0 : Int)), Value.int IntKind.i64 (bif Nat.blt q (1 : Nat) then (0 : Int) else (0 : Int)), Value.int IntKind.i64 (bif Nat.blt q (1 : Nat) then (0 : Int) else (0 : Int)), Value.int IntKind.i64 (bif Nat.blt q (1 : Nat) then (0 : Int) else (0 : Int)), Value.int IntKind.i64 (bif Nat.blt q (1 : Nat) then (0 : Int) else (0 : Int)), Value.int IntKind.i64 (bif Nat.blt q (1 : Nat) then (0 : Int) else (0 : Int)), Value.int IntKind.i64 (bif Nat.blt q (1 : Nat) then (0 : Int) else (0 : Int))]) (40 : Nat)] := by kernel_rfl

theorem ok_drSq : SpecOk Try.prog 33 (specR md_co (FdrO fun m b => frC (bRdN m b) (bRdF m b))) := by
  refine draw_ok Try.func33 rfl (fun m b h0 hm hb => ⟨_, gmRdJ_ok (pkV (lnB m) b 0 10), ?_⟩) fun q c g b => ⟨_, gmPk0_ok, ?_⟩
  · have e : bRdN m b = rwN (lnB m) b 1 (lnT (pkV (lnB m) b 0 10)) := by unfold bRdN; rw [if_neg (by omega)]
    have e' : bRdF m b = rwH (lnB m) b 1 (lnT (pkV (lnB m) b 0 10)) := by unfold bRdF; rw [if_neg (by omega)]
    have q0 := pkV_nn (lnB m) b 0 10
    have q1 := pkV_lt (lnB m) b 0 (n := 10) (by omega)
    rw [e, e']
    generalize hq : pkV (lnB m) b 0 10 = q at q0 q1 ⊢
    rcases (by omega : q = 0 ∨ q = 1 ∨ q = 2 ∨ q = 3 ∨ q = 4 ∨ q = 5 ∨ q = 6 ∨ q = 7 ∨ q = 8 ∨ q = 9) with rfl | rfl | rfl | rfl | rfl | rfl | rfl | rfl | rfl | rfl
    all_goals first | rw [treeRSq0, itB_row] | rw [treeRSq1, itB_row] | rw [treeRSq2, itB_row] | rw [treeRSq3, itB_row] | rw [treeRSq4, itB_row] | rw [treeRSq5, itB_row] | rw [treeRSq6, itB_row] | rw [treeRSq7, itB_row] | rw [treeRSq8, itB_row] | rw [treeRSq9, itB_row]
    all_goals
      refine good_ln (fun e1 hc => ?_) fun e1 hc => ?_
      · rw [e1] at hq ⊢
        rw [show Int.toNat ((2000 : Int) - 0) = 2000 from rfl]
        exact ⟨by simp only [ob_cons, ob_nil, and_true, decide_eq_true_eq, hb, true_and]; omega, good_out ⟨_, rfl, rfl, Hsim.refl _⟩⟩
      · rw [e1] at hq ⊢
        exact ⟨by simp only [ob_cons, ob_nil, and_true, decide_eq_true_eq, hb, true_and]; omega, good_out ⟨_, rfl, rfl, Hsim.refl _⟩⟩
  · rw [treeRSqN]
    exact good_out ⟨_, rfl, rfl, .cons (ABeq.refl _) (.cons (ABeq.row fun j hj => rfl) .nil)⟩

end Go.Proofs.Ytoligfhcogligaa

/- The abstract machine at the small functions on surds. No conditions. -/
namespace Go.Proofs.Ytoligfhcogligaa
open Go.RowKit
set_option maxRecDepth 100000

def f_scaled : List Value → Option (Value × List Bool)
  | [.agg ⟨[.int .i64 a0, .int .i64 a1, .int .i64 a2, .int .i64 a3, .int .i64 a4, .int .i64 a5, .int .i64 a6, .int .i64 a7]⟩, .int .i64 n] => some (cyv (scaledF (v8 a0 a1 a2 a3 a4 a5 a6 a7) n), [])
  | _ => none

theorem ok_scaled : SpecOk Try.prog 103 (specV f_scaled) := by
  refine mkV (n := 100) gm_l2Mirror_ok Try.func103 rfl fun vs x ob hF ho => ?_
  unfold f_scaled at hF
  split at hF
  · rename_i a0 a1 a2 a3 a4 a5 a6 a7 n
    simp only [Option.some.injEq, Prod.mk.injEq] at hF
    obtain ⟨rfl, rfl⟩ := hF
    exact one (by kernel_rfl)
  · cases hF

def gm_scaled : Gam := ext gm_l2Mirror 103 (specV f_scaled)
theorem gm_scaled_ok : GamOk Try.prog gm_scaled := ext_ok gm_l2Mirror_ok ok_scaled

def f_minus : List Value → Option (Value × List Bool)
  | [.agg ⟨[.int .i64 a0, .int .i64 a1, .int .i64 a2, .int .i64 a3, .int .i64 a4, .int .i64 a5, .int .i64 a6, .int .i64 a7]⟩, .agg ⟨[.int .i64 b0, .int .i64 b1, .int .i64 b2, .int .i64 b3, .int .i64 b4, .int .i64 b5, .int .i64 b6, .int .i64 b7]⟩] => some (cyv (plusF (v8 a0 a1 a2 a3 a4 a5 a6 a7) (scaledF (v8 b0 b1 b2 b3 b4 b5 b6 b7) (-1))), [])
  | _ => none

theorem ok_minus : SpecOk Try.prog 72 (specV f_minus) := by
  refine mkV (n := 100) gm_scaled_ok Try.func72 rfl fun vs x ob hF ho => ?_
  unfold f_minus at hF
  split at hF
  · rename_i a0 a1 a2 a3 a4 a5 a6 a7 b0 b1 b2 b3 b4 b5 b6 b7
    simp only [Option.some.injEq, Prod.mk.injEq] at hF
    obtain ⟨rfl, rfl⟩ := hF
    exact one (by kernel_rfl)
  · cases hF

def gm_minus : Gam := ext gm_scaled 72 (specV f_minus)
theorem gm_minus_ok : GamOk Try.prog gm_minus := ext_ok gm_scaled_ok ok_minus

theorem ok_l8Small : SpecOk Try.prog 67 (specV f_small) := by
  refine mkV (n := 100) gm_minus_ok Try.func67 rfl fun vs x ob hF ho => ?_
  unfold f_small at hF
  split at hF
  · rename_i a0 a1 a2 a3 a4 a5 a6 a7 m
    simp only [Option.some.injEq, Prod.mk.injEq] at hF
    obtain ⟨rfl, rfl⟩ := hF
    have e : execF Try.prog gm_minus noLam 100 Try.f67 ([.agg ⟨[.int .i64 a0, .int .i64 a1, .int .i64 a2, .int .i64 a3, .int .i64 a4, .int .i64 a5, .int .i64 a6, .int .i64 a7]⟩, .int .i64 m].map .v) [] valK = cond (!inR ((v8 a0 a1 a2 a3 a4 a5 a6 a7) 0) (W (0 - m)) m) (rv (.bool false)) (cond (!inR ((v8 a0 a1 a2 a3 a4 a5 a6 a7) 1) (W (0 - m)) m) (rv (.bool false)) (cond (!inR ((v8 a0 a1 a2 a3 a4 a5 a6 a7) 2) (W (0 - m)) m) (rv (.bool false)) (cond (!inR ((v8 a0 a1 a2 a3 a4 a5 a6 a7) 3) (W (0 - m)) m) (rv (.bool false)) (cond (!inR ((v8 a0 a1 a2 a3 a4 a5 a6 a7) 4) (W (0 - m)) m) (rv (.bool false)) (cond (!inR ((v8 a0 a1 a2 a3 a4 a5 a6 a7) 5) (W (0 - m)) m) (rv (.bool false)) (cond (!inR ((v8 a0 a1 a2 a3 a4 a5 a6 a7) 6) (W (0 - m)) m) (rv (.bool false)) (cond (!inR ((v8 a0 a1 a2 a3 a4 a5 a6 a7) 7) (W (0 - m)) m) (rv (.bool false)) (rv (.bool true))))))))) := by kernel_rfl
    rw [e]
    exact gives_of (by simp only [outV_cond, outV_rv, smallF, v8, cond_some, cond_bool])
  · cases hF

def gm_l8Small : Gam := ext gm_minus 67 (specV f_small)
theorem gm_l8Small_ok : GamOk Try.prog gm_l8Small := ext_ok gm_minus_ok ok_l8Small

def f_splus : List Value → Option (Value × List Bool)
  | [.agg ⟨[.int .i64 s0, .int .i64 s1, .int .i64 s2, .int .i64 s3]⟩, .agg ⟨[.int .i64 t0, .int .i64 t1, .int .i64 t2, .int .i64 t3]⟩] => some (sdv (fun k => W ((v4 s0 s1 s2 s3) k + (v4 t0 t1 t2 t3) k)), [])
  | _ => none

theorem ok_splus : SpecOk Try.prog 58 (specV f_splus) := by
  refine mkV (n := 100) gm_l8Small_ok Try.func58 rfl fun vs x ob hF ho => ?_
  unfold f_splus at hF
  split at hF
  · rename_i s0 s1 s2 s3 t0 t1 t2 t3
    simp only [Option.some.injEq, Prod.mk.injEq] at hF
    obtain ⟨rfl, rfl⟩ := hF
    exact one (by kernel_rfl)
  · cases hF

def gm_splus : Gam := ext gm_l8Small 58 (specV f_splus)
theorem gm_splus_ok : GamOk Try.prog gm_splus := ext_ok gm_l8Small_ok ok_splus

def f_sscaled : List Value → Option (Value × List Bool)
  | [.agg ⟨[.int .i64 s0, .int .i64 s1, .int .i64 s2, .int .i64 s3]⟩, .int .i64 n] => some (sdv (fun k => W (n * (v4 s0 s1 s2 s3) k)), [])
  | _ => none

theorem ok_sscaled : SpecOk Try.prog 106 (specV f_sscaled) := by
  refine mkV (n := 100) gm_splus_ok Try.func106 rfl fun vs x ob hF ho => ?_
  unfold f_sscaled at hF
  split at hF
  · rename_i s0 s1 s2 s3 n
    simp only [Option.some.injEq, Prod.mk.injEq] at hF
    obtain ⟨rfl, rfl⟩ := hF
    exact one (by kernel_rfl)
  · cases hF

def gm_sscaled : Gam := ext gm_splus 106 (specV f_sscaled)
theorem gm_sscaled_ok : GamOk Try.prog gm_sscaled := ext_ok gm_splus_ok ok_sscaled

def f_coslo : List Value → Option (Value × List Bool)
  | [.int .i64 n] => some (sdv (cosT n.toNat), [decide (0 ≤ n), decide (n ≤ (12 : Nat))])
  | _ => none

theorem ok_coslo : SpecOk Try.prog 104 (specV f_coslo) := by
  refine mkV (n := 100) gm_sscaled_ok Try.func104 rfl fun vs x ob hF ho => ?_
  unfold f_coslo at hF
  split at hF
  · rename_i n
    simp only [Option.some.injEq, Prod.mk.injEq] at hF
    obtain ⟨rfl, rfl⟩ := hF
    obtain ⟨h0, h1⟩ := obl2 ho
    have h0 := of_decide_eq_true h0
    have h1 := of_decide_eq_true h1
    obtain ⟨k, rfl⟩ := Int.eq_ofNat_of_zero_le h0
    have hc : k = 0 ∨ k = 1 ∨ k = 2 ∨ k = 3 ∨ k = 4 ∨ k = 5 ∨ k = 6 ∨ k = 7 ∨ k = 8 ∨ k = 9 ∨ k = 10 ∨ k = 11 ∨ k = 12 := by omega
    clear ho h0 h1
    rcases hc with rfl | rfl | rfl | rfl | rfl | rfl | rfl | rfl | rfl | rfl | rfl | rfl | rfl
    · exact one (by kernel_rfl)
    · exact one (by kernel_rfl)
    · exact one (by kernel_rfl)
    · exact one (by kernel_rfl)
    · exact one (by kernel_rfl)
    · exact one (by kernel_rfl)
    · exact one (by kernel_rfl)
    · exact one (by kernel_rfl)
    · exact one (by kernel_rfl)
    · exact one (by kernel_rfl)
    · exact one (by kernel_rfl)
    · exact one (by kernel_rfl)
    · exact one (by kernel_rfl)
  · cases hF

def gm_coslo : Gam := ext gm_sscaled 104 (specV f_coslo)
theorem gm_coslo_ok : GamOk Try.prog gm_coslo := ext_ok gm_sscaled_ok ok_coslo

def f_cosine : List Value → Option (Value × List Bool)
  | [.int .i64 n] => some (sdv (cosT n.toNat), [decide (0 ≤ n), decide (n ≤ (23 : Nat))])
  | _ => none

theorem ok_cosine : SpecOk Try.prog 104 (specV f_cosine) := by
  refine mkV (n := 100) gm_coslo_ok Try.func104 rfl fun vs x ob hF ho => ?_
  unfold f_cosine at hF
  split at hF
  · rename_i n
    simp only [Option.some.injEq, Prod.mk.injEq] at hF
    obtain ⟨rfl, rfl⟩ := hF
    obtain ⟨h0, h1⟩ := obl2 ho
    have h0 := of_decide_eq_true h0
    have h1 := of_decide_eq_true h1
    obtain ⟨k, rfl⟩ := Int.eq_ofNat_of_zero_le h0
    have hc : k = 0 ∨ k = 1 ∨ k = 2 ∨ k = 3 ∨ k = 4 ∨ k = 5 ∨ k = 6 ∨ k = 7 ∨ k = 8 ∨ k = 9 ∨ k = 10 ∨ k = 11 ∨ k = 12 ∨ k = 13 ∨ k = 14 ∨ k = 15 ∨ k = 16 ∨ k = 17 ∨ k = 18 ∨ k = 19 ∨ k = 20 ∨ k = 21 ∨ k = 22 ∨ k = 23 := by omega
    clear ho h0 h1
    rcases hc with rfl | rfl | rfl | rfl | rfl | rfl | rfl | rfl | rfl | rfl | rfl | rfl | rfl | rfl | rfl | rfl | rfl | rfl | rfl | rfl | rfl | rfl | rfl | rfl
    · exact one (by kernel_rfl)
    · exact one (by kernel_rfl)
    · exact one (by kernel_rfl)
    · exact one (by kernel_rfl)
    · exact one (by kernel_rfl)
    · exact one (by kernel_rfl)
    · exact one (by kernel_rfl)
    · exact one (by kernel_rfl)
    · exact one (by kernel_rfl)
    · exact one (by kernel_rfl)
    · exact one (by kernel_rfl)
    · exact one (by kernel_rfl)
    · exact one (by kernel_rfl)
    · exact one (by kernel_rfl)
    · exact one (by kernel_rfl)
    · exact one (by kernel_rfl)
    · exact one (by kernel_rfl)
    · exact one (by kernel_rfl)
    · exact one (by kernel_rfl)
    · exact one (by kernel_rfl)
    · exact one (by kernel_rfl)
    · exact one (by kernel_rfl)
    · exact one (by kernel_rfl)
    · exact one (by kernel_rfl)
  · cases hF

def gm_cosine : Gam := ext gm_coslo 104 (specV f_cosine)
theorem gm_cosine_ok : GamOk Try.prog gm_cosine := ext_ok gm_coslo_ok ok_cosine

def f_im : List Value → Option (Value × List Bool)
  | [.agg ⟨[.int .i64 a0, .int .i64 a1, .int .i64 a2, .int .i64 a3, .int .i64 a4, .int .i64 a5, .int .i64 a6, .int .i64 a7]⟩] => some (sdv (imF (v8 a0 a1 a2 a3 a4 a5 a6 a7)), [])
  | _ => none

theorem ok_im : SpecOk Try.prog 73 (specV f_im) := by
  refine mkV (n := 100) gm_cosine_ok Try.func73 rfl fun vs x ob hF ho => ?_
  unfold f_im at hF
  split at hF
  · rename_i a0 a1 a2 a3 a4 a5 a6 a7
    simp only [Option.some.injEq, Prod.mk.injEq] at hF
    obtain ⟨rfl, rfl⟩ := hF
    have e : getV (execF Try.prog gm_cosine noLam 100 Try.f73 ([.agg ⟨[.int .i64 a0, .int .i64 a1, .int .i64 a2, .int .i64 a3, .int .i64 a4, .int .i64 a5, .int .i64 a6, .int .i64 a7]⟩].map .v) [] valK) = some (sdv (imO (v8 a0 a1 a2 a3 a4 a5 a6 a7) 8)) := by kernel_rfl
    rw [sdv_congr (imO_eq (v8 a0 a1 a2 a3 a4 a5 a6 a7))] at e
    exact one e
  · cases hF

def gm_im : Gam := ext gm_cosine 73 (specV f_im)
theorem gm_im_ok : GamOk Try.prog gm_im := ext_ok gm_cosine_ok ok_im

def f_re : List Value → Option (Value × List Bool)
  | [.agg ⟨[.int .i64 a0, .int .i64 a1, .int .i64 a2, .int .i64 a3, .int .i64 a4, .int .i64 a5, .int .i64 a6, .int .i64 a7]⟩] => some (sdv (reF (v8 a0 a1 a2 a3 a4 a5 a6 a7)), [])
  | _ => none

theorem ok_re : SpecOk Try.prog 94 (specV f_re) := by
  refine mkV (n := 100) gm_im_ok Try.func94 rfl fun vs x ob hF ho => ?_
  unfold f_re at hF
  split at hF
  · rename_i a0 a1 a2 a3 a4 a5 a6 a7
    simp only [Option.some.injEq, Prod.mk.injEq] at hF
    obtain ⟨rfl, rfl⟩ := hF
    have e : getV (execF Try.prog gm_im noLam 100 Try.f94 ([.agg ⟨[.int .i64 a0, .int .i64 a1, .int .i64 a2, .int .i64 a3, .int .i64 a4, .int .i64 a5, .int .i64 a6, .int .i64 a7]⟩].map .v) [] valK) = some (sdv (reO (v8 a0 a1 a2 a3 a4 a5 a6 a7) 8)) := by kernel_rfl
    rw [sdv_congr (reO_eq (v8 a0 a1 a2 a3 a4 a5 a6 a7))] at e
    exact one e
  · cases hF

def gm_re : Gam := ext gm_im 94 (specV f_re)
theorem gm_re_ok : GamOk Try.prog gm_re := ext_ok gm_im_ok ok_re

def f_cross : List Value → Option (Value × List Bool)
  | [.agg ⟨[.int .i64 a0, .int .i64 a1, .int .i64 a2, .int .i64 a3, .int .i64 a4, .int .i64 a5, .int .i64 a6, .int .i64 a7]⟩, .agg ⟨[.int .i64 b0, .int .i64 b1, .int .i64 b2, .int .i64 b3, .int .i64 b4, .int .i64 b5, .int .i64 b6, .int .i64 b7]⟩] => some (sdv (imF (mulF (mirF (v8 a0 a1 a2 a3 a4 a5 a6 a7)) (v8 b0 b1 b2 b3 b4 b5 b6 b7))), [])
  | _ => none

theorem ok_cross : SpecOk Try.prog 59 (specV f_cross) := by
  refine mkV (n := 100) gm_re_ok Try.func59 rfl fun vs x ob hF ho => ?_
  unfold f_cross at hF
  split at hF
  · rename_i a0 a1 a2 a3 a4 a5 a6 a7 b0 b1 b2 b3 b4 b5 b6 b7
    simp only [Option.some.injEq, Prod.mk.injEq] at hF
    obtain ⟨rfl, rfl⟩ := hF
    exact one (by kernel_rfl)
  · cases hF

def gm_cross : Gam := ext gm_re 59 (specV f_cross)
theorem gm_cross_ok : GamOk Try.prog gm_cross := ext_ok gm_re_ok ok_cross

def f_along : List Value → Option (Value × List Bool)
  | [.agg ⟨[.int .i64 a0, .int .i64 a1, .int .i64 a2, .int .i64 a3, .int .i64 a4, .int .i64 a5, .int .i64 a6, .int .i64 a7]⟩, .agg ⟨[.int .i64 b0, .int .i64 b1, .int .i64 b2, .int .i64 b3, .int .i64 b4, .int .i64 b5, .int .i64 b6, .int .i64 b7]⟩] => some (sdv (reF (mulF (mirF (v8 a0 a1 a2 a3 a4 a5 a6 a7)) (v8 b0 b1 b2 b3 b4 b5 b6 b7))), [])
  | _ => none

theorem ok_along : SpecOk Try.prog 50 (specV f_along) := by
  refine mkV (n := 100) gm_cross_ok Try.func50 rfl fun vs x ob hF ho => ?_
  unfold f_along at hF
  split at hF
  · rename_i a0 a1 a2 a3 a4 a5 a6 a7 b0 b1 b2 b3 b4 b5 b6 b7
    simp only [Option.some.injEq, Prod.mk.injEq] at hF
    obtain ⟨rfl, rfl⟩ := hF
    exact one (by kernel_rfl)
  · cases hF

def gm_along : Gam := ext gm_cross 50 (specV f_along)
theorem gm_along_ok : GamOk Try.prog gm_along := ext_ok gm_cross_ok ok_along

def f_l2Turned : List Value → Option (Value × List Bool)
  | [.agg ⟨[.int .i64 a0, .int .i64 a1, .int .i64 a2, .int .i64 a3, .int .i64 a4, .int .i64 a5, .int .i64 a6, .int .i64 a7]⟩, .int .i64 n] => some (cyv (turnedF (v8 a0 a1 a2 a3 a4 a5 a6 a7) n.toNat), [decide (0 ≤ n), decide (n ≤ (23 : Nat))])
  | _ => none

theorem ok_l2Turned : SpecOk Try.prog 132 (specV f_l2Turned) := by
  refine mkV (n := 100) gm_along_ok Try.func132 rfl fun vs x ob hF ho => ?_
  unfold f_l2Turned at hF
  split at hF
  · rename_i a0 a1 a2 a3 a4 a5 a6 a7 n
    simp only [Option.some.injEq, Prod.mk.injEq] at hF
    obtain ⟨rfl, rfl⟩ := hF
    obtain ⟨h0, h1⟩ := obl2 ho
    have h0 := of_decide_eq_true h0
    have h1 := of_decide_eq_true h1
    obtain ⟨k, rfl⟩ := Int.eq_ofNat_of_zero_le h0
    have hc : k = 0 ∨ k = 1 ∨ k = 2 ∨ k = 3 ∨ k = 4 ∨ k = 5 ∨ k = 6 ∨ k = 7 ∨ k = 8 ∨ k = 9 ∨ k = 10 ∨ k = 11 ∨ k = 12 ∨ k = 13 ∨ k = 14 ∨ k = 15 ∨ k = 16 ∨ k = 17 ∨ k = 18 ∨ k = 19 ∨ k = 20 ∨ k = 21 ∨ k = 22 ∨ k = 23 := by omega
    clear ho h0 h1
    rcases hc with rfl | rfl | rfl | rfl | rfl | rfl | rfl | rfl | rfl | rfl | rfl | rfl | rfl | rfl | rfl | rfl | rfl | rfl | rfl | rfl | rfl | rfl | rfl | rfl
    · exact one (by kernel_rfl)
    · exact one (by kernel_rfl)
    · exact one (by kernel_rfl)
    · exact one (by kernel_rfl)
    · exact one (by kernel_rfl)
    · exact one (by kernel_rfl)
    · exact one (by kernel_rfl)
    · exact one (by kernel_rfl)
    · exact one (by kernel_rfl)
    · exact one (by kernel_rfl)
    · exact one (by kernel_rfl)
    · exact one (by kernel_rfl)
    · exact one (by kernel_rfl)
    · exact one (by kernel_rfl)
    · exact one (by kernel_rfl)
    · exact one (by kernel_rfl)
    · exact one (by kernel_rfl)
    · exact one (by kernel_rfl)
    · exact one (by kernel_rfl)
    · exact one (by kernel_rfl)
    · exact one (by kernel_rfl)
    · exact one (by kernel_rfl)
    · exact one (by kernel_rfl)
    · exact one (by kernel_rfl)
  · cases hF

def gm_l2Turned : Gam := ext gm_along 132 (specV f_l2Turned)
theorem gm_l2Turned_ok : GamOk Try.prog gm_l2Turned := ext_ok gm_along_ok ok_l2Turned

def f_l3Im : List Value → Option (Value × List Bool)
  | [.agg ⟨[.int .i64 a0, .int .i64 a1, .int .i64 a2, .int .i64 a3, .int .i64 a4, .int .i64 a5, .int .i64 a6, .int .i64 a7]⟩] => some (sdv (imF (v8 a0 a1 a2 a3 a4 a5 a6 a7)), [])
  | _ => none

theorem ok_l3Im : SpecOk Try.prog 75 (specV f_l3Im) := by
  refine mkV (n := 100) gm_l2Turned_ok Try.func75 rfl fun vs x ob hF ho => ?_
  unfold f_l3Im at hF
  split at hF
  · rename_i a0 a1 a2 a3 a4 a5 a6 a7
    simp only [Option.some.injEq, Prod.mk.injEq] at hF
    obtain ⟨rfl, rfl⟩ := hF
    have e : getV (execF Try.prog gm_l2Turned noLam 100 Try.f75 ([.agg ⟨[.int .i64 a0, .int .i64 a1, .int .i64 a2, .int .i64 a3, .int .i64 a4, .int .i64 a5, .int .i64 a6, .int .i64 a7]⟩].map .v) [] valK) = some (sdv (v4 (W (W (2 * (v8 a0 a1 a2 a3 a4 a5 a6 a7) 2) + W (4 * (v8 a0 a1 a2 a3 a4 a5 a6 a7) 6))) (W (W (W (W (0 - (v8 a0 a1 a2 a3 a4 a5 a6 a7) 1) + W (2 * (v8 a0 a1 a2 a3 a4 a5 a6 a7) 3)) + (v8 a0 a1 a2 a3 a4 a5 a6 a7) 5) + (v8 a0 a1 a2 a3 a4 a5 a6 a7) 7)) (W (2 * (v8 a0 a1 a2 a3 a4 a5 a6 a7) 4)) (W (W ((v8 a0 a1 a2 a3 a4 a5 a6 a7) 1 + (v8 a0 a1 a2 a3 a4 a5 a6 a7) 5) + (v8 a0 a1 a2 a3 a4 a5 a6 a7) 7)))) := by kernel_rfl
    rw [sdv_congr (g := imF (v8 a0 a1 a2 a3 a4 a5 a6 a7)) (forall4 ?_ ?_ ?_ ?_)] at e
    · exact one e
    all_goals (simp only [v4, imF, imZ, w64_add_l, w64_add_r, Int.zero_sub])
  · cases hF

def gm_l3Im : Gam := ext gm_l2Turned 75 (specV f_l3Im)
theorem gm_l3Im_ok : GamOk Try.prog gm_l3Im := ext_ok gm_l2Turned_ok ok_l3Im

def f_l3Re : List Value → Option (Value × List Bool)
  | [.agg ⟨[.int .i64 a0, .int .i64 a1, .int .i64 a2, .int .i64 a3, .int .i64 a4, .int .i64 a5, .int .i64 a6, .int .i64 a7]⟩] => some (sdv (reF (v8 a0 a1 a2 a3 a4 a5 a6 a7)), [])
  | _ => none

theorem ok_l3Re : SpecOk Try.prog 53 (specV f_l3Re) := by
  refine mkV (n := 100) gm_l3Im_ok Try.func53 rfl fun vs x ob hF ho => ?_
  unfold f_l3Re at hF
  split at hF
  · rename_i a0 a1 a2 a3 a4 a5 a6 a7
    simp only [Option.some.injEq, Prod.mk.injEq] at hF
    obtain ⟨rfl, rfl⟩ := hF
    have e : getV (execF Try.prog gm_l3Im noLam 100 Try.f53 ([.agg ⟨[.int .i64 a0, .int .i64 a1, .int .i64 a2, .int .i64 a3, .int .i64 a4, .int .i64 a5, .int .i64 a6, .int .i64 a7]⟩].map .v) [] valK) = some (sdv (v4 (W (W (4 * (v8 a0 a1 a2 a3 a4 a5 a6 a7) 0) + W (2 * (v8 a0 a1 a2 a3 a4 a5 a6 a7) 4))) (W (W (W ((v8 a0 a1 a2 a3 a4 a5 a6 a7) 1 + W (2 * (v8 a0 a1 a2 a3 a4 a5 a6 a7) 3)) - (v8 a0 a1 a2 a3 a4 a5 a6 a7) 5) + (v8 a0 a1 a2 a3 a4 a5 a6 a7) 7)) (W (2 * (v8 a0 a1 a2 a3 a4 a5 a6 a7) 2)) (W (W ((v8 a0 a1 a2 a3 a4 a5 a6 a7) 1 + (v8 a0 a1 a2 a3 a4 a5 a6 a7) 5) - (v8 a0 a1 a2 a3 a4 a5 a6 a7) 7)))) := by kernel_rfl
    rw [sdv_congr (g := reF (v8 a0 a1 a2 a3 a4 a5 a6 a7)) (forall4 ?_ ?_ ?_ ?_)] at e
    · exact one e
    all_goals (simp only [v4, reF, reZ, w64_add_l, w64_add_r, w64_sub_l])
  · cases hF

def gm_l3Re : Gam := ext gm_l3Im 53 (specV f_l3Re)
theorem gm_l3Re_ok : GamOk Try.prog gm_l3Re := ext_ok gm_l3Im_ok ok_l3Re

def f_l8Cross : List Value → Option (Value × List Bool)
  | [.agg ⟨[.int .i64 a0, .int .i64 a1, .int .i64 a2, .int .i64 a3, .int .i64 a4, .int .i64 a5, .int .i64 a6, .int .i64 a7]⟩, .agg ⟨[.int .i64 b0, .int .i64 b1, .int .i64 b2, .int .i64 b3, .int .i64 b4, .int .i64 b5, .int .i64 b6, .int .i64 b7]⟩] => some (sdv (imF (mulF (mirF (v8 a0 a1 a2 a3 a4 a5 a6 a7)) (v8 b0 b1 b2 b3 b4 b5 b6 b7))), [])
  | _ => none

theorem ok_l8Cross : SpecOk Try.prog 45 (specV f_l8Cross) := by
  refine mkV (n := 100) gm_l3Re_ok Try.func45 rfl fun vs x ob hF ho => ?_
  unfold f_l8Cross at hF
  split at hF
  · rename_i a0 a1 a2 a3 a4 a5 a6 a7 b0 b1 b2 b3 b4 b5 b6 b7
    simp only [Option.some.injEq, Prod.mk.injEq] at hF
    obtain ⟨rfl, rfl⟩ := hF
    exact one (by kernel_rfl)
  · cases hF

def gm_l8Cross : Gam := ext gm_l3Re 45 (specV f_l8Cross)
theorem gm_l8Cross_ok : GamOk Try.prog gm_l8Cross := ext_ok gm_l3Re_ok ok_l8Cross

def f_l3Sum : List Value → Option (Value × List Bool)
  | [.agg ⟨[.int .i64 s0, .int .i64 s1, .int .i64 s2, .int .i64 s3]⟩, .int .i64 n, .agg ⟨[.int .i64 t0, .int .i64 t1, .int .i64 t2, .int .i64 t3]⟩] => some (sdv (fun k => W ((v4 s0 s1 s2 s3) k + W (n * (v4 t0 t1 t2 t3) k))), [])
  | _ => none

theorem ok_l3Sum : SpecOk Try.prog 61 (specV f_l3Sum) := by
  refine mkV (n := 100) gm_l8Cross_ok Try.func61 rfl fun vs x ob hF ho => ?_
  unfold f_l3Sum at hF
  split at hF
  · rename_i s0 s1 s2 s3 n t0 t1 t2 t3
    simp only [Option.some.injEq, Prod.mk.injEq] at hF
    obtain ⟨rfl, rfl⟩ := hF
    exact one (by kernel_rfl)
  · cases hF

def gm_l3Sum : Gam := ext gm_l8Cross 61 (specV f_l3Sum)
theorem gm_l3Sum_ok : GamOk Try.prog gm_l3Sum := ext_ok gm_l8Cross_ok ok_l3Sum

end Go.Proofs.Ytoligfhcogligaa

/- Squares in two parts of 64 bits; signs. Plain numbers. -/
namespace Go.Proofs.Ytoligfhcogligaa
open Go.RowKit

abbrev U (n : Int) : Int := IntKind.u64.wrap n
theorem u64_in {n : Int} (h0 : 0 ≤ n) (h1 : n < 18446744073709551616) : U n = n := by
  have : U n = n % 18446744073709551616 := by simp [U, IntKind.wrap, IntKind.signed, IntKind.bits]
  rw [this]; omega
theorem u64_mod (n : Int) : U n = n % 18446744073709551616 := by simp [U, IntKind.wrap, IntKind.signed, IntKind.bits]

abbrev maskU (x : Int) : Int := U ↑(BitVec.ofInt IntKind.u64.bits x &&& BitVec.ofInt IntKind.u64.bits 4294967295).toNat
theorem maskU_eq {x : Int} (h0 : 0 ≤ x) (h1 : x < 18446744073709551616) : maskU x = x % 4294967296 := by
  obtain ⟨k, rfl⟩ := Int.eq_ofNat_of_zero_le h0
  have e : (BitVec.ofInt IntKind.u64.bits (k : Int) &&& BitVec.ofInt IntKind.u64.bits 4294967295).toNat = k % 4294967296 := by
    rw [BitVec.toNat_and]
    simp only [BitVec.toNat_ofInt, IntKind.bits]
    have e1 : ((k : Int) % ((2 ^ 64 : Nat) : Int)).toNat = k := by omega
    have e2 : ((4294967295 : Int) % ((2 ^ 64 : Nat) : Int)).toNat = 2 ^ 32 - 1 := by decide
    rw [e1, e2, Nat.and_two_pow_sub_one_eq_mod]
  show U _ = _
  rw [e, u64_in (by omega) (by omega)]
  omega

abbrev shrU (x : Int) (n : Int) : Int := x.fdiv (2 ^ min n.toNat IntKind.u64.bits)
theorem shr32 (x : Int) : shrU x 32 = x / 4294967296 := by
  show x.fdiv 4294967296 = _
  rw [Int.fdiv_eq_ediv_of_nonneg _ (by decide)]
theorem shr31 (x : Int) : shrU x 31 = x / 2147483648 := by
  show x.fdiv 2147483648 = _
  rw [Int.fdiv_eq_ediv_of_nonneg _ (by decide)]
theorem shr63 (x : Int) : shrU x 63 = x / 9223372036854775808 := by
  show x.fdiv 9223372036854775808 = _
  rw [Int.fdiv_eq_ediv_of_nonneg _ (by decide)]

theorem mul_bound {a b : Int} {m : Int} (ha : 0 ≤ a) (hb : 0 ≤ b) (ha1 : a ≤ m) (hb1 : b ≤ m) : 0 ≤ a * b ∧ a * b ≤ m * m :=
  ⟨Int.mul_nonneg ha hb, Int.mul_le_mul ha1 hb1 hb (by omega)⟩

/-- The square, by halves. -/
theorem sq_parts {x : Int} (h0 : 0 ≤ x) (h1 : x < 18446744073709551616) :
    let lo := x % 4294967296
    let hi := x / 4294967296
    let mid := U (lo * hi)
    let out := U (lo * lo)
    let sum := U (out + U (mid * 8589934592))
    let top := U (U (hi * hi) + mid / 2147483648)
    sum = x * x % 18446744073709551616 ∧ (if sum < out then U (top + 1) else top) = x * x / 18446744073709551616 := by
  intro lo hi mid out sum top
  have hlo0 : 0 ≤ lo := Int.emod_nonneg _ (by decide)
  have hlo1 : lo ≤ 4294967295 := by show x % 4294967296 ≤ _; omega
  have hhi0 : 0 ≤ hi := by show 0 ≤ x / 4294967296; omega
  have hhi1 : hi ≤ 4294967295 := by show x / 4294967296 ≤ _; omega
  have hx : x = hi * 4294967296 + lo := by show x = x / 4294967296 * 4294967296 + x % 4294967296; omega
  have hxx : x * x = (hi * hi) * 18446744073709551616 + (lo * hi) * 8589934592 + lo * lo := by
    rw [hx]
    simp only [Int.add_mul, Int.mul_add]
    rw [Int.mul_comm (hi * 4294967296) lo, ← Int.mul_assoc lo hi, show hi * 4294967296 * (hi * 4294967296) = hi * hi * 18446744073709551616 by
      rw [Int.mul_assoc, Int.mul_left_comm 4294967296 hi 4294967296, ← Int.mul_assoc]; rfl]
    omega
  obtain ⟨A0, A1⟩ := mul_bound hlo0 hlo0 hlo1 hlo1
  obtain ⟨B0, B1⟩ := mul_bound hlo0 hhi0 hlo1 hhi1
  obtain ⟨C0, C1⟩ := mul_bound hhi0 hhi0 hhi1 hhi1
  have hmid : mid = lo * hi := u64_in B0 (by omega)
  have hout : out = lo * lo := u64_in A0 (by omega)
  have hC : U (hi * hi) = hi * hi := u64_in C0 (by omega)
  have hsum : sum = (lo * lo + lo * hi * 8589934592 % 18446744073709551616) % 18446744073709551616 := by
    show U (out + U (mid * 8589934592)) = _
    rw [hout, hmid, u64_mod, u64_mod]
  have htop : top = hi * hi + lo * hi / 2147483648 := by
    show U (U (hi * hi) + mid / 2147483648) = _
    rw [hC, hmid]
    exact u64_in (by omega) (by omega)
  rw [htop, hsum, hout, hxx, u64_mod]
  generalize lo * lo = A at *
  generalize lo * hi = B at *
  generalize hi * hi = C at *
  clear hxx hmid hout hC hsum htop
  constructor
  · omega
  · split <;> omega

/-- The product, by halves. -/
theorem mul_parts {x y : Int} (h0 : 0 ≤ x) (h1 : x < 18446744073709551616) (k0 : 0 ≤ y) (k1 : y < 18446744073709551616) :
    let x0 := x % 4294967296
    let x1 := x / 4294967296
    let y0 := y % 4294967296
    let y1 := y / 4294967296
    let t := U (U (x1 * y0) + U (x0 * y0) / 4294967296)
    U (U (U (x1 * y1) + t / 4294967296) + U (t % 4294967296 + U (x0 * y1)) / 4294967296) = x * y / 18446744073709551616 ∧ 0 ≤ t ∧ t < 18446744073709551616 := by
  intro x0 x1 y0 y1 t
  have a0 : 0 ≤ x0 := Int.emod_nonneg _ (by decide)
  have a1 : x0 ≤ 4294967295 := by show x % 4294967296 ≤ _; omega
  have b0 : 0 ≤ x1 := by show 0 ≤ x / 4294967296; omega
  have b1 : x1 ≤ 4294967295 := by show x / 4294967296 ≤ _; omega
  have c0 : 0 ≤ y0 := Int.emod_nonneg _ (by decide)
  have c1 : y0 ≤ 4294967295 := by show y % 4294967296 ≤ _; omega
  have d0 : 0 ≤ y1 := by show 0 ≤ y / 4294967296; omega
  have d1 : y1 ≤ 4294967295 := by show y / 4294967296 ≤ _; omega
  have hx : x = x1 * 4294967296 + x0 := by show x = x / 4294967296 * 4294967296 + x % 4294967296; omega
  have hy : y = y1 * 4294967296 + y0 := by show y = y / 4294967296 * 4294967296 + y % 4294967296; omega
  have hxy : x * y = (x1 * y1) * 18446744073709551616 + (x1 * y0 + x0 * y1) * 4294967296 + x0 * y0 := by
    rw [hx, hy]
    simp only [Int.add_mul, Int.mul_add]
    rw [show x1 * 4294967296 * (y1 * 4294967296) = x1 * y1 * 18446744073709551616 by
      rw [Int.mul_assoc, Int.mul_left_comm 4294967296 y1 4294967296, ← Int.mul_assoc]; rfl, show x1 * 4294967296 * y0 = x1 * y0 * 4294967296 by rw [Int.mul_assoc, Int.mul_comm 4294967296 y0, Int.mul_assoc], ← Int.mul_assoc x0 y1]
    omega
  obtain ⟨A0, A1⟩ := mul_bound a0 c0 a1 c1
  obtain ⟨B0, B1⟩ := mul_bound b0 c0 b1 c1
  obtain ⟨C0, C1⟩ := mul_bound a0 d0 a1 d1
  obtain ⟨D0, D1⟩ := mul_bound b0 d0 b1 d1
  have ht : t = x1 * y0 + x0 * y0 / 4294967296 := by
    show U (U (x1 * y0) + U (x0 * y0) / 4294967296) = _
    rw [u64_in B0 (by omega), u64_in A0 (by omega), u64_in (by omega) (by omega)]
  rw [ht, hxy, u64_in C0 (by omega), u64_in D0 (by omega)]
  generalize x0 * y0 = A at *
  generalize x1 * y0 = B at *
  generalize x0 * y1 = C at *
  generalize x1 * y1 = D at *
  clear hxy ht t
  refine ⟨?_, by omega, by omega⟩
  rw [u64_in (n := (B + A / 4294967296) % 4294967296 + C) (by omega) (by omega), u64_in (n := D + (B + A / 4294967296) / 4294967296) (by omega) (by omega), u64_in (by omega) (by omega)]
  omega

theorem size_eq {x : Int} (h0 : -9223372036854775808 ≤ x) (h1 : x ≤ 9223372036854775807) : U (if W (0 - x) > x then W (0 - x) else x) = (x.natAbs : Int) := by
  by_cases hx : x = -9223372036854775808
  · subst hx; rfl
  · rw [w64_in (x := 0 - x) (by omega) (by omega)]
    split
    · rw [u64_in (by omega) (by omega)]; omega
    · rw [u64_in (by omega) (by omega)]; omega

end Go.Proofs.Ytoligfhcogligaa

/- Signs: the functions on words of 64 bits. No conditions but bounds. -/
namespace Go.Proofs.Ytoligfhcogligaa
open Go.RowKit
set_option maxRecDepth 100000

theorem f_bool {v : Value} {x y : Bool} (h : outV (rv (.bool x)) = some v) (e : x = y) : outV (rv (.bool y)) = some v := e ▸ h

def f_nanI : List Value → Option (Value × List Bool)
  | [.int .i64 _] => some (.bool false, [])
  | _ => none

theorem ok_nanI : SpecOk Try.prog 145 (specV f_nanI) := by
  refine mkV (n := 100) gm_l3Sum_ok Try.func145 rfl fun vs x ob hF ho => ?_
  unfold f_nanI at hF
  split at hF
  · rename_i x
    simp only [Option.some.injEq, Prod.mk.injEq] at hF
    obtain ⟨rfl, rfl⟩ := hF
    have e : getV (execF Try.prog gm_l3Sum noLam 100 Try.f145 ([.int .i64 x].map .v) [] valK) = some (.bool (bif x == x then false else true)) := by kernel_rfl
    rw [show (bif x == x then false else true) = false by simp] at e
    exact one e
  · cases hF

def gm_nanI : Gam := ext gm_l3Sum 145 (specV f_nanI)
theorem gm_nanI_ok : GamOk Try.prog gm_nanI := ext_ok gm_l3Sum_ok ok_nanI

def f_nanU : List Value → Option (Value × List Bool)
  | [.int .u64 _] => some (.bool false, [])
  | _ => none

theorem ok_nanU : SpecOk Try.prog 141 (specV f_nanU) := by
  refine mkV (n := 100) gm_nanI_ok Try.func141 rfl fun vs x ob hF ho => ?_
  unfold f_nanU at hF
  split at hF
  · rename_i x
    simp only [Option.some.injEq, Prod.mk.injEq] at hF
    obtain ⟨rfl, rfl⟩ := hF
    have e : getV (execF Try.prog gm_nanI noLam 100 Try.f141 ([.int .u64 x].map .v) [] valK) = some (.bool (bif x == x then false else true)) := by kernel_rfl
    rw [show (bif x == x then false else true) = false by simp] at e
    exact one e
  · cases hF

def gm_nanU : Gam := ext gm_nanI 141 (specV f_nanU)
theorem gm_nanU_ok : GamOk Try.prog gm_nanU := ext_ok gm_nanI_ok ok_nanU

def f_cmpI : List Value → Option (Value × List Bool)
  | [.int .i64 x, .int .i64 y] => some (.int .i64 (sgZ x y), [])
  | _ => none

theorem ok_cmpI : SpecOk Try.prog 140 (specV f_cmpI) := by
  refine mkV (n := 100) gm_nanU_ok Try.func140 rfl fun vs x ob hF ho => ?_
  unfold f_cmpI at hF
  split at hF
  · rename_i x y
    simp only [Option.some.injEq, Prod.mk.injEq] at hF
    obtain ⟨rfl, rfl⟩ := hF
    have e : execF Try.prog gm_nanU noLam 100 Try.f140 ([.int .i64 x, .int .i64 y].map .v) [] valK = cond (decide (x < y)) (rv (.int .i64 (-1))) (cond (decide (x > y)) (rv (.int .i64 1)) (rv (.int .i64 0))) := by kernel_rfl
    rw [e]
    exact gives_of (by simp only [outV_cond, outV_rv, cond_some, cond_int, sgZ])
  · cases hF

def gm_cmpI : Gam := ext gm_nanU 140 (specV f_cmpI)
theorem gm_cmpI_ok : GamOk Try.prog gm_cmpI := ext_ok gm_nanU_ok ok_cmpI

def f_cmpU : List Value → Option (Value × List Bool)
  | [.int .u64 x, .int .u64 y] => some (.int .i64 (sgZ x y), [])
  | _ => none

theorem ok_cmpU : SpecOk Try.prog 130 (specV f_cmpU) := by
  refine mkV (n := 100) gm_cmpI_ok Try.func130 rfl fun vs x ob hF ho => ?_
  unfold f_cmpU at hF
  split at hF
  · rename_i x y
    simp only [Option.some.injEq, Prod.mk.injEq] at hF
    obtain ⟨rfl, rfl⟩ := hF
    have e : execF Try.prog gm_cmpI noLam 100 Try.f130 ([.int .u64 x, .int .u64 y].map .v) [] valK = cond (decide (x < y)) (rv (.int .i64 (-1))) (cond (decide (x > y)) (rv (.int .i64 1)) (rv (.int .i64 0))) := by kernel_rfl
    rw [e]
    exact gives_of (by simp only [outV_cond, outV_rv, cond_some, cond_int, sgZ])
  · cases hF

def gm_cmpU : Gam := ext gm_cmpI 130 (specV f_cmpU)
theorem gm_cmpU_ok : GamOk Try.prog gm_cmpU := ext_ok gm_cmpI_ok ok_cmpU

def f_size : List Value → Option (Value × List Bool)
  | [.int .i64 x] => some (.int .u64 (x.natAbs : Int), [inR x (-9223372036854775808) 9223372036854775807])
  | _ => none

theorem ok_size : SpecOk Try.prog 128 (specV f_size) := by
  refine mkV (n := 100) gm_cmpU_ok Try.func128 rfl fun vs x ob hF ho => ?_
  unfold f_size at hF
  split at hF
  · rename_i x
    simp only [Option.some.injEq, Prod.mk.injEq] at hF
    obtain ⟨rfl, rfl⟩ := hF
    have hb := inR_iff.1 (show inR x (-9223372036854775808) 9223372036854775807 = true by simpa [obls] using ho)
    have e : getV (execF Try.prog gm_cmpU noLam 100 Try.f128 ([.int .i64 x].map .v) [] valK) = some (.int .u64 (U (if W (0 - x) > x then W (0 - x) else x))) := by kernel_rfl
    rw [size_eq hb.1 hb.2] at e
    exact one e
  · cases hF

def gm_size : Gam := ext gm_cmpU 128 (specV f_size)
theorem gm_size_ok : GamOk Try.prog gm_size := ext_ok gm_cmpU_ok ok_size

def f_l3Size : List Value → Option (Value × List Bool)
  | [.int .i64 x] => some (.int .u64 (x.natAbs : Int), [inR x (-9223372036854775808) 9223372036854775807])
  | _ => none

theorem ok_l3Size : SpecOk Try.prog 124 (specV f_l3Size) := by
  refine mkV (n := 100) gm_size_ok Try.func124 rfl fun vs x ob hF ho => ?_
  unfold f_l3Size at hF
  split at hF
  · rename_i x
    simp only [Option.some.injEq, Prod.mk.injEq] at hF
    obtain ⟨rfl, rfl⟩ := hF
    have hb := inR_iff.1 (show inR x (-9223372036854775808) 9223372036854775807 = true by simpa [obls] using ho)
    have e : getV (execF Try.prog gm_size noLam 100 Try.f124 ([.int .i64 x].map .v) [] valK) = some (.int .u64 (U (if W (0 - x) > x then W (0 - x) else x))) := by kernel_rfl
    rw [size_eq hb.1 hb.2] at e
    exact one e
  · cases hF

def gm_l3Size : Gam := ext gm_size 124 (specV f_l3Size)
theorem gm_l3Size_ok : GamOk Try.prog gm_l3Size := ext_ok gm_size_ok ok_l3Size

def f_l3Square : List Value → Option (Value × List Bool)
  | [.int .u64 x] => some (.tuple #[.int .u64 (x * x / 18446744073709551616), .int .u64 (x * x % 18446744073709551616)], [decide (0 ≤ x), decide (x < 18446744073709551616)])
  | _ => none

theorem ok_l3Square : SpecOk Try.prog 123 (specV f_l3Square) := by
  refine mkV (n := 100) gm_l3Size_ok Try.func123 rfl fun vs x ob hF ho => ?_
  unfold f_l3Square at hF
  split at hF
  · rename_i x
    simp only [Option.some.injEq, Prod.mk.injEq] at hF
    obtain ⟨rfl, rfl⟩ := hF
    obtain ⟨h0, h1⟩ := obl2 ho
    have h0 := of_decide_eq_true h0
    have h1 := of_decide_eq_true h1
    have e : execF Try.prog gm_l3Size noLam 100 Try.f123 ([.int .u64 x].map .v) [] valK = cond (decide (U (U (maskU x * maskU x) + U (U (maskU x * shrU x 32) * 8589934592)) < U (maskU x * maskU x)))
      (rt [.v (.int .u64 (U (U (U (shrU x 32 * shrU x 32) + shrU (U (maskU x * shrU x 32)) 31) + 1))), .v (.int .u64 (U (U (maskU x * maskU x) + U (U (maskU x * shrU x 32) * 8589934592))))])
      (rt [.v (.int .u64 (U (U (shrU x 32 * shrU x 32) + shrU (U (maskU x * shrU x 32)) 31))), .v (.int .u64 (U (U (maskU x * maskU x) + U (U (maskU x * shrU x 32) * 8589934592))))]) := by kernel_rfl
    rw [e, maskU_eq h0 h1, shr32, shr31]
    obtain ⟨p1, p2⟩ := sq_parts h0 h1
    clear e
    rw [p1]
    rw [p1] at p2
    by_cases hc : x * x % 18446744073709551616 < U (x % 4294967296 * (x % 4294967296))
    · rw [if_pos hc] at p2
      rw [decide_eq_true hc, cond_true, p2]
      exact one rfl
    · rw [if_neg hc] at p2
      rw [decide_eq_false hc, cond_false, p2]
      exact one rfl
  · cases hF

def gm_l3Square : Gam := ext gm_l3Size 123 (specV f_l3Square)
theorem gm_l3Square_ok : GamOk Try.prog gm_l3Square := ext_ok gm_l3Size_ok ok_l3Square

def f_mul64 : List Value → Option (Value × List Bool)
  | [.int .u64 x, .int .u64 y] => some (.tuple #[.int .u64 (x * y / 18446744073709551616), .int .u64 (U (x * y))], [decide (0 ≤ x), decide (x < 18446744073709551616), decide (0 ≤ y), decide (y < 18446744073709551616)])
  | _ => none

theorem ok_mul64 : SpecOk Try.prog 127 (specV f_mul64) := by
  refine mkV (n := 100) gm_l3Square_ok Try.func127 rfl fun vs x ob hF ho => ?_
  unfold f_mul64 at hF
  split at hF
  · rename_i x y
    simp only [Option.some.injEq, Prod.mk.injEq] at hF
    obtain ⟨rfl, rfl⟩ := hF
    simp only [obls, List.all_cons, List.all_nil, Bool.and_true, Bool.and_eq_true, id, decide_eq_true_eq] at ho
    obtain ⟨h0, h1, k0, k1⟩ := ho
    have e : getV (execF Try.prog gm_l3Square noLam 100 Try.f127 ([.int .u64 x, .int .u64 y].map .v) [] valK) = some (.tuple #[.int .u64 (U (U (U (shrU x 32 * shrU y 32) + shrU (U (U (shrU x 32 * maskU y) + shrU (U (maskU x * maskU y)) 32)) 32) + shrU (U (maskU (U (U (shrU x 32 * maskU y) + shrU (U (maskU x * maskU y)) 32)) + U (maskU x * shrU y 32))) 32)), .int .u64 (U (x * y))]) := by kernel_rfl
    obtain ⟨p1, p2, p3⟩ := mul_parts h0 h1 k0 k1
    simp only [shr32] at e
    rw [maskU_eq h0 h1, maskU_eq k0 k1, maskU_eq p2 p3, p1] at e
    exact one e
  · cases hF

def gm_mul64 : Gam := ext gm_l3Square 127 (specV f_mul64)
theorem gm_mul64_ok : GamOk Try.prog gm_mul64 := ext_ok gm_l3Square_ok ok_mul64

end Go.Proofs.Ytoligfhcogligaa

/- The sign of x + y root 2. Plain numbers. -/
namespace Go.Proofs.Ytoligfhcogligaa
open Go.RowKit

theorem no_root : ∀ (n x y : Nat), x ≤ n → x * x = 2 * (y * y) → x = 0
  | 0, x, y, h, _ => by omega
  | n + 1, x, y, h, e => by
    rcases Nat.eq_zero_or_pos x with hx | hx
    · exact hx
    · exfalso
      have h2 : x % 2 = 0 := by
        have : (x * x) % 2 = 0 := by omega
        rw [Nat.mul_mod] at this
        rcases Nat.mod_two_eq_zero_or_one x with h | h
        · exact h
        · rw [h] at this; simp at this
      obtain ⟨a, rfl⟩ : ∃ a, x = 2 * a := ⟨x / 2, by omega⟩
      have e1 : y * y = 2 * (a * a) := by
        have : 2 * a * (2 * a) = 4 * (a * a) := by rw [Nat.mul_mul_mul_comm]
        omega
      have ha : a * a < y * y := by
        have : 0 < a * a := Nat.mul_pos (by omega) (by omega)
        omega
      have hy : y * y < 2 * a * (2 * a) := by
        have : 2 * a * (2 * a) = 4 * (a * a) := by rw [Nat.mul_mul_mul_comm]
        have : 0 < a * a := Nat.mul_pos (by omega) (by omega)
        omega
      have hlt : y < 2 * a := by
        rcases Nat.lt_or_ge y (2 * a) with h | h
        · exact h
        · have := Nat.mul_le_mul h h; omega
      have := no_root n y a (by omega) e1
      subst this
      omega

/-- The sign of x + y root 2. -/
def sg2 (x y : Int) : Int :=
  if 0 ≤ x ∧ 0 ≤ y then (if x = 0 ∧ y = 0 then 0 else 1)
  else if x ≤ 0 ∧ y ≤ 0 then -1
  else if x < 0 then (if x * x > 2 * (y * y) then -1 else 1)
  else (if x * x > 2 * (y * y) then 1 else -1)

abbrev topU (h l : Int) : Int := U ↑(BitVec.ofInt IntKind.u64.bits (U (h * 2)) ||| BitVec.ofInt IntKind.u64.bits (shrU l 63)).toNat
theorem topU_eq {h l : Int} (h0 : 0 ≤ h) (h1 : h * 2 < 18446744073709551616) (l0 : 0 ≤ l) (l1 : l < 18446744073709551616) : topU h l = h * 2 + l / 9223372036854775808 := by
  obtain ⟨a, rfl⟩ := Int.eq_ofNat_of_zero_le h0
  obtain ⟨b, hb⟩ := Int.eq_ofNat_of_zero_le (a := l / 9223372036854775808) (by omega)
  have hb2 : b < 2 := by omega
  show U _ = _
  rw [shr63, u64_in (n := (a : Int) * 2) (by omega) h1, hb]
  have e : (BitVec.ofInt IntKind.u64.bits ((a : Int) * 2) ||| BitVec.ofInt IntKind.u64.bits (b : Int)).toNat = a * 2 + b := by
    rw [BitVec.toNat_or]
    simp only [BitVec.toNat_ofInt, IntKind.bits]
    have e1 : (((a : Int) * 2) % ((2 ^ 64 : Nat) : Int)).toNat = a * 2 := by omega
    have e2 : ((b : Int) % ((2 ^ 64 : Nat) : Int)).toNat = b := by omega
    rw [e1, e2]
    have := Nat.shiftLeft_add_eq_or_of_lt (i := 1) (b := b) (by omega) a
    rw [Nat.shiftLeft_eq] at this
    simpa using this.symm
  rw [e, u64_in (by omega) (by omega)]
  omega

/-- Squares of 64 bits against twice squares. -/
theorem sq_cmp {x y : Int} (hx0 : -9223372036854775808 ≤ x) (hx1 : x ≤ 9223372036854775807) (hy0 : -9223372036854775808 ≤ y) (hy1 : y ≤ 9223372036854775807) :
    let X : Int := x.natAbs
    let Y : Int := y.natAbs
    let hx := X * X / 18446744073709551616
    let lx := X * X % 18446744073709551616
    let hy := Y * Y / 18446744073709551616
    let ly := Y * Y % 18446744073709551616
    let top := topU hy ly
    let rest := U (ly * 2)
    (hx > top ∨ (hx = top ∧ lx > rest) ↔ x * x > 2 * (y * y)) ∧ (hx = top ∧ lx = rest ↔ x * x = 2 * (y * y)) := by
  intro X Y hx lx hy ly top rest
  have eX : X * X = x * x := by show (x.natAbs : Int) * x.natAbs = _; exact Int.natAbs_mul_self
  have eY : Y * Y = y * y := by show (y.natAbs : Int) * y.natAbs = _; exact Int.natAbs_mul_self
  have bY : 0 ≤ Y * Y ∧ Y * Y ≤ 9223372036854775808 * 9223372036854775808 := mul_bound (by show (0 : Int) ≤ (y.natAbs : Int); omega) (by show (0 : Int) ≤ (y.natAbs : Int); omega) (by show (y.natAbs : Int) ≤ _; omega) (by show (y.natAbs : Int) ≤ _; omega)
  have bX : 0 ≤ X * X ∧ X * X ≤ 9223372036854775808 * 9223372036854775808 := mul_bound (by show (0 : Int) ≤ (x.natAbs : Int); omega) (by show (0 : Int) ≤ (x.natAbs : Int); omega) (by show (x.natAbs : Int) ≤ _; omega) (by show (x.natAbs : Int) ≤ _; omega)
  have ht : top = hy * 2 + ly / 9223372036854775808 := topU_eq (by show 0 ≤ Y * Y / _; omega) (by show Y * Y / 18446744073709551616 * 2 < _; omega) (by show 0 ≤ Y * Y % _; omega) (by show Y * Y % 18446744073709551616 < _; omega)
  have hr : rest = (ly * 2) % 18446744073709551616 := u64_mod _
  rw [ht, hr, ← eX, ← eY]
  simp only [hx, lx, hy, ly]
  generalize X * X = P at *
  generalize Y * Y = R at *
  clear ht hr eX eY
  omega

theorem no_root_int {x y : Int} (h : x * x = 2 * (y * y)) : x = 0 := by
  have e : x.natAbs * x.natAbs = 2 * (y.natAbs * y.natAbs) := by
    have h1 : ((x.natAbs * x.natAbs : Nat) : Int) = ((2 * (y.natAbs * y.natAbs) : Nat) : Int) := by
      push_cast
      rw [Int.natAbs_mul_self', Int.natAbs_mul_self']
      exact h
    exact_mod_cast h1
  have := no_root _ _ _ (Nat.le_refl _) e
  omega

theorem sgZ_cases (a b : Int) : (a < b ∧ sgZ a b = -1) ∨ (a = b ∧ sgZ a b = 0) ∨ (a > b ∧ sgZ a b = 1) := by
  unfold sgZ
  by_cases h1 : a < b
  · exact .inl ⟨h1, by rw [decide_eq_true h1]; rfl⟩
  · by_cases h2 : a > b
    · exact .inr (.inr ⟨h2, by rw [decide_eq_false h1, decide_eq_true h2]; rfl⟩)
    · exact .inr (.inl ⟨by omega, by rw [decide_eq_false h1, decide_eq_false h2]; rfl⟩)

theorem beqI (a b : Int) : (a == b) = decide (a = b) := by
  by_cases h : a = b
  · subst h; simp
  · simp [h]

/-- By the signs of both, and then by the squares. -/
theorem signA_eq {x y : Int} {u1 u2 v1 v2 : Int} (h1 : u1 > v1 ∨ (u1 = v1 ∧ u2 > v2) ↔ x * x > 2 * (y * y)) (h2 : u1 = v1 ∧ u2 = v2 ↔ x * x = 2 * (y * y)) :
    (bif sgZ x 0 == sgZ y 0 then sgZ x 0 else bif sgZ y 0 == 0 then sgZ x 0 else bif sgZ x 0 == 0 then sgZ y 0 else
      bif sgZ u1 v1 != 0 then (bif sgZ u1 v1 == 1 then sgZ x 0 else bif sgZ u1 v1 == -1 then sgZ y 0 else 0) else
      bif sgZ u2 v2 != 0 then (bif sgZ u2 v2 == 1 then sgZ x 0 else bif sgZ u2 v2 == -1 then sgZ y 0 else 0) else 0) = sg2 x y := by
  have h3 : x * x = 2 * (y * y) → x = 0 := no_root_int
  unfold sg2
  generalize x * x = P at *
  generalize y * y = R at *
  rcases sgZ_cases x 0 with ⟨a1, a2⟩ | ⟨a1, a2⟩ | ⟨a1, a2⟩ <;> rcases sgZ_cases y 0 with ⟨b1, b2⟩ | ⟨b1, b2⟩ | ⟨b1, b2⟩ <;> rw [a2, b2] <;>
    first
      | (simp only [show ((-1 : Int) == -1) = true from rfl, show ((0 : Int) == 0) = true from rfl, show ((1 : Int) == 1) = true from rfl, show ((-1 : Int) == 0) = false from rfl, show ((-1 : Int) == 1) = false from rfl, show ((1 : Int) == 0) = false from rfl, show ((1 : Int) == -1) = false from rfl, show ((0 : Int) == 1) = false from rfl, show ((0 : Int) == -1) = false from rfl, cond_true, cond_false]
         repeat' split
         all_goals omega)
      | (rcases sgZ_cases u1 v1 with ⟨c1, c2⟩ | ⟨c1, c2⟩ | ⟨c1, c2⟩ <;> rcases sgZ_cases u2 v2 with ⟨d1, d2⟩ | ⟨d1, d2⟩ | ⟨d1, d2⟩ <;> rw [c2, d2] <;>
          simp only [bne, show ((-1 : Int) == -1) = true from rfl, show ((0 : Int) == 0) = true from rfl, show ((1 : Int) == 1) = true from rfl, show ((-1 : Int) == 0) = false from rfl, show ((-1 : Int) == 1) = false from rfl, show ((1 : Int) == 0) = false from rfl, show ((1 : Int) == -1) = false from rfl, show ((0 : Int) == 1) = false from rfl, show ((0 : Int) == -1) = false from rfl, cond_true, cond_false, Bool.not_true, Bool.not_false] <;>
          (repeat' split) <;> omega)

theorem flat_eq {x y : Int} (h : 0 ≤ x ∧ 0 ≤ y ∨ x ≤ 0 ∧ y ≤ 0) :
    (if (if IntKind.i64.wrap ((if (if x < 1 then x else 1) > -1 then (if x < 1 then x else 1) else -1) + (if (if y < 1 then y else 1) > -1 then (if y < 1 then y else 1) else -1)) > -1 then IntKind.i64.wrap ((if (if x < 1 then x else 1) > -1 then (if x < 1 then x else 1) else -1) + (if (if y < 1 then y else 1) > -1 then (if y < 1 then y else 1) else -1)) else -1) < 1 then
      (if IntKind.i64.wrap ((if (if x < 1 then x else 1) > -1 then (if x < 1 then x else 1) else -1) + (if (if y < 1 then y else 1) > -1 then (if y < 1 then y else 1) else -1)) > -1 then IntKind.i64.wrap ((if (if x < 1 then x else 1) > -1 then (if x < 1 then x else 1) else -1) + (if (if y < 1 then y else 1) > -1 then (if y < 1 then y else 1) else -1)) else -1) else 1) = sg2 x y := by
  have e : ∀ z : Int, (if (if z < 1 then z else 1) > -1 then (if z < 1 then z else 1) else -1) = (if z < 0 then -1 else if z = 0 then 0 else 1) := by
    intro z
    repeat' split
    all_goals omega
  rw [e x, e y]
  have w : ∀ n : Int, -2 ≤ n → n ≤ 2 → IntKind.i64.wrap n = n := fun n h1 h2 => w64_in (by omega) (by omega)
  rw [w _ (by repeat' split; all_goals omega) (by repeat' split; all_goals omega)]
  unfold sg2
  generalize x * x = P at *
  generalize y * y = R at *
  repeat' split
  all_goals omega

end Go.Proofs.Ytoligfhcogligaa
