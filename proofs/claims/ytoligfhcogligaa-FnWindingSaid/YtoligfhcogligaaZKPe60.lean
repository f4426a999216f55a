/- PolyWinding of the reference: it tells the same. Conditions: a list of points. -/
import Derived.Test.YtoligfhcogligaaZD0
import Derived.Test.YtoligfhcogligaaZD1
import Derived.Test.YtoligfhcogligaaZD2
import Derived.Test.YtoligfhcogligaaZD3
import Derived.Test.YtoligfhcogligaaZD4
import Derived.Test.YtoligfhcogligaaZD5
import Derived.Test.YtoligfhcogligaaZD6
import Derived.Test.YtoligfhcogligaaZD7
import Derived.Test.YtoligfhcogligaaZD8
/- l92Around: its trees. Conditions: bytes, at most 2^21. -/
namespace Go.Proofs.Ytoligfhcogligaa
open Go.RowKit
set_option maxRecDepth 100000

def gmAr (pk : Nat → (Nat → Int) → Int → Int → Int) (nn : Nat → (Nat → Int) → Int → Nat) (gg : Nat → (Nat → Int) → Int → Nat → Nat → Int) (pp : Nat → (Nat → Int) → Int → Int) (cf : Nat → (Nat → Int) → Int → Nat → Int) (cp : Nat → (Nat → Int) → Int → Int) : Gam := ext (ext (gmPk pk) 40 (specK [] (FpyO nn gg pp))) 90 (specK [] (FcyO cf cp))
def gaC (x y : Int) : Nat → Int := fun k => match k with
  | 0 => x
  | 6 => y
  | _ => 0
/-- The point drawn with a polygon. -/
noncomputable def arC (l : Nat) (b : Nat → Int) : Nat → Int :=
  bif decide ((plN l b 0 : Int) > 0) then
    (bif pkV l b (plP l b 0) 6 == 0 then plG l b 0 (Int.toNat (pkV l b (plP l b 0 + 1) (plN l b 0)))
    else bif pkV l b (plP l b 0 + 1) 2 == 0 then gaC (W (pkV l b (plP l b 0 + 1 + 1) 5 - 2)) (W (pkV l b (plP l b 0 + 1 + 1 + 1) 5 - 2)) else cyF l b (plP l b 0 + 1 + 1))
  else bif pkV l b (plP l b 0) 2 == 0 then gaC (W (pkV l b (plP l b 0 + 1) 5 - 2)) (W (pkV l b (plP l b 0 + 1 + 1) 5 - 2)) else cyF l b (plP l b 0 + 1)
noncomputable def bPC (m : Nat) (b : Nat → Int) : Nat → Int := if m = 0 then gaC (-2) (-2) else arC (lnB m) b
def cA (c : Nat → Int) : List AV := [.v (i64 (c 0)), .v (i64 (c 1)), .v (i64 (c 2)), .v (i64 (c 3)), .v (i64 (c 4)), .v (i64 (c 5)), .v (i64 (c 6)), .v (i64 (c 7))]
def frCC (n : Nat) (h : Nat → Nat → Int) (c : Nat → Int) : FR := { val := .tup [.own 0 n, .agg (cA c)], new := [.row true n 8 (row8 h) 40] }
theorem gmAr_ok : GamOk Try.prog (gmAr pkV plN plG plP cyF cyP) := ext_ok (ext_ok gmPk_ok' ok_py) ok_cyc

end Go.Proofs.Ytoligfhcogligaa

/- DrawPolyWinding: a list of points and a point. Conditions: bytes, at most 2^21. -/
namespace Go.Proofs.Ytoligfhcogligaa
open Go.RowKit
set_option maxRecDepth 100000

theorem treeRPWi (pk : Nat → (Nat → Int) → Int → Int → Int) (nn : Nat → (Nat → Int) → Int → Nat) (gg : Nat → (Nat → Int) → Int → Nat → Nat → Int) (pp : Nat → (Nat → Int) → Int → Int) (cf : Nat → (Nat → Int) → Int → Nat → Int) (cp : Nat → (Nat → Int) → Int → Int) (m : Nat) (b : Nat → Int) : execF Try.prog (gmAr pk nn gg pp cf cp) noLam 100 Try.f30 [.sl 0 1 0 0 m none] [.row false m 1 (rowB b) 5] (packK 1)
    = bif decide ((↑m : Int) > (2000 : Int)) then needs [decide ((2000 : Int) ≤ (↑m : Int)), decide ((↑m : Int) ≤ (↑m : Int)), okB m (rowB b), decide (Int.toNat ((2000 : Int) - (0 : Int)) ≤ m), decide ((0 : Nat) < m), decide ((0 : Nat) < m)] (bif decide ((↑(nn (Int.toNat ((2000 : Int) - (0 : Int))) (itB (rowB b)) (0 : Int)) : Int) > (0 : Int)) then needs [okB m (rowB b), decide (Int.toNat ((2000 : Int) - (0 : Int)) ≤ m), decide ((0 : Int) ≤ pp (Int.toNat ((2000 : Int) - (0 : Int))) (itB (rowB b)) (0 : Int)), decide (pp (Int.toNat ((2000 : Int) - (0 : Int))) (itB (rowB b)) (0 : Int) ≤ (1073741824 : Int)), decide ((0 : Nat) < m)] (bif pk (Int.toNat ((2000 : Int) - (0 : Int))) (itB (rowB b)) (pp (Int.toNat ((2000 : Int) - (0 : Int))) (itB (rowB b)) (0 : Int)) (6 : Int) == (0 : Int) then needs [okB m (rowB b), decide (Int.toNat ((2000 : Int) - (0 : Int)) ≤ m), decide ((0 : Int) ≤ pp (Int.toNat ((2000 : Int) - (0 : Int))) (itB (rowB b)) (0 : Int) + (1 : Int)), decide (pp (Int.toNat ((2000 : Int) - (0 : Int))) (itB (rowB b)) (0 : Int) + (1 : Int) ≤ (1073741824 : Int)), decide ((0 : Nat) < m), decide ((0 : Int) ≤ pk (Int.toNat ((2000 : Int) - (0 : Int))) (itB (rowB b)) (pp (Int.toNat ((2000 : Int) - (0 : Int))) (itB (rowB b)) (0 : Int) + (1 : Int)) (↑(nn (Int.toNat ((2000 : Int) - (0 : Int))) (itB (rowB b)) (0 : Int)) : Int)), decide (pk (Int.toNat ((2000 : Int) - (0 : Int))) (itB (rowB b)) (pp (Int.toNat ((2000 : Int) - (0 : Int))) (itB (rowB b)) (0 : Int) + (1 : Int)) (↑(nn (Int.toNat ((2000 : Int) - (0 : Int))) (itB (rowB b)) (0 : Int)) : Int) < (↑(nn (Int.toNat ((2000 : Int) - (0 : Int))) (itB (rowB b)) (0 : Int)) : Int)), decide (Int.toNat (pk (Int.toNat ((2000 : Int) - (0 : Int))) (itB (rowB b)) (pp (Int.toNat ((2000 : Int) - (0 : Int))) (itB (rowB b)) (0 : Int) + (1 : Int)) (↑(nn (Int.toNat ((2000 : Int) - (0 : Int))) (itB (rowB b)) (0 : Int)) : Int)) < nn (Int.toNat ((2000 : Int) - (0 : Int))) (itB (rowB b)) (0 : Int))] (Res.out Ex.ret [AV.tup [AV.own (1 : Nat) (nn (Int.toNat ((2000 : Int) - (0 : Int))) (itB (rowB b)) (0 : Int)), AV.agg [AV.v (Value.int IntKind.i64 (gg (Int.toNat ((2000 : Int) - (0 : Int))) (itB (rowB b)) (0 : Int) (Int.toNat (pk (Int.toNat ((2000 : Int) - (0 : Int))) (itB (rowB b)) (pp (Int.toNat ((2000 : Int) - (0 : Int))) (itB (rowB b)) (0 : Int) + (1 : Int)) (↑(nn (Int.toNat ((2000 : Int) - (0 : Int))) (itB (rowB b)) (0 : Int)) : Int))) (0 : Nat))), AV.v (Value.int IntKind.i64 (gg (Int.toNat ((2000 : Int) - (0 : Int))) (itB (rowB b)) (0 : Int) (Int.toNat (pk (Int.toNat ((2000 : Int) - (0 : Int))) (itB (rowB b)) (pp (Int.toNat ((2000 : Int) - (0 : Int))) (itB (rowB b)) (0 : Int) + (1 : Int)) (↑(nn (Int.toNat ((2000 : Int) - (0 : Int))) (itB (rowB b)) (0 : Int)) : Int))) (1 : Nat))), AV.v (Value.int IntKind.i64 (gg (Int.toNat ((2000 : Int) - (0 : Int))) (itB (rowB b)) (0 : Int) (Int.toNat (pk (Int.toNat ((2000 : Int) - (0 : Int))) (itB (rowB b)) (pp (Int.toNat ((2000 : Int) - (0 : Int))) (itB (rowB b)) (0 : Int) + (1 : Int)) (↑(nn (Int.toNat ((2000 : Int) - (0 : Int))) (itB (rowB b)) (0 : Int)) : Int))) (2 : Nat))), AV.v (Value.int IntKind.i64 (gg (Int.toNat ((2000 : Int) - (0 : Int))) (itB (rowB b)) (0 : Int) (Int.toNat (pk (Int.toNat ((2000 : Int) - (0 : Int))) (itB (rowB b)) (pp (Int.toNat ((2000 : Int) - (0 : Int))) (itB (rowB b)) (0 : Int) + (1 : Int)) (↑(nn (Int.toNat ((2000 : Int) - (0 : Int))) (itB (rowB b)) (0 : Int)) : Int))) (3 : Nat))), AV.v (Value.int IntKind.i64 (gg (Int.toNat ((2000 : Int) - (0 : Int))) (itB (rowB b)) (0 : Int) (Int.toNat (pk (Int.toNat ((2000 : Int) - (0 : Int))) (itB (rowB b)) (pp (Int.toNat ((2000 : Int) - (0 : Int))) (itB (rowB b)) (0 : Int) + (1 : Int)) (↑(nn (Int.toNat ((2000 : Int) - (0 : Int))) (itB (rowB b)) (0 : Int)) : Int))) (4 : Nat))), AV.v (Value.int IntKind.i64 (gg (Int.toNat ((2000 : Int) - (0 : Int))) (itB (rowB b)) (0 : Int) (Int.toNat (pk (Int.toNat ((2000 : Int) - (0 : Int))) (itB (rowB b)) (pp (Int.toNat ((2000 : Int) - (0 : Int))) (itB (rowB b)) (0 : Int) + (1 : Int)) (↑(nn (Int.toNat ((2000 : Int) - (0 : Int))) (itB (rowB b)) (0 : Int)) : Int))) (5 : Nat))), AV.v (Value.int IntKind.i64 (gg (Int.toNat ((2000 : Int) - (0 : Int))) (itB (rowB b)) (0 : Int) (Int.toNat (pk (Int.toNat ((2000 : Int) - (0 : Int))) (itB (rowB b)) (pp (Int.toNat ((2000 : Int) - (0 : Int))) (itB (rowB b)) (0 : Int) + (1 : Int)) (↑(nn (Int.toNat ((2000 : Int) - (0 : Int))) (itB (rowB b)) (0 : Int)) : Int))) (6 : Nat))), AV.v (Value.int IntKind.i64 (gg (Int.toNat ((2000 : Int) - (0 : Int))) (itB (rowB b)) (0 : Int) (Int.toNat (pk (Int.toNat ((2000 : Int) - (0 : Int))) (itB (rowB b)) (pp (Int.toNat ((2000 : Int) - (0 : Int))) (itB (rowB b)) (0 : Int) + (1 : Int)) (↑(nn (Int.toNat ((2000 : Int) - (0 : Int))) (itB (rowB b)) (0 : Int)) : Int))) (7 : Nat)))]]] [AB.row false m (1 : Nat) (rowB b) (5 : TypeId), AB.row true (nn (Int.toNat ((2000 : Int) - (0 : Int))) (itB (rowB b)) (0 : Int)) (8 : Nat) (row8 (gg (Int.toNat ((2000 : Int) - (0 : Int))) (itB (rowB b)) (0 : Int))) (40 : TypeId)]) else needs [okB m (rowB b), decide (Int.toNat ((2000 : Int) - (0 : Int)) ≤ m), decide ((0 : Int) ≤ pp (Int.toNat ((2000 : Int) - (0 : Int))) (itB (rowB b)) (0 : Int) + (1 : Int)), decide (pp (Int.toNat ((2000 : Int) - (0 : Int))) (itB (rowB b)) (0 : Int) + (1 : Int) ≤ (1073741824 : Int)), decide ((0 : Nat) < m)] (bif pk (Int.toNat ((2000 : Int) - (0 : Int))) (itB (rowB b)) (pp (Int.toNat ((2000 : Int) - (0 : Int))) (itB (rowB b)) (0 : Int) + (1 : Int)) (2 : Int) == (0 : Int) then needs [okB m (rowB b), decide (Int.toNat ((2000 : Int) - (0 : Int)) ≤ m), decide ((0 : Int) ≤ pp (Int.toNat ((2000 : Int) - (0 : Int))) (itB (rowB b)) (0 : Int) + (1 : Int) + (1 : Int)), decide (pp (Int.toNat ((2000 : Int) - (0 : Int))) (itB (rowB b)) (0 : Int) + (1 : Int) + (1 : Int) ≤ (1073741824 : Int)), decide ((0 : Nat) < m), okB m (rowB b), decide (Int.toNat ((2000 : Int) - (0 : Int)) ≤ m), decide ((0 : Int) ≤ pp (Int.toNat ((2000 : Int) - (0 : Int))) (itB (rowB b)) (0 : Int) + (1 : Int) + (1 : Int) + (1 : Int)), decide (pp (Int.toNat ((2000 : Int) - (0 : Int))) (itB (rowB b)) (0 : Int) + (1 : Int) + (1 : Int) + (1 : Int) ≤ (1073741824 : Int)), decide ((0 : Nat) < m)] (Res.out Ex.ret [AV.tup [AV.own (1 : Nat) (nn (Int.toNat ((2000 : Int) - (0 : Int))) (itB (rowB b)) (0 : Int)), AV.agg [AV.v (Value.int IntKind.i64 (IntKind.wrap IntKind.i64 (pk (Int.toNat ((2000 : Int) - (0 : Int))) (itB (rowB b)) (pp (Int.toNat ((2000 : Int) - (0 : Int))) (itB (rowB b)) (0 : Int) + (1 : Int) + (1 : Int)) (5 : Int) - (2 : Int)))), AV.v (Value.int IntKind.i64 (0 : Int)), AV.v (Value.int IntKind.i64 (0 : Int)), AV.v (Value.int IntKind.i64 (0 : Int)), AV.v (Value.int IntKind.i64 (0 : Int)), AV.v (Value.int IntKind.i64 (0 : Int)), AV.v (Value.int IntKind.i64 (IntKind.wrap IntKind.i64 (pk (Int.toNat ((2000 : Int) - (0 : Int))) (itB (rowB b)) (pp (Int.toNat ((2000 : Int) - (0 : Int))) (itB (rowB b)) (0 : Int) + (1 : Int) + (1 : Int) + (1 : Int)) (5 : Int) - (2 : Int)))), AV.v (Value.int IntKind.i64 (0 : Int))]]] [AB.row false m (1 : Nat) (rowB b) (5 : TypeId), AB.row true (nn (Int.toNat ((2000 : Int) - (0 : Int))) (itB (rowB b)) (0 : Int)) (8 : Nat) (row8 (gg (Int.toNat ((2000 : Int) - (0 : Int))) (itB (rowB b)) (0 : Int))) (40 : TypeId)]) else needs [okB m (rowB b), decide (Int.toNat ((2000 : Int) - (0 : Int)) ≤ m), decide ((0 : Int) ≤ pp (Int.toNat ((2000 : Int) - (0 : Int))) (itB (rowB b)) (0 : Int) + (1 : Int) + (1 : Int)), decide (pp (Int.toNat ((2000 : Int) - (0 : Int))) (itB (rowB b)) (0 : Int) + (1 : Int) + (1 : Int) ≤ (536870912 : Int)), decide ((0 : Nat) < m), decide ((0 : Nat) < m)] (Res.out Ex.ret [AV.tup [AV.own (1 : Nat) (nn (Int.toNat ((2000 : Int) - (0 : Int))) (itB (rowB b)) (0 : Int)), AV.agg [AV.v (Value.int IntKind.i64 (cf (Int.toNat ((2000 : Int) - (0 : Int))) (itB (rowB b)) (pp (Int.toNat ((2000 : Int) - (0 : Int))) (itB (rowB b)) (0 : Int) + (1 : Int) + (1 : Int)) (0 : Nat))), AV.v (Value.int IntKind.i64 (cf (Int.toNat ((2000 : Int) - (0 : Int))) (itB (rowB b)) (pp (Int.toNat ((2000 : Int) - (0 : Int))) (itB (rowB b)) (0 : Int) + (1 : Int) + (1 : Int)) (1 : Nat))), AV.v (Value.int IntKind.i64 (cf (Int.toNat ((2000 : Int) - (0 : Int))) (itB (rowB b)) (pp (Int.toNat ((2000 : Int) - (0 : Int))) (itB (rowB b)) (0 : Int) + (1 : Int) + (1 : Int)) (2 : Nat))), AV.v (Value.int IntKind.i64 (cf (Int.toNat ((2000 : Int) - (0 : Int))) (itB (rowB b)) (pp (Int.toNat ((2000 : Int) - (0 : Int))) (itB (rowB b)) (0 : Int) + (1 : Int) + (1 : Int)) (3 : Nat))), AV.v (Value.int IntKind.i64 (cf (Int.toNat ((2000 : Int) - (0 : Int))) (itB (rowB b)) (pp (Int.toNat ((2000 : Int) - (0 : Int))) (itB (rowB b)) (0 : Int) + (1 : Int) + (1 : Int)) (4 : Nat))), AV.v (Value.int IntKind.i64 (cf (Int.toNat ((2000 : Int) - (0 : Int))) (itB (rowB b)) (pp (Int.toNat ((2000 : Int) - (0 : Int))) (itB (rowB b)) (0 : Int) + (1 : Int) + (1 : Int)) (5 : Nat))), AV.v (Value.int IntKind.i64 (cf (Int.toNat ((2000 : Int) - (0 : Int))) (itB (rowB b)) (pp (Int.toNat ((2000 : Int) - (0 : Int))) (itB (rowB b)) (0 : Int) + (1 : Int) + (1 : Int)) (6 : Nat))), AV.v (Value.int IntKind.i64 (cf (Int.toNat ((2000 : Int) - (0 : Int))) (itB (rowB b)) (pp (Int.toNat ((2000 : Int) - (0 : Int))) (itB (rowB b)) (0 : Int) + (1 : Int) + (1 : Int)) (7 : Nat)))]]] [AB.row false m (1 : Nat) (rowB b) (5 : TypeId), AB.row true (nn (Int.toNat ((2000 : Int) - (0 : Int))) (itB (rowB b)) (0 : Int)) (8 : Nat) (row8 (gg (Int.toNat ((2000 : Int) - (0 : Int))) (itB (rowB b)) (0 : Int))) (40 : TypeId)]))) else needs [okB m (rowB b), decide (Int.toNat ((2000 : Int) - (0 : Int)) ≤ m), decide ((0 : Int) ≤ pp (Int.toNat ((2000 : Int) - (0 : Int))) (itB (rowB b)) (0 : Int)), decide (pp (Int.toNat ((2000 : Int) - (0 : Int))) (itB (rowB b)) (0 : Int) ≤ (1073741824 : Int)), decide ((0 : Nat) < m)] (bif pk (Int.toNat ((2000 : Int) - (0 : Int))) (itB (rowB b)) (pp (Int.toNat ((2000 : Int) - (0 : Int))) (itB (rowB b)) (0 : Int)) (2 : Int) == (0 : Int) then needs [okB m (rowB b), decide (Int.toNat ((2000 : Int) - (0 : Int)) ≤ m), decide ((0 : Int) ≤ pp (Int.toNat ((2000 : Int) - (0 : Int))) (itB (rowB b)) (0 : Int) + (1 : Int)), decide (pp (Int.toNat ((2000 : Int) - (0 : Int))) (itB (rowB b)) (0 : Int) + (1 : Int) ≤ (1073741824 : Int)), decide ((0 : Nat) < m), okB m (rowB b), decide (Int.toNat ((2000 : Int) - (0 : Int)) ≤ m), decide ((0 : Int) ≤ pp (Int.toNat ((2000 : Int) - (0 : Int))) (itB (rowB b)) (0 : Int) + (1 : Int) + (1 : Int)), decide (pp (Int.toNat ((2000 : Int) - (0 : Int))) (itB (rowB b)) (0 : Int) + (1 : Int) + (1 : Int) ≤ (1073741824 : Int)), decide ((0 : Nat) < m)] (Res.out Ex.ret [AV.tup [AV.own (1 : Nat) (nn (Int.toNat ((2000 : Int) - (0 : Int))) (itB (rowB b)) (0 : Int)), AV.agg [AV.v (Value.int IntKind.i64 (IntKind.wrap IntKind.i64 (pk (Int.toNat ((2000 : Int) - (0 : Int))) (itB (rowB b)) (pp (Int.toNat ((2000 : Int) - (0 : Int))) (itB (rowB b)) (0 : Int) + (1 : Int)) (5 : Int) - (2 : Int)))), AV.v (Value.int IntKind.i64 (0 : Int)), AV.v (Value.int IntKind.i64 (0 : Int)), AV.v (Value.int IntKind.i64 (0 : Int)), AV.v (Value.int IntKind.i64 (0 : Int)), AV.v (Value.int IntKind.i64 (0 : Int)), AV.v (Value.int IntKind.i64 (IntKind.wrap IntKind.i64 (pk (Int.toNat ((2000 : Int) - (0 : Int))) (itB (rowB b)) (pp (Int.toNat ((2000 : Int) - (0 : Int))) (itB (rowB b)) (0 : Int) + (1 : Int) + (1 : Int)) (5 : Int) - (2 : Int)))), AV.v (Value.int IntKind.i64 (0 : Int))]]] [AB.row false m (1 : Nat) (rowB b) (5 : TypeId), AB.row true (nn (Int.toNat ((2000 : Int) - (0 : Int))) (itB (rowB b)) (0 : Int)) (8 : Nat) (row8 (gg (Int.toNat ((2000 : Int) - (0 : Int))) (itB (rowB b)) (0 : Int))) (40 : TypeId)]) else needs [okB m (rowB b), decide (Int.toNat ((2000 : Int) - (0 : Int)) ≤ m), decide ((0 : Int) ≤ pp (Int.toNat ((2000 : Int) - (0 : Int))) (itB (rowB b)) (0 : Int) + (1 : Int)), decide (pp (Int.toNat ((2000 : Int) - (0 : Int))) (itB (rowB b)) (0 : Int) + (1 : Int) ≤ (536870912 : Int)), decide ((0 : Nat) < m), decide ((0 : Nat) < m)] (Res.out Ex.ret [AV.tup [AV.own (1 : Nat) (nn (Int.toNat ((2000 : Int) - (0 : Int))) (itB (rowB b)) (0 : Int)), AV.agg [AV.v (Value.int IntKind.i64 (cf (Int.toNat ((2000 : Int) - (0 : Int))) (itB (rowB b)) (pp (Int.toNat ((2000 : Int) - (0 : Int))) (itB (rowB b)) (0 : Int) + (1 : Int)) (0 : Nat))), AV.v (Value.int IntKind.i64 (cf (Int.toNat ((2000 : Int) - (0 : Int))) (itB (rowB b)) (pp (Int.toNat ((2000 : Int) - (0 : Int))) (itB (rowB b)) (0 : Int) + (1 : Int)) (1 : Nat))), AV.v (Value.int IntKind.i64 (cf (Int.toNat ((2000 : Int) - (0 : Int))) (itB (rowB b)) (pp (Int.toNat ((2000 : Int) - (0 : Int))) (itB (rowB b)) (0 : Int) + (1 : Int)) (2 : Nat))), AV.v (Value.int IntKind.i64 (cf (Int.toNat ((2000 : Int) - (0 : Int))) (itB (rowB b)) (pp (Int.toNat ((2000 : Int) - (0 : Int))) (itB (rowB b)) (0 : Int) + (1 : Int)) (3 : Nat))), AV.v (Value.int IntKind.i64 (cf (Int.toNat ((2000 : Int) - (0 : Int))) (itB (rowB b)) (pp (Int.toNat ((2000 : Int) - (0 : Int))) (itB (rowB b)) (0 : Int) + (1 : Int)) (4 : Nat))), AV.v (Value.int IntKind.i64 (cf (Int.toNat ((2000 : Int) - (0 : Int))) (itB (rowB b)) (pp (Int.toNat ((2000 : Int) - (0 : Int))) (itB (rowB b)) (0 : Int) + (1 : Int)) (5 : Nat))), AV.v (Value.int IntKind.i64 (cf (Int.toNat ((2000 : Int) - (0 : Int))) (itB (rowB b)) (pp (Int.toNat ((2000 : Int) - (0 : Int))) (itB (rowB b)) (0 : Int) + (1 : Int)) (6 : Nat))), AV.v (Value.int IntKind.i64 (cf (Int.toNat ((2000 : Int) - (0 : Int))) (itB (rowB b)) (pp (Int.toNat ((2000 : Int) - (0 : Int))) (itB (rowB b)) (0 : Int) + (1 : Int)) (7 : Nat)))]]] [AB.row false m (1 : Nat) (rowB b) (5 : TypeId), AB.row true (nn (Int.toNat ((2000 : Int) - (0 : Int))) (itB (rowB b)) (0 : Int)) (8 : Nat) (row8 (gg (Int.toNat ((2000 : Int) - (0 : Int))) (itB (rowB b)) (0 : Int))) (40 : TypeId)]))) else needs [okB m (rowB b), decide (m ≤ m), decide ((0 : Nat) < m), decide ((0 : Nat) < m)] (bif decide ((↑(nn m (itB (rowB b)) (0 : Int)) : Int) > (0 : Int)) then needs [okB m (rowB b), decide (m ≤ m), decide ((0 : Int) ≤ pp m (itB (rowB b)) (0 : Int)), decide (pp m (itB (rowB b)) (0 : Int) ≤ (1073741824 : Int)), decide ((0 : Nat) < m)] (bif pk m (itB (rowB b)) (pp m (itB (rowB b)) (0 : Int)) (6 : Int) == (0 : Int) then needs [okB m (rowB b), decide (m ≤ m), decide ((0 : Int) ≤ pp m (itB (rowB b)) (0 : Int) + (1 : Int)), decide (pp m (itB (rowB b)) (0 : Int) + (1 : Int) ≤ (1073741824 : Int)), decide ((0 : Nat) < m), decide ((0 : Int) ≤ pk m (itB (rowB b)) (pp m (itB (rowB b)) (0 : Int) + (1 : Int)) (↑(nn m (itB (rowB b)) (0 : Int)) : Int)), decide (pk m (itB (rowB b)) (pp m (itB (rowB b)) (0 : Int) + (1 : Int)) (↑(nn m (itB (rowB b)) (0 : Int)) : Int) < (↑(nn m (itB (rowB b)) (0 : Int)) : Int)), decide (Int.toNat (pk m (itB (rowB b)) (pp m (itB (rowB b)) (0 : Int) + (1 : Int)) (↑(nn m (itB (rowB b)) (0 : Int)) : Int)) < nn m (itB (rowB b)) (0 : Int))] (Res.out Ex.ret [AV.tup [AV.own (1 : Nat) (nn m (itB (rowB b)) (0 : Int)), AV.agg [AV.v (Value.int IntKind.i64 (gg m (itB (rowB b)) (0 : Int) (Int.toNat (pk m (itB (rowB b)) (pp m (itB (rowB b)) (0 : Int) + (1 : Int)) (↑(nn m (itB (rowB b)) (0 : Int)) : Int))) (0 : Nat))), AV.v (Value.int IntKind.i64 (gg m (itB (rowB b)) (0 : Int) (Int.toNat (pk m (itB (rowB b)) (pp m (itB (rowB b)) (0 : Int) + (1 : Int)) (↑(nn m (itB (rowB b)) (0 : Int)) : Int))) (1 : Nat))), AV.v (Value.int IntKind.i64 (gg m (itB (rowB b)) (0 : Int) (Int.toNat (pk m (itB (rowB b)) (pp m (itB (rowB b)) (0 : Int) + (1 : Int)) (↑(nn m (itB (rowB b)) (0 : Int)) : Int))) (2 : Nat))), AV.v (Value.int IntKind.i64 (gg m (itB (rowB b)) (0 : Int) (Int.toNat (pk m (itB (rowB b)) (pp m (itB (rowB b)) (0 : Int) + (1 : Int)) (↑(nn m (itB (rowB b)) (0 : Int)) : Int))) (3 : Nat))), AV.v (Value.int IntKind.i64 (gg m (itB (rowB b)) (0 : Int) (Int.toNat (pk m (itB (rowB b)) (pp m (itB (rowB b)) (0 : Int) + (1 : Int)) (↑(nn m (itB (rowB b)) (0 : Int)) : Int))) (4 : Nat))), AV.v (Value.int IntKind.i64 (gg m (itB (rowB b)) (0 : Int) (Int.toNat (pk m (itB (rowB b)) (pp m (itB (rowB b)) (0 : Int) + (1 : Int)) (↑(nn m (itB (rowB b)) (0 : Int)) : Int))) (5 : Nat))), AV.v (Value.int IntKind.i64 (gg m (itB (rowB b)) (0 : Int) (Int.toNat (pk m (itB (rowB b)) (pp m (itB (rowB b)) (0 : Int) + (1 : Int)) (↑(nn m (itB (rowB b)) (0 : Int)) : Int))) (6 : Nat))), AV.v (Value.int IntKind.i64 (gg m (itB (rowB b)) (0 : Int) (Int.toNat (pk m (itB (rowB b)) (pp m (itB (rowB b)) (0 : Int) + (1 : Int)) (↑(nn m (itB (rowB b)) (0 : Int)) : Int))) (7 : Nat)))]]] [AB.row false m (1 : Nat) (rowB b) (5 : TypeId), AB.row true (nn m (itB (rowB b)) (0 : Int)) (8 : Nat) (row8 (gg m (itB (rowB b)) (0 : Int))) (40 : TypeId)]) else needs [okB m (rowB b), decide (m ≤ m), decide ((0 : Int) ≤ pp m (itB (rowB b)) (0 : Int) + (1 : Int)), decide (pp m (itB (rowB b)) (0 : Int) + (1 : Int) ≤ (1073741824 : Int)), decide ((0 : Nat) < m)] (bif pk m (itB (rowB b)) (pp m (itB (rowB b)) (0 : Int) + (1 : Int)) (2 : Int) == (0 : Int) then needs [okB m (rowB b), decide (m ≤ m), decide ((0 : Int) ≤ pp m (itB (rowB b)) (0 : Int) + (1 : Int) + (1 : Int)), decide (pp m (itB (rowB b)) (0 : Int) + (1 : Int) + (1 : Int) ≤ (1073741824 : Int)), decide ((0 : Nat) < m), okB m (rowB b), decide (m ≤ m), decide ((0 : Int) ≤ pp m (itB (rowB b)) (0 : Int) + (1 : Int) + (1 : Int) + (1 : Int)), decide (pp m (itB (rowB b)) (0 : Int) + (1 : Int) + (1 : Int) + (1 : Int) ≤ (1073741824 : Int)), decide ((0 : Nat) < m)] (Res.out Ex.ret [AV.tup [AV.own (1 : Nat) (nn m (itB (rowB b)) (0 : Int)), AV.agg [AV.v (Value.int IntKind.i64 (IntKind.wrap IntKind.i64 (pk m (itB (rowB b)) (pp m (itB (rowB b)) (0 : Int) + (1 : Int) + (1 : Int)) (5 : Int) - (2 : Int)))), AV.v (Value.int IntKind.i64 (0 : Int)), AV.v (Value.int IntKind.i64 (0 : Int)), AV.v (Value.int IntKind.i64 (0 : Int)), AV.v (Value.int IntKind.i64 (0 : Int)), AV.v (Value.int IntKind.i64 (0 : Int)), AV.v (Value.int IntKind.i64 (IntKind.wrap IntKind.i64 (pk m (itB (rowB b)) (pp m (itB (rowB b)) (0 : Int) + (1 : Int) + (1 : Int) + (1 : Int)) (5 : Int) - (2 : Int)))), AV.v (Value.int IntKind.i64 (0 : Int))]]] [AB.row false m (1 : Nat) (rowB b) (5 : TypeId), AB.row true (nn m (itB (rowB b)) (0 : Int)) (8 : Nat) (row8 (gg m (itB (rowB b)) (0 : Int))) (40 : TypeId)]) else needs [okB m (rowB b), decide (m ≤ m), decide ((0 : Int) ≤ pp m (itB (rowB b)) (0 : Int) + (1 : Int) + (1 : Int)), decide (pp m (itB (rowB b)) (0 : Int) + (1 : Int) + (1 : Int) ≤ (536870912 : Int)), decide ((0 : Nat) < m), decide ((0 : Nat) < m)] (Res.out Ex.ret [AV.tup [AV.own (1 : Nat) (nn m (itB (rowB b)) (0 : Int)), AV.agg [AV.v (Value.int IntKind.i64 (cf m (itB (rowB b)) (pp m (itB (rowB b)) (0 : Int) + (1 : Int) + (1 : Int)) (0 : Nat))), AV.v (Value.int IntKind.i64 (cf m (itB (rowB b)) (pp m (itB (rowB b)) (0 : Int) + (1 : Int) + (1 : Int)) (1 : Nat))), AV.v (Value.int IntKind.i64 (cf m (itB (rowB b)) (pp m (itB (rowB b)) (0 : Int) + (1 : Int) + (1 : Int)) (2 : Nat))), AV.v (Value.int IntKind.i64 (cf m (itB (rowB b)) (pp m (itB (rowB b)) (0 : Int) + (1 : Int) + (1 : Int)) (3 : Nat))), AV.v (Value.int IntKind.i64 (cf m (itB (rowB b)) (pp m (itB (rowB b)) (0 : Int) + (1 : Int) + (1 : Int)) (4 : Nat))), AV.v (Value.int IntKind.i64 (cf m (itB (rowB b)) (pp m (itB (rowB b)) (0 : Int) + (1 : Int) + (1 : Int)) (5 : Nat))), AV.v (Value.int IntKind.i64 (cf m (itB (rowB b)) (pp m (itB (rowB b)) (0 : Int) + (1 : Int) + (1 : Int)) (6 : Nat))), AV.v (Value.int IntKind.i64 (cf m (itB (rowB b)) (pp m (itB (rowB b)) (0 : Int) + (1 : Int) + (1 : Int)) (7 : Nat)))]]] [AB.row false m (1 : Nat) (rowB b) (5 : TypeId), AB.row true (nn m (itB (rowB b)) (0 : Int)) (8 : Nat) (row8 (gg m (itB (rowB b)) (0 : Int))) (40 : TypeId)]))) else needs [okB m (rowB b), decide (m ≤ m), decide ((0 : Int) ≤ pp m (itB (rowB b)) (0 : Int)), decide (pp m (itB (rowB b)) (0 : Int) ≤ (1073741824 : Int)), decide ((0 : Nat) < m)] (bif pk m (itB (rowB b)) (pp m (itB (rowB b)) (0 : Int)) (2 : Int) == (0 : Int) then needs [okB m (rowB b), decide (m ≤ m), decide ((0 : Int) ≤ pp m (itB (rowB b)) (0 : Int) + (1 : Int)), decide (pp m (itB (rowB b)) (0 : Int) + (1 : Int) ≤ (1073741824 : Int)), decide ((0 : Nat) < m), okB m (rowB b), decide (m ≤ m), decide ((0 : Int) ≤ pp m (itB (rowB b)) (0 : Int) + (1 : Int) + (1 : Int)), decide (pp m (itB (rowB b)) (0 : Int) + (1 : Int) + (1 : Int) ≤ (1073741824 : Int)), decide ((0 : Nat) < m)] (Res.out Ex.ret [AV.tup [AV.own (1 : Nat) (nn m (itB (rowB b)) (0 : Int)), AV.agg [AV.v (Value.int IntKind.i64 (IntKind.wrap IntKind.i64 (pk m (itB (rowB b)) (pp m (itB (rowB b)) (0 : Int) + (1 : Int)) (5 : Int) - (2 : Int)))), AV.v (Value.int IntKind.i64 (0 : Int)), AV.v (Value.int IntKind.i64 (0 : Int)), AV.v (Value.int IntKind.i64 (0 : Int)), AV.v (Value.int IntKind.i64 (0 : Int)), AV.v (Value.int IntKind.i64 (0 : Int)), AV.v (Value.int IntKind.i64 (IntKind.wrap IntKind.i64 (pk m (itB (rowB b)) (pp m (itB (rowB b)) (0 : Int) + (1 : Int) + (1 : Int)) (5 : Int) - (2 : Int)))), AV.v (Value.int IntKind.i64 (0 : Int))]]] [AB.row false m (1 : Nat) (rowB b) (5 : TypeId), AB.row true (nn m (itB (rowB b)) (0 : Int)) (8 : Nat) (row8 (gg m (itB (rowB b)) (0 : Int))) (40 : TypeId)]) else needs [okB m (rowB b), decide (m ≤ m), decide ((0 : Int) ≤ pp m (itB (rowB b)) (0 : Int) + (1 : Int)), decide (pp m (itB (rowB b)) (0 : Int) + (1 : Int) ≤ (536870912 : Int)), decide ((0 : Nat) < m), decide ((0 : Nat) < m)] (Res.out Ex.ret [AV.tup [AV.own (1 : Nat) (nn m (itB (rowB b)) (0 : Int)), AV.agg [AV.v (Value.int IntKind.i64 (cf m (itB (rowB b)) (pp m (itB (rowB b)) (0 : Int) + (1 : Int)) (0 : Nat))), AV.v (Value.int IntKind.i64 (cf m (itB (rowB b)) (pp m (itB (rowB b)) (0 : Int) + (1 : Int)) (1 : Nat))), AV.v (Value.int IntKind.i64 (cf m (itB (rowB b)) (pp m (itB (rowB b)) (0 : Int) + (1 : Int)) (2 : Nat))), AV.v (Value.int IntKind.i64 (cf m (itB (rowB b)) (pp m (itB (rowB b)) (0 : Int) + (1 : Int)) (3 : Nat))), AV.v (Value.int IntKind.i64 (cf m (itB (rowB b)) (pp m (itB (rowB b)) (0 : Int) + (1 : Int)) (4 : Nat))), AV.v (Value.int IntKind.i64 (cf m (itB (rowB b)) (pp m (itB (rowB b)) (0 : Int) + (1 : Int)) (5 : Nat))), AV.v (Value.int IntKind.i64 (cf m (itB (rowB b)) (pp m (itB (rowB b)) (0 : Int) + (1 : Int)) (6 : Nat))), AV.v (Value.int IntKind.i64 (cf m (itB (rowB b)) (pp m (itB (rowB b)) (0 : Int) + (1 : Int)) (7 : Nat)))]]] [AB.row false m (1 : Nat) (rowB b) (5 : TypeId), AB.row true (nn m (itB (rowB b)) (0 : Int)) (8 : Nat) (row8 (gg m (itB (rowB b)) (0 : Int))) (40 : TypeId)]))) := by kernel_rfl

theorem treeRPWi0 (q : Option Addr) (c : Nat) (g : Nat → List Value) : execF Try.prog gmDrP0 noLam 100 Try.f30 [.v (.slice q 0 c)] [.row false 0 1 g 5] (packK 1)
    = Res.out Ex.ret [AV.tup [AV.own (1 : Nat) (0 : Nat), AV.agg [AV.v (Value.int IntKind.i64 (-2 : Int)), AV.v (Value.int IntKind.i64 (0 : Int)), AV.v (Value.int IntKind.i64 (0 : Int)), AV.v (Value.int IntKind.i64 (0 : Int)), AV.v (Value.int IntKind.i64 (0 : Int)), AV.v (Value.int IntKind.i64 (0 : Int)), AV.v (Value.int IntKind.i64 (-2 : Int)), AV.v (Value.int IntKind.i64 (0 : Int))]]] [AB.row false (0 : Nat) (1 : Nat) g (5 : TypeId), AB.row true (0 : Nat) (8 : Nat) (row8 fun _ _ ↦ (0 : Int)) (40 : TypeId)] := by kernel_rfl

theorem ok_drPWi : SpecOk Try.prog 30 (specR md_co (FdrO fun m b => frCC (bPN m b) (bPG m b) (bPC m b))) := by
  refine draw_ok Try.func30 rfl (fun m b h0 hm hb => ⟨_, gmAr_ok, ?_⟩) fun q c g b => ⟨_, gmDrP0_ok, ?_⟩
  · rw [treeRPWi, itB_row]
    have e : bPN m b = plN (lnB m) b 0 := by unfold bPN; rw [if_neg (by omega)]
    have e' : bPG m b = plG (lnB m) b 0 := by unfold bPG; rw [if_neg (by omega)]
    have e'' : bPC m b = arC (lnB m) b := by unfold bPC; rw [if_neg (by omega)]
    rw [e, e', e'']
    refine good_ln (fun e1 hc => ?_) fun e1 hc => ?_
    all_goals
      rw [e1]
      try rw [show Int.toNat ((2000 : Int) - 0) = 2000 from rfl]
    · have hp := plP_in 2000 b 0
      have hn := plN_le 2000 b 0
      have hk0 := pkV_nn 2000 b (plP 2000 b 0 + 1) (plN 2000 b 0)
      refine ⟨by simp only [ob_cons, ob_nil, and_true, decide_eq_true_eq, hb, true_and]; omega, ?_⟩
      refine good_cond (fun q0 => good_needs ?_ (good_cond (fun q1 => good_needs ?_ (good_out ⟨_, rfl, ?_, Hsim.refl _⟩)) fun q1 => good_needs ?_ (good_cond (fun q2 => good_needs ?_ (good_out ⟨_, rfl, ?_, Hsim.refl _⟩)) fun q2 => good_needs ?_ (good_out ⟨_, rfl, ?_, Hsim.refl _⟩)))) fun q0 => good_needs ?_ (good_cond (fun q1 => good_needs ?_ (good_out ⟨_, rfl, ?_, Hsim.refl _⟩)) fun q1 => good_needs ?_ (good_out ⟨_, rfl, ?_, Hsim.refl _⟩))
      all_goals first
        | (simp only [ob_cons, ob_nil, and_true, decide_eq_true_eq, hb, true_and]; omega)
        | (have q0' := of_decide_eq_true q0; have hk1 := pkV_lt 2000 b (plP 2000 b 0 + 1) (n := (plN 2000 b 0 : Int)) (by omega); simp only [ob_cons, ob_nil, and_true, decide_eq_true_eq, hb, true_and]; omega)
        | (show _ = [AV.tup [.own 1 (plN 2000 b 0), .agg (cA (arC 2000 b))]]; unfold arC; simp only [q0, q1, q2, cond_true, cond_false]; rfl)
        | (show _ = [AV.tup [.own 1 (plN 2000 b 0), .agg (cA (arC 2000 b))]]; unfold arC; simp only [q0, q1, cond_true, cond_false]; rfl)
    · have hp := plP_in m b 0
      have hn := plN_le m b 0
      have hk0 := pkV_nn m b (plP m b 0 + 1) (plN m b 0)
      refine ⟨by simp only [ob_cons, ob_nil, and_true, decide_eq_true_eq, hb, true_and]; omega, ?_⟩
      refine good_cond (fun q0 => good_needs ?_ (good_cond (fun q1 => good_needs ?_ (good_out ⟨_, rfl, ?_, Hsim.refl _⟩)) fun q1 => good_needs ?_ (good_cond (fun q2 => good_needs ?_ (good_out ⟨_, rfl, ?_, Hsim.refl _⟩)) fun q2 => good_needs ?_ (good_out ⟨_, rfl, ?_, Hsim.refl _⟩)))) fun q0 => good_needs ?_ (good_cond (fun q1 => good_needs ?_ (good_out ⟨_, rfl, ?_, Hsim.refl _⟩)) fun q1 => good_needs ?_ (good_out ⟨_, rfl, ?_, Hsim.refl _⟩))
      all_goals first
        | (simp only [ob_cons, ob_nil, and_true, decide_eq_true_eq, hb, true_and]; omega)
        | (have q0' := of_decide_eq_true q0; have hk1 := pkV_lt m b (plP m b 0 + 1) (n := (plN m b 0 : Int)) (by omega); simp only [ob_cons, ob_nil, and_true, decide_eq_true_eq, hb, true_and]; omega)
        | (show _ = [AV.tup [.own 1 (plN m b 0), .agg (cA (arC m b))]]; unfold arC; simp only [q0, q1, q2, cond_true, cond_false]; rfl)
        | (show _ = [AV.tup [.own 1 (plN m b 0), .agg (cA (arC m b))]]; unfold arC; simp only [q0, q1, cond_true, cond_false]; rfl)
  · rw [treeRPWi0]
    exact good_out ⟨_, rfl, rfl, .cons (ABeq.refl _) (.cons (ABeq.row fun j hj => rfl) .nil)⟩

end Go.Proofs.Ytoligfhcogligaa

/- on of the program, l8On of the reference, PolyOn: their trees. Conditions: a list of points. -/
namespace Go.Proofs.Ytoligfhcogligaa
open Go.RowKit
set_option maxRecDepth 100000

noncomputable def bOn : Code := (Try.f69).body.getD .skip
noncomputable def onR0 : Code := sqA bOn
noncomputable def onP2 : Code := sqA (sqA (sqB bOn))
noncomputable def onRest : Code := sqB (sqB bOn)
noncomputable def onAs : Code := rfA (blB (sqB (sqA (sqB bOn))))
noncomputable def onBd : Code := rfB (blB (sqB (sqA (sqB bOn))))
theorem bOn_eq : (Try.f69).body = some (nestL [onR0] (.seq (.seq onP2 (.block 0 (.rangeFunc (.tmp 9) #[10] onAs onBd))) onRest)) := by kernel_rfl
def fMn (mn : (Nat → Int) → (Nat → Int) → Nat → Int) : List Value → Option (Value × List Bool)
  | [.agg ⟨[.int .i64 a0, .int .i64 a1, .int .i64 a2, .int .i64 a3, .int .i64 a4, .int .i64 a5, .int .i64 a6, .int .i64 a7]⟩, .agg ⟨[.int .i64 b0, .int .i64 b1, .int .i64 b2, .int .i64 b3, .int .i64 b4, .int .i64 b5, .int .i64 b6, .int .i64 b7]⟩] => some (cyv (mn (v8 a0 a1 a2 a3 a4 a5 a6 a7) (v8 b0 b1 b2 b3 b4 b5 b6 b7)), [])
  | _ => none
theorem fMn_minus : fMn (fun p q => plusF p (scaledF q (-1))) = f_minus := by funext vs; unfold fMn f_minus; rfl
theorem fAl_cr : fAl (fun p q => imF (mulF (mirF p) q)) = f_cross := by funext vs; unfold fAl f_cross; rfl
def gmOn (mn cr al : (Nat → Int) → (Nat → Int) → Nat → Int) (sg : (Nat → Int) → Int) (ob : Int → Bool) : Gam := ext (ext (ext (ext g0 72 (specV (fMn mn))) 59 (specV (fAl cr))) 50 (specV (fAl al))) 51 (specV (fSn sg ob))
abbrev ttOn : List AV := mkT 0 35 [(3, .ptr 1 0 0 0), (4, .ptr 2 0 0 0), (9, .fn 99 [.ptr 3 0 0 0])]
abbrev hpOn0 (a : Nat → Nat → Int) (m : Nat) (c : Nat → Int) (t : TypeId) (r : Bool) : List AB := [.row false m 8 (row8 a) t, .cells [.v (i64 (c 0)), .v (i64 (c 1)), .v (i64 (c 2)), .v (i64 (c 3)), .v (i64 (c 4)), .v (i64 (c 5)), .v (i64 (c 6)), .v (i64 (c 7))] 40, .cells [.v (.bool r)] 4]
abbrev hhOn (a : Nat → Nat → Int) (m : Nat) (c : Nat → Int) (t : TypeId) : List AB := hpOn0 a m c t false ++ [.cells [.sl 0 8 0 0 m none] 23]
theorem preOn (mn cr al : (Nat → Int) → (Nat → Int) → Nat → Int) (sg : (Nat → Int) → Int) (ob : Int → Bool) (a : Nat → Nat → Int) (m : Nat) (c : Nat → Int) (t : TypeId) : execL Try.prog (gmOn mn cr al sg ob) 100 ([onR0] ++ [onP2]) ([.sl 0 8 0 0 m none, .v (cyv c)] ++ List.replicate ((Try.f69).ntmps - 2) (.v undef)) [.row false m 8 (row8 a) t] (leafK (lv3 [3, 4, 9] [] []) 1)
    = Res.out Ex.normal [AV.dead, AV.dead, AV.dead, AV.ptr (1 : Nat) (0 : Nat) (0 : Nat) (0 : Nat), AV.ptr (2 : Nat) (0 : Nat) (0 : Nat) (0 : Nat), AV.dead, AV.dead, AV.dead, AV.dead, AV.fn (99 : Nat) [AV.ptr (3 : Nat) (0 : Nat) (0 : Nat) (0 : Nat)], AV.dead, AV.dead, AV.dead, AV.dead, AV.dead, AV.dead, AV.dead, AV.dead, AV.dead, AV.dead, AV.dead, AV.dead, AV.dead, AV.dead, AV.dead, AV.dead, AV.dead, AV.dead, AV.dead, AV.dead, AV.dead, AV.dead, AV.dead, AV.dead, AV.dead] [AB.row false m (8 : Nat) (row8 a) t, AB.cells [AV.v (Value.int IntKind.i64 (c (0 : Nat))), AV.v (Value.int IntKind.i64 (c (1 : Nat))), AV.v (Value.int IntKind.i64 (c (2 : Nat))), AV.v (Value.int IntKind.i64 (c (3 : Nat))), AV.v (Value.int IntKind.i64 (c (4 : Nat))), AV.v (Value.int IntKind.i64 (c (5 : Nat))), AV.v (Value.int IntKind.i64 (c (6 : Nat))), AV.v (Value.int IntKind.i64 (c (7 : Nat)))] (40 : Nat), AB.cells [AV.v (Value.bool false)] (4 : Nat), AB.cells [AV.sl (0 : Nat) (8 : Nat) (0 : Nat) (0 : Nat) m none] (23 : Nat)] := by kernel_rfl

abbrev ttL1 : List AV := mkT 0 35 [(3, .ptr 1 0 0 0), (4, .ptr 2 0 0 0)]
abbrev hpOn (a : Nat → Nat → Int) (m : Nat) (c : Nat → Int) (t : TypeId) (r : Bool) : List AB := hpOn0 a m c t r ++ [.gone]
theorem rndOn (mn cr al : (Nat → Int) → (Nat → Int) → Nat → Int) (sg : (Nat → Int) → Int) (ob : Int → Bool) (a : Nat → Nat → Int) (m : Nat) (c : Nat → Int) (t : TypeId) (j : Nat) : execC Try.prog (gmOn mn cr al sg ob) 100 noLam onAs (parT [10] [pairV (a j) (a ((j + 1) % m))] ttL1) (hpOn a m c t false) (andK Try.prog (gmOn mn cr al sg ob) 100 onBd 4)
    = needs [ob (cr (w8 (mn (w8 (a ((j + (1 : Nat)) % m))) (w8 (a j)))) (w8 (mn (w8 c) (w8 (a j)))) (0 : Nat)), ob (cr (w8 (mn (w8 (a ((j + (1 : Nat)) % m))) (w8 (a j)))) (w8 (mn (w8 c) (w8 (a j)))) (1 : Nat)), ob (cr (w8 (mn (w8 (a ((j + (1 : Nat)) % m))) (w8 (a j)))) (w8 (mn (w8 c) (w8 (a j)))) (2 : Nat)), ob (cr (w8 (mn (w8 (a ((j + (1 : Nat)) % m))) (w8 (a j)))) (w8 (mn (w8 c) (w8 (a j)))) (3 : Nat))] (bif sg (w4 (cr (w8 (mn (w8 (a ((j + (1 : Nat)) % m))) (w8 (a j)))) (w8 (mn (w8 c) (w8 (a j)))))) == (0 : Int) then needs [ob (al (w8 (mn (w8 c) (w8 (a j)))) (w8 (mn (w8 c) (w8 (a ((j + (1 : Nat)) % m))))) (0 : Nat)), ob (al (w8 (mn (w8 c) (w8 (a j)))) (w8 (mn (w8 c) (w8 (a ((j + (1 : Nat)) % m))))) (1 : Nat)), ob (al (w8 (mn (w8 c) (w8 (a j)))) (w8 (mn (w8 c) (w8 (a ((j + (1 : Nat)) % m))))) (2 : Nat)), ob (al (w8 (mn (w8 c) (w8 (a j)))) (w8 (mn (w8 c) (w8 (a ((j + (1 : Nat)) % m))))) (3 : Nat))] (bif decide (sg (w4 (al (w8 (mn (w8 c) (w8 (a j)))) (w8 (mn (w8 c) (w8 (a ((j + (1 : Nat)) % m))))))) ≤ (0 : Int)) then Res.out Ex.ret [AV.dead, AV.dead, AV.dead, AV.dead, AV.dead, AV.dead, AV.dead, AV.dead, AV.dead, AV.dead, AV.dead, AV.dead, AV.dead, AV.dead, AV.dead, AV.dead, AV.dead, AV.dead, AV.dead, AV.dead, AV.dead, AV.dead, AV.dead, AV.dead, AV.dead, AV.dead, AV.dead, AV.dead, AV.dead, AV.dead, AV.dead, AV.dead, AV.dead, AV.dead, AV.dead] [AB.row false m (8 : Nat) (row8 a) t, AB.cells [AV.v (Value.int IntKind.i64 (c (0 : Nat))), AV.v (Value.int IntKind.i64 (c (1 : Nat))), AV.v (Value.int IntKind.i64 (c (2 : Nat))), AV.v (Value.int IntKind.i64 (c (3 : Nat))), AV.v (Value.int IntKind.i64 (c (4 : Nat))), AV.v (Value.int IntKind.i64 (c (5 : Nat))), AV.v (Value.int IntKind.i64 (c (6 : Nat))), AV.v (Value.int IntKind.i64 (c (7 : Nat)))] (40 : TypeId), AB.cells [AV.v (Value.bool true)] (4 : TypeId), AB.gone] else Res.out Ex.normal [AV.dead, AV.dead, AV.dead, AV.dead, AV.dead, AV.dead, AV.dead, AV.dead, AV.dead, AV.dead, AV.dead, AV.dead, AV.dead, AV.dead, AV.dead, AV.dead, AV.dead, AV.dead, AV.dead, AV.dead, AV.dead, AV.dead, AV.dead, AV.dead, AV.dead, AV.dead, AV.dead, AV.dead, AV.dead, AV.dead, AV.dead, AV.dead, AV.dead, AV.dead, AV.dead] [AB.row false m (8 : Nat) (row8 a) t, AB.cells [AV.v (Value.int IntKind.i64 (c (0 : Nat))), AV.v (Value.int IntKind.i64 (c (1 : Nat))), AV.v (Value.int IntKind.i64 (c (2 : Nat))), AV.v (Value.int IntKind.i64 (c (3 : Nat))), AV.v (Value.int IntKind.i64 (c (4 : Nat))), AV.v (Value.int IntKind.i64 (c (5 : Nat))), AV.v (Value.int IntKind.i64 (c (6 : Nat))), AV.v (Value.int IntKind.i64 (c (7 : Nat)))] (40 : TypeId), AB.cells [AV.v (Value.bool false)] (4 : TypeId), AB.gone]) else Res.out Ex.normal [AV.dead, AV.dead, AV.dead, AV.dead, AV.dead, AV.dead, AV.dead, AV.dead, AV.dead, AV.dead, AV.dead, AV.dead, AV.dead, AV.dead, AV.dead, AV.dead, AV.dead, AV.dead, AV.dead, AV.dead, AV.dead, AV.dead, AV.dead, AV.dead, AV.dead, AV.dead, AV.dead, AV.dead, AV.dead, AV.dead, AV.dead, AV.dead, AV.dead, AV.dead, AV.dead] [AB.row false m (8 : Nat) (row8 a) t, AB.cells [AV.v (Value.int IntKind.i64 (c (0 : Nat))), AV.v (Value.int IntKind.i64 (c (1 : Nat))), AV.v (Value.int IntKind.i64 (c (2 : Nat))), AV.v (Value.int IntKind.i64 (c (3 : Nat))), AV.v (Value.int IntKind.i64 (c (4 : Nat))), AV.v (Value.int IntKind.i64 (c (5 : Nat))), AV.v (Value.int IntKind.i64 (c (6 : Nat))), AV.v (Value.int IntKind.i64 (c (7 : Nat)))] (40 : TypeId), AB.cells [AV.v (Value.bool false)] (4 : TypeId), AB.gone]) := by kernel_rfl

theorem endOnN (mn cr al : (Nat → Int) → (Nat → Int) → Nat → Int) (sg : (Nat → Int) → Int) (ob : Int → Bool) (a : Nat → Nat → Int) (m : Nat) (c : Nat → Int) (t : TypeId) : behind Try.prog (gmOn mn cr al sg ob) 100 Try.f69 0 onRest (packK 1) .normal ttL1 (hpOn a m c t false)
    = Res.out Ex.ret [AV.v (Value.bool false)] [AB.row false m (8 : Nat) (row8 a) t] := by kernel_rfl

theorem endOnR (mn cr al : (Nat → Int) → (Nat → Int) → Nat → Int) (sg : (Nat → Int) → Int) (ob : Int → Bool) (a : Nat → Nat → Int) (m : Nat) (c : Nat → Int) (t : TypeId) : behind Try.prog (gmOn mn cr al sg ob) 100 Try.f69 0 onRest (packK 1) .ret ttL1 (hpOn a m c t true)
    = Res.out Ex.ret [AV.v (Value.bool true)] [AB.row false m (8 : Nat) (row8 a) t] := by kernel_rfl

def fSu (su : (Nat → Int) → Int → (Nat → Int) → Nat → Int) : List Value → Option (Value × List Bool)
  | [.agg ⟨[.int .i64 a0, .int .i64 a1, .int .i64 a2, .int .i64 a3, .int .i64 a4, .int .i64 a5, .int .i64 a6, .int .i64 a7]⟩, .int .i64 n, .agg ⟨[.int .i64 b0, .int .i64 b1, .int .i64 b2, .int .i64 b3, .int .i64 b4, .int .i64 b5, .int .i64 b6, .int .i64 b7]⟩] => some (cyv (su (v8 a0 a1 a2 a3 a4 a5 a6 a7) n (v8 b0 b1 b2 b3 b4 b5 b6 b7)), [])
  | _ => none
theorem fSu_sum : fSu sumF = f_l2Sum := by funext vs; unfold fSu f_l2Sum; rfl
def gmLo (su : (Nat → Int) → Int → (Nat → Int) → Nat → Int) (cr : (Nat → Int) → (Nat → Int) → Nat → Int) (mi : (Nat → Int) → Nat → Int) (ti : (Nat → Int) → (Nat → Int) → Nat → Int) (re : (Nat → Int) → Nat → Int) (sg : (Nat → Int) → Int) (ob : Int → Bool) : Gam :=
  ext (ext (ext (ext (ext (ext g0 74 (specV (fSu su))) 45 (specV (fAl cr))) 55 (specV (fMi mi))) 54 (specV (fTi ti))) 53 (specV (fRe re))) 44 (specV (fSn sg ob))
theorem treeLo (su : (Nat → Int) → Int → (Nat → Int) → Nat → Int) (cr : (Nat → Int) → (Nat → Int) → Nat → Int) (mi : (Nat → Int) → Nat → Int) (ti : (Nat → Int) → (Nat → Int) → Nat → Int) (re : (Nat → Int) → Nat → Int) (sg : (Nat → Int) → Int) (ob : Int → Bool) (a b c : Nat → Int) : execF Try.prog (gmLo su cr mi ti re sg ob) noLam 100 Try.f71 ([cyv a, cyv b, cyv c].map .v) [] valK
    = needs [ob (cr (w8 (su (w8 a) (-1 : Int) (w8 c))) (w8 (su (w8 b) (-1 : Int) (w8 c))) (0 : Nat)), ob (cr (w8 (su (w8 a) (-1 : Int) (w8 c))) (w8 (su (w8 b) (-1 : Int) (w8 c))) (1 : Nat)), ob (cr (w8 (su (w8 a) (-1 : Int) (w8 c))) (w8 (su (w8 b) (-1 : Int) (w8 c))) (2 : Nat)), ob (cr (w8 (su (w8 a) (-1 : Int) (w8 c))) (w8 (su (w8 b) (-1 : Int) (w8 c))) (3 : Nat))] (bif sg (w4 (cr (w8 (su (w8 a) (-1 : Int) (w8 c))) (w8 (su (w8 b) (-1 : Int) (w8 c))))) == (0 : Int) then needs [ob (re (w8 (ti (w8 (mi (w8 (su (w8 a) (-1 : Int) (w8 c))))) (w8 (su (w8 b) (-1 : Int) (w8 c))))) (0 : Nat)), ob (re (w8 (ti (w8 (mi (w8 (su (w8 a) (-1 : Int) (w8 c))))) (w8 (su (w8 b) (-1 : Int) (w8 c))))) (1 : Nat)), ob (re (w8 (ti (w8 (mi (w8 (su (w8 a) (-1 : Int) (w8 c))))) (w8 (su (w8 b) (-1 : Int) (w8 c))))) (2 : Nat)), ob (re (w8 (ti (w8 (mi (w8 (su (w8 a) (-1 : Int) (w8 c))))) (w8 (su (w8 b) (-1 : Int) (w8 c))))) (3 : Nat))] (Res.out Ex.ret [AV.v (Value.bool (decide (sg (w4 (re (w8 (ti (w8 (mi (w8 (su (w8 a) (-1 : Int) (w8 c))))) (w8 (su (w8 b) (-1 : Int) (w8 c))))))) ≤ (0 : Int))))] []) else Res.out Ex.ret [AV.v (Value.bool false)] []) := by kernel_rfl

def fLo (lo : (Nat → Int) → (Nat → Int) → (Nat → Int) → Bool) : List Value → Option (Value × List Bool)
  | [.agg ⟨[.int .i64 a0, .int .i64 a1, .int .i64 a2, .int .i64 a3, .int .i64 a4, .int .i64 a5, .int .i64 a6, .int .i64 a7]⟩, .agg ⟨[.int .i64 b0, .int .i64 b1, .int .i64 b2, .int .i64 b3, .int .i64 b4, .int .i64 b5, .int .i64 b6, .int .i64 b7]⟩, .agg ⟨[.int .i64 c0, .int .i64 c1, .int .i64 c2, .int .i64 c3, .int .i64 c4, .int .i64 c5, .int .i64 c6, .int .i64 c7]⟩] => some (.bool (lo (v8 a0 a1 a2 a3 a4 a5 a6 a7) (v8 b0 b1 b2 b3 b4 b5 b6 b7) (v8 c0 c1 c2 c3 c4 c5 c6 c7)), [])
  | _ => none
def fSm (sm : (Nat → Int) → Int → Bool) : List Value → Option (Value × List Bool)
  | [.agg ⟨[.int .i64 a0, .int .i64 a1, .int .i64 a2, .int .i64 a3, .int .i64 a4, .int .i64 a5, .int .i64 a6, .int .i64 a7]⟩, .int .i64 n] => some (.bool (sm (v8 a0 a1 a2 a3 a4 a5 a6 a7) n), [])
  | _ => none
noncomputable abbrev fPoS : Func := Try.f28
abbrev lvPo : Ex → List Nat := lv3 [0, 3, 5] [] [4]
abbrev cellC (c : Nat → Int) : AB := .cells [.v (i64 (c 0)), .v (i64 (c 1)), .v (i64 (c 2)), .v (i64 (c 3)), .v (i64 (c 4)), .v (i64 (c 5)), .v (i64 (c 6)), .v (i64 (c 7))] 40
abbrev stPo (m i : Nat) : List AV := [.sl 0 8 0 0 m none, .ptr 1 0 0 0, .v (i64 i)]
abbrev hpPo (a : Nat → Nat → Int) (m : Nat) (c : Nat → Int) (t : TypeId) : List AB := [.row false m 8 (row8 a) t, cellC c]
def gmPo (lo : (Nat → Int) → (Nat → Int) → (Nat → Int) → Bool) : Gam := ext g0 71 (specV (fLo lo))
theorem rndPo (lo : (Nat → Int) → (Nat → Int) → (Nat → Int) → Bool) (a : Nat → Nat → Int) (m : Nat) (c : Nat → Int) (t : TypeId) (i : Nat) : execC Try.prog (gmPo lo) 100 noLam (loopAt 0 fPoS) (mkT 0 34 ((lvPo .normal).zip (stPo m i))) (hpPo a m c t) (leafV 34 lvPo 1)
    = bif decide ((↑i : Int) < (↑m : Int)) then needs [decide ((↑i : Int) < (↑m : Int)), decide ((0 : Nat) + Int.toNat (↑i : Int) < m), !decide ((↑m : Int) = (0 : Int)), decide ((0 : Int) ≤ Int.tmod (IntKind.wrap IntKind.i64 ((↑i : Int) + (1 : Int))) (↑m : Int)), decide (Int.tmod (IntKind.wrap IntKind.i64 ((↑i : Int) + (1 : Int))) (↑m : Int) < (↑m : Int)), decide ((0 : Nat) + Int.toNat (Int.tmod (IntKind.wrap IntKind.i64 ((↑i : Int) + (1 : Int))) (↑m : Int)) < m)] (bif lo (w8 (a ((0 : Nat) + Int.toNat (↑i : Int)))) (w8 (a ((0 : Nat) + Int.toNat (Int.tmod (IntKind.wrap IntKind.i64 ((↑i : Int) + (1 : Int))) (↑m : Int))))) (w8 c) then Res.out Ex.ret [AV.v (Value.bool true)] [AB.row false m (8 : Nat) (row8 a) t] else Res.out Ex.normal [AV.sl (0 : Nat) (8 : Nat) (0 : Nat) (0 : Nat) m none, AV.ptr (1 : Nat) (0 : Nat) (0 : Nat) (0 : Nat), AV.v (Value.int IntKind.i64 (IntKind.wrap IntKind.i64 ((↑i : Int) + (1 : Int))))] [AB.row false m (8 : Nat) (row8 a) t, AB.cells [AV.v (Value.int IntKind.i64 (c (0 : Nat))), AV.v (Value.int IntKind.i64 (c (1 : Nat))), AV.v (Value.int IntKind.i64 (c (2 : Nat))), AV.v (Value.int IntKind.i64 (c (3 : Nat))), AV.v (Value.int IntKind.i64 (c (4 : Nat))), AV.v (Value.int IntKind.i64 (c (5 : Nat))), AV.v (Value.int IntKind.i64 (c (6 : Nat))), AV.v (Value.int IntKind.i64 (c (7 : Nat)))] (40 : TypeId)]) else Res.out (Ex.exit (0 : Nat)) [] [AB.row false m (8 : Nat) (row8 a) t] := by kernel_rfl

noncomputable abbrev lamPo (a : Nat → Nat → Int) (m : Nat) (c : Nat → Int) (t : TypeId) (q : Bool) : Nat → Option Sum := oneL 0 (atS 34 (lvPo .normal) 1 (stPo m 0) (hpPo a m c t) (fun K => cond q (K .normal (mkT 0 34 []) [.row false m 8 (row8 a) t]) (K .ret (mkT 0 34 [(4, .v (.bool true))]) [.row false m 8 (row8 a) t])))
def gmPoS (va : (Nat → Nat → Int) → Nat → Bool) (sm : (Nat → Int) → Int → Bool) : Gam := ext (ext g0 24 (specR md_list (FvaO va))) 67 (specV (fSm sm))
theorem treePoS (va : (Nat → Nat → Int) → Nat → Bool) (sm : (Nat → Int) → Int → Bool) (a : Nat → Nat → Int) (m : Nat) (c : Nat → Int) (q : Bool) : execF Try.prog (gmPoS va sm) (lamPo a m c 40 q) 100 fPoS [.sl 0 8 0 0 m none, .v (cyv c)] [.row false m 8 (row8 a) 40] (packK 1)
    = needs [Nat.ble ((0 : Nat) + m) m, allC m fun q ↦ row8 a ((0 : Nat) + q), decide (m ≤ (274877906944 : Nat))] (bif !va (itC fun q ↦ row8 a ((0 : Nat) + q)) m then Res.out Ex.ret [AV.v (Value.bool false)] [AB.row false m (8 : Nat) (row8 a) (40 : TypeId)] else bif !sm (w8 c) (100 : Int) then Res.out Ex.ret [AV.v (Value.bool false)] [AB.row false m (8 : Nat) (row8 a) (40 : TypeId)] else needs [chk ([AV.sl (0 : Nat) (8 : Nat) (0 : Nat) (0 : Nat) m none, AV.ptr (1 : Nat) (0 : Nat) (0 : Nat) (0 : Nat), AV.v (Value.int IntKind.i64 (0 : Int))] = stPo m (0 : Nat) ∧ Hsim [AB.row false m (8 : Nat) (row8 a) (40 : TypeId), AB.cells [AV.v (Value.int IntKind.i64 (c (0 : Nat))), AV.v (Value.int IntKind.i64 (c (1 : Nat))), AV.v (Value.int IntKind.i64 (c (2 : Nat))), AV.v (Value.int IntKind.i64 (c (3 : Nat))), AV.v (Value.int IntKind.i64 (c (4 : Nat))), AV.v (Value.int IntKind.i64 (c (5 : Nat))), AV.v (Value.int IntKind.i64 (c (6 : Nat))), AV.v (Value.int IntKind.i64 (c (7 : Nat)))] (40 : Nat)] (hpPo a m c (40 : TypeId)))] (bif q then Res.out Ex.ret [AV.v (Value.bool false)] [AB.row false m (8 : Nat) (row8 a) (40 : TypeId)] else Res.out Ex.ret [AV.v (Value.bool true)] [AB.row false m (8 : Nat) (row8 a) (40 : TypeId)])) := by kernel_rfl

def md_lc : List Md := [.rd 8 40, .val]
def FonO (on : (Nat → Nat → Int) → Nat → (Nat → Int) → Bool) : List SA → Option FR
  | [.row m g, .v (.agg ⟨[.int .i64 c0, .int .i64 c1, .int .i64 c2, .int .i64 c3, .int .i64 c4, .int .i64 c5, .int .i64 c6, .int .i64 c7]⟩)] => some { val := .v (.bool (on (itC g) m (v8 c0 c1 c2 c3 c4 c5 c6 c7))), obl := [allC m g, decide (0 < m), decide (m ≤ 2 ^ 38)] }
  | _ => none
def gmPoI (va : (Nat → Nat → Int) → Nat → Bool) (sm : (Nat → Int) → Int → Bool) (on : (Nat → Nat → Int) → Nat → (Nat → Int) → Bool) : Gam := ext (ext (ext g0 23 (specR md_list (FvaO va))) 66 (specV (fSm sm))) 69 (specR md_lc (FonO on))
theorem treePoI (va : (Nat → Nat → Int) → Nat → Bool) (sm : (Nat → Int) → Int → Bool) (on : (Nat → Nat → Int) → Nat → (Nat → Int) → Bool) (a : Nat → Nat → Int) (m : Nat) (c : Nat → Int) : execF Try.prog (gmPoI va sm on) noLam 100 Try.f26 [.sl 0 8 0 0 m none, .v (cyv c)] [.row false m 8 (row8 a) 40] (packK 1)
    = needs [Nat.ble ((0 : Nat) + m) m, allC m fun q ↦ row8 a ((0 : Nat) + q), decide (m ≤ (274877906944 : Nat))] (bif va (itC fun q ↦ row8 a ((0 : Nat) + q)) m then bif sm (w8 c) (100 : Int) then needs [Nat.ble ((0 : Nat) + m) m, allC m fun q ↦ row8 a ((0 : Nat) + q), decide ((0 : Nat) < m), decide (m ≤ (274877906944 : Nat))] (Res.out Ex.ret [AV.v (Value.bool (on (itC fun q ↦ row8 a ((0 : Nat) + q)) m (w8 c)))] [AB.row false m (8 : Nat) (row8 a) (40 : TypeId)]) else Res.out Ex.ret [AV.v (Value.bool false)] [AB.row false m (8 : Nat) (row8 a) (40 : TypeId)] else Res.out Ex.ret [AV.v (Value.bool false)] [AB.row false m (8 : Nat) (row8 a) (40 : TypeId)]) := by kernel_rfl

end Go.Proofs.Ytoligfhcogligaa

/- Plain algebra: surds are ordered, by their values to so many binary places. No program, no conditions. -/
namespace Go.Proofs.Ytoligfhcogligaa
open Go.RowKit

theorem root_ex : ∀ n : Nat, ∃ A : Nat, A * A ≤ n ∧ n < (A + 1) * (A + 1)
  | 0 => ⟨0, by decide, by decide⟩
  | n + 1 => by
    obtain ⟨A, h1, h2⟩ := root_ex n
    by_cases h : n + 1 < (A + 1) * (A + 1)
    · exact ⟨A, by omega, h⟩
    · refine ⟨A + 1, by omega, ?_⟩
      have e : (A + 1 + 1) * (A + 1 + 1) = (A + 1) * (A + 1) + 2 * (A + 1) + 1 := by grind
      omega
noncomputable def flr (n : Nat) : Nat := (root_ex n).choose
theorem flr_spec (n : Nat) : flr n * flr n ≤ n ∧ n < (flr n + 1) * (flr n + 1) := (root_ex n).choose_spec
/-- So many binary places. -/
def pB (N : Nat) : Int := 2 ^ N
theorem pB_pos (N : Nat) : 0 < pB N := Int.pow_pos (by decide)
/-- The root of d, cut at so many places. -/
noncomputable def rB (d : Nat) (N : Nat) : Int := flr (d * (2 ^ N * 2 ^ N))
theorem rB_spec (d N : Nat) : 0 ≤ rB d N ∧ rB d N * rB d N ≤ d * (pB N * pB N) ∧ d * (pB N * pB N) < (rB d N + 1) * (rB d N + 1) := by
  have h := flr_spec (d * (2 ^ N * 2 ^ N))
  have e : ((d * (2 ^ N * 2 ^ N) : Nat) : Int) = (d : Int) * (pB N * pB N) := by
    unfold pB
    push_cast
    rfl
  refine ⟨Int.natCast_nonneg _, ?_, ?_⟩
  · rw [← e]
    unfold rB
    exact_mod_cast h.1
  · rw [← e]
    unfold rB
    exact_mod_cast h.2
theorem lt_of_sq {u v w : Int} (hv : 0 ≤ v) (h1 : u * u ≤ w) (h2 : w < v * v) : u < v := by
  rcases Int.lt_or_le u v with h | h
  · exact h
  · exfalso
    have := Int.mul_le_mul h h hv (by omega)
    omega
theorem rB_le {d N : Nat} (hd : d ≤ 8) : rB d N < 3 * pB N := by
  obtain ⟨_, h1, _⟩ := rB_spec d N
  have hp := pB_pos N
  have hpp := Int.mul_pos hp hp
  refine lt_of_sq (by omega) h1 ?_
  rw [show 3 * pB N * (3 * pB N) = 9 * (pB N * pB N) by grind]
  have : (d : Int) * (pB N * pB N) ≤ 8 * (pB N * pB N) := Int.mul_le_mul_of_nonneg_right (by omega) (by omega)
  omega

/-- At most so much, and at most so many times the places. -/
def O1 (f : Nat → Int) : Prop := ∃ K : Int, 0 ≤ K ∧ ∀ N, -K ≤ f N ∧ f N ≤ K
def OP (f : Nat → Int) : Prop := ∃ K : Int, 0 ≤ K ∧ ∀ N, -(K * pB N) ≤ f N ∧ f N ≤ K * pB N
theorem OP.add {f g : Nat → Int} (hf : OP f) (hg : OP g) : OP fun N => f N + g N := by
  obtain ⟨K, k0, h⟩ := hf
  obtain ⟨L, l0, h'⟩ := hg
  refine ⟨K + L, by omega, fun N => ?_⟩
  have := h N
  have := h' N
  rw [Int.add_mul]
  show -(K * pB N + L * pB N) ≤ f N + g N ∧ f N + g N ≤ K * pB N + L * pB N
  omega
theorem OP.smul {f : Nat → Int} (c : Int) (hf : OP f) : OP fun N => c * f N := by
  obtain ⟨K, k0, h⟩ := hf
  refine ⟨(c.natAbs : Int) * K, Int.mul_nonneg (by omega) k0, fun N => ?_⟩
  have hN := h N
  have hc : -(c.natAbs : Int) ≤ c ∧ c ≤ (c.natAbs : Int) := by omega
  have hp := Int.mul_nonneg k0 (Int.le_of_lt (pB_pos N))
  rw [Int.mul_assoc]
  generalize K * pB N = B at hN hp
  generalize (c.natAbs : Int) = A at hc
  have := Int.mul_nonneg (show 0 ≤ A - c by omega) (show 0 ≤ B + f N by omega)
  have := Int.mul_nonneg (show 0 ≤ A + c by omega) (show 0 ≤ B - f N by omega)
  have := Int.mul_nonneg (show 0 ≤ A - c by omega) (show 0 ≤ B - f N by omega)
  have := Int.mul_nonneg (show 0 ≤ A + c by omega) (show 0 ≤ B + f N by omega)
  show -(A * B) ≤ c * f N ∧ c * f N ≤ A * B
  grind
theorem OP.of {f : Nat → Int} (K : Int) (k0 : 0 ≤ K) (h : ∀ N, -(K * pB N) ≤ f N ∧ f N ≤ K * pB N) : OP f := ⟨K, k0, h⟩
theorem OP.congr {f g : Nat → Int} (hf : OP f) (h : ∀ N, f N = g N) : OP g := by
  obtain ⟨K, k0, hK⟩ := hf
  exact ⟨K, k0, fun N => by rw [← h N]; exact hK N⟩
theorem OP.mulO1 {f g : Nat → Int} (hf : O1 f) (hg : OP g) : OP fun N => f N * g N := by
  obtain ⟨K, k0, h⟩ := hf
  obtain ⟨L, l0, h'⟩ := hg
  refine ⟨K * L, Int.mul_nonneg k0 l0, fun N => ?_⟩
  have h1 := h N
  have h2 := h' N
  rw [Int.mul_assoc]
  generalize L * pB N = B at h2
  have := Int.mul_nonneg (show 0 ≤ K - f N by omega) (show 0 ≤ B + g N by omega)
  have := Int.mul_nonneg (show 0 ≤ K + f N by omega) (show 0 ≤ B - g N by omega)
  have := Int.mul_nonneg (show 0 ≤ K - f N by omega) (show 0 ≤ B - g N by omega)
  have := Int.mul_nonneg (show 0 ≤ K + f N by omega) (show 0 ≤ B + g N by omega)
  show -(K * B) ≤ f N * g N ∧ f N * g N ≤ K * B
  grind
theorem OP.down {f : Nat → Int} (h : OP fun N => pB N * f N) : O1 f := by
  obtain ⟨K, k0, h⟩ := h
  refine ⟨K, k0, fun N => ?_⟩
  have hN : -(K * pB N) ≤ pB N * f N ∧ pB N * f N ≤ K * pB N := h N
  have hp := pB_pos N
  constructor
  · refine Int.le_of_mul_le_mul_left (a := pB N) ?_ hp
    rw [show pB N * -K = -(K * pB N) by grind]
    exact hN.1
  · refine Int.le_of_mul_le_mul_left (a := pB N) ?_ hp
    rw [show pB N * K = K * pB N by grind]
    exact hN.2
/-- The product of two roots is a root, nearly. -/
theorem rr_near {d e g c : Nat} (hd : d ≤ 8) (he : e ≤ 8) (hc : c ≤ 6) (h : d * e = c * c * g) : OP fun N => rB d N * rB e N - c * rB g N * pB N := by
  refine ⟨7, by omega, fun N => ?_⟩
  show -(7 * pB N) ≤ rB d N * rB e N - c * rB g N * pB N ∧ rB d N * rB e N - c * rB g N * pB N ≤ 7 * pB N
  obtain ⟨d0, d1, d2⟩ := rB_spec d N
  obtain ⟨e0, e1, e2⟩ := rB_spec e N
  obtain ⟨g0, g1, g2⟩ := rB_spec g N
  have dl := rB_le (N := N) hd
  have el := rB_le (N := N) he
  have hp := pB_pos N
  have hpp := Int.mul_pos hp hp
  have hw : (d : Int) * (pB N * pB N) * (e * (pB N * pB N)) = (c : Int) * c * (g * (pB N * pB N)) * (pB N * pB N) := by
    have : (d : Int) * e = c * c * g := by exact_mod_cast h
    grind
  generalize rB d N = x at *
  generalize rB e N = y at *
  generalize rB g N = z at *
  generalize pB N = p at *
  have hc0 : (0 : Int) ≤ c := Int.natCast_nonneg c
  have hc3 : (c : Int) ≤ 6 := by omega
  generalize (c : Int) = q at *
  have hz1 : 0 ≤ q * z * p := Int.mul_nonneg (Int.mul_nonneg hc0 g0) (by omega)
  have dn : (0 : Int) ≤ d := Int.natCast_nonneg d
  have en : (0 : Int) ≤ e := Int.natCast_nonneg e
  have gn : (0 : Int) ≤ g := Int.natCast_nonneg g
  constructor
  · -- from below
    have k1 : q * z * p * (q * z * p) ≤ (d : Int) * (p * p) * (e * (p * p)) := by
      rw [hw, show q * z * p * (q * z * p) = q * q * (z * z) * (p * p) by grind]
      exact Int.mul_le_mul_of_nonneg_right (Int.mul_le_mul_of_nonneg_left g1 (Int.mul_nonneg hc0 hc0)) (by omega)
    have k2 : (d : Int) * (p * p) * (e * (p * p)) < (x + 1) * (y + 1) * ((x + 1) * (y + 1)) := by
      rw [show (x + 1) * (y + 1) * ((x + 1) * (y + 1)) = (x + 1) * (x + 1) * ((y + 1) * (y + 1)) by grind]
      have a1 := Int.mul_nonneg dn (show 0 ≤ p * p by omega)
      have a2 := Int.mul_nonneg en (show 0 ≤ p * p by omega)
      exact Int.lt_of_le_of_lt (Int.mul_le_mul_of_nonneg_left (Int.le_of_lt e2) a1) (Int.mul_lt_mul_of_pos_right d2 (by omega))
    have := lt_of_sq (Int.mul_nonneg (by omega) (by omega)) k1 k2
    have e : (x + 1) * (y + 1) = x * y + x + y + 1 := by grind
    omega
  · -- from above
    have k1 : x * y * (x * y) ≤ (d : Int) * (p * p) * (e * (p * p)) := by
      rw [show x * y * (x * y) = x * x * (y * y) by grind]
      exact Int.mul_le_mul d1 e1 (Int.mul_nonneg e0 e0) (Int.mul_nonneg dn (by omega))
    by_cases hq : q = 0
    · subst hq
      have : x * y * (x * y) ≤ 0 := by
        rw [hw] at k1
        simpa using k1
      have h2 := sq_neg (x * y)
      have h3 := sq_zero (show x * y * (x * y) = 0 by omega)
      have e : (0 : Int) * z * p = 0 := by simp
      omega
    · have k2 : (d : Int) * (p * p) * (e * (p * p)) < q * (z + 1) * p * (q * (z + 1) * p) := by
        rw [hw, show q * (z + 1) * p * (q * (z + 1) * p) = q * q * ((z + 1) * (z + 1)) * (p * p) by grind]
        exact Int.mul_lt_mul_of_pos_right (Int.mul_lt_mul_of_pos_left g2 (Int.mul_pos (by omega) (by omega))) hpp
      have := lt_of_sq (Int.mul_nonneg (Int.mul_nonneg hc0 (by omega)) (by omega)) k1 k2
      have e : q * (z + 1) * p = q * z * p + q * p := by grind
      have := Int.mul_le_mul_of_nonneg_right hc3 (show 0 ≤ p by omega)
      omega

/-- A surd's value, to so many places. -/
noncomputable def vB (z : Sd) (N : Nat) : Int := z.a * pB N + z.b * rB 2 N + z.c * rB 3 N + z.d * rB 6 N
theorem OP_p : OP pB := ⟨1, by decide, fun N => by have := pB_pos N; omega⟩
theorem OP_r {d : Nat} (hd : d ≤ 8) : OP (rB d) := ⟨3, by decide, fun N => by
  have := rB_le (N := N) hd
  have := (rB_spec d N).1
  omega⟩
theorem OP_v (z : Sd) : OP (vB z) := (((OP_p.smul z.a).add ((OP_r (d := 2) (by decide)).smul z.b)).add ((OP_r (d := 3) (by decide)).smul z.c)).add ((OP_r (d := 6) (by decide)).smul z.d)
theorem vB_add (z w : Sd) (N : Nat) : vB (z + w) N = vB z N + vB w N := by
  simp only [vB, Sd.add_a, Sd.add_b, Sd.add_c, Sd.add_d]
  grind
theorem vB_neg (z : Sd) (N : Nat) : vB (-z) N = -vB z N := by
  simp only [vB, Sd.neg_a, Sd.neg_b, Sd.neg_c, Sd.neg_d]
  grind
theorem vB_mul (z w : Sd) : OP fun N => vB z N * vB w N - pB N * vB (z * w) N := by
  have e1 : ∀ N, rB 1 N = pB N := fun N => by
    obtain ⟨h0, h1, h2⟩ := rB_spec 1 N
    have hp := pB_pos N
    have a := lt_of_sq (u := rB 1 N) (v := pB N + 1) (by omega) h1 (by simp only [Int.natCast_one, Int.one_mul]; grind)
    have b := lt_of_sq (u := pB N) (v := rB 1 N + 1) (w := (1 : Nat) * (pB N * pB N)) (by omega) (by simp) h2
    omega
  have h22 := rr_near (d := 2) (e := 2) (g := 1) (c := 2) (by decide) (by decide) (by decide) rfl
  have h33 := rr_near (d := 3) (e := 3) (g := 1) (c := 3) (by decide) (by decide) (by decide) rfl
  have h66 := rr_near (d := 6) (e := 6) (g := 1) (c := 6) (by decide) (by decide) (by decide) rfl
  have h23 := rr_near (d := 2) (e := 3) (g := 6) (c := 1) (by decide) (by decide) (by decide) rfl
  have h26 := rr_near (d := 2) (e := 6) (g := 3) (c := 2) (by decide) (by decide) (by decide) rfl
  have h36 := rr_near (d := 3) (e := 6) (g := 2) (c := 3) (by decide) (by decide) (by decide) rfl
  refine OP.congr ((((((h22.smul (z.b * w.b)).add (h33.smul (z.c * w.c))).add (h66.smul (z.d * w.d))).add (h23.smul (z.b * w.c + z.c * w.b))).add (h26.smul (z.b * w.d + z.d * w.b))).add (h36.smul (z.c * w.d + z.d * w.c))) fun N => ?_
  have mul_a : (z * w).a = z.a * w.a + 2 * (z.b * w.b) + 3 * (z.c * w.c) + 6 * (z.d * w.d) := rfl
  have mul_b : (z * w).b = z.a * w.b + z.b * w.a + 3 * (z.c * w.d + z.d * w.c) := rfl
  have mul_c : (z * w).c = z.a * w.c + z.c * w.a + 2 * (z.b * w.d + z.d * w.b) := rfl
  have mul_d : (z * w).d = z.a * w.d + z.d * w.a + z.b * w.c + z.c * w.b := rfl
  simp only [vB, mul_a, mul_b, mul_c, mul_d, e1]
  show _ = _
  generalize rB 2 N = x
  generalize rB 3 N = y
  generalize rB 6 N = u
  generalize pB N = p
  grind
/-- A surd that is not below nothing. -/
def NN (z : Sd) : Prop := ∃ C : Int, ∀ N, -C ≤ vB z N
theorem NN.add {z w : Sd} (hz : NN z) (hw : NN w) : NN (z + w) := by
  obtain ⟨C, h⟩ := hz
  obtain ⟨D, h'⟩ := hw
  refine ⟨C + D, fun N => ?_⟩
  have := h N
  have := h' N
  rw [vB_add]
  omega
theorem down_low {f : Nat → Int} {K : Int} (h : ∀ N, -(K * pB N) ≤ pB N * f N) : ∀ N, -K ≤ f N := fun N => by
  have hp := pB_pos N
  refine Int.le_of_mul_le_mul_left (a := pB N) ?_ hp
  rw [show pB N * -K = -(K * pB N) by grind]
  exact h N
/-- Squares are not below nothing. -/
theorem NN.sq (z : Sd) : NN (z * z) := by
  obtain ⟨K, k0, hK⟩ := vB_mul z z
  refine ⟨K, down_low fun N => ?_⟩
  have : -(K * pB N) ≤ vB z N * vB z N - pB N * vB (z * z) N ∧ vB z N * vB z N - pB N * vB (z * z) N ≤ K * pB N := hK N
  have := sq_neg (vB z N)
  omega
theorem NN.mul {z w : Sd} (hz : NN z) (hw : NN w) : NN (z * w) := by
  obtain ⟨C, h⟩ := hz
  obtain ⟨D, h'⟩ := hw
  obtain ⟨K, k0, hK⟩ := vB_mul z w
  obtain ⟨A, a0, hA⟩ := OP_v z
  obtain ⟨B, b0, hB⟩ := OP_v w
  -- C and D may be taken not below nothing
  have h2 : ∀ N, -(C.natAbs : Int) ≤ vB z N := fun N => by have := h N; omega
  have h2' : ∀ N, -(D.natAbs : Int) ≤ vB w N := fun N => by have := h' N; omega
  generalize hc : (C.natAbs : Int) = c at h2
  generalize hd : (D.natAbs : Int) = d at h2'
  have c0 : 0 ≤ c := by omega
  have d0 : 0 ≤ d := by omega
  refine ⟨K + d * A + c * B + c * d, down_low fun N => ?_⟩
  have h3 : -(K * pB N) ≤ vB z N * vB w N - pB N * vB (z * w) N ∧ vB z N * vB w N - pB N * vB (z * w) N ≤ K * pB N := hK N
  have h4 := Int.mul_nonneg (show 0 ≤ vB z N + c by have := h2 N; omega) (show 0 ≤ vB w N + d by have := h2' N; omega)
  have h5 := Int.mul_le_mul_of_nonneg_left (hA N).2 d0
  have h6 := Int.mul_le_mul_of_nonneg_left (hB N).2 c0
  have hp := pB_pos N
  have h7 := Int.mul_le_mul_of_nonneg_left (show (1 : Int) ≤ pB N by omega) (Int.mul_nonneg c0 d0)
  generalize vB z N = x at *
  generalize vB w N = y at *
  generalize vB (z * w) N = u at *
  generalize pB N = p at *
  have e : (x + c) * (y + d) = x * y + d * x + c * y + c * d := by grind
  rw [e] at h4
  have e2 : (K + d * A + c * B + c * d) * p = K * p + d * (A * p) + c * (B * p) + c * d * p := by grind
  rw [e2]
  generalize p * u = pu at *
  generalize x * y = xy at *
  generalize d * x = dx at *
  generalize c * y = cy at *
  generalize d * (A * p) = dap at *
  generalize c * (B * p) = cbp at *
  generalize K * p = kp at *
  generalize c * d * p = cdp at *
  generalize c * d = cd at *
  omega

/-- Two cuts of a root agree. -/
theorem rB_cross (d N M : Nat) : rB d N * pB M ≤ rB d M * pB N + pB N := by
  obtain ⟨n0, n1, n2⟩ := rB_spec d N
  obtain ⟨m0, m1, m2⟩ := rB_spec d M
  have hn := pB_pos N
  have hm := pB_pos M
  generalize rB d N = x at *
  generalize rB d M = y at *
  generalize pB N = p at *
  generalize pB M = q at *
  have hqq := Int.mul_pos hm hm
  have hpp := Int.mul_pos hn hn
  have k1 : x * q * (x * q) ≤ d * (p * p) * (q * q) := by
    rw [show x * q * (x * q) = x * x * (q * q) by grind]
    exact Int.mul_le_mul_of_nonneg_right n1 (by omega)
  have k2 : d * (p * p) * (q * q) < (y + 1) * p * ((y + 1) * p) := by
    rw [show (d : Int) * (p * p) * (q * q) = d * (q * q) * (p * p) by grind, show (y + 1) * p * ((y + 1) * p) = (y + 1) * (y + 1) * (p * p) by grind]
    exact Int.mul_lt_mul_of_pos_right m2 hpp
  have := lt_of_sq (Int.mul_nonneg (by omega) (by omega)) k1 k2
  have e : (y + 1) * p = y * p + p := by grind
  omega
theorem abs_mul {c e B : Int} (h1 : -B ≤ e) (h2 : e ≤ B) : c * e ≤ (c.natAbs : Int) * B := by
  have hc : -(c.natAbs : Int) ≤ c ∧ c ≤ (c.natAbs : Int) := by omega
  generalize (c.natAbs : Int) = A at hc
  have := Int.mul_nonneg (show 0 ≤ A - c by omega) (show 0 ≤ B + e by omega)
  have := Int.mul_nonneg (show 0 ≤ A + c by omega) (show 0 ≤ B - e by omega)
  have := Int.mul_nonneg (show 0 ≤ A - c by omega) (show 0 ≤ B - e by omega)
  have := Int.mul_nonneg (show 0 ≤ A + c by omega) (show 0 ≤ B + e by omega)
  grind
theorem vB_cross (z : Sd) : ∃ k : Int, 0 ≤ k ∧ ∀ N M, vB z N * pB M ≤ vB z M * pB N + k * (pB N + pB M) := by
  refine ⟨(z.b.natAbs : Int) + z.c.natAbs + z.d.natAbs, by omega, fun N M => ?_⟩
  have hn := pB_pos N
  have hm := pB_pos M
  have c := fun d => And.intro (rB_cross d N M) (rB_cross d M N)
  have b2 := abs_mul (c := z.b) (e := rB 2 N * pB M - rB 2 M * pB N) (B := pB N + pB M) (by have := c 2; omega) (by have := c 2; omega)
  have b3 := abs_mul (c := z.c) (e := rB 3 N * pB M - rB 3 M * pB N) (B := pB N + pB M) (by have := c 3; omega) (by have := c 3; omega)
  have b6 := abs_mul (c := z.d) (e := rB 6 N * pB M - rB 6 M * pB N) (B := pB N + pB M) (by have := c 6; omega) (by have := c 6; omega)
  unfold vB
  generalize (z.b.natAbs : Int) = B at *
  generalize (z.c.natAbs : Int) = C at *
  generalize (z.d.natAbs : Int) = D at *
  generalize rB 2 N = x2 at *
  generalize rB 3 N = x3 at *
  generalize rB 6 N = x6 at *
  generalize rB 2 M = y2 at *
  generalize rB 3 M = y3 at *
  generalize rB 6 M = y6 at *
  generalize pB N = p at *
  generalize pB M = q at *
  generalize z.a = a at *
  generalize z.b = b at *
  generalize z.c = g at *
  generalize z.d = d at *
  have e : (a * p + b * x2 + g * x3 + d * x6) * q - (a * q + b * y2 + g * y3 + d * y6) * p = b * (x2 * q - y2 * p) + g * (x3 * q - y3 * p) + d * (x6 * q - y6 * p) := by grind
  have e2 : (B + C + D) * (p + q) = B * (p + q) + C * (p + q) + D * (p + q) := by grind
  rw [e2]
  generalize (a * p + b * x2 + g * x3 + d * x6) * q = l at *
  generalize (a * q + b * y2 + g * y3 + d * y6) * p = r at *
  omega
/-- A surd or its opposite is not below nothing. -/
theorem NN.total (z : Sd) : NN z ∨ NN (-z) := by
  obtain ⟨k, k0, hk⟩ := vB_cross z
  by_cases h : ∀ N, -k ≤ vB z N
  · exact .inl ⟨k, h⟩
  · right
    obtain ⟨N, hN⟩ := Classical.not_forall.1 h
    refine ⟨k, fun M => ?_⟩
    rw [vB_neg]
    have hx := hk M N
    have hp := pB_pos N
    have hq := pB_pos M
    have h1 : vB z M * pB N ≤ k * pB N := by
      have h2 : vB z N * pB M ≤ -k * pB M := Int.mul_le_mul_of_nonneg_right (by omega) (by omega)
      have e : k * (pB M + pB N) = k * pB M + k * pB N := by grind
      have e2 : -k * pB M = -(k * pB M) := by grind
      omega
    have := Int.le_of_mul_le_mul_right h1 hp
    omega
/-- What stays small is nothing. -/
theorem vB_zero {z : Sd} (h : O1 (vB z)) : z = 0 := by
  have step : ∀ {x y : Sd}, O1 (vB x) → O1 (vB (x * y)) := fun {x y} hx => by
    have h1 := OP.mulO1 hx (OP_v y)
    have h2 := (h1.add ((vB_mul x y).smul (-1))).congr (g := fun N => pB N * vB (x * y) N) fun N => by
      show vB x N * vB y N + -1 * (vB x N * vB y N - pB N * vB (x * y) N) = _
      omega
    exact OP.down h2
  have h1 := step (y := ⟨z.a, z.b, -z.c, -z.d⟩) h
  have h2 := step (y := ⟨(z * ⟨z.a, z.b, -z.c, -z.d⟩).a, -(z * ⟨z.a, z.b, -z.c, -z.d⟩).b, 0, 0⟩) h1
  have e1 : (z * ⟨z.a, z.b, -z.c, -z.d⟩ : Sd).c = 0 := by
    show z.a * -z.c + z.c * z.a + 2 * (z.b * -z.d + z.d * z.b) = 0
    grind
  have e2 : (z * ⟨z.a, z.b, -z.c, -z.d⟩ : Sd).d = 0 := by
    show z.a * -z.d + z.d * z.a + z.b * -z.c + z.c * z.b = 0
    grind
  generalize hu : z * ⟨z.a, z.b, -z.c, -z.d⟩ = u at h2 e1 e2
  have fa : (u * ⟨u.a, -u.b, 0, 0⟩ : Sd).b = 0 := by
    show u.a * -u.b + u.b * u.a + 3 * (u.c * 0 + u.d * 0) = 0
    grind
  have fc : (u * ⟨u.a, -u.b, 0, 0⟩ : Sd).c = 0 := by
    show u.a * 0 + u.c * u.a + 2 * (u.b * 0 + u.d * -u.b) = 0
    rw [e1, e2]
    grind
  have fd : (u * ⟨u.a, -u.b, 0, 0⟩ : Sd).d = 0 := by
    show u.a * 0 + u.d * u.a + u.b * 0 + u.c * -u.b = 0
    rw [e1, e2]
    grind
  generalize hw : u * ⟨u.a, -u.b, 0, 0⟩ = w at h2 fa fc fd
  have wa : w.a = 0 := by
    obtain ⟨K, k0, hK⟩ := h2
    have hv : ∀ N, vB w N = w.a * pB N := fun N => by
      unfold vB
      rw [fa, fc, fd]
      grind
    have hbig := hK K.toNat
    rw [hv] at hbig
    have hlt : ∀ n : Nat, (n : Int) < pB n := fun n => by
      unfold pB
      exact_mod_cast Nat.lt_two_pow_self
    have := hlt K.toNat
    have hp := pB_pos K.toNat
    generalize pB K.toNat = p at *
    rcases Int.lt_trichotomy w.a 0 with h | h | h
    · exfalso
      have := Int.mul_le_mul_of_nonneg_right (show w.a ≤ -1 by omega) (show 0 ≤ p by omega)
      omega
    · exact h
    · exfalso
      have := Int.mul_le_mul_of_nonneg_right (show 1 ≤ w.a by omega) (show 0 ≤ p by omega)
      omega
  have hw0 : w = 0 := Sd.ext wa fa fc fd
  have hu0 : u = 0 := by
    rcases Sd.dom (hw.trans hw0) with h | h
    · exact h
    · have ha : u.a = 0 := congrArg Sd.a h
      have hb : -u.b = 0 := congrArg Sd.b h
      exact Sd.ext ha (by show u.b = 0; omega) e1 e2
  rcases Sd.dom (hu.trans hu0) with h | h
  · exact h
  · have ha : z.a = 0 := congrArg Sd.a h
    have hb : z.b = 0 := congrArg Sd.b h
    have hc : -z.c = 0 := congrArg Sd.c h
    have hd : -z.d = 0 := congrArg Sd.d h
    exact Sd.ext ha hb (by show z.c = 0; omega) (by show z.d = 0; omega)
theorem NN.anti {z : Sd} (h : NN z) (h' : NN (-z)) : z = 0 := by
  obtain ⟨C, hC⟩ := h
  obtain ⟨D, hD⟩ := h'
  refine vB_zero ⟨(C.natAbs : Int) + D.natAbs, by omega, fun N => ?_⟩
  have h1 := hC N
  have h2 := hD N
  rw [vB_neg] at h2
  omega

end Go.Proofs.Ytoligfhcogligaa

/- Plain algebra: the sign of a surd, as the program finds it. No program, no conditions. -/
namespace Go.Proofs.Ytoligfhcogligaa
open Go.RowKit

theorem NN.zero : NN 0 := ⟨0, fun N => by
  have : vB 0 N = 0 := by
    show (0 : Int) * pB N + 0 * rB 2 N + 0 * rB 3 N + 0 * rB 6 N = 0
    omega
  omega⟩
theorem NN.int {m : Int} : NN ⟨m, 0, 0, 0⟩ ↔ 0 ≤ m := by
  have hv : ∀ N, vB ⟨m, 0, 0, 0⟩ N = m * pB N := fun N => by
    show m * pB N + 0 * rB 2 N + 0 * rB 3 N + 0 * rB 6 N = _
    omega
  constructor
  · rintro ⟨C, hC⟩
    rcases Int.lt_or_le m 0 with h | h
    · exfalso
      have h1 := hC C.toNat
      rw [hv] at h1
      have hlt : ∀ n : Nat, (n : Int) < pB n := fun n => by
        unfold pB
        exact_mod_cast Nat.lt_two_pow_self
      have h2 := hlt C.toNat
      have := Int.mul_le_mul_of_nonneg_right (show m ≤ -1 by omega) (Int.le_of_lt (pB_pos C.toNat))
      omega
    · exact h
  · intro h
    refine ⟨0, fun N => ?_⟩
    rw [hv]
    have := Int.mul_nonneg h (Int.le_of_lt (pB_pos N))
    omega
theorem NN.root2 : NN ⟨0, 1, 0, 0⟩ := ⟨0, fun N => by
  have : vB ⟨0, 1, 0, 0⟩ N = rB 2 N := by
    show 0 * pB N + 1 * rB 2 N + 0 * rB 3 N + 0 * rB 6 N = _
    omega
  have := (rB_spec 2 N).1
  omega⟩
theorem NN.root3 : NN ⟨0, 0, 1, 0⟩ := ⟨0, fun N => by
  have : vB ⟨0, 0, 1, 0⟩ N = rB 3 N := by
    show 0 * pB N + 0 * rB 2 N + 1 * rB 3 N + 0 * rB 6 N = _
    omega
  have := (rB_spec 3 N).1
  omega⟩
open Classical in
/-- The sign. -/
noncomputable def SG (z : Sd) : Int := if z = 0 then 0 else if NN z then 1 else -1
theorem neg_zero' {z : Sd} (h : -z = 0) : z = 0 := by
  have ha : -z.a = 0 := congrArg Sd.a h
  have hb : -z.b = 0 := congrArg Sd.b h
  have hc : -z.c = 0 := congrArg Sd.c h
  have hd : -z.d = 0 := congrArg Sd.d h
  exact Sd.ext (by show z.a = 0; omega) (by show z.b = 0; omega) (by show z.c = 0; omega) (by show z.d = 0; omega)
theorem SG_cases (z : Sd) : (z = 0 ∧ SG z = 0) ∨ (z ≠ 0 ∧ NN z ∧ ¬ NN (-z) ∧ SG z = 1) ∨ (z ≠ 0 ∧ ¬ NN z ∧ NN (-z) ∧ SG z = -1) := by
  unfold SG
  by_cases h : z = 0
  · exact .inl ⟨h, if_pos h⟩
  · by_cases h2 : NN z
    · exact .inr (.inl ⟨h, h2, fun h3 => h (h2.anti h3), by rw [if_neg h, if_pos h2]⟩)
    · exact .inr (.inr ⟨h, h2, (NN.total z).resolve_left h2, by rw [if_neg h, if_neg h2]⟩)
theorem SG_nn {z : Sd} : 0 ≤ SG z ↔ NN z := by
  rcases SG_cases z with ⟨h, e⟩ | ⟨_, h, _, e⟩ | ⟨_, h, _, e⟩ <;> rw [e]
  · rw [h]; exact ⟨fun _ => NN.zero, fun _ => by omega⟩
  · exact ⟨fun _ => h, fun _ => by omega⟩
  · exact ⟨fun h' => by omega, fun h' => (h h').elim⟩
theorem SG_pos {z : Sd} (h0 : z ≠ 0) (h : NN z) : SG z = 1 := by unfold SG; rw [if_neg h0, if_pos h]
theorem SG_below {z : Sd} (h0 : z ≠ 0) (h : NN (-z)) : SG z = -1 := by
  unfold SG
  rw [if_neg h0, if_neg fun h' => h0 (h'.anti h)]
theorem SG_zero : SG 0 = 0 := by unfold SG; rw [if_pos rfl]
theorem SG_neg (z : Sd) : SG (-z) = -SG z := by
  have e : -(-z) = z := by grind
  rcases SG_cases z with ⟨h, e1⟩ | ⟨h0, h, h', e1⟩ | ⟨h0, h, h', e1⟩ <;> rw [e1]
  · rw [h, show -(0 : Sd) = 0 by grind, SG_zero]; rfl
  · rw [SG_below (fun hh => h0 (neg_zero' hh)) (by rw [e]; exact h)]
  · rw [SG_pos (fun hh => h0 (neg_zero' hh)) h']; rfl
theorem SG_mul (z w : Sd) : SG (z * w) = SG z * SG w := by
  rcases SG_cases z with ⟨h, e1⟩ | ⟨z0, h, h', e1⟩ | ⟨z0, h, h', e1⟩ <;> rcases SG_cases w with ⟨k, e2⟩ | ⟨w0, k, k', e2⟩ | ⟨w0, k, k', e2⟩ <;> rw [e1, e2]
  · rw [h, show (0 : Sd) * w = 0 by grind, SG_zero]; rfl
  · rw [h, show (0 : Sd) * w = 0 by grind, SG_zero]; rfl
  · rw [h, show (0 : Sd) * w = 0 by grind, SG_zero]; rfl
  · rw [k, show z * (0 : Sd) = 0 by grind, SG_zero]; rfl
  · exact SG_pos (fun hh => (Sd.dom hh).elim z0 w0) (h.mul k)
  · refine SG_below (fun hh => (Sd.dom hh).elim z0 w0) ?_
    rw [show -(z * w) = z * -w by grind]
    exact h.mul k'
  · rw [k, show z * (0 : Sd) = 0 by grind, SG_zero]; rfl
  · refine SG_below (fun hh => (Sd.dom hh).elim z0 w0) ?_
    rw [show -(z * w) = -z * w by grind]
    exact h'.mul k
  · refine SG_pos (fun hh => (Sd.dom hh).elim z0 w0) ?_
    rw [show z * w = -z * -w by grind]
    exact h'.mul k'
/-- Two of one sign, or one of none. -/
theorem SG_add {z w : Sd} (h : 0 ≤ SG z) (k : 0 < SG w) : SG (z + w) = 1 := by
  have hz := SG_nn.1 h
  rcases SG_cases w with ⟨_, e⟩ | ⟨w0, hw, hw', _⟩ | ⟨_, _, _, e⟩
  · omega
  · refine SG_pos (fun hh => hw' ?_) (hz.add hw)
    rw [show -w = z by grind]
    exact hz
  · omega
theorem SG_int (m : Int) : SG ⟨m, 0, 0, 0⟩ = if m = 0 then 0 else if 0 ≤ m then 1 else -1 := by
  unfold SG
  by_cases h : m = 0
  · subst h
    rw [if_pos (show (⟨0, 0, 0, 0⟩ : Sd) = 0 from rfl), if_pos rfl]
  · rw [if_neg (fun hh => h (congrArg Sd.a hh)), if_neg h]
    by_cases h2 : 0 ≤ m
    · rw [if_pos (NN.int.2 h2), if_pos h2]
    · rw [if_neg (fun hh => h2 (NN.int.1 hh)), if_neg h2]
theorem SG_root2 : SG ⟨0, 1, 0, 0⟩ = 1 := SG_pos (fun h => absurd (congrArg Sd.b h) (by show (1 : Int) ≠ 0; decide)) NN.root2
theorem SG_root3 : SG ⟨0, 0, 1, 0⟩ = 1 := SG_pos (fun h => absurd (congrArg Sd.c h) (by show (1 : Int) ≠ 0; decide)) NN.root3
/-- The sign from the product with the conjugate. -/
theorem SG_conj {p q : Sd} (h1 : SG p = 1 ∨ SG p = -1) (h2 : SG q = -SG p) : SG (p + q) = SG p * SG ((p + q) * (p - q)) := by
  have e : SG (p - q) = SG p := by
    rcases h1 with h1 | h1
    · rw [h1, show p - q = p + -q by grind]
      exact SG_add (by omega) (by rw [SG_neg, h2, h1]; decide)
    · rw [h1, show p - q = -(-p + q) by grind, SG_neg, SG_add (by rw [SG_neg, h1]; decide) (by rw [h2, h1]; decide)]
  rw [SG_mul, e]
  rcases h1 with h1 | h1 <;> rw [h1] <;> omega
theorem sg2_SG (x y : Int) : sg2 x y = SG ⟨x, y, 0, 0⟩ := by
  have hp : SG (⟨x, 0, 0, 0⟩ : Sd) = if x = 0 then 0 else if 0 ≤ x then 1 else -1 := SG_int x
  have hq0 : (⟨0, y, 0, 0⟩ : Sd) = ⟨y, 0, 0, 0⟩ * ⟨0, 1, 0, 0⟩ := Sd.ext (by show 0 = y * 0 + 2 * (0 * 1) + 3 * (0 * 0) + 6 * (0 * 0); omega) (by show y = y * 1 + 0 * 0 + 3 * (0 * 0 + 0 * 0); omega) (by show 0 = y * 0 + 0 * 0 + 2 * (0 * 0 + 0 * 1); omega) (by show 0 = y * 0 + 0 * 0 + 0 * 0 + 0 * 1; omega)
  have hq : SG (⟨0, y, 0, 0⟩ : Sd) = if y = 0 then 0 else if 0 ≤ y then 1 else -1 := by
    rw [hq0, SG_mul, SG_root2, Int.mul_one, SG_int]
  have hs : (⟨x, y, 0, 0⟩ : Sd) = ⟨x, 0, 0, 0⟩ + ⟨0, y, 0, 0⟩ := Sd.ext (by show x = x + 0; omega) (by show y = 0 + y; omega) rfl rfl
  have hc : ((⟨x, 0, 0, 0⟩ + ⟨0, y, 0, 0⟩) * (⟨x, 0, 0, 0⟩ - ⟨0, y, 0, 0⟩) : Sd) = ⟨x * x - 2 * (y * y), 0, 0, 0⟩ := Sd.ext (by show (x + 0) * (x - 0) + 2 * ((0 + y) * (0 - y)) + 3 * ((0 + 0) * (0 - 0)) + 6 * ((0 + 0) * (0 - 0)) = _; grind) (by show (x + 0) * (0 - y) + (0 + y) * (x - 0) + 3 * ((0 + 0) * (0 - 0) + (0 + 0) * (0 - 0)) = 0; grind) (by show (x + 0) * (0 - 0) + (0 + 0) * (x - 0) + 2 * ((0 + y) * (0 - 0) + (0 + 0) * (0 - y)) = 0; grind) (by show (x + 0) * (0 - 0) + (0 + 0) * (x - 0) + (0 + y) * (0 - 0) + (0 + 0) * (0 - y) = 0; grind)
  have hr : SG (⟨x * x - 2 * (y * y), 0, 0, 0⟩ : Sd) = if x * x - 2 * (y * y) = 0 then 0 else if 0 ≤ x * x - 2 * (y * y) then 1 else -1 := SG_int _
  rw [hs]
  generalize hP : (⟨x, 0, 0, 0⟩ : Sd) = P at *
  generalize hQ : (⟨0, y, 0, 0⟩ : Sd) = Q at *
  have zP : x = 0 → P = 0 := fun h => by rw [← hP, h]; rfl
  have zQ : y = 0 → Q = 0 := fun h => by rw [← hQ, h]; rfl
  unfold sg2
  by_cases c1 : 0 ≤ x ∧ 0 ≤ y
  · rw [if_pos c1]
    by_cases c2 : x = 0 ∧ y = 0
    · rw [if_pos c2, zP c2.1, zQ c2.2, show (0 : Sd) + 0 = 0 by grind, SG_zero]
    · rw [if_neg c2]
      by_cases hy : y = 0
      · rw [zQ hy, show P + 0 = P by grind, hp, if_neg (by omega), if_pos c1.1]
      · rw [SG_add]
        · rw [hp]; split <;> first | omega | (split <;> omega)
        · rw [hq, if_neg hy, if_pos c1.2]; decide
  · rw [if_neg c1]
    by_cases c2 : x ≤ 0 ∧ y ≤ 0
    · rw [if_pos c2, show P + Q = -(-P + -Q) by grind, SG_neg]
      by_cases hy : y = 0
      · rw [zQ hy, show -P + -(0 : Sd) = -P by grind, SG_neg, hp, if_neg (by omega), if_neg (by omega)]; rfl
      · rw [SG_add]
        · rw [SG_neg, hp]; split <;> first | omega | (split <;> omega)
        · rw [SG_neg, hq, if_neg hy, if_neg (by omega)]; decide
    · rw [if_neg c2]
      have nz : x * x - 2 * (y * y) ≠ 0 := fun h => by
        have := root2 (x := x) (y := y) (by omega)
        omega
      by_cases c3 : x < 0
      · rw [if_pos c3]
        have sp : SG P = -1 := by rw [hp, if_neg (by omega), if_neg (by omega)]
        have sq : SG Q = 1 := by rw [hq, if_neg (by omega), if_pos (by omega)]
        rw [SG_conj (.inr sp) (by rw [sq, sp]; rfl), hc, hr, sp, if_neg nz]
        by_cases c4 : x * x > 2 * (y * y)
        · rw [if_pos c4, if_pos (by omega)]; rfl
        · rw [if_neg c4, if_neg (by omega)]; rfl
      · rw [if_neg c3]
        have sp : SG P = 1 := by rw [hp, if_neg (by omega), if_pos (by omega)]
        have sq : SG Q = -1 := by rw [hq, if_neg (by omega), if_neg (by omega)]
        rw [SG_conj (.inl sp) (by rw [sq, sp]), hc, hr, sp, if_neg nz]
        by_cases c4 : x * x > 2 * (y * y)
        · rw [if_pos c4, if_pos (by omega)]; rfl
        · rw [if_neg c4, if_neg (by omega)]; rfl

def sdOf (s : Nat → Int) : Sd := ⟨s 0, s 1, s 2, s 3⟩
/-- The program's sign is the sign. -/
theorem sgn4_SG {s : Nat → Int} (h : bd4 11520000 s) : sgn4 s = SG (sdOf s) := by
  obtain ⟨ex, ey⟩ := xq_exact h
  unfold sgn4
  rw [sg2_SG, sg2_SG, sg2_SG, ex, ey]
  have hq : (⟨0, 0, s 2, s 3⟩ : Sd) = ⟨s 2, s 3, 0, 0⟩ * ⟨0, 0, 1, 0⟩ := Sd.ext (by show 0 = s 2 * 0 + 2 * (s 3 * 0) + 3 * (0 * 1) + 6 * (0 * 0); omega) (by show 0 = s 2 * 0 + s 3 * 0 + 3 * (0 * 0 + 0 * 1); omega) (by show s 2 = s 2 * 1 + 0 * 0 + 2 * (s 3 * 0 + 0 * 0); omega) (by show s 3 = s 2 * 0 + 0 * 0 + s 3 * 1 + 0 * 0; omega)
  have hQ : SG (⟨s 2, s 3, 0, 0⟩ : Sd) = SG ⟨0, 0, s 2, s 3⟩ := by rw [hq, SG_mul, SG_root3, Int.mul_one]
  have hs : sdOf s = ⟨s 0, s 1, 0, 0⟩ + ⟨0, 0, s 2, s 3⟩ := Sd.ext (by show s 0 = s 0 + 0; omega) (by show s 1 = s 1 + 0; omega) (by show s 2 = 0 + s 2; omega) (by show s 3 = 0 + s 3; omega)
  have hc : ((⟨s 0, s 1, 0, 0⟩ + ⟨0, 0, s 2, s 3⟩) * (⟨s 0, s 1, 0, 0⟩ - ⟨0, 0, s 2, s 3⟩) : Sd) = ⟨s 0 * s 0 + 2 * (s 1 * s 1) - 3 * (s 2 * s 2) - 6 * (s 3 * s 3), 2 * (s 0 * s 1) - 6 * (s 2 * s 3), 0, 0⟩ := by
    generalize s 0 = a
    generalize s 1 = b
    generalize s 2 = c
    generalize s 3 = d
    exact Sd.ext (by show (a + 0) * (a - 0) + 2 * ((b + 0) * (b - 0)) + 3 * ((0 + c) * (0 - c)) + 6 * ((0 + d) * (0 - d)) = _; grind) (by show (a + 0) * (b - 0) + (b + 0) * (a - 0) + 3 * ((0 + c) * (0 - d) + (0 + d) * (0 - c)) = _; grind) (by show (a + 0) * (0 - c) + (0 + c) * (a - 0) + 2 * ((b + 0) * (0 - d) + (0 + d) * (b - 0)) = 0; grind) (by show (a + 0) * (0 - d) + (0 + d) * (a - 0) + (b + 0) * (0 - c) + (0 + c) * (b - 0) = 0; grind)
  rw [← hc, hQ, hs]
  generalize (⟨s 0, s 1, 0, 0⟩ : Sd) = p
  generalize (⟨0, 0, s 2, s 3⟩ : Sd) = q
  by_cases c1 : SG p = SG q ∨ SG q = 0
  · rw [if_pos c1]
    rcases SG_cases q with ⟨k, e2⟩ | ⟨_, _, _, e2⟩ | ⟨_, _, _, e2⟩
    · rw [k, show p + (0 : Sd) = p by grind]
    · have e1 : SG p = 1 := by omega
      rw [e1, SG_add (by omega) (by omega)]
    · have e1 : SG p = -1 := by omega
      rw [show p + q = -(-p + -q) by grind, SG_neg, SG_add (by rw [SG_neg, e1]; decide) (by rw [SG_neg, e2]; decide), e1]
  · rw [if_neg c1]
    by_cases c2 : SG p = 0
    · rw [if_pos c2]
      rcases SG_cases p with ⟨k, _⟩ | ⟨_, _, _, e⟩ | ⟨_, _, _, e⟩
      · rw [k, show (0 : Sd) + q = q by grind]
      · omega
      · omega
    · rw [if_neg c2]
      have h1 := SG_cases p
      have h2 := SG_cases q
      exact (SG_conj (by omega) (by omega)).symm

end Go.Proofs.Ytoligfhcogligaa

/- Plain geometry: turns and windings counted round a polygon. No program, no conditions. -/
namespace Go.Proofs.Ytoligfhcogligaa
open Go.RowKit

def sumZ (g : Nat → Int) : Nat → Int
  | 0 => 0
  | i + 1 => sumZ g i + g i
theorem sumZ_congr {g h : Nat → Int} : ∀ {n : Nat}, (∀ i, i < n → g i = h i) → sumZ g n = sumZ h n
  | 0, _ => rfl
  | n + 1, e => by rw [sumZ, sumZ, sumZ_congr fun i hi => e i (by omega), e n (by omega)]
theorem sumZ_add (g h : Nat → Int) : ∀ n : Nat, sumZ (fun i => g i + h i) n = sumZ g n + sumZ h n
  | 0 => rfl
  | n + 1 => by rw [sumZ, sumZ, sumZ, sumZ_add g h n]; omega
theorem sumZ_neg (g : Nat → Int) : ∀ n : Nat, sumZ (fun i => -g i) n = -sumZ g n
  | 0 => rfl
  | n + 1 => by rw [sumZ, sumZ, sumZ_neg g n]; omega
theorem sumZ_first (g : Nat → Int) : ∀ n : Nat, sumZ g (n + 1) = g 0 + sumZ (fun i => g (i + 1)) n
  | 0 => by show 0 + g 0 = g 0 + 0; omega
  | n + 1 => by
    rw [sumZ, sumZ_first g n]
    show g 0 + sumZ (fun i => g (i + 1)) n + g (n + 1) = g 0 + (sumZ (fun i => g (i + 1)) n + g (n + 1))
    omega
/-- The other way round. -/
theorem sumZ_rev (g : Nat → Int) : ∀ n : Nat, sumZ (fun i => g (n - 1 - i)) n = sumZ g n
  | 0 => rfl
  | n + 1 => by
    rw [sumZ_first]
    have e : sumZ (fun i => g (n + 1 - 1 - (i + 1))) n = sumZ (fun i => g (n - 1 - i)) n := sumZ_congr fun i _ => by rw [show n + 1 - 1 - (i + 1) = n - 1 - i by omega]
    rw [e, sumZ_rev g n, sumZ]
    show g (n + 1 - 1 - 0) + sumZ g n = sumZ g n + g n
    rw [show n + 1 - 1 - 0 = n by omega]
    omega
/-- One place on, round the list. -/
theorem sumZ_prev (g : Nat → Int) : ∀ n : Nat, sumZ (fun i => g ((i + n - 1) % n)) n = sumZ g n
  | 0 => rfl
  | n + 1 => by
    rw [sumZ_first]
    have e : sumZ (fun i => g ((i + 1 + (n + 1) - 1) % (n + 1))) n = sumZ g n := sumZ_congr fun i hi => by
      rw [show i + 1 + (n + 1) - 1 = i + (n + 1) by omega, Nat.add_mod_right, Nat.mod_eq_of_lt (by omega)]
    rw [e, show (0 + (n + 1) - 1) % (n + 1) = n by rw [show 0 + (n + 1) - 1 = n by omega]; exact Nat.mod_eq_of_lt (by omega)]
    rw [sumZ]
    omega
def b2i (b : Bool) : Int := bif b then 1 else 0
/-- A passage up, to the left; down, to the right. -/
def cT (e1 em u v : Bool) : Int := bif e1 && (!u && v) then 1 else bif em && (u && !v) then -1 else 0
theorem cT_both {e1 em u v : Bool} (h : (e1 || em) = true ∨ u = v) (h2 : (e1 && em) = false) : cT e1 em u v + cT em e1 (!v) (!u) = b2i v - b2i u := by
  cases e1 <;> cases em <;> cases u <;> cases v <;> first | decide | exact absurd h2 (by decide) | (simp at h)
theorem round_zero (u : Nat → Bool) (n : Nat) : sumZ (fun i => b2i (u i) - b2i (u ((i + n - 1) % n))) n = 0 := by
  have e : sumZ (fun i => b2i (u i) - b2i (u ((i + n - 1) % n))) n = sumZ (fun i => b2i (u i) + -b2i (u ((i + n - 1) % n))) n := sumZ_congr fun i _ => by omega
  rw [e, sumZ_add, sumZ_neg, sumZ_prev (fun i => b2i (u i))]
  omega
/-- Turns are opposite the other way round. -/
theorem turns_back {be : Nat → Int} {u : Nat → Bool} {n : Nat} (h : ∀ i, i < n → be i = 0 → u ((i + n - 1) % n) = u i) :
    sumZ (fun i => cT (decide (be i < 0)) (decide (be i > 0)) (!u i) (!u ((i + n - 1) % n))) n = -sumZ (fun i => cT (decide (be i > 0)) (decide (be i < 0)) (u ((i + n - 1) % n)) (u i)) n := by
  have e : sumZ (fun i => cT (decide (be i > 0)) (decide (be i < 0)) (u ((i + n - 1) % n)) (u i) + cT (decide (be i < 0)) (decide (be i > 0)) (!u i) (!u ((i + n - 1) % n))) n = 0 := by
    refine Eq.trans (sumZ_congr fun i hi => cT_both ?_ ?_) (round_zero u n)
    · by_cases h0 : be i = 0
      · exact .inr (h i hi h0)
      · left
        rcases Int.lt_trichotomy (be i) 0 with h1 | h1 | h1
        · rw [decide_eq_true h1, Bool.or_true]
        · exact (h0 h1).elim
        · rw [decide_eq_true (show be i > 0 from h1), Bool.true_or]
    · by_cases h1 : be i > 0
      · rw [decide_eq_false (show ¬ be i < 0 by omega), Bool.and_false]
      · rw [decide_eq_false h1, Bool.false_and]
  rw [sumZ_add] at e
  omega
theorem sumZ_nn {g : Nat → Int} : ∀ {n : Nat}, (∀ i, i < n → 0 ≤ g i) → 0 ≤ sumZ g n
  | 0, _ => by show (0 : Int) ≤ 0; omega
  | n + 1, h => by
    have := sumZ_nn (n := n) fun i hi => h i (by omega)
    have := h n (by omega)
    rw [sumZ]
    omega
theorem sumZ_zero {g : Nat → Int} : ∀ {n : Nat}, (∀ i, i < n → 0 ≤ g i) → sumZ g n = 0 → ∀ i, i < n → g i = 0
  | 0, _, _, i, hi => absurd hi (Nat.not_lt_zero _)
  | n + 1, h, e, i, hi => by
    have h1 := sumZ_nn (n := n) fun i hi => h i (by omega)
    have h2 := h n (by omega)
    rw [sumZ] at e
    by_cases hin : i = n
    · subst hin; omega
    · exact sumZ_zero (n := n) (fun i hi => h i (by omega)) (by omega) i (by omega)
/-- All to the left, and some above and some below: at least one turn. -/
theorem turns_left {be : Nat → Int} {u : Nat → Bool} {n : Nat} (h : ∀ i, i < n → be i = 0 → u ((i + n - 1) % n) = u i) (hl : ∀ i, i < n → 0 ≤ be i) (hu : ∃ i, i < n ∧ u i = true) (hd : ∃ i, i < n ∧ u i = false) :
    1 ≤ sumZ (fun i => cT (decide (be i > 0)) (decide (be i < 0)) (u ((i + n - 1) % n)) (u i)) n := by
  have nn : ∀ i, i < n → 0 ≤ cT (decide (be i > 0)) (decide (be i < 0)) (u ((i + n - 1) % n)) (u i) := fun i hi => by
    have := hl i hi
    rw [decide_eq_false (show ¬ be i < 0 by omega)]
    cases decide (be i > 0) <;> cases u ((i + n - 1) % n) <;> cases u i <;> decide
  have h0 := sumZ_nn nn
  by_cases hz : sumZ (fun i => cT (decide (be i > 0)) (decide (be i < 0)) (u ((i + n - 1) % n)) (u i)) n = 0
  · exfalso
    have z := sumZ_zero nn hz
    -- no passage up, so none at all
    have up : ∀ i, i < n → b2i (u i) ≤ b2i (u ((i + n - 1) % n)) := fun i hi => by
      have hz := z i hi
      have hb := hl i hi
      by_cases hb0 : be i = 0
      · rw [h i hi hb0]; omega
      · have hz : cT (decide (be i > 0)) (decide (be i < 0)) (u ((i + n - 1) % n)) (u i) = 0 := hz
        rw [decide_eq_true (show be i > 0 by omega)] at hz
        revert hz
        cases u ((i + n - 1) % n) <;> cases u i <;> cases decide (be i < 0) <;> decide
    have same : ∀ i, i < n → b2i (u ((i + n - 1) % n)) - b2i (u i) = 0 := by
      refine sumZ_zero (fun i hi => by have := up i hi; omega) ?_
      have := round_zero u n
      have e : sumZ (fun i => b2i (u ((i + n - 1) % n)) - b2i (u i)) n = -sumZ (fun i => b2i (u i) - b2i (u ((i + n - 1) % n))) n := by
        rw [← sumZ_neg]
        exact sumZ_congr fun i _ => by omega
      omega
    have all : ∀ i, i < n → b2i (u i) = b2i (u 0) := by
      intro i
      induction i with
      | zero => intro _; rfl
      | succ i ih =>
        intro hi
        have := same (i + 1) hi
        rw [show i + 1 + n - 1 = i + n by omega, Nat.add_mod_right, Nat.mod_eq_of_lt (by omega)] at this
        have := ih (by omega)
        omega
    obtain ⟨i, hi, ei⟩ := hu
    obtain ⟨j, hj, ej⟩ := hd
    have a := all i hi
    have b := all j hj
    rw [ei] at a
    rw [ej] at b
    have : b2i true = b2i false := by rw [a, b]
    exact absurd this (by decide)
  · omega
/-- Windings are opposite the other way round: side by side. -/
theorem wind_one (s : Int) (f t : Bool) : cT (decide (-s > 0)) (decide (-s < 0)) t f = -cT (decide (s > 0)) (decide (s < 0)) f t := by
  by_cases h1 : s > 0
  · rw [decide_eq_true h1, decide_eq_false (show ¬ s < 0 by omega), decide_eq_false (show ¬ -s > 0 by omega), decide_eq_true (show -s < 0 by omega)]
    cases f <;> cases t <;> decide
  · by_cases h2 : s < 0
    · rw [decide_eq_false h1, decide_eq_true h2, decide_eq_true (show -s > 0 by omega), decide_eq_false (show ¬ -s < 0 by omega)]
      cases f <;> cases t <;> decide
    · rw [decide_eq_false h1, decide_eq_false h2, decide_eq_false (show ¬ -s > 0 by omega), decide_eq_false (show ¬ -s < 0 by omega)]
      cases f <;> cases t <;> decide

end Go.Proofs.Ytoligfhcogligaa

/- Plain geometry: directions above and below; how often a polygon passes a height. No program, no conditions. -/
namespace Go.Proofs.Ytoligfhcogligaa
open Go.RowKit

theorem SG_none {z : Sd} : SG z = 0 ↔ z = 0 := by
  rcases SG_cases z with ⟨h, e⟩ | ⟨h, _, _, e⟩ | ⟨h, _, _, e⟩ <;> rw [e]
  · exact ⟨fun _ => h, fun _ => rfl⟩
  · exact ⟨fun h' => absurd h' (by decide), fun h' => (h h').elim⟩
  · exact ⟨fun h' => absurd h' (by decide), fun h' => (h h').elim⟩
theorem SG_range (z : Sd) : SG z = -1 ∨ SG z = 0 ∨ SG z = 1 := by
  rcases SG_cases z with ⟨_, e⟩ | ⟨_, _, _, e⟩ | ⟨_, _, _, e⟩ <;> omega
/-- A direction above the real line, or along it. -/
noncomputable def upB (x y : Sd) : Bool := bif SG y != 0 then decide (SG y > 0) else decide (SG x > 0)
theorem norm_pos {a b : Sd} (h : a ≠ 0 ∨ b ≠ 0) : SG (a * a + b * b) = 1 := by
  refine SG_pos (fun hh => ?_) ((NN.sq a).add (NN.sq b))
  have := Sd.squares hh
  rcases h with h | h
  · exact h this.1
  · exact h this.2
theorem up_same {a b c d : Sd} (h1 : SG (a * d - b * c) = 0) (h2 : SG (a * c + b * d) > 0) : upB a b = upB c d := by
  have h1 := SG_none.1 h1
  have hne : a ≠ 0 ∨ b ≠ 0 := by
    by_cases ha : a = 0
    · refine .inr fun hb => ?_
      rw [ha, hb, show (0 : Sd) * c + 0 * d = 0 by grind, SG_zero] at h2
      omega
    · exact .inl ha
  have hn := norm_pos hne
  have hd1 : SG (a * c + b * d) = 1 := by have := SG_range (a * c + b * d); omega
  have ed : d * (a * a + b * b) = b * (a * c + b * d) := by grind
  have ec : c * (a * a + b * b) = a * (a * c + b * d) := by grind
  have e1 : SG d = SG b := by
    have := congrArg SG ed
    rw [SG_mul, SG_mul, hn, hd1] at this
    omega
  have e2 : SG c = SG a := by
    have := congrArg SG ec
    rw [SG_mul, SG_mul, hn, hd1] at this
    omega
  rw [upB, upB, e1, e2]
theorem up_neg {x y : Sd} (h : x ≠ 0 ∨ y ≠ 0) : upB (-x) (-y) = !upB x y := by
  unfold upB
  rw [SG_neg, SG_neg]
  have hy := SG_range y
  by_cases h0 : SG y = 0
  · have hx : SG x ≠ 0 := fun hh => h.elim (fun k => k (SG_none.1 hh)) fun k => k (SG_none.1 h0)
    have hxr := SG_range x
    rw [h0, show ((-0 : Int) != 0) = false from rfl, show ((0 : Int) != 0) = false from rfl, cond_false, cond_false]
    by_cases hp : SG x > 0
    · rw [decide_eq_true hp, decide_eq_false (show ¬ -SG x > 0 by omega)]; rfl
    · rw [decide_eq_false hp, decide_eq_true (show -SG x > 0 by omega)]; rfl
  · rw [show (SG y != 0) = true from bne_iff_ne.2 h0, show (-SG y != 0) = true from bne_iff_ne.2 (by omega), cond_true, cond_true]
    by_cases hp : SG y > 0
    · rw [decide_eq_true hp, decide_eq_false (show ¬ -SG y > 0 by omega)]; rfl
    · rw [decide_eq_false hp, decide_eq_true (show -SG y > 0 by omega)]; rfl
def sumS (g : Nat → Sd) : Nat → Sd
  | 0 => 0
  | i + 1 => sumS g i + g i
theorem sumS_nn {g : Nat → Sd} : ∀ {n : Nat}, (∀ i, i < n → NN (g i)) → NN (sumS g n)
  | 0, _ => NN.zero
  | n + 1, h => (sumS_nn (n := n) fun i hi => h i (by omega)).add (h n (by omega))
theorem sumS_neg (g : Nat → Sd) : ∀ n : Nat, sumS (fun i => -g i) n = -sumS g n
  | 0 => by show (0 : Sd) = -0; grind
  | n + 1 => by
    show sumS (fun i => -g i) n + -g n = -(sumS g n + g n)
    rw [sumS_neg g n]
    grind
theorem sumS_zero {g : Nat → Sd} : ∀ {n : Nat}, (∀ i, i < n → NN (g i)) → sumS g n = 0 → ∀ i, i < n → g i = 0
  | 0, _, _, i, hi => absurd hi (Nat.not_lt_zero _)
  | n + 1, h, e, i, hi => by
    have h1 := sumS_nn (n := n) fun i hi => h i (by omega)
    have h2 := h n (by omega)
    have e' : sumS g n + g n = 0 := e
    have hn : g n = 0 := h2.anti (by rw [show -g n = sumS g n by grind]; exact h1)
    by_cases hin : i = n
    · subst hin; exact hn
    · exact sumS_zero (n := n) (fun i hi => h i (by omega)) (by rw [hn] at e'; rw [← e']; grind) i (by omega)
/-- Steps that come back do not all go up. -/
theorem not_all_up {X Y : Nat → Sd} {n : Nat} (hn : 0 < n) (hx : sumS X n = 0) (hy : sumS Y n = 0) : ¬ ∀ i, i < n → upB (X i) (Y i) = true := fun h => by
  have yn : ∀ i, i < n → NN (Y i) := fun i hi => by
    have := h i hi
    unfold upB at this
    refine SG_nn.1 ?_
    by_cases h0 : SG (Y i) = 0
    · omega
    · rw [show (SG (Y i) != 0) = true from bne_iff_ne.2 h0, cond_true, decide_eq_true_eq] at this
      omega
  have y0 := sumS_zero yn hy
  have xp : ∀ i, i < n → SG (X i) > 0 := fun i hi => by
    have := h i hi
    unfold upB at this
    rw [y0 i hi, SG_zero, show ((0 : Int) != 0) = false from rfl, cond_false, decide_eq_true_eq] at this
    exact this
  have x0 := sumS_zero (fun i hi => SG_nn.1 (by have := xp i hi; omega)) hx 0 hn
  have := xp 0 hn
  rw [x0, SG_zero] at this
  omega
theorem not_all_down {X Y : Nat → Sd} {n : Nat} (hn : 0 < n) (hx : sumS X n = 0) (hy : sumS Y n = 0) (hz : ∀ i, i < n → X i ≠ 0 ∨ Y i ≠ 0) : ¬ ∀ i, i < n → upB (X i) (Y i) = false := fun h => by
  refine not_all_up (X := fun i => -X i) (Y := fun i => -Y i) hn ?_ ?_ fun i hi => ?_
  · rw [sumS_neg, hx]; grind
  · rw [sumS_neg, hy]; grind
  · rw [up_neg (hz i hi), h i hi]; rfl
/-- A height is passed upwards at most as often as the way turns upwards. -/
theorem pass_le {f u : Nat → Bool} {n : Nat} (h1 : ∀ i, i < n → u i = true → f i = true → f ((i + 1) % n) = true) (h2 : ∀ i, i < n → u i = false → f ((i + 1) % n) = true → f i = true) :
    sumZ (fun i => b2i (!f i && f ((i + 1) % n))) n ≤ sumZ (fun i => b2i (!u ((i + n - 1) % n) && u i)) n := by
  have inv : ∀ i, i ≤ n → sumZ (fun i => b2i (!f i && f ((i + 1) % n))) i + b2i (u ((i + n - 1) % n) && !f (i % n)) ≤ sumZ (fun i => b2i (!u ((i + n - 1) % n) && u i)) i + b2i (u ((0 + n - 1) % n) && !f (0 % n)) := by
    intro i
    induction i with
    | zero => intro _; exact Int.le_refl _
    | succ i ih =>
      intro hi
      have ih := ih (by omega)
      have a := h1 i (by omega)
      have b := h2 i (by omega)
      rw [sumZ, sumZ]
      rw [Nat.mod_eq_of_lt (show i < n by omega)] at ih
      rw [show i + 1 + n - 1 = i + n by omega, Nat.add_mod_right, Nat.mod_eq_of_lt (show i < n by omega)]
      show _ + b2i (!f i && f ((i + 1) % n)) + b2i (u i && !f ((i + 1) % n)) ≤ _ + b2i (!u ((i + n - 1) % n) && u i) + _
      generalize f i = fi at *
      generalize f ((i + 1) % n) = fj at *
      generalize u i = ui at *
      generalize u ((i + n - 1) % n) = up at *
      have key : b2i (!fi && fj) + b2i (ui && !fj) ≤ b2i (!up && ui) + b2i (up && !fi) := by
        cases fi <;> cases fj <;> cases ui <;> cases up <;> simp at a b <;> decide
      omega
  by_cases hn : n = 0
  · subst hn; exact Int.le_refl _
  · have := inv n (Nat.le_refl _)
    rw [Nat.mod_self, Nat.zero_mod, show n + n - 1 = (0 + n - 1) + n by omega, Nat.add_mod_right] at this
    omega
/-- As often down as up. -/
theorem pass_same (f : Nat → Bool) (n : Nat) : sumZ (fun i => b2i (f i && !f ((i + n - 1) % n))) n = sumZ (fun i => b2i (!f i && f ((i + n - 1) % n))) n := by
  have e := round_zero f n
  have e2 : sumZ (fun i => b2i (f i && !f ((i + n - 1) % n)) + -b2i (!f i && f ((i + n - 1) % n))) n = 0 := by
    refine Eq.trans (sumZ_congr fun i _ => ?_) e
    cases f i <;> cases f ((i + n - 1) % n) <;> decide
  rw [sumZ_add, sumZ_neg] at e2
  omega

theorem up_nn {x y : Sd} (h : upB x y = true) : 0 ≤ SG y := by
  unfold upB at h
  by_cases h0 : SG y = 0
  · omega
  · rw [show (SG y != 0) = true from bne_iff_ne.2 h0, cond_true, decide_eq_true_eq] at h
    omega
theorem up_no {x y : Sd} (h : upB x y = false) : SG y ≤ 0 := by
  unfold upB at h
  by_cases h0 : SG y = 0
  · omega
  · rw [show (SG y != 0) = true from bne_iff_ne.2 h0, cond_true, decide_eq_false_iff_not] at h
    omega

theorem sumS_congr {g h : Nat → Sd} : ∀ {n : Nat}, (∀ i, i < n → g i = h i) → sumS g n = sumS h n
  | 0, _ => rfl
  | n + 1, e => by
    show sumS g n + g n = sumS h n + h n
    rw [sumS_congr fun i hi => e i (by omega), e n (by omega)]
theorem sumS_add (g h : Nat → Sd) : ∀ n : Nat, sumS (fun i => g i + h i) n = sumS g n + sumS h n
  | 0 => by show (0 : Sd) = 0 + 0; grind
  | n + 1 => by
    show sumS (fun i => g i + h i) n + (g n + h n) = sumS g n + g n + (sumS h n + h n)
    rw [sumS_add g h n]
    grind
theorem sumS_first (g : Nat → Sd) : ∀ n : Nat, sumS g (n + 1) = g 0 + sumS (fun i => g (i + 1)) n
  | 0 => by show (0 : Sd) + g 0 = g 0 + 0; grind
  | n + 1 => by
    show sumS g (n + 1) + g (n + 1) = g 0 + (sumS (fun i => g (i + 1)) n + g (n + 1))
    rw [sumS_first g n]
    grind
theorem sumS_next (g : Nat → Sd) : ∀ n : Nat, sumS (fun i => g ((i + 1) % n)) n = sumS g n
  | 0 => rfl
  | n + 1 => by
    show sumS (fun i => g ((i + 1) % (n + 1))) n + g ((n + 1) % (n + 1)) = sumS g (n + 1)
    rw [sumS_first g n, Nat.mod_self, sumS_congr (h := fun i => g (i + 1)) fun i hi => by rw [Nat.mod_eq_of_lt (show i + 1 < n + 1 by omega)]]
    grind

end Go.Proofs.Ytoligfhcogligaa

/- Plain laws of polygons: turns are opposite the other way round. No program, no conditions. -/
namespace Go.Proofs.Ytoligfhcogligaa
open Go.RowKit
set_option maxRecDepth 100000

theorem SG_four (z : Sd) : SG (4 * z) = SG z := by
  rw [SG_mul, show (4 : Sd) = ⟨4, 0, 0, 0⟩ from rfl, SG_int]
  show 1 * SG z = SG z
  omega
theorem up_SG {p : Nat → Int} (h : bd8 200 p) : upF p = upB (RE p) (IM p) := by
  have hi := im_bd h
  have hr := re_bd h
  have e1 : sgn4 (w4 (imF p)) = SG (IM p) := by
    rw [sgn4_w4, sgn4_congr (s := imF p) (s' := imZ p) fun k hk => W4 hi (by omega) k hk, sgn4_SG fun k hk => by have := hi k hk; omega]
    rfl
  have e2 : sgn4 (w4 (reF p)) = SG (RE p) := by
    rw [sgn4_w4, sgn4_congr (s := reF p) (s' := reZ p) fun k hk => W4 hr (by omega) k hk, sgn4_SG fun k hk => by have := hr k hk; omega]
    rfl
  unfold upF upB
  rw [e1, e2]
theorem cross_SG {p q : Nat → Int} (hp : bd8 200 p) (hq : bd8 200 q) : sgn4 (w4 (crossW p q)) = SG (RE p * IM q - IM p * RE q) ∧ sgn4 (w4 (reF (mulF (mirF (w8 p)) (w8 q)))) = SG (RE p * RE q + IM p * IM q) := by
  obtain ⟨c1, c2, c3, c4⟩ := cross_exact hp hq
  rw [im_cross, re_cross, SG_four, SG_four]
  constructor
  · rw [sgn4_w4, sgn4_congr c1, sgn4_SG c3]
    rfl
  · rw [sgn4_w4, sgn4_congr c2, sgn4_SG c4]
    rfl

theorem neg_pt {p q : Nat → Int} (h : ∀ k, k < 8 → p k = -q k) : RE p = -RE q ∧ IM p = -IM q := by
  have h0 := h 0 (by omega)
  have h1 := h 1 (by omega)
  have h2 := h 2 (by omega)
  have h3 := h 3 (by omega)
  have h4 := h 4 (by omega)
  have h5 := h 5 (by omega)
  have h6 := h 6 (by omega)
  have h7 := h 7 (by omega)
  constructor
  · refine Sd.ext ?_ ?_ ?_ ?_
    · show 4 * p 0 + 2 * p 4 = -(4 * q 0 + 2 * q 4); omega
    · show p 1 + 2 * p 3 - p 5 + p 7 = -(q 1 + 2 * q 3 - q 5 + q 7); omega
    · show 2 * p 2 = -(2 * q 2); omega
    · show p 1 + p 5 - p 7 = -(q 1 + q 5 - q 7); omega
  · refine Sd.ext ?_ ?_ ?_ ?_
    · show 2 * p 2 + 4 * p 6 = -(2 * q 2 + 4 * q 6); omega
    · show -p 1 + 2 * p 3 + p 5 + p 7 = -(-q 1 + 2 * q 3 + q 5 + q 7); omega
    · show 2 * p 4 = -(2 * q 4); omega
    · show p 1 + p 5 + p 7 = -(q 1 + q 5 + q 7); omega
theorem valid_bk {a : Nat → Nat → Int} {m : Nat} (h : f_valid a m = true) : f_valid (bkC a m) m = true := by
  simp only [f_valid, Bool.and_eq_true] at h ⊢
  refine ⟨List.all_eq_true.2 fun j hj => ?_, h.2⟩
  have hj := List.mem_range.1 hj
  have h2 : okP a (m - 1 - j) = true := okBp_get h.1 (by omega)
  exact h2
theorem corner_bd {a : Nat → Nat → Int} {m : Nat} (h : f_valid a m = true) {j : Nat} (hj : j < m) : bd8 100 (a j) := by
  simp only [f_valid, Bool.and_eq_true] at h
  exact fun k hk => smallF_iff.1 (okBp_get h.1 hj) k hk
theorem step_at {a : Nat → Nat → Int} {m : Nat} (h : f_valid a m = true) {j : Nat} (hj : j < m) : ∀ k, k < 8 → stepsF a m j k = a ((j + 1) % m) k - a j k := fun k hk => by
  have h1 := corner_bd h hj k hk
  have h2 := corner_bd h (Nat.mod_lt (j + 1) (show 0 < m by omega)) k hk
  show W (a ((j + 1) % m) k + W (a j k * -1)) = _
  rw [w64_in (x := a j k * -1) (by omega) (by omega), w64_in (by omega) (by omega)]
  omega
theorem step_bk {a : Nat → Nat → Int} {m : Nat} (h : f_valid a m = true) {j : Nat} (hj : j < m) : ∀ k, k < 8 → stepsF (bkC a m) m j k = -stepsF a m ((m - 1 - j + m - 1) % m) k := fun k hk => by
  rw [step_at (valid_bk h) hj k hk, step_at h (Nat.mod_lt _ (by omega)) k hk]
  unfold bkC
  by_cases hl : j + 1 = m
  · rw [hl, Nat.mod_self, show m - 1 - j = 0 by omega, show 0 + m - 1 = m - 1 by omega, Nat.mod_eq_of_lt (show m - 1 < m by omega), show m - 1 + 1 = m by omega, Nat.mod_self]
    rw [show m - 1 - 0 = m - 1 by omega]
    omega
  · rw [Nat.mod_eq_of_lt (show j + 1 < m by omega), show m - 1 - j + m - 1 = m - 2 - j + m by omega, Nat.add_mod_right, Nat.mod_eq_of_lt (show m - 2 - j < m by omega), show m - 2 - j + 1 = m - 1 - j by omega, Nat.mod_eq_of_lt (show m - 1 - j < m by omega), show m - 1 - (j + 1) = m - 2 - j by omega]
    omega
theorem step_bk' {a : Nat → Nat → Int} {m : Nat} (h : f_valid a m = true) {j : Nat} (hj : j < m) : ∀ k, k < 8 → stepsF (bkC a m) m ((j + m - 1) % m) k = -stepsF a m (m - 1 - j) k := fun k hk => by
  rw [step_bk h (Nat.mod_lt _ (by omega)) k hk]
  congr 2
  by_cases h0 : j = 0
  · subst h0
    rw [show 0 + m - 1 = m - 1 by omega, Nat.mod_eq_of_lt (show m - 1 < m by omega), show m - 1 - (m - 1) + m - 1 = m - 1 by omega, Nat.mod_eq_of_lt (show m - 1 < m by omega)]
    omega
  · rw [show j + m - 1 = j - 1 + m by omega, Nat.add_mod_right, Nat.mod_eq_of_lt (show j - 1 < m by omega), show m - 1 - (j - 1) + m - 1 = m - 1 - j + m by omega, Nat.add_mod_right, Nat.mod_eq_of_lt (by omega)]

/-- A step's bend and what lies along, as signs; of the steps the other way round too. -/
noncomputable def crV (a : Nat → Nat → Int) (m i : Nat) : Int := SG (RE (stepsF a m ((i + m - 1) % m)) * IM (stepsF a m i) - IM (stepsF a m ((i + m - 1) % m)) * RE (stepsF a m i))
noncomputable def alV (a : Nat → Nat → Int) (m i : Nat) : Int := SG (RE (stepsF a m ((i + m - 1) % m)) * RE (stepsF a m i) + IM (stepsF a m ((i + m - 1) % m)) * IM (stepsF a m i))
noncomputable def upV (a : Nat → Nat → Int) (m i : Nat) : Bool := upB (RE (stepsF a m i)) (IM (stepsF a m i))
theorem bad_SG {a : Nat → Nat → Int} {m i : Nat} (h : f_valid a m = true) (hi : i < m) : badS alS crF sgn4 (stepsF a m) m i = (crV a m i == 0 && decide (alV a m i ≤ 0)) := by
  have hp := steps_bd h (Nat.mod_lt (i + m - 1) (show 0 < m by omega))
  have hq := steps_bd h hi
  have c := cross_SG hp hq
  unfold badS
  rw [alS_eq, show pvI i m = (i + m - 1) % m from rfl]
  have e1 : sgn4 (w4 (crF (w8 (stepsF a m ((i + m - 1) % m))) (w8 (stepsF a m i)))) = crV a m i := c.1
  rw [e1, c.2]
  rfl
theorem bd_w8 {p : Nat → Int} (h : bd8 200 p) : bd8 200 (w8 p) := fun k hk => by
  rw [w8_at _ k hk]
  exact h k hk
theorem con_SG {a : Nat → Nat → Int} {m i : Nat} (h : f_valid a m = true) (hi : i < m) : conS upF crF sgn4 (stepsF a m) m i = cT (decide (crV a m i > 0)) (decide (crV a m i < 0)) (upV a m ((i + m - 1) % m)) (upV a m i) := by
  have hp := steps_bd h (Nat.mod_lt (i + m - 1) (show 0 < m by omega))
  have hq := steps_bd h hi
  have c := cross_SG hp hq
  unfold conS
  rw [show pvI i m = (i + m - 1) % m from rfl]
  have e1 : sgn4 (w4 (crF (w8 (stepsF a m ((i + m - 1) % m))) (w8 (stepsF a m i)))) = crV a m i := c.1
  have u1 : upF (w8 (stepsF a m ((i + m - 1) % m))) = upV a m ((i + m - 1) % m) := up_SG (bd_w8 hp)
  have u2 : upF (w8 (stepsF a m i)) = upV a m i := up_SG (bd_w8 hq)
  rw [e1, u1, u2]
  rfl
theorem back_SG {a : Nat → Nat → Int} {m j : Nat} (h : f_valid a m = true) (hj : j < m) : crV (bkC a m) m j = -crV a m (m - 1 - j) ∧ alV (bkC a m) m j = alV a m (m - 1 - j) := by
  obtain ⟨r1, i1⟩ := neg_pt (step_bk h hj)
  obtain ⟨r2, i2⟩ := neg_pt (step_bk' h hj)
  unfold crV alV
  rw [r1, i1, r2, i2]
  generalize RE (stepsF a m ((m - 1 - j + m - 1) % m)) = x
  generalize IM (stepsF a m ((m - 1 - j + m - 1) % m)) = y
  generalize RE (stepsF a m (m - 1 - j)) = z
  generalize IM (stepsF a m (m - 1 - j)) = w
  constructor
  · rw [← SG_neg]
    congr 1
    grind
  · congr 1
    grind
theorem sumTo_Z (g : Nat → Int) : ∀ n : Nat, sumTo g n = sumZ g n
  | 0 => rfl
  | n + 1 => by rw [sumTo, sumZ, sumTo_Z g n]
theorem good_step {a : Nat → Nat → Int} {m i : Nat} (h : f_valid a m = true) (ht : turnsOk a m = true) (hi : i < m) : (RE (stepsF a m i) ≠ 0 ∨ IM (stepsF a m i) ≠ 0) ∧ (crV a m i = 0 → upV a m ((i + m - 1) % m) = upV a m i) := by
  have hb := noneTo_get ht hi
  rw [bad_SG h hi] at hb
  have key : crV a m i = 0 → alV a m i > 0 := fun h0 => by
    rw [h0] at hb
    by_cases h1 : alV a m i ≤ 0
    · rw [decide_eq_true h1] at hb
      cases hb
    · omega
  constructor
  · by_cases hx : RE (stepsF a m i) = 0
    · refine .inr fun hy => ?_
      have h1 : crV a m i = 0 := by
        unfold crV
        rw [hx, hy]
        refine SG_none.2 ?_
        grind
      have h2 : alV a m i = 0 := by
        unfold alV
        rw [hx, hy]
        refine SG_none.2 ?_
        grind
      have := key h1
      omega
    · exact .inl hx
  · intro h0
    exact up_same h0 (key h0)
/-- Turns are opposite the other way round. -/
theorem law_turns {a : Nat → Nat → Int} {m : Nat} (h : f_valid a m = true) (ht : turnsOk a m = true) : turnsOk (bkC a m) m = true ∧ turnsN (bkC a m) m = -turnsN a m := by
  have hv := valid_bk h
  have ok : turnsOk (bkC a m) m = true := noneTo_iff.2 fun j hj => by
    rw [bad_SG hv hj, (back_SG h hj).1, (back_SG h hj).2]
    have hb := noneTo_get ht (show m - 1 - j < m by omega)
    rw [bad_SG h (by omega)] at hb
    by_cases h0 : crV a m (m - 1 - j) = 0
    · rw [h0] at hb ⊢
      exact hb
    · rw [show (-crV a m (m - 1 - j) == 0) = false from beq_eq_false_iff_ne.2 (by omega)]
      rfl
  refine ⟨ok, ?_⟩
  rw [turnsN, turnsN, ok, ht, cond_true, cond_true, sumTo_Z, sumTo_Z]
  rw [sumZ_congr fun i hi => con_SG h hi, ← turns_back fun i hi => (good_step h ht hi).2]
  rw [← sumZ_rev (fun i => cT (decide (crV a m i < 0)) (decide (crV a m i > 0)) (!upV a m i) (!upV a m ((i + m - 1) % m))) m]
  refine sumZ_congr fun j hj => ?_
  rw [con_SG hv hj, (back_SG h hj).1]
  have hi : m - 1 - j < m := by omega
  have hp : (m - 1 - j + m - 1) % m < m := Nat.mod_lt _ (by omega)
  obtain ⟨r1, i1⟩ := neg_pt (step_bk h hj)
  obtain ⟨r2, i2⟩ := neg_pt (step_bk' h hj)
  have u1 : upV (bkC a m) m j = !upV a m ((m - 1 - j + m - 1) % m) := by
    unfold upV
    rw [r1, i1, up_neg (good_step h ht hp).1]
  have u2 : upV (bkC a m) m ((j + m - 1) % m) = !upV a m (m - 1 - j) := by
    unfold upV
    rw [r2, i2, up_neg (good_step h ht hi).1]
  rw [u1, u2]
  have d1 : decide (-crV a m (m - 1 - j) > 0) = decide (crV a m (m - 1 - j) < 0) := by
    rw [decide_eq_decide]; omega
  have d2 : decide (-crV a m (m - 1 - j) < 0) = decide (crV a m (m - 1 - j) > 0) := by
    rw [decide_eq_decide]; omega
  rw [d1, d2]

theorem sub_pt {p q r : Nat → Int} (h : ∀ k, k < 8 → p k = q k - r k) : RE p = RE q + -RE r ∧ IM p = IM q + -IM r := by
  have h0 := h 0 (by omega)
  have h1 := h 1 (by omega)
  have h2 := h 2 (by omega)
  have h3 := h 3 (by omega)
  have h4 := h 4 (by omega)
  have h5 := h 5 (by omega)
  have h6 := h 6 (by omega)
  have h7 := h 7 (by omega)
  constructor
  · refine Sd.ext ?_ ?_ ?_ ?_
    · show 4 * p 0 + 2 * p 4 = 4 * q 0 + 2 * q 4 + -(4 * r 0 + 2 * r 4); omega
    · show p 1 + 2 * p 3 - p 5 + p 7 = q 1 + 2 * q 3 - q 5 + q 7 + -(r 1 + 2 * r 3 - r 5 + r 7); omega
    · show 2 * p 2 = 2 * q 2 + -(2 * r 2); omega
    · show p 1 + p 5 - p 7 = q 1 + q 5 - q 7 + -(r 1 + r 5 - r 7); omega
  · refine Sd.ext ?_ ?_ ?_ ?_
    · show 2 * p 2 + 4 * p 6 = 2 * q 2 + 4 * q 6 + -(2 * r 2 + 4 * r 6); omega
    · show -p 1 + 2 * p 3 + p 5 + p 7 = -q 1 + 2 * q 3 + q 5 + q 7 + -(-r 1 + 2 * r 3 + r 5 + r 7); omega
    · show 2 * p 4 = 2 * q 4 + -(2 * r 4); omega
    · show p 1 + p 5 + p 7 = q 1 + q 5 + q 7 + -(r 1 + r 5 + r 7); omega
/-- The steps come back. -/
theorem steps_zero {a : Nat → Nat → Int} {m : Nat} (h : f_valid a m = true) : sumS (fun i => RE (stepsF a m i)) m = 0 ∧ sumS (fun i => IM (stepsF a m i)) m = 0 := by
  constructor
  · rw [sumS_congr (h := fun i => RE (a ((i + 1) % m)) + -RE (a i)) fun i hi => (sub_pt (step_at h hi)).1, sumS_add, sumS_neg, sumS_next (fun i => RE (a i))]
    grind
  · rw [sumS_congr (h := fun i => IM (a ((i + 1) % m)) + -IM (a i)) fun i hi => (sub_pt (step_at h hi)).2, sumS_add, sumS_neg, sumS_next (fun i => IM (a i))]
    grind
theorem valid_len {a : Nat → Nat → Int} {m : Nat} (h : f_valid a m = true) : 1 ≤ m ∧ m ≤ 48 := by
  simp only [f_valid, Bool.and_eq_true] at h
  have := inR_iff.1 h.2
  omega
theorem some_up {a : Nat → Nat → Int} {m : Nat} (h : f_valid a m = true) (ht : turnsOk a m = true) : (∃ i, i < m ∧ upV a m i = true) ∧ ∃ i, i < m ∧ upV a m i = false := by
  have hm := valid_len h
  have z := steps_zero h
  constructor
  · refine Classical.byContradiction fun hh => not_all_down (show 0 < m by omega) z.1 z.2 (fun i hi => (good_step h ht hi).1) fun i hi => ?_
    cases e : upV a m i with
    | true => exact (hh ⟨i, hi, e⟩).elim
    | false => exact e
  · refine Classical.byContradiction fun hh => not_all_up (show 0 < m by omega) z.1 z.2 fun i hi => ?_
    cases e : upV a m i with
    | false => exact (hh ⟨i, hi, e⟩).elim
    | true => exact e
theorem bend_SG {a : Nat → Nat → Int} {m i : Nat} (h : f_valid a m = true) (hi : i < m) : bendsF (stepsF a m) m i = crV a m i := (cross_SG (steps_bd h (Nat.mod_lt (i + m - 1) (show 0 < m by omega))) (steps_bd h hi)).1
/-- All to the left: at least one turn. -/
theorem law_left {a : Nat → Nat → Int} {m : Nat} (h : f_valid a m = true) (ht : turnsOk a m = true) (hl : ∀ i, i < m → 0 ≤ bendsF (stepsF a m) m i) : 1 ≤ turnsN a m := by
  obtain ⟨hu, hd⟩ := some_up h ht
  rw [turnsN, ht, cond_true, sumTo_Z, sumZ_congr fun i hi => con_SG h hi]
  exact turns_left (fun i hi => (good_step h ht hi).2) (fun i hi => by rw [← bend_SG h hi]; exact hl i hi) hu hd
/-- Bends are opposite the other way round. -/
theorem law_bends {a : Nat → Nat → Int} {m j : Nat} (h : f_valid a m = true) (hj : j < m) : bendsF (stepsF (bkC a m) m) m j = -bendsF (stepsF a m) m (m - 1 - j) := by
  rw [bend_SG (valid_bk h) hj, bend_SG h (by omega), (back_SG h hj).1]

end Go.Proofs.Ytoligfhcogligaa

/- PolyOn of both: whether a point lies on a side. Conditions: a list of points. -/
namespace Go.Proofs.Ytoligfhcogligaa
open Go.RowKit
set_option maxRecDepth 100000

abbrev mnF (p q : Nat → Int) : Nat → Int := plusF p (scaledF q (-1))
/-- Whether a point lies on side j: the program's way, the reference's. -/
def onT (a : Nat → Nat → Int) (m : Nat) (c : Nat → Int) (j : Nat) : Bool := bif sgn4 (w4 (crF (w8 (mnF (w8 (a ((j + 1) % m))) (w8 (a j)))) (w8 (mnF (w8 c) (w8 (a j)))))) == 0 then decide (sgn4 (w4 (alF (w8 (mnF (w8 c) (w8 (a j)))) (w8 (mnF (w8 c) (w8 (a ((j + 1) % m))))))) ≤ 0) else false
def loF (a b c : Nat → Int) : Bool := bif sgn4 (w4 (crF (w8 (sumF (w8 a) (-1) (w8 c))) (w8 (sumF (w8 b) (-1) (w8 c))))) == 0 then decide (sgn4 (w4 (reF (w8 (mulF (w8 (mirF (w8 (sumF (w8 a) (-1) (w8 c))))) (w8 (sumF (w8 b) (-1) (w8 c))))))) ≤ 0) else false
def onV (a : Nat → Nat → Int) (m : Nat) (c : Nat → Int) : Bool := !noneTo (onT a m c) m
theorem gmOn_ok : GamOk Try.prog (gmOn mnF crF alF sgn4 i64B) := ext_ok (ext_ok (ext_ok (ext_ok g0_ok (fMn_minus ▸ ok_minus)) (fAl_cr ▸ ok_cross)) (fAl_along ▸ ok_along)) (fSn_sgn ▸ ok_sign)
theorem obF (f : Nat → Int) : obls [i64B (W (f 0)), i64B (W (f 1)), i64B (W (f 2)), i64B (W (f 3))] = true := by simp only [i64B_W, ob_cons, ob_nil, and_self]
theorem ok_on : SpecOk Try.prog 69 (specR md_lc (FonO onV)) := by
  refine specR_calls enters Try.func69 rfl fun sas fr hF ho => ?_
  unfold FonO at hF
  split at hF
  · rename_i m g c0 c1 c2 c3 c4 c5 c6 c7
    cases hF
    simp only [ob_cons, decide_eq_true_eq] at ho
    obtain ⟨h1, hm0, hm, _⟩ := ho
    refine ⟨[.row false m 8 (row8 (itC g)) 40], .cons (ABeq.row fun j hj => allC_get h1 j hj) .nil, ?_⟩
    generalize hc : v8 c0 c1 c2 c3 c4 c5 c6 c7 = c
    have ec : (.agg ⟨[.int .i64 c0, .int .i64 c1, .int .i64 c2, .int .i64 c3, .int .i64 c4, .int .i64 c5, .int .i64 c6, .int .i64 c7]⟩ : Value) = cyv c := by rw [← hc]; rfl
    rw [ec]
    have fin : ∀ b, onV (itC g) m c = b → (Res.out .ret [.v (.bool b)] [.row false m 8 (row8 (itC g)) 40]).ok (GivR (abP md_lc [.row m g, .v (cyv c)] []) { val := .v (.bool (onV (itC g) m c)), obl := [allC m g, decide (0 < m), decide (m ≤ 2 ^ 38)] }) := fun b hb =>
      ⟨_, rfl, by rw [hb], .cons (ABeq.row fun j hj => (allC_get h1 j hj).symm) .nil⟩
    refine calls_rangeJ (α := Fin m) (n := 100) (nn := 0) gmOn_ok mixed enters Try.func69 bOn_eq (by kernel_rfl) (by kernel_rfl) (by kernel_rfl) (by kernel_rfl) (by kernel_rfl) (lvp := lv3 [3, 4, 9] [] []) (TT := ttOn) (HH := hhOn (itC g) m c 40)
      (encs := fun x => [pairV (itC g x) (itC g ((x + 1) % m))]) (S := fun xs => xs = List.finRange m) (Sp := fun _ => True) (N := m) ?_ (gf := 99) (cs := [.ptr 3 0 0 0]) (by kernel_rfl) ttL1 (by kernel_rfl) (mask_less (live := [3, 4]) (by kernel_rfl)) (fun pre : List (Fin m) => ∀ x ∈ pre, onT (itC g) m c x = false) (fun e _ => e = .ret ∧ onV (itC g) m c = true) (fun _ => hpOn (itC g) m c 40 false) (fun _ _ => hpOn (itC g) m c 40 true) rfl (fun i => ?_)
      (enters_of' Try.func99 rfl) (fun W ν1 a1 lb hS hv => ?_) (fun _ => rfl) (by decide) (fun x hx => by cases hx) (fun pre x hpre hlen => ?_) (fun xs hxs hJ => ?_) (fun e pre hne hlv _ => ?_)
    · show (execL Try.prog (gmOn mnF crF alF sgn4 i64B) 100 ([onR0] ++ [onP2]) ([.sl 0 8 0 0 m none, .v (cyv c)] ++ List.replicate ((Try.f69).ntmps - 2) (.v undef)) [.row false m 8 (row8 (itC g)) 40] (leafK (lv3 [3, 4, 9] [] []) 1)).ok _
      rw [preOn]
      exact ⟨rfl, rfl, rfl⟩
    · rcases (by omega : i = 0 ∨ i = 1 ∨ i = 2 ∨ i = 3 ∨ 4 ≤ i) with rfl | rfl | rfl | rfl | h
      · exact .inl rfl
      · exact .inl rfl
      · exact .inl rfl
      · exact .inr rfl
      · right
        simp [hpOn, List.getD_eq_getElem?_getD, h]
    · refine sides_at hS hv (ib := 3) (il := 0) rfl rfl (by decide) hm0 (by omega) fun i hw => ?_
      rcases (by omega : i = 0 ∨ i = 1 ∨ i = 2 ∨ i = 3 ∨ 4 ≤ i) with rfl | rfl | rfl | rfl | h
      · simp [hpOn, AB.wr] at hw
      · exact ⟨rfl, by decide⟩
      · exact ⟨rfl, by decide⟩
      · simp [hpOn, AB.wr] at hw
      · simp [hpOn, List.getD_eq_getElem?_getD, h, AB.wr] at hw
    · suffices h : GoodQ (execC Try.prog (gmOn mnF crF alF sgn4 i64B) 100 noLam onAs (parT [10] [pairV (itC g x) (itC g ((x + 1) % m))] ttL1) (hpOn (itC g) m c 40 false) (andK Try.prog (gmOn mnF crF alF sgn4 i64B) 100 onBd 4)) (RoundJ (fun pre : List (Fin m) => ∀ x ∈ pre, onT (itC g) m c x = false) (fun e _ => e = .ret ∧ onV (itC g) m c = true) (fun _ => hpOn (itC g) m c 40 false) (fun _ _ => hpOn (itC g) m c 40 true) (pre ++ [x])) from h.out
      rw [rndOn mnF crF alF sgn4 i64B (itC g) m c 40 x]
      have non : onT (itC g) m c x = false → ∀ y ∈ pre ++ [x], onT (itC g) m c y = false := fun h y hy => by
        rcases List.mem_append.1 hy with hy | hy
        · exact hpre y hy
        · rw [List.mem_singleton.1 hy]
          exact h
      refine good_needs (obF _) (good_cond (fun q1 => good_needs (obF _) (good_cond (fun q2 => good_out ⟨⟨rfl, ?_⟩, Hsim.refl _⟩) fun q2 => good_out ⟨non ?_, Hsim.refl _⟩)) fun q1 => good_out ⟨non ?_, Hsim.refl _⟩)
      · unfold onV
        rw [noneTo_no x.isLt (by unfold onT; rw [q1]; exact q2)]
        rfl
      · unfold onT
        rw [q1]
        exact q2
      · unfold onT
        rw [q1]
        rfl
    · subst hxs
      show (behind Try.prog (gmOn mnF crF alF sgn4 i64B) 100 Try.f69 0 onRest (packK 1) .normal ttL1 (hpOn (itC g) m c 40 false)).ok _
      rw [endOnN]
      refine fin false ?_
      unfold onV
      rw [noneTo_iff.2 fun i hi => hJ ⟨i, hi⟩ (List.mem_finRange _)]
      rfl
    · obtain ⟨rfl, hv⟩ := hlv
      show (behind Try.prog (gmOn mnF crF alF sgn4 i64B) 100 Try.f69 0 onRest (packK 1) .ret ttL1 (hpOn (itC g) m c 40 true)).ok _
      rw [endOnR]
      exact fin true hv
  · cases hF

end Go.Proofs.Ytoligfhcogligaa

/- PolyOn of both: they tell the same. Conditions: a list of points. -/
namespace Go.Proofs.Ytoligfhcogligaa
open Go.RowKit
set_option maxRecDepth 100000

abbrev smN (c : Nat → Int) (n : Int) : Bool := smallF c (W (0 - n)) n
theorem fSm_small : fSm smN = f_small := by funext vs; unfold fSm f_small; rfl
theorem gmLo_ok : GamOk Try.prog (gmLo sumF crF mirF mulF reF sgn4 i64B) := ext_ok (ext_ok (ext_ok (ext_ok (ext_ok (ext_ok g0_ok (fSu_sum ▸ ok_l2Sum)) (fAl_cross ▸ ok_l8Cross)) (fMi_mir ▸ ok_l2Mirror)) (fTi_mul ▸ ok_l2Times)) (fRe_re ▸ ok_l3Re)) (fSn_sgn ▸ ok_l3Sign)
theorem ok_lo : SpecOk Try.prog 71 (specV (fLo loF)) := by
  refine mkV (n := 100) gmLo_ok Try.func71 rfl fun vs v ob hF ho => ?_
  unfold fLo at hF
  split at hF
  · rename_i a0 a1 a2 a3 a4 a5 a6 a7 b0 b1 b2 b3 b4 b5 b6 b7 c0 c1 c2 c3 c4 c5 c6 c7
    cases hF
    generalize ha : v8 a0 a1 a2 a3 a4 a5 a6 a7 = a
    generalize hb : v8 b0 b1 b2 b3 b4 b5 b6 b7 = b
    generalize hc : v8 c0 c1 c2 c3 c4 c5 c6 c7 = c
    have ea : (.agg ⟨[.int .i64 a0, .int .i64 a1, .int .i64 a2, .int .i64 a3, .int .i64 a4, .int .i64 a5, .int .i64 a6, .int .i64 a7]⟩ : Value) = cyv a := by rw [← ha]; rfl
    have eb : (.agg ⟨[.int .i64 b0, .int .i64 b1, .int .i64 b2, .int .i64 b3, .int .i64 b4, .int .i64 b5, .int .i64 b6, .int .i64 b7]⟩ : Value) = cyv b := by rw [← hb]; rfl
    have ec : (.agg ⟨[.int .i64 c0, .int .i64 c1, .int .i64 c2, .int .i64 c3, .int .i64 c4, .int .i64 c5, .int .i64 c6, .int .i64 c7]⟩ : Value) = cyv c := by rw [← hc]; rfl
    rw [ea, eb, ec]
    show Good (execF Try.prog (gmLo sumF crF mirF mulF reF sgn4 i64B) noLam 100 Try.f71 ([cyv a, cyv b, cyv c].map .v) [] valK) _
    rw [treeLo]
    refine good_needsV (obF _) ?_
    unfold loF
    cases (sgn4 (w4 (crF (w8 (sumF (w8 a) (-1) (w8 c))) (w8 (sumF (w8 b) (-1) (w8 c))))) == 0) with
    | true => exact good_needsV (obF _) (one rfl)
    | false => exact one rfl
  · cases hF
/-- A side's test, the reference's way. -/
def onS (a : Nat → Nat → Int) (m : Nat) (c : Nat → Int) (j : Nat) : Bool := loF (w8 (a j)) (w8 (a ((j + 1) % m))) (w8 c)
theorem sumPo (a : Nat → Nat → Int) (m : Nat) (c : Nat → Int) (t : TypeId) (hm : m ≤ 2 ^ 38) :
    SumOk Try.prog 1 (.block 0 (.loop (loopAt 0 fPoS))) (atS 34 (lvPo .normal) 1 (stPo m 0) (hpPo a m c t) (fun K => cond (noneTo (onS a m c) m) (K .normal (mkT 0 34 []) [.row false m 8 (row8 a) t]) (K .ret (mkT 0 34 [(4, .v (.bool true))]) [.row false m 8 (row8 a) t]))) := by
  refine for_at (ext_ok g0_ok ok_lo) (n := 100) (m := 1) (lv := lvPo) (fun i => stPo m i) (fun _ => hpPo a m c t) (fun i => noneTo (onS a m c) i = true) m (fun _ => noLam) (lv3_ris rfl rfl rfl) (Nat.le_refl _) rfl fun K Q hk i hi him => ⟨noLam_ok _ _ _, ?_⟩
  show GoodQ (execC Try.prog (gmPo loF) 100 noLam (loopAt 0 fPoS) (mkT 0 34 ((lvPo .normal).zip (stPo m i))) (hpPo a m c t) (leafV 34 lvPo 1)) _
  rw [rndPo]
  refine good_cond (fun c1 => ?_) fun c1 => ?_
  · have c1 := of_decide_eq_true c1
    have c1' : i < m := by omega
    have hlt := Nat.mod_lt (i + 1) (show 0 < m by omega)
    have e1 := next_at c1' hm
    rw [e1]
    simp only [Int.toNat_natCast, Nat.zero_add]
    rw [wr_in (x := (i : Int) + 1) (by omega)]
    refine good_needs (by simp only [ob_cons, ob_nil, and_true, decide_eq_true_eq, Bool.not_eq_true', decide_eq_false_iff_not]; omega) (good_cond (fun q => ?_) fun q => ?_)
    · refine good_out ⟨_, Hsim.refl _, ?_⟩
      rw [noneTo_no c1' (show onS a m c i = true from q)] at hk
      exact hk
    · exact good_out ⟨i + 1, ⟨rfl, c1', noneTo_succ hi q⟩, rfl, Hsim.refl _⟩
  · have c1 := of_decide_eq_false c1
    have : i = m := by omega
    subst this
    refine good_out ⟨_, Hsim.refl _, ?_⟩
    rw [if_pos rfl]
    rw [hi] at hk
    exact hk

-- the plain part
theorem mn_at {p q : Nat → Int} (hp : bd8 100 p) (hq : bd8 100 q) : ∀ k, k < 8 → mnF (w8 p) (w8 q) k = p k - q k := fun k hk => by
  have h1 := hp k hk
  have h2 := hq k hk
  show W (w8 p k + W (w8 q k * -1)) = _
  rw [w8_at p k hk, w8_at q k hk, w64_in (x := q k * -1) (by omega) (by omega), w64_in (by omega) (by omega)]
  omega
theorem su_at {p q : Nat → Int} (hp : bd8 100 p) (hq : bd8 100 q) : ∀ k, k < 8 → sumF (w8 p) (-1) (w8 q) k = p k - q k := fun k hk => by
  have h1 := hp k hk
  have h2 := hq k hk
  show W (w8 p k + -1 * w8 q k) = _
  rw [w8_at p k hk, w8_at q k hk, w64_in (by omega) (by omega)]
  omega
theorem bd_sub {p q r : Nat → Int} (hp : bd8 100 p) (hq : bd8 100 q) (h : ∀ k, k < 8 → r k = p k - q k) : bd8 200 r := fun k hk => by
  have h1 := hp k hk
  have h2 := hq k hk
  rw [h k hk]
  omega
theorem small_bd {c : Nat → Int} (h : smN c 100 = true) : bd8 100 c := fun k hk => by
  have := smallF_iff.1 h k hk
  rw [show W (0 - 100) = -100 from rfl] at this
  exact this
/-- A side's test in plain terms. -/
noncomputable def onZ (a : Nat → Nat → Int) (m : Nat) (c : Nat → Int) (j : Nat) : Bool :=
  (SG ((RE (a ((j + 1) % m)) + -RE (a j)) * (IM c + -IM (a j)) - (IM (a ((j + 1) % m)) + -IM (a j)) * (RE c + -RE (a j))) == 0) &&
  decide (SG ((RE c + -RE (a j)) * (RE c + -RE (a ((j + 1) % m))) + (IM c + -IM (a j)) * (IM c + -IM (a ((j + 1) % m)))) ≤ 0)
theorem onT_Z {a : Nat → Nat → Int} {m : Nat} {c : Nat → Int} (h : f_valid a m = true) (hc : bd8 100 c) {j : Nat} (hj : j < m) : onT a m c j = onZ a m c j := by
  have hp := corner_bd h hj
  have hq := corner_bd h (Nat.mod_lt (j + 1) (show 0 < m by omega))
  have d1 := mn_at hq hp
  have d2 := mn_at hc hp
  have d3 := mn_at hc hq
  have s1 := (cross_SG (bd_sub hq hp d1) (bd_sub hc hp d2)).1
  have s2 := (cross_SG (bd_sub hc hp d2) (bd_sub hc hq d3)).2
  obtain ⟨r1, i1⟩ := sub_pt d1
  obtain ⟨r2, i2⟩ := sub_pt d2
  obtain ⟨r3, i3⟩ := sub_pt d3
  rw [r1, i1, r2, i2] at s1
  rw [r2, i2, r3, i3] at s2
  unfold onT onZ
  have e1 : sgn4 (w4 (crF (w8 (mnF (w8 (a ((j + 1) % m))) (w8 (a j)))) (w8 (mnF (w8 c) (w8 (a j)))))) = _ := s1
  have e2 : sgn4 (w4 (alF (w8 (mnF (w8 c) (w8 (a j)))) (w8 (mnF (w8 c) (w8 (a ((j + 1) % m))))))) = _ := s2
  rw [e1, e2]
  generalize SG _ = x
  cases (x == 0) <;> rfl
theorem w8_bd {c : Nat → Int} (h : bd8 100 c) : bd8 100 (w8 c) := fun k hk => by
  rw [w8_at c k hk]
  exact h k hk
theorem onS_Z {a : Nat → Nat → Int} {m : Nat} {c : Nat → Int} (h : f_valid a m = true) (hc : bd8 100 c) {j : Nat} (hj : j < m) : onS a m c j = onZ a m c j := by
  have hp := corner_bd h hj
  have hq := corner_bd h (Nat.mod_lt (j + 1) (show 0 < m by omega))
  have d1 := su_at hp hc
  have d2 := su_at hq hc
  have s := cross_SG (bd_sub hp hc d1) (bd_sub hq hc d2)
  obtain ⟨r1, i1⟩ := sub_pt d1
  obtain ⟨r2, i2⟩ := sub_pt d2
  rw [r1, i1, r2, i2] at s
  obtain ⟨s1, s2⟩ := s
  unfold onS loF onZ
  have e1 : sgn4 (w4 (crF (w8 (sumF (w8 (a j)) (-1) (w8 c))) (w8 (sumF (w8 (a ((j + 1) % m))) (-1) (w8 c))))) = _ := s1
  have e2 := alS_eq (sumF (w8 (a j)) (-1) (w8 c)) (sumF (w8 (a ((j + 1) % m))) (-1) (w8 c))
  rw [s2] at e2
  have e2' : sgn4 (w4 (reF (w8 (mulF (w8 (mirF (w8 (sumF (w8 (w8 (a j))) (-1) (w8 (w8 c)))))) (w8 (sumF (w8 (w8 (a ((j + 1) % m)))) (-1) (w8 (w8 c)))))))) = _ := e2
  have e1' : sgn4 (w4 (crF (w8 (sumF (w8 (w8 (a j))) (-1) (w8 (w8 c)))) (w8 (sumF (w8 (w8 (a ((j + 1) % m)))) (-1) (w8 (w8 c)))))) = _ := e1
  rw [e1', e2']
  generalize hx : RE (a j) = x
  generalize hy : IM (a j) = y
  generalize hz : RE (a ((j + 1) % m)) = z
  generalize hw : IM (a ((j + 1) % m)) = w
  generalize hu : RE c = u
  generalize hv : IM c = v
  rw [show (x + -u) * (w + -v) - (y + -v) * (z + -u) = (z + -x) * (v + -y) - (w + -y) * (u + -x) by grind, show (x + -u) * (z + -u) + (y + -v) * (w + -v) = (u + -x) * (u + -z) + (v + -y) * (v + -w) by grind]
  generalize SG _ = s
  cases (s == 0) <;> rfl
/-- Whether a point lies on a polygon. -/
def poV (a : Nat → Nat → Int) (m : Nat) (c : Nat → Int) : Bool := f_valid a m && (smN c 100 && onV a m c)
def FpoO (po : (Nat → Nat → Int) → Nat → (Nat → Int) → Bool) : List SA → Option FR
  | [.row m g, .v (.agg ⟨[.int .i64 c0, .int .i64 c1, .int .i64 c2, .int .i64 c3, .int .i64 c4, .int .i64 c5, .int .i64 c6, .int .i64 c7]⟩)] => some { val := .v (.bool (po (itC g) m (v8 c0 c1 c2 c3 c4 c5 c6 c7))), obl := [allC m g, decide (m ≤ 2 ^ 38)] }
  | _ => none
theorem none_same {f g : Nat → Bool} {m : Nat} (h : ∀ i, i < m → f i = g i) : noneTo f m = noneTo g m := by
  rw [Bool.eq_iff_iff, noneTo_iff, noneTo_iff]
  exact ⟨fun k i hi => (h i hi) ▸ k i hi, fun k i hi => (h i hi).symm ▸ k i hi⟩
theorem on_same {a : Nat → Nat → Int} {m : Nat} {c : Nat → Int} (h : f_valid a m = true) (h' : smN c 100 = true) : onV a m c = !noneTo (onS a m c) m :=
  congrArg (fun b => !b) (none_same fun _ hi => (onT_Z h (small_bd h') hi).trans (onS_Z h (small_bd h') hi).symm)
theorem gmPoI_ok : GamOk Try.prog (gmPoI f_valid smN onV) := ext_ok (ext_ok (ext_ok g0_ok okv_I) (fSm_small ▸ ok_small)) ok_on
theorem okv_S : SpecOk Try.prog 24 (specR md_list (FvaO f_valid)) := ok_validS
theorem gmPoS_ok : GamOk Try.prog (gmPoS f_valid smN) := ext_ok (ext_ok g0_ok okv_S) (fSm_small ▸ ok_l8Small)
theorem ok_poI : SpecOk Try.prog 26 (specR md_lc (FpoO poV)) := by
  refine specR_hr gmPoI_ok Try.func26 rfl fun sas fr hF ho => ?_
  unfold FpoO at hF
  split at hF
  · rename_i m g c0 c1 c2 c3 c4 c5 c6 c7
    cases hF
    simp only [ob_cons] at ho
    obtain ⟨h1, h2, _⟩ := ho
    generalize hc : v8 c0 c1 c2 c3 c4 c5 c6 c7 = c
    have ec : (.agg ⟨[.int .i64 c0, .int .i64 c1, .int .i64 c2, .int .i64 c3, .int .i64 c4, .int .i64 c5, .int .i64 c6, .int .i64 c7]⟩ : Value) = cyv c := by rw [← hc]; rfl
    have ew : w8 c = c := by rw [← hc]; rfl
    rw [ec]
    refine ⟨[.row false m 8 (row8 (itC g)) 40], noLam, 100, .cons (ABeq.row fun j hj => allC_get h1 j hj) .nil, noLam' _, ?_⟩
    show GoodQ (execF Try.prog (gmPoI f_valid smN onV) noLam 100 Try.f26 [.sl 0 8 0 0 m none, .v (cyv c)] [.row false m 8 (row8 (itC g)) 40] (packK 1)) _
    rw [treePoI]
    simp only [Nat.zero_add, ew]
    have ha : allC m (row8 (itC g)) = true := allC_of (a := itC g) fun _ _ => rfl
    have hout : ∀ b, poV (itC g) m c = b → GoodQ (.out .ret [.v (.bool b)] [.row false m 8 (row8 (itC g)) 40]) (GivR (abP md_lc [.row m g, .v (cyv c)] []) { val := .v (.bool (poV (itC g) m c)), obl := [allC m g, decide (m ≤ 2 ^ 38)] }) := fun b hb => good_out ⟨_, rfl, by rw [hb], .cons (ABeq.row fun j hj => (allC_get h1 j hj).symm) .nil⟩
    refine good_needs (by simp only [ob_cons, ob_nil, and_true]; exact ⟨by simp, ha, h2⟩) (good_cond (fun q1 => good_cond (fun q2 => good_needs ?_ (hout _ ?_)) fun q2 => hout _ ?_) fun q1 => hout _ ?_)
    · simp only [ob_cons, ob_nil, and_true]
      exact ⟨by simp, ha, decide_eq_true (valid_m (show f_valid (itC g) m = true from q1)).1, h2⟩
    · unfold poV
      rw [show f_valid (itC g) m = true from q1, q2]
      rfl
    · unfold poV
      rw [show f_valid (itC g) m = true from q1, q2]
      rfl
    · unfold poV
      rw [show f_valid (itC g) m = false from q1]
      rfl
  · cases hF
theorem ok_poS : SpecOk Try.prog 28 (specR md_lc (FpoO poV)) := by
  refine specR_hr gmPoS_ok Try.func28 rfl fun sas fr hF ho => ?_
  unfold FpoO at hF
  split at hF
  · rename_i m g c0 c1 c2 c3 c4 c5 c6 c7
    cases hF
    simp only [ob_cons] at ho
    obtain ⟨h1, h2, _⟩ := ho
    generalize hc : v8 c0 c1 c2 c3 c4 c5 c6 c7 = c
    have ec : (.agg ⟨[.int .i64 c0, .int .i64 c1, .int .i64 c2, .int .i64 c3, .int .i64 c4, .int .i64 c5, .int .i64 c6, .int .i64 c7]⟩ : Value) = cyv c := by rw [← hc]; rfl
    have ew : w8 c = c := by rw [← hc]; rfl
    rw [ec]
    refine ⟨[.row false m 8 (row8 (itC g)) 40], lamPo (itC g) m c 40 (noneTo (onS (itC g) m c) m), 100, .cons (ABeq.row fun j hj => allC_get h1 j hj) .nil, lam1 (by kernel_rfl) (sumPo (itC g) m c 40 (of_decide_eq_true h2)), ?_⟩
    show GoodQ (execF Try.prog (gmPoS f_valid smN) (lamPo (itC g) m c 40 (noneTo (onS (itC g) m c) m)) 100 fPoS [.sl 0 8 0 0 m none, .v (cyv c)] [.row false m 8 (row8 (itC g)) 40] (packK 1)) _
    rw [treePoS]
    simp only [Nat.zero_add, ew]
    have ha : allC m (row8 (itC g)) = true := allC_of (a := itC g) fun _ _ => rfl
    have hout : ∀ b, poV (itC g) m c = b → GoodQ (.out .ret [.v (.bool b)] [.row false m 8 (row8 (itC g)) 40]) (GivR (abP md_lc [.row m g, .v (cyv c)] []) { val := .v (.bool (poV (itC g) m c)), obl := [allC m g, decide (m ≤ 2 ^ 38)] }) := fun b hb => good_out ⟨_, rfl, by rw [hb], .cons (ABeq.row fun j hj => (allC_get h1 j hj).symm) .nil⟩
    refine good_needs (by simp only [ob_cons, ob_nil, and_true]; exact ⟨by simp, ha, h2⟩) (good_cond (fun q1 => hout _ ?_) fun q1 => good_cond (fun q2 => hout _ ?_) fun q2 => good_needs ?_ (good_cond (fun q3 => hout _ ?_) fun q3 => hout _ ?_))
    · rw [Bool.not_eq_true'] at q1
      unfold poV
      rw [show f_valid (itC g) m = false from q1]
      rfl
    · rw [Bool.not_eq_true'] at q2
      unfold poV
      rw [q2, Bool.false_and, Bool.and_false]
    · rw [ob_cons]
      exact ⟨chk_of ⟨rfl, Hsim.refl _⟩, rfl⟩
    · rw [Bool.not_eq_false'] at q1 q2
      have q1 : f_valid (itC g) m = true := q1
      unfold poV
      rw [on_same q1 q2, q1, q2, q3]
      rfl
    · rw [Bool.not_eq_false'] at q1 q2
      have q1 : f_valid (itC g) m = true := q1
      unfold poV
      rw [on_same q1 q2, q1, q2, q3]
      rfl
  · cases hF

end Go.Proofs.Ytoligfhcogligaa

/- PolyWinding of both: their trees. Conditions: a list of points. -/
namespace Go.Proofs.Ytoligfhcogligaa
open Go.RowKit
set_option maxRecDepth 100000

noncomputable def bWn : Code := (Try.f29).body.getD .skip
noncomputable def wnR0 : Code := sqA bWn
noncomputable def wnR1 : Code := sqA (sqB bWn)
noncomputable def wnR3 : Code := sqA (sqB (sqB bWn))
noncomputable def wnP2 : Code := sqA (sqA (sqB (sqB (sqB bWn))))
noncomputable def wnRest : Code := sqB (sqB (sqB (sqB bWn)))
noncomputable def wnAs : Code := rfA (blB (sqB (sqA (sqB (sqB (sqB bWn))))))
noncomputable def wnBd : Code := rfB (blB (sqB (sqA (sqB (sqB (sqB bWn))))))
theorem bWn_eq : (Try.f29).body = some (nestL [wnR0, wnR1, wnR3] (.seq (.seq wnP2 (.block 0 (.rangeFunc (.tmp 27) #[28] wnAs wnBd))) wnRest)) := by kernel_rfl
def gmWn (va : (Nat → Nat → Int) → Nat → Bool) (sm : (Nat → Int) → Int → Bool) (on : (Nat → Nat → Int) → Nat → (Nat → Int) → Bool) (mn cr : (Nat → Int) → (Nat → Int) → Nat → Int) (im : (Nat → Int) → Nat → Int) (sg : (Nat → Int) → Int) (ob : Int → Bool) : Gam :=
  ext (ext (ext (ext (ext (ext (ext g0 23 (specR md_list (FvaO va))) 66 (specV (fSm sm))) 69 (specR md_lc (FonO on))) 72 (specV (fMn mn))) 59 (specV (fAl cr))) 73 (specV (fRe im))) 51 (specV (fSn sg ob))
abbrev hpWn0 (a : Nat → Nat → Int) (m : Nat) (c : Nat → Int) (t : TypeId) (x : Int) : List AB := [.row false m 8 (row8 a) t, cellC c, .cells [.v (i64 x)] 3]
abbrev ttWn : List AV := mkT 0 78 [(3, .ptr 1 0 0 0), (6, .ptr 2 0 0 0), (27, .fn 99 [.ptr 3 0 0 0])]
theorem preWn (va : (Nat → Nat → Int) → Nat → Bool) (sm : (Nat → Int) → Int → Bool) (on : (Nat → Nat → Int) → Nat → (Nat → Int) → Bool) (mn cr : (Nat → Int) → (Nat → Int) → Nat → Int) (im : (Nat → Int) → Nat → Int) (sg : (Nat → Int) → Int) (ob : Int → Bool) (a : Nat → Nat → Int) (m : Nat) (c : Nat → Int) : execL Try.prog (gmWn va sm on mn cr im sg ob) 100 ([wnR0, wnR1, wnR3] ++ [wnP2]) ([.sl 0 8 0 0 m none, .v (cyv c)] ++ List.replicate ((Try.f29).ntmps - 2) (.v undef)) [.row false m 8 (row8 a) 40] (leafK (lv3 [3, 6, 27] [] []) 1)
    = needs [Nat.ble ((0 : Nat) + m) m, allC m fun q ↦ row8 a ((0 : Nat) + q), decide (m ≤ (274877906944 : Nat))] (bif !va (itC fun q ↦ row8 a ((0 : Nat) + q)) m then Res.err else bif !sm (w8 c) (100 : Int) then Res.err else needs [Nat.ble ((0 : Nat) + m) m, allC m fun q ↦ row8 a ((0 : Nat) + q), decide ((0 : Nat) < m), decide (m ≤ (274877906944 : Nat))] (bif on (itC fun q ↦ row8 a ((0 : Nat) + q)) m (w8 c) then Res.err else Res.out Ex.normal [AV.dead, AV.dead, AV.dead, AV.ptr (1 : Nat) (0 : Nat) (0 : Nat) (0 : Nat), AV.dead, AV.dead, AV.ptr (2 : Nat) (0 : Nat) (0 : Nat) (0 : Nat), AV.dead, AV.dead, AV.dead, AV.dead, AV.dead, AV.dead, AV.dead, AV.dead, AV.dead, AV.dead, AV.dead, AV.dead, AV.dead, AV.dead, AV.dead, AV.dead, AV.dead, AV.dead, AV.dead, AV.dead, AV.fn (99 : Nat) [AV.ptr (3 : Nat) (0 : Nat) (0 : Nat) (0 : Nat)], AV.dead, AV.dead, AV.dead, AV.dead, AV.dead, AV.dead, AV.dead, AV.dead, AV.dead, AV.dead, AV.dead, AV.dead, AV.dead, AV.dead, AV.dead, AV.dead, AV.dead, AV.dead, AV.dead, AV.dead, AV.dead, AV.dead, AV.dead, AV.dead, AV.dead, AV.dead, AV.dead, AV.dead, AV.dead, AV.dead, AV.dead, AV.dead, AV.dead, AV.dead, AV.dead, AV.dead, AV.dead, AV.dead, AV.dead, AV.dead, AV.dead, AV.dead, AV.dead, AV.dead, AV.dead, AV.dead, AV.dead, AV.dead, AV.dead, AV.dead] [AB.row false m (8 : Nat) (row8 a) (40 : TypeId), AB.cells [AV.v (Value.int IntKind.i64 (c (0 : Nat))), AV.v (Value.int IntKind.i64 (c (1 : Nat))), AV.v (Value.int IntKind.i64 (c (2 : Nat))), AV.v (Value.int IntKind.i64 (c (3 : Nat))), AV.v (Value.int IntKind.i64 (c (4 : Nat))), AV.v (Value.int IntKind.i64 (c (5 : Nat))), AV.v (Value.int IntKind.i64 (c (6 : Nat))), AV.v (Value.int IntKind.i64 (c (7 : Nat)))] (40 : Nat), AB.cells [AV.v (Value.int IntKind.i64 (0 : Int))] (3 : Nat), AB.cells [AV.sl (0 : Nat) (8 : Nat) (0 : Nat) (0 : Nat) m none] (23 : Nat)])) := by kernel_rfl

abbrev ttLw : List AV := mkT 0 78 [(3, .ptr 1 0 0 0), (6, .ptr 2 0 0 0)]
abbrev hpWn (a : Nat → Nat → Int) (m : Nat) (c : Nat → Int) (t : TypeId) (x : Int) : List AB := hpWn0 a m c t x ++ [.gone]
theorem rndWn (va : (Nat → Nat → Int) → Nat → Bool) (sm : (Nat → Int) → Int → Bool) (on : (Nat → Nat → Int) → Nat → (Nat → Int) → Bool) (mn cr : (Nat → Int) → (Nat → Int) → Nat → Int) (im : (Nat → Int) → Nat → Int) (sg : (Nat → Int) → Int) (ob : Int → Bool) (a : Nat → Nat → Int) (m : Nat) (c : Nat → Int) (t : TypeId) (x : Int) (j : Nat) : execC Try.prog (gmWn va sm on mn cr im sg ob) 100 noLam wnAs (parT [28] [pairV (a j) (a ((j + 1) % m))] ttLw) (hpWn a m c t x) (andK Try.prog (gmWn va sm on mn cr im sg ob) 100 wnBd 4)
    = needs [ob (im (w8 (mn (w8 (a j)) (w8 c))) (0 : Nat)), ob (im (w8 (mn (w8 (a j)) (w8 c))) (1 : Nat)), ob (im (w8 (mn (w8 (a j)) (w8 c))) (2 : Nat)), ob (im (w8 (mn (w8 (a j)) (w8 c))) (3 : Nat)), ob (im (w8 (mn (w8 (a ((j + (1 : Nat)) % m))) (w8 c))) (0 : Nat)), ob (im (w8 (mn (w8 (a ((j + (1 : Nat)) % m))) (w8 c))) (1 : Nat)), ob (im (w8 (mn (w8 (a ((j + (1 : Nat)) % m))) (w8 c))) (2 : Nat)), ob (im (w8 (mn (w8 (a ((j + (1 : Nat)) % m))) (w8 c))) (3 : Nat)), ob (cr (w8 (mn (w8 (a ((j + (1 : Nat)) % m))) (w8 (a j)))) (w8 (mn (w8 c) (w8 (a j)))) (0 : Nat)), ob (cr (w8 (mn (w8 (a ((j + (1 : Nat)) % m))) (w8 (a j)))) (w8 (mn (w8 c) (w8 (a j)))) (1 : Nat)), ob (cr (w8 (mn (w8 (a ((j + (1 : Nat)) % m))) (w8 (a j)))) (w8 (mn (w8 c) (w8 (a j)))) (2 : Nat)), ob (cr (w8 (mn (w8 (a ((j + (1 : Nat)) % m))) (w8 (a j)))) (w8 (mn (w8 c) (w8 (a j)))) (3 : Nat))] (bif decide (sg (w4 (im (w8 (mn (w8 (a j)) (w8 c))))) ≤ (0 : Int)) then bif decide (sg (w4 (im (w8 (mn (w8 (a ((j + (1 : Nat)) % m))) (w8 c))))) > (0 : Int)) then bif decide (sg (w4 (cr (w8 (mn (w8 (a ((j + (1 : Nat)) % m))) (w8 (a j)))) (w8 (mn (w8 c) (w8 (a j)))))) > (0 : Int)) then Res.out Ex.normal [AV.dead, AV.dead, AV.dead, AV.dead, AV.dead, AV.dead, AV.dead, AV.dead, AV.dead, AV.dead, AV.dead, AV.dead, AV.dead, AV.dead, AV.dead, AV.dead, AV.dead, AV.dead, AV.dead, AV.dead, AV.dead, AV.dead, AV.dead, AV.dead, AV.dead, AV.dead, AV.dead, AV.dead, AV.dead, AV.dead, AV.dead, AV.dead, AV.dead, AV.dead, AV.dead, AV.dead, AV.dead, AV.dead, AV.dead, AV.dead, AV.dead, AV.dead, AV.dead, AV.dead, AV.dead, AV.dead, AV.dead, AV.dead, AV.dead, AV.dead, AV.dead, AV.dead, AV.dead, AV.dead, AV.dead, AV.dead, AV.dead, AV.dead, AV.dead, AV.dead, AV.dead, AV.dead, AV.dead, AV.dead, AV.dead, AV.dead, AV.dead, AV.dead, AV.dead, AV.dead, AV.dead, AV.dead, AV.dead, AV.dead, AV.dead, AV.dead, AV.dead, AV.dead] [AB.row false m (8 : Nat) (row8 a) t, AB.cells [AV.v (Value.int IntKind.i64 (c (0 : Nat))), AV.v (Value.int IntKind.i64 (c (1 : Nat))), AV.v (Value.int IntKind.i64 (c (2 : Nat))), AV.v (Value.int IntKind.i64 (c (3 : Nat))), AV.v (Value.int IntKind.i64 (c (4 : Nat))), AV.v (Value.int IntKind.i64 (c (5 : Nat))), AV.v (Value.int IntKind.i64 (c (6 : Nat))), AV.v (Value.int IntKind.i64 (c (7 : Nat)))] (40 : TypeId), AB.cells [AV.v (Value.int IntKind.i64 (IntKind.wrap IntKind.i64 (x + (1 : Int))))] (3 : TypeId), AB.gone] else bif decide (sg (w4 (im (w8 (mn (w8 (a j)) (w8 c))))) > (0 : Int)) then bif decide (sg (w4 (im (w8 (mn (w8 (a ((j + (1 : Nat)) % m))) (w8 c))))) ≤ (0 : Int)) then bif decide (sg (w4 (cr (w8 (mn (w8 (a ((j + (1 : Nat)) % m))) (w8 (a j)))) (w8 (mn (w8 c) (w8 (a j)))))) < (0 : Int)) then Res.out Ex.normal [AV.dead, AV.dead, AV.dead, AV.dead, AV.dead, AV.dead, AV.dead, AV.dead, AV.dead, AV.dead, AV.dead, AV.dead, AV.dead, AV.dead, AV.dead, AV.dead, AV.dead, AV.dead, AV.dead, AV.dead, AV.dead, AV.dead, AV.dead, AV.dead, AV.dead, AV.dead, AV.dead, AV.dead, AV.dead, AV.dead, AV.dead, AV.dead, AV.dead, AV.dead, AV.dead, AV.dead, AV.dead, AV.dead, AV.dead, AV.dead, AV.dead, AV.dead, AV.dead, AV.dead, AV.dead, AV.dead, AV.dead, AV.dead, AV.dead, AV.dead, AV.dead, AV.dead, AV.dead, AV.dead, AV.dead, AV.dead, AV.dead, AV.dead, AV.dead, AV.dead, AV.dead, AV.dead, AV.dead, AV.dead, AV.dead, AV.dead, AV.dead, AV.dead, AV.dead, AV.dead, AV.dead, AV.dead, AV.dead, AV.dead, AV.dead, AV.dead, AV.dead, AV.dead] [AB.row false m (8 : Nat) (row8 a) t, AB.cells [AV.v (Value.int IntKind.i64 (c (0 : Nat))), AV.v (Value.int IntKind.i64 (c (1 : Nat))), AV.v (Value.int IntKind.i64 (c (2 : Nat))), AV.v (Value.int IntKind.i64 (c (3 : Nat))), AV.v (Value.int IntKind.i64 (c (4 : Nat))), AV.v (Value.int IntKind.i64 (c (5 : Nat))), AV.v (Value.int IntKind.i64 (c (6 : Nat))), AV.v (Value.int IntKind.i64 (c (7 : Nat)))] (40 : TypeId), AB.cells [AV.v (Value.int IntKind.i64 (IntKind.wrap IntKind.i64 (x - (1 : Int))))] (3 : TypeId), AB.gone] else Res.out Ex.normal [AV.dead, AV.dead, AV.dead, AV.dead, AV.dead, AV.dead, AV.dead, AV.dead, AV.dead, AV.dead, AV.dead, AV.dead, AV.dead, AV.dead, AV.dead, AV.dead, AV.dead, AV.dead, AV.dead, AV.dead, AV.dead, AV.dead, AV.dead, AV.dead, AV.dead, AV.dead, AV.dead, AV.dead, AV.dead, AV.dead, AV.dead, AV.dead, AV.dead, AV.dead, AV.dead, AV.dead, AV.dead, AV.dead, AV.dead, AV.dead, AV.dead, AV.dead, AV.dead, AV.dead, AV.dead, AV.dead, AV.dead, AV.dead, AV.dead, AV.dead, AV.dead, AV.dead, AV.dead, AV.dead, AV.dead, AV.dead, AV.dead, AV.dead, AV.dead, AV.dead, AV.dead, AV.dead, AV.dead, AV.dead, AV.dead, AV.dead, AV.dead, AV.dead, AV.dead, AV.dead, AV.dead, AV.dead, AV.dead, AV.dead, AV.dead, AV.dead, AV.dead, AV.dead] [AB.row false m (8 : Nat) (row8 a) t, AB.cells [AV.v (Value.int IntKind.i64 (c (0 : Nat))), AV.v (Value.int IntKind.i64 (c (1 : Nat))), AV.v (Value.int IntKind.i64 (c (2 : Nat))), AV.v (Value.int IntKind.i64 (c (3 : Nat))), AV.v (Value.int IntKind.i64 (c (4 : Nat))), AV.v (Value.int IntKind.i64 (c (5 : Nat))), AV.v (Value.int IntKind.i64 (c (6 : Nat))), AV.v (Value.int IntKind.i64 (c (7 : Nat)))] (40 : TypeId), AB.cells [AV.v (Value.int IntKind.i64 x)] (3 : TypeId), AB.gone] else Res.out Ex.normal [AV.dead, AV.dead, AV.dead, AV.dead, AV.dead, AV.dead, AV.dead, AV.dead, AV.dead, AV.dead, AV.dead, AV.dead, AV.dead, AV.dead, AV.dead, AV.dead, AV.dead, AV.dead, AV.dead, AV.dead, AV.dead, AV.dead, AV.dead, AV.dead, AV.dead, AV.dead, AV.dead, AV.dead, AV.dead, AV.dead, AV.dead, AV.dead, AV.dead, AV.dead, AV.dead, AV.dead, AV.dead, AV.dead, AV.dead, AV.dead, AV.dead, AV.dead, AV.dead, AV.dead, AV.dead, AV.dead, AV.dead, AV.dead, AV.dead, AV.dead, AV.dead, AV.dead, AV.dead, AV.dead, AV.dead, AV.dead, AV.dead, AV.dead, AV.dead, AV.dead, AV.dead, AV.dead, AV.dead, AV.dead, AV.dead, AV.dead, AV.dead, AV.dead, AV.dead, AV.dead, AV.dead, AV.dead, AV.dead, AV.dead, AV.dead, AV.dead, AV.dead, AV.dead] [AB.row false m (8 : Nat) (row8 a) t, AB.cells [AV.v (Value.int IntKind.i64 (c (0 : Nat))), AV.v (Value.int IntKind.i64 (c (1 : Nat))), AV.v (Value.int IntKind.i64 (c (2 : Nat))), AV.v (Value.int IntKind.i64 (c (3 : Nat))), AV.v (Value.int IntKind.i64 (c (4 : Nat))), AV.v (Value.int IntKind.i64 (c (5 : Nat))), AV.v (Value.int IntKind.i64 (c (6 : Nat))), AV.v (Value.int IntKind.i64 (c (7 : Nat)))] (40 : TypeId), AB.cells [AV.v (Value.int IntKind.i64 x)] (3 : TypeId), AB.gone] else Res.out Ex.normal [AV.dead, AV.dead, AV.dead, AV.dead, AV.dead, AV.dead, AV.dead, AV.dead, AV.dead, AV.dead, AV.dead, AV.dead, AV.dead, AV.dead, AV.dead, AV.dead, AV.dead, AV.dead, AV.dead, AV.dead, AV.dead, AV.dead, AV.dead, AV.dead, AV.dead, AV.dead, AV.dead, AV.dead, AV.dead, AV.dead, AV.dead, AV.dead, AV.dead, AV.dead, AV.dead, AV.dead, AV.dead, AV.dead, AV.dead, AV.dead, AV.dead, AV.dead, AV.dead, AV.dead, AV.dead, AV.dead, AV.dead, AV.dead, AV.dead, AV.dead, AV.dead, AV.dead, AV.dead, AV.dead, AV.dead, AV.dead, AV.dead, AV.dead, AV.dead, AV.dead, AV.dead, AV.dead, AV.dead, AV.dead, AV.dead, AV.dead, AV.dead, AV.dead, AV.dead, AV.dead, AV.dead, AV.dead, AV.dead, AV.dead, AV.dead, AV.dead, AV.dead, AV.dead] [AB.row false m (8 : Nat) (row8 a) t, AB.cells [AV.v (Value.int IntKind.i64 (c (0 : Nat))), AV.v (Value.int IntKind.i64 (c (1 : Nat))), AV.v (Value.int IntKind.i64 (c (2 : Nat))), AV.v (Value.int IntKind.i64 (c (3 : Nat))), AV.v (Value.int IntKind.i64 (c (4 : Nat))), AV.v (Value.int IntKind.i64 (c (5 : Nat))), AV.v (Value.int IntKind.i64 (c (6 : Nat))), AV.v (Value.int IntKind.i64 (c (7 : Nat)))] (40 : TypeId), AB.cells [AV.v (Value.int IntKind.i64 x)] (3 : TypeId), AB.gone] else bif decide (sg (w4 (im (w8 (mn (w8 (a j)) (w8 c))))) > (0 : Int)) then bif decide (sg (w4 (im (w8 (mn (w8 (a ((j + (1 : Nat)) % m))) (w8 c))))) ≤ (0 : Int)) then bif decide (sg (w4 (cr (w8 (mn (w8 (a ((j + (1 : Nat)) % m))) (w8 (a j)))) (w8 (mn (w8 c) (w8 (a j)))))) < (0 : Int)) then Res.out Ex.normal [AV.dead, AV.dead, AV.dead, AV.dead, AV.dead, AV.dead, AV.dead, AV.dead, AV.dead, AV.dead, AV.dead, AV.dead, AV.dead, AV.dead, AV.dead, AV.dead, AV.dead, AV.dead, AV.dead, AV.dead, AV.dead, AV.dead, AV.dead, AV.dead, AV.dead, AV.dead, AV.dead, AV.dead, AV.dead, AV.dead, AV.dead, AV.dead, AV.dead, AV.dead, AV.dead, AV.dead, AV.dead, AV.dead, AV.dead, AV.dead, AV.dead, AV.dead, AV.dead, AV.dead, AV.dead, AV.dead, AV.dead, AV.dead, AV.dead, AV.dead, AV.dead, AV.dead, AV.dead, AV.dead, AV.dead, AV.dead, AV.dead, AV.dead, AV.dead, AV.dead, AV.dead, AV.dead, AV.dead, AV.dead, AV.dead, AV.dead, AV.dead, AV.dead, AV.dead, AV.dead, AV.dead, AV.dead, AV.dead, AV.dead, AV.dead, AV.dead, AV.dead, AV.dead] [AB.row false m (8 : Nat) (row8 a) t, AB.cells [AV.v (Value.int IntKind.i64 (c (0 : Nat))), AV.v (Value.int IntKind.i64 (c (1 : Nat))), AV.v (Value.int IntKind.i64 (c (2 : Nat))), AV.v (Value.int IntKind.i64 (c (3 : Nat))), AV.v (Value.int IntKind.i64 (c (4 : Nat))), AV.v (Value.int IntKind.i64 (c (5 : Nat))), AV.v (Value.int IntKind.i64 (c (6 : Nat))), AV.v (Value.int IntKind.i64 (c (7 : Nat)))] (40 : TypeId), AB.cells [AV.v (Value.int IntKind.i64 (IntKind.wrap IntKind.i64 (x - (1 : Int))))] (3 : TypeId), AB.gone] else Res.out Ex.normal [AV.dead, AV.dead, AV.dead, AV.dead, AV.dead, AV.dead, AV.dead, AV.dead, AV.dead, AV.dead, AV.dead, AV.dead, AV.dead, AV.dead, AV.dead, AV.dead, AV.dead, AV.dead, AV.dead, AV.dead, AV.dead, AV.dead, AV.dead, AV.dead, AV.dead, AV.dead, AV.dead, AV.dead, AV.dead, AV.dead, AV.dead, AV.dead, AV.dead, AV.dead, AV.dead, AV.dead, AV.dead, AV.dead, AV.dead, AV.dead, AV.dead, AV.dead, AV.dead, AV.dead, AV.dead, AV.dead, AV.dead, AV.dead, AV.dead, AV.dead, AV.dead, AV.dead, AV.dead, AV.dead, AV.dead, AV.dead, AV.dead, AV.dead, AV.dead, AV.dead, AV.dead, AV.dead, AV.dead, AV.dead, AV.dead, AV.dead, AV.dead, AV.dead, AV.dead, AV.dead, AV.dead, AV.dead, AV.dead, AV.dead, AV.dead, AV.dead, AV.dead, AV.dead] [AB.row false m (8 : Nat) (row8 a) t, AB.cells [AV.v (Value.int IntKind.i64 (c (0 : Nat))), AV.v (Value.int IntKind.i64 (c (1 : Nat))), AV.v (Value.int IntKind.i64 (c (2 : Nat))), AV.v (Value.int IntKind.i64 (c (3 : Nat))), AV.v (Value.int IntKind.i64 (c (4 : Nat))), AV.v (Value.int IntKind.i64 (c (5 : Nat))), AV.v (Value.int IntKind.i64 (c (6 : Nat))), AV.v (Value.int IntKind.i64 (c (7 : Nat)))] (40 : TypeId), AB.cells [AV.v (Value.int IntKind.i64 x)] (3 : TypeId), AB.gone] else Res.out Ex.normal [AV.dead, AV.dead, AV.dead, AV.dead, AV.dead, AV.dead, AV.dead, AV.dead, AV.dead, AV.dead, AV.dead, AV.dead, AV.dead, AV.dead, AV.dead, AV.dead, AV.dead, AV.dead, AV.dead, AV.dead, AV.dead, AV.dead, AV.dead, AV.dead, AV.dead, AV.dead, AV.dead, AV.dead, AV.dead, AV.dead, AV.dead, AV.dead, AV.dead, AV.dead, AV.dead, AV.dead, AV.dead, AV.dead, AV.dead, AV.dead, AV.dead, AV.dead, AV.dead, AV.dead, AV.dead, AV.dead, AV.dead, AV.dead, AV.dead, AV.dead, AV.dead, AV.dead, AV.dead, AV.dead, AV.dead, AV.dead, AV.dead, AV.dead, AV.dead, AV.dead, AV.dead, AV.dead, AV.dead, AV.dead, AV.dead, AV.dead, AV.dead, AV.dead, AV.dead, AV.dead, AV.dead, AV.dead, AV.dead, AV.dead, AV.dead, AV.dead, AV.dead, AV.dead] [AB.row false m (8 : Nat) (row8 a) t, AB.cells [AV.v (Value.int IntKind.i64 (c (0 : Nat))), AV.v (Value.int IntKind.i64 (c (1 : Nat))), AV.v (Value.int IntKind.i64 (c (2 : Nat))), AV.v (Value.int IntKind.i64 (c (3 : Nat))), AV.v (Value.int IntKind.i64 (c (4 : Nat))), AV.v (Value.int IntKind.i64 (c (5 : Nat))), AV.v (Value.int IntKind.i64 (c (6 : Nat))), AV.v (Value.int IntKind.i64 (c (7 : Nat)))] (40 : TypeId), AB.cells [AV.v (Value.int IntKind.i64 x)] (3 : TypeId), AB.gone] else Res.out Ex.normal [AV.dead, AV.dead, AV.dead, AV.dead, AV.dead, AV.dead, AV.dead, AV.dead, AV.dead, AV.dead, AV.dead, AV.dead, AV.dead, AV.dead, AV.dead, AV.dead, AV.dead, AV.dead, AV.dead, AV.dead, AV.dead, AV.dead, AV.dead, AV.dead, AV.dead, AV.dead, AV.dead, AV.dead, AV.dead, AV.dead, AV.dead, AV.dead, AV.dead, AV.dead, AV.dead, AV.dead, AV.dead, AV.dead, AV.dead, AV.dead, AV.dead, AV.dead, AV.dead, AV.dead, AV.dead, AV.dead, AV.dead, AV.dead, AV.dead, AV.dead, AV.dead, AV.dead, AV.dead, AV.dead, AV.dead, AV.dead, AV.dead, AV.dead, AV.dead, AV.dead, AV.dead, AV.dead, AV.dead, AV.dead, AV.dead, AV.dead, AV.dead, AV.dead, AV.dead, AV.dead, AV.dead, AV.dead, AV.dead, AV.dead, AV.dead, AV.dead, AV.dead, AV.dead] [AB.row false m (8 : Nat) (row8 a) t, AB.cells [AV.v (Value.int IntKind.i64 (c (0 : Nat))), AV.v (Value.int IntKind.i64 (c (1 : Nat))), AV.v (Value.int IntKind.i64 (c (2 : Nat))), AV.v (Value.int IntKind.i64 (c (3 : Nat))), AV.v (Value.int IntKind.i64 (c (4 : Nat))), AV.v (Value.int IntKind.i64 (c (5 : Nat))), AV.v (Value.int IntKind.i64 (c (6 : Nat))), AV.v (Value.int IntKind.i64 (c (7 : Nat)))] (40 : TypeId), AB.cells [AV.v (Value.int IntKind.i64 x)] (3 : TypeId), AB.gone] else bif decide (sg (w4 (im (w8 (mn (w8 (a j)) (w8 c))))) > (0 : Int)) then bif decide (sg (w4 (im (w8 (mn (w8 (a ((j + (1 : Nat)) % m))) (w8 c))))) ≤ (0 : Int)) then bif decide (sg (w4 (cr (w8 (mn (w8 (a ((j + (1 : Nat)) % m))) (w8 (a j)))) (w8 (mn (w8 c) (w8 (a j)))))) < (0 : Int)) then Res.out Ex.normal [AV.dead, AV.dead, AV.dead, AV.dead, AV.dead, AV.dead, AV.dead, AV.dead, AV.dead, AV.dead, AV.dead, AV.dead, AV.dead, AV.dead, AV.dead, AV.dead, AV.dead, AV.dead, AV.dead, AV.dead, AV.dead, AV.dead, AV.dead, AV.dead, AV.dead, AV.dead, AV.dead, AV.dead, AV.dead, AV.dead, AV.dead, AV.dead, AV.dead, AV.dead, AV.dead, AV.dead, AV.dead, AV.dead, AV.dead, AV.dead, AV.dead, AV.dead, AV.dead, AV.dead, AV.dead, AV.dead, AV.dead, AV.dead, AV.dead, AV.dead, AV.dead, AV.dead, AV.dead, AV.dead, AV.dead, AV.dead, AV.dead, AV.dead, AV.dead, AV.dead, AV.dead, AV.dead, AV.dead, AV.dead, AV.dead, AV.dead, AV.dead, AV.dead, AV.dead, AV.dead, AV.dead, AV.dead, AV.dead, AV.dead, AV.dead, AV.dead, AV.dead, AV.dead] [AB.row false m (8 : Nat) (row8 a) t, AB.cells [AV.v (Value.int IntKind.i64 (c (0 : Nat))), AV.v (Value.int IntKind.i64 (c (1 : Nat))), AV.v (Value.int IntKind.i64 (c (2 : Nat))), AV.v (Value.int IntKind.i64 (c (3 : Nat))), AV.v (Value.int IntKind.i64 (c (4 : Nat))), AV.v (Value.int IntKind.i64 (c (5 : Nat))), AV.v (Value.int IntKind.i64 (c (6 : Nat))), AV.v (Value.int IntKind.i64 (c (7 : Nat)))] (40 : TypeId), AB.cells [AV.v (Value.int IntKind.i64 (IntKind.wrap IntKind.i64 (x - (1 : Int))))] (3 : TypeId), AB.gone] else Res.out Ex.normal [AV.dead, AV.dead, AV.dead, AV.dead, AV.dead, AV.dead, AV.dead, AV.dead, AV.dead, AV.dead, AV.dead, AV.dead, AV.dead, AV.dead, AV.dead, AV.dead, AV.dead, AV.dead, AV.dead, AV.dead, AV.dead, AV.dead, AV.dead, AV.dead, AV.dead, AV.dead, AV.dead, AV.dead, AV.dead, AV.dead, AV.dead, AV.dead, AV.dead, AV.dead, AV.dead, AV.dead, AV.dead, AV.dead, AV.dead, AV.dead, AV.dead, AV.dead, AV.dead, AV.dead, AV.dead, AV.dead, AV.dead, AV.dead, AV.dead, AV.dead, AV.dead, AV.dead, AV.dead, AV.dead, AV.dead, AV.dead, AV.dead, AV.dead, AV.dead, AV.dead, AV.dead, AV.dead, AV.dead, AV.dead, AV.dead, AV.dead, AV.dead, AV.dead, AV.dead, AV.dead, AV.dead, AV.dead, AV.dead, AV.dead, AV.dead, AV.dead, AV.dead, AV.dead] [AB.row false m (8 : Nat) (row8 a) t, AB.cells [AV.v (Value.int IntKind.i64 (c (0 : Nat))), AV.v (Value.int IntKind.i64 (c (1 : Nat))), AV.v (Value.int IntKind.i64 (c (2 : Nat))), AV.v (Value.int IntKind.i64 (c (3 : Nat))), AV.v (Value.int IntKind.i64 (c (4 : Nat))), AV.v (Value.int IntKind.i64 (c (5 : Nat))), AV.v (Value.int IntKind.i64 (c (6 : Nat))), AV.v (Value.int IntKind.i64 (c (7 : Nat)))] (40 : TypeId), AB.cells [AV.v (Value.int IntKind.i64 x)] (3 : TypeId), AB.gone] else Res.out Ex.normal [AV.dead, AV.dead, AV.dead, AV.dead, AV.dead, AV.dead, AV.dead, AV.dead, AV.dead, AV.dead, AV.dead, AV.dead, AV.dead, AV.dead, AV.dead, AV.dead, AV.dead, AV.dead, AV.dead, AV.dead, AV.dead, AV.dead, AV.dead, AV.dead, AV.dead, AV.dead, AV.dead, AV.dead, AV.dead, AV.dead, AV.dead, AV.dead, AV.dead, AV.dead, AV.dead, AV.dead, AV.dead, AV.dead, AV.dead, AV.dead, AV.dead, AV.dead, AV.dead, AV.dead, AV.dead, AV.dead, AV.dead, AV.dead, AV.dead, AV.dead, AV.dead, AV.dead, AV.dead, AV.dead, AV.dead, AV.dead, AV.dead, AV.dead, AV.dead, AV.dead, AV.dead, AV.dead, AV.dead, AV.dead, AV.dead, AV.dead, AV.dead, AV.dead, AV.dead, AV.dead, AV.dead, AV.dead, AV.dead, AV.dead, AV.dead, AV.dead, AV.dead, AV.dead] [AB.row false m (8 : Nat) (row8 a) t, AB.cells [AV.v (Value.int IntKind.i64 (c (0 : Nat))), AV.v (Value.int IntKind.i64 (c (1 : Nat))), AV.v (Value.int IntKind.i64 (c (2 : Nat))), AV.v (Value.int IntKind.i64 (c (3 : Nat))), AV.v (Value.int IntKind.i64 (c (4 : Nat))), AV.v (Value.int IntKind.i64 (c (5 : Nat))), AV.v (Value.int IntKind.i64 (c (6 : Nat))), AV.v (Value.int IntKind.i64 (c (7 : Nat)))] (40 : TypeId), AB.cells [AV.v (Value.int IntKind.i64 x)] (3 : TypeId), AB.gone] else Res.out Ex.normal [AV.dead, AV.dead, AV.dead, AV.dead, AV.dead, AV.dead, AV.dead, AV.dead, AV.dead, AV.dead, AV.dead, AV.dead, AV.dead, AV.dead, AV.dead, AV.dead, AV.dead, AV.dead, AV.dead, AV.dead, AV.dead, AV.dead, AV.dead, AV.dead, AV.dead, AV.dead, AV.dead, AV.dead, AV.dead, AV.dead, AV.dead, AV.dead, AV.dead, AV.dead, AV.dead, AV.dead, AV.dead, AV.dead, AV.dead, AV.dead, AV.dead, AV.dead, AV.dead, AV.dead, AV.dead, AV.dead, AV.dead, AV.dead, AV.dead, AV.dead, AV.dead, AV.dead, AV.dead, AV.dead, AV.dead, AV.dead, AV.dead, AV.dead, AV.dead, AV.dead, AV.dead, AV.dead, AV.dead, AV.dead, AV.dead, AV.dead, AV.dead, AV.dead, AV.dead, AV.dead, AV.dead, AV.dead, AV.dead, AV.dead, AV.dead, AV.dead, AV.dead, AV.dead] [AB.row false m (8 : Nat) (row8 a) t, AB.cells [AV.v (Value.int IntKind.i64 (c (0 : Nat))), AV.v (Value.int IntKind.i64 (c (1 : Nat))), AV.v (Value.int IntKind.i64 (c (2 : Nat))), AV.v (Value.int IntKind.i64 (c (3 : Nat))), AV.v (Value.int IntKind.i64 (c (4 : Nat))), AV.v (Value.int IntKind.i64 (c (5 : Nat))), AV.v (Value.int IntKind.i64 (c (6 : Nat))), AV.v (Value.int IntKind.i64 (c (7 : Nat)))] (40 : TypeId), AB.cells [AV.v (Value.int IntKind.i64 x)] (3 : TypeId), AB.gone]) := by kernel_rfl

theorem endWn (va : (Nat → Nat → Int) → Nat → Bool) (sm : (Nat → Int) → Int → Bool) (on : (Nat → Nat → Int) → Nat → (Nat → Int) → Bool) (mn cr : (Nat → Int) → (Nat → Int) → Nat → Int) (im : (Nat → Int) → Nat → Int) (sg : (Nat → Int) → Int) (ob : Int → Bool) (a : Nat → Nat → Int) (m : Nat) (c : Nat → Int) (t : TypeId) (x : Int) : behind Try.prog (gmWn va sm on mn cr im sg ob) 100 Try.f29 0 wnRest (packK 1) .normal ttLw (hpWn a m c t x)
    = Res.out Ex.ret [AV.tup [AV.v (Value.int IntKind.i64 x), AV.v (Value.bool true)]] [AB.row false m (8 : Nat) (row8 a) t] := by kernel_rfl

theorem treeWnN (va : (Nat → Nat → Int) → Nat → Bool) (sm : (Nat → Int) → Int → Bool) (on : (Nat → Nat → Int) → Nat → (Nat → Int) → Bool) (mn cr : (Nat → Int) → (Nat → Int) → Nat → Int) (im : (Nat → Int) → Nat → Int) (sg : (Nat → Int) → Int) (ob : Int → Bool) (a : Nat → Nat → Int) (m : Nat) (c : Nat → Int) : execF Try.prog (gmWn va sm on mn cr im sg ob) noLam 100 Try.f29 [.sl 0 8 0 0 m none, .v (cyv c)] [.row false m 8 (row8 a) 40] (packK 1)
    = needs [Nat.ble ((0 : Nat) + m) m, allC m fun q ↦ row8 a ((0 : Nat) + q), decide (m ≤ (274877906944 : Nat))] (bif !va (itC fun q ↦ row8 a ((0 : Nat) + q)) m then Res.out Ex.ret [AV.tup [AV.v (Value.int IntKind.i64 (0 : Int)), AV.v (Value.bool false)]] [AB.row false m (8 : Nat) (row8 a) (40 : TypeId)] else bif !sm (w8 c) (100 : Int) then Res.out Ex.ret [AV.tup [AV.v (Value.int IntKind.i64 (0 : Int)), AV.v (Value.bool false)]] [AB.row false m (8 : Nat) (row8 a) (40 : TypeId)] else needs [Nat.ble ((0 : Nat) + m) m, allC m fun q ↦ row8 a ((0 : Nat) + q), decide ((0 : Nat) < m), decide (m ≤ (274877906944 : Nat)), on (itC fun q ↦ row8 a ((0 : Nat) + q)) m (w8 c)] (Res.out Ex.ret [AV.tup [AV.v (Value.int IntKind.i64 (0 : Int)), AV.v (Value.bool false)]] [AB.row false m (8 : Nat) (row8 a) (40 : TypeId)])) := by kernel_rfl

noncomputable abbrev fWs : Func := Try.f31
def gmWs (su : (Nat → Int) → Int → (Nat → Int) → Nat → Int) (cr : (Nat → Int) → (Nat → Int) → Nat → Int) (im : (Nat → Int) → Nat → Int) (sg : (Nat → Int) → Int) (ob : Int → Bool) : Gam :=
  ext (ext (ext (ext g0 74 (specV (fSu su))) 45 (specV (fAl cr))) 75 (specV (fRe im))) 44 (specV (fSn sg ob))
abbrev lvWs : Ex → List Nat := lv3 [0, 3, 6, 7] [6] [4, 5]
abbrev stWs (m : Nat) (x : Int) (i : Nat) : List AV := [.sl 0 8 0 0 m none, .ptr 1 0 0 0, .v (i64 x), .v (i64 i)]
theorem rndWs (su : (Nat → Int) → Int → (Nat → Int) → Nat → Int) (cr : (Nat → Int) → (Nat → Int) → Nat → Int) (im : (Nat → Int) → Nat → Int) (sg : (Nat → Int) → Int) (ob : Int → Bool) (a : Nat → Nat → Int) (m : Nat) (c : Nat → Int) (t : TypeId) (x : Int) (i : Nat) : execC Try.prog (gmWs su cr im sg ob) 100 noLam (loopAt 0 fWs) (mkT 0 85 ((lvWs .normal).zip (stWs m x i))) (hpPo a m c t) (leafV 85 lvWs 1)
    = bif decide ((↑i : Int) < (↑m : Int)) then needs [decide ((↑i : Int) < (↑m : Int)), decide ((0 : Nat) + Int.toNat (↑i : Int) < m), !decide ((↑m : Int) = (0 : Int)), decide ((0 : Int) ≤ Int.tmod (IntKind.wrap IntKind.i64 ((↑i : Int) + (1 : Int))) (↑m : Int)), decide (Int.tmod (IntKind.wrap IntKind.i64 ((↑i : Int) + (1 : Int))) (↑m : Int) < (↑m : Int)), decide ((0 : Nat) + Int.toNat (Int.tmod (IntKind.wrap IntKind.i64 ((↑i : Int) + (1 : Int))) (↑m : Int)) < m), ob (im (w8 (su (w8 (a ((0 : Nat) + Int.toNat (↑i : Int)))) (-1 : Int) (w8 c))) (0 : Nat)), ob (im (w8 (su (w8 (a ((0 : Nat) + Int.toNat (↑i : Int)))) (-1 : Int) (w8 c))) (1 : Nat)), ob (im (w8 (su (w8 (a ((0 : Nat) + Int.toNat (↑i : Int)))) (-1 : Int) (w8 c))) (2 : Nat)), ob (im (w8 (su (w8 (a ((0 : Nat) + Int.toNat (↑i : Int)))) (-1 : Int) (w8 c))) (3 : Nat)), ob (im (w8 (su (w8 (a ((0 : Nat) + Int.toNat (Int.tmod (IntKind.wrap IntKind.i64 ((↑i : Int) + (1 : Int))) (↑m : Int))))) (-1 : Int) (w8 c))) (0 : Nat)), ob (im (w8 (su (w8 (a ((0 : Nat) + Int.toNat (Int.tmod (IntKind.wrap IntKind.i64 ((↑i : Int) + (1 : Int))) (↑m : Int))))) (-1 : Int) (w8 c))) (1 : Nat)), ob (im (w8 (su (w8 (a ((0 : Nat) + Int.toNat (Int.tmod (IntKind.wrap IntKind.i64 ((↑i : Int) + (1 : Int))) (↑m : Int))))) (-1 : Int) (w8 c))) (2 : Nat)), ob (im (w8 (su (w8 (a ((0 : Nat) + Int.toNat (Int.tmod (IntKind.wrap IntKind.i64 ((↑i : Int) + (1 : Int))) (↑m : Int))))) (-1 : Int) (w8 c))) (3 : Nat)), ob (cr (w8 (su (w8 (a ((0 : Nat) + Int.toNat (↑i : Int)))) (-1 : Int) (w8 c))) (w8 (su (w8 (a ((0 : Nat) + Int.toNat (Int.tmod (IntKind.wrap IntKind.i64 ((↑i : Int) + (1 : Int))) (↑m : Int))))) (-1 : Int) (w8 c))) (0 : Nat)), ob (cr (w8 (su (w8 (a ((0 : Nat) + Int.toNat (↑i : Int)))) (-1 : Int) (w8 c))) (w8 (su (w8 (a ((0 : Nat) + Int.toNat (Int.tmod (IntKind.wrap IntKind.i64 ((↑i : Int) + (1 : Int))) (↑m : Int))))) (-1 : Int) (w8 c))) (1 : Nat)), ob (cr (w8 (su (w8 (a ((0 : Nat) + Int.toNat (↑i : Int)))) (-1 : Int) (w8 c))) (w8 (su (w8 (a ((0 : Nat) + Int.toNat (Int.tmod (IntKind.wrap IntKind.i64 ((↑i : Int) + (1 : Int))) (↑m : Int))))) (-1 : Int) (w8 c))) (2 : Nat)), ob (cr (w8 (su (w8 (a ((0 : Nat) + Int.toNat (↑i : Int)))) (-1 : Int) (w8 c))) (w8 (su (w8 (a ((0 : Nat) + Int.toNat (Int.tmod (IntKind.wrap IntKind.i64 ((↑i : Int) + (1 : Int))) (↑m : Int))))) (-1 : Int) (w8 c))) (3 : Nat))] (bif !decide (sg (w4 (im (w8 (su (w8 (a ((0 : Nat) + Int.toNat (↑i : Int)))) (-1 : Int) (w8 c))))) > (0 : Int)) then bif decide (sg (w4 (im (w8 (su (w8 (a ((0 : Nat) + Int.toNat (Int.tmod (IntKind.wrap IntKind.i64 ((↑i : Int) + (1 : Int))) (↑m : Int))))) (-1 : Int) (w8 c))))) > (0 : Int)) then bif decide (sg (w4 (cr (w8 (su (w8 (a ((0 : Nat) + Int.toNat (↑i : Int)))) (-1 : Int) (w8 c))) (w8 (su (w8 (a ((0 : Nat) + Int.toNat (Int.tmod (IntKind.wrap IntKind.i64 ((↑i : Int) + (1 : Int))) (↑m : Int))))) (-1 : Int) (w8 c))))) > (0 : Int)) then Res.out Ex.normal [AV.sl (0 : Nat) (8 : Nat) (0 : Nat) (0 : Nat) m none, AV.ptr (1 : Nat) (0 : Nat) (0 : Nat) (0 : Nat), AV.v (Value.int IntKind.i64 (IntKind.wrap IntKind.i64 (x + (1 : Int)))), AV.v (Value.int IntKind.i64 (IntKind.wrap IntKind.i64 ((↑i : Int) + (1 : Int))))] [AB.row false m (8 : Nat) (row8 a) t, AB.cells [AV.v (Value.int IntKind.i64 (c (0 : Nat))), AV.v (Value.int IntKind.i64 (c (1 : Nat))), AV.v (Value.int IntKind.i64 (c (2 : Nat))), AV.v (Value.int IntKind.i64 (c (3 : Nat))), AV.v (Value.int IntKind.i64 (c (4 : Nat))), AV.v (Value.int IntKind.i64 (c (5 : Nat))), AV.v (Value.int IntKind.i64 (c (6 : Nat))), AV.v (Value.int IntKind.i64 (c (7 : Nat)))] (40 : TypeId)] else bif decide (sg (w4 (im (w8 (su (w8 (a ((0 : Nat) + Int.toNat (↑i : Int)))) (-1 : Int) (w8 c))))) > (0 : Int)) then bif !decide (sg (w4 (im (w8 (su (w8 (a ((0 : Nat) + Int.toNat (Int.tmod (IntKind.wrap IntKind.i64 ((↑i : Int) + (1 : Int))) (↑m : Int))))) (-1 : Int) (w8 c))))) > (0 : Int)) then bif decide (sg (w4 (cr (w8 (su (w8 (a ((0 : Nat) + Int.toNat (↑i : Int)))) (-1 : Int) (w8 c))) (w8 (su (w8 (a ((0 : Nat) + Int.toNat (Int.tmod (IntKind.wrap IntKind.i64 ((↑i : Int) + (1 : Int))) (↑m : Int))))) (-1 : Int) (w8 c))))) < (0 : Int)) then Res.out Ex.normal [AV.sl (0 : Nat) (8 : Nat) (0 : Nat) (0 : Nat) m none, AV.ptr (1 : Nat) (0 : Nat) (0 : Nat) (0 : Nat), AV.v (Value.int IntKind.i64 (IntKind.wrap IntKind.i64 (x - (1 : Int)))), AV.v (Value.int IntKind.i64 (IntKind.wrap IntKind.i64 ((↑i : Int) + (1 : Int))))] [AB.row false m (8 : Nat) (row8 a) t, AB.cells [AV.v (Value.int IntKind.i64 (c (0 : Nat))), AV.v (Value.int IntKind.i64 (c (1 : Nat))), AV.v (Value.int IntKind.i64 (c (2 : Nat))), AV.v (Value.int IntKind.i64 (c (3 : Nat))), AV.v (Value.int IntKind.i64 (c (4 : Nat))), AV.v (Value.int IntKind.i64 (c (5 : Nat))), AV.v (Value.int IntKind.i64 (c (6 : Nat))), AV.v (Value.int IntKind.i64 (c (7 : Nat)))] (40 : TypeId)] else Res.out Ex.normal [AV.sl (0 : Nat) (8 : Nat) (0 : Nat) (0 : Nat) m none, AV.ptr (1 : Nat) (0 : Nat) (0 : Nat) (0 : Nat), AV.v (Value.int IntKind.i64 x), AV.v (Value.int IntKind.i64 (IntKind.wrap IntKind.i64 ((↑i : Int) + (1 : Int))))] [AB.row false m (8 : Nat) (row8 a) t, AB.cells [AV.v (Value.int IntKind.i64 (c (0 : Nat))), AV.v (Value.int IntKind.i64 (c (1 : Nat))), AV.v (Value.int IntKind.i64 (c (2 : Nat))), AV.v (Value.int IntKind.i64 (c (3 : Nat))), AV.v (Value.int IntKind.i64 (c (4 : Nat))), AV.v (Value.int IntKind.i64 (c (5 : Nat))), AV.v (Value.int IntKind.i64 (c (6 : Nat))), AV.v (Value.int IntKind.i64 (c (7 : Nat)))] (40 : TypeId)] else Res.out Ex.normal [AV.sl (0 : Nat) (8 : Nat) (0 : Nat) (0 : Nat) m none, AV.ptr (1 : Nat) (0 : Nat) (0 : Nat) (0 : Nat), AV.v (Value.int IntKind.i64 x), AV.v (Value.int IntKind.i64 (IntKind.wrap IntKind.i64 ((↑i : Int) + (1 : Int))))] [AB.row false m (8 : Nat) (row8 a) t, AB.cells [AV.v (Value.int IntKind.i64 (c (0 : Nat))), AV.v (Value.int IntKind.i64 (c (1 : Nat))), AV.v (Value.int IntKind.i64 (c (2 : Nat))), AV.v (Value.int IntKind.i64 (c (3 : Nat))), AV.v (Value.int IntKind.i64 (c (4 : Nat))), AV.v (Value.int IntKind.i64 (c (5 : Nat))), AV.v (Value.int IntKind.i64 (c (6 : Nat))), AV.v (Value.int IntKind.i64 (c (7 : Nat)))] (40 : TypeId)] else Res.out Ex.normal [AV.sl (0 : Nat) (8 : Nat) (0 : Nat) (0 : Nat) m none, AV.ptr (1 : Nat) (0 : Nat) (0 : Nat) (0 : Nat), AV.v (Value.int IntKind.i64 x), AV.v (Value.int IntKind.i64 (IntKind.wrap IntKind.i64 ((↑i : Int) + (1 : Int))))] [AB.row false m (8 : Nat) (row8 a) t, AB.cells [AV.v (Value.int IntKind.i64 (c (0 : Nat))), AV.v (Value.int IntKind.i64 (c (1 : Nat))), AV.v (Value.int IntKind.i64 (c (2 : Nat))), AV.v (Value.int IntKind.i64 (c (3 : Nat))), AV.v (Value.int IntKind.i64 (c (4 : Nat))), AV.v (Value.int IntKind.i64 (c (5 : Nat))), AV.v (Value.int IntKind.i64 (c (6 : Nat))), AV.v (Value.int IntKind.i64 (c (7 : Nat)))] (40 : TypeId)] else bif decide (sg (w4 (im (w8 (su (w8 (a ((0 : Nat) + Int.toNat (↑i : Int)))) (-1 : Int) (w8 c))))) > (0 : Int)) then bif !decide (sg (w4 (im (w8 (su (w8 (a ((0 : Nat) + Int.toNat (Int.tmod (IntKind.wrap IntKind.i64 ((↑i : Int) + (1 : Int))) (↑m : Int))))) (-1 : Int) (w8 c))))) > (0 : Int)) then bif decide (sg (w4 (cr (w8 (su (w8 (a ((0 : Nat) + Int.toNat (↑i : Int)))) (-1 : Int) (w8 c))) (w8 (su (w8 (a ((0 : Nat) + Int.toNat (Int.tmod (IntKind.wrap IntKind.i64 ((↑i : Int) + (1 : Int))) (↑m : Int))))) (-1 : Int) (w8 c))))) < (0 : Int)) then Res.out Ex.normal [AV.sl (0 : Nat) (8 : Nat) (0 : Nat) (0 : Nat) m none, AV.ptr (1 : Nat) (0 : Nat) (0 : Nat) (0 : Nat), AV.v (Value.int IntKind.i64 (IntKind.wrap IntKind.i64 (x - (1 : Int)))), AV.v (Value.int IntKind.i64 (IntKind.wrap IntKind.i64 ((↑i : Int) + (1 : Int))))] [AB.row false m (8 : Nat) (row8 a) t, AB.cells [AV.v (Value.int IntKind.i64 (c (0 : Nat))), AV.v (Value.int IntKind.i64 (c (1 : Nat))), AV.v (Value.int IntKind.i64 (c (2 : Nat))), AV.v (Value.int IntKind.i64 (c (3 : Nat))), AV.v (Value.int IntKind.i64 (c (4 : Nat))), AV.v (Value.int IntKind.i64 (c (5 : Nat))), AV.v (Value.int IntKind.i64 (c (6 : Nat))), AV.v (Value.int IntKind.i64 (c (7 : Nat)))] (40 : TypeId)] else Res.out Ex.normal [AV.sl (0 : Nat) (8 : Nat) (0 : Nat) (0 : Nat) m none, AV.ptr (1 : Nat) (0 : Nat) (0 : Nat) (0 : Nat), AV.v (Value.int IntKind.i64 x), AV.v (Value.int IntKind.i64 (IntKind.wrap IntKind.i64 ((↑i : Int) + (1 : Int))))] [AB.row false m (8 : Nat) (row8 a) t, AB.cells [AV.v (Value.int IntKind.i64 (c (0 : Nat))), AV.v (Value.int IntKind.i64 (c (1 : Nat))), AV.v (Value.int IntKind.i64 (c (2 : Nat))), AV.v (Value.int IntKind.i64 (c (3 : Nat))), AV.v (Value.int IntKind.i64 (c (4 : Nat))), AV.v (Value.int IntKind.i64 (c (5 : Nat))), AV.v (Value.int IntKind.i64 (c (6 : Nat))), AV.v (Value.int IntKind.i64 (c (7 : Nat)))] (40 : TypeId)] else Res.out Ex.normal [AV.sl (0 : Nat) (8 : Nat) (0 : Nat) (0 : Nat) m none, AV.ptr (1 : Nat) (0 : Nat) (0 : Nat) (0 : Nat), AV.v (Value.int IntKind.i64 x), AV.v (Value.int IntKind.i64 (IntKind.wrap IntKind.i64 ((↑i : Int) + (1 : Int))))] [AB.row false m (8 : Nat) (row8 a) t, AB.cells [AV.v (Value.int IntKind.i64 (c (0 : Nat))), AV.v (Value.int IntKind.i64 (c (1 : Nat))), AV.v (Value.int IntKind.i64 (c (2 : Nat))), AV.v (Value.int IntKind.i64 (c (3 : Nat))), AV.v (Value.int IntKind.i64 (c (4 : Nat))), AV.v (Value.int IntKind.i64 (c (5 : Nat))), AV.v (Value.int IntKind.i64 (c (6 : Nat))), AV.v (Value.int IntKind.i64 (c (7 : Nat)))] (40 : TypeId)] else Res.out Ex.normal [AV.sl (0 : Nat) (8 : Nat) (0 : Nat) (0 : Nat) m none, AV.ptr (1 : Nat) (0 : Nat) (0 : Nat) (0 : Nat), AV.v (Value.int IntKind.i64 x), AV.v (Value.int IntKind.i64 (IntKind.wrap IntKind.i64 ((↑i : Int) + (1 : Int))))] [AB.row false m (8 : Nat) (row8 a) t, AB.cells [AV.v (Value.int IntKind.i64 (c (0 : Nat))), AV.v (Value.int IntKind.i64 (c (1 : Nat))), AV.v (Value.int IntKind.i64 (c (2 : Nat))), AV.v (Value.int IntKind.i64 (c (3 : Nat))), AV.v (Value.int IntKind.i64 (c (4 : Nat))), AV.v (Value.int IntKind.i64 (c (5 : Nat))), AV.v (Value.int IntKind.i64 (c (6 : Nat))), AV.v (Value.int IntKind.i64 (c (7 : Nat)))] (40 : TypeId)] else bif decide (sg (w4 (im (w8 (su (w8 (a ((0 : Nat) + Int.toNat (↑i : Int)))) (-1 : Int) (w8 c))))) > (0 : Int)) then bif !decide (sg (w4 (im (w8 (su (w8 (a ((0 : Nat) + Int.toNat (Int.tmod (IntKind.wrap IntKind.i64 ((↑i : Int) + (1 : Int))) (↑m : Int))))) (-1 : Int) (w8 c))))) > (0 : Int)) then bif decide (sg (w4 (cr (w8 (su (w8 (a ((0 : Nat) + Int.toNat (↑i : Int)))) (-1 : Int) (w8 c))) (w8 (su (w8 (a ((0 : Nat) + Int.toNat (Int.tmod (IntKind.wrap IntKind.i64 ((↑i : Int) + (1 : Int))) (↑m : Int))))) (-1 : Int) (w8 c))))) < (0 : Int)) then Res.out Ex.normal [AV.sl (0 : Nat) (8 : Nat) (0 : Nat) (0 : Nat) m none, AV.ptr (1 : Nat) (0 : Nat) (0 : Nat) (0 : Nat), AV.v (Value.int IntKind.i64 (IntKind.wrap IntKind.i64 (x - (1 : Int)))), AV.v (Value.int IntKind.i64 (IntKind.wrap IntKind.i64 ((↑i : Int) + (1 : Int))))] [AB.row false m (8 : Nat) (row8 a) t, AB.cells [AV.v (Value.int IntKind.i64 (c (0 : Nat))), AV.v (Value.int IntKind.i64 (c (1 : Nat))), AV.v (Value.int IntKind.i64 (c (2 : Nat))), AV.v (Value.int IntKind.i64 (c (3 : Nat))), AV.v (Value.int IntKind.i64 (c (4 : Nat))), AV.v (Value.int IntKind.i64 (c (5 : Nat))), AV.v (Value.int IntKind.i64 (c (6 : Nat))), AV.v (Value.int IntKind.i64 (c (7 : Nat)))] (40 : TypeId)] else Res.out Ex.normal [AV.sl (0 : Nat) (8 : Nat) (0 : Nat) (0 : Nat) m none, AV.ptr (1 : Nat) (0 : Nat) (0 : Nat) (0 : Nat), AV.v (Value.int IntKind.i64 x), AV.v (Value.int IntKind.i64 (IntKind.wrap IntKind.i64 ((↑i : Int) + (1 : Int))))] [AB.row false m (8 : Nat) (row8 a) t, AB.cells [AV.v (Value.int IntKind.i64 (c (0 : Nat))), AV.v (Value.int IntKind.i64 (c (1 : Nat))), AV.v (Value.int IntKind.i64 (c (2 : Nat))), AV.v (Value.int IntKind.i64 (c (3 : Nat))), AV.v (Value.int IntKind.i64 (c (4 : Nat))), AV.v (Value.int IntKind.i64 (c (5 : Nat))), AV.v (Value.int IntKind.i64 (c (6 : Nat))), AV.v (Value.int IntKind.i64 (c (7 : Nat)))] (40 : TypeId)] else Res.out Ex.normal [AV.sl (0 : Nat) (8 : Nat) (0 : Nat) (0 : Nat) m none, AV.ptr (1 : Nat) (0 : Nat) (0 : Nat) (0 : Nat), AV.v (Value.int IntKind.i64 x), AV.v (Value.int IntKind.i64 (IntKind.wrap IntKind.i64 ((↑i : Int) + (1 : Int))))] [AB.row false m (8 : Nat) (row8 a) t, AB.cells [AV.v (Value.int IntKind.i64 (c (0 : Nat))), AV.v (Value.int IntKind.i64 (c (1 : Nat))), AV.v (Value.int IntKind.i64 (c (2 : Nat))), AV.v (Value.int IntKind.i64 (c (3 : Nat))), AV.v (Value.int IntKind.i64 (c (4 : Nat))), AV.v (Value.int IntKind.i64 (c (5 : Nat))), AV.v (Value.int IntKind.i64 (c (6 : Nat))), AV.v (Value.int IntKind.i64 (c (7 : Nat)))] (40 : TypeId)] else Res.out Ex.normal [AV.sl (0 : Nat) (8 : Nat) (0 : Nat) (0 : Nat) m none, AV.ptr (1 : Nat) (0 : Nat) (0 : Nat) (0 : Nat), AV.v (Value.int IntKind.i64 x), AV.v (Value.int IntKind.i64 (IntKind.wrap IntKind.i64 ((↑i : Int) + (1 : Int))))] [AB.row false m (8 : Nat) (row8 a) t, AB.cells [AV.v (Value.int IntKind.i64 (c (0 : Nat))), AV.v (Value.int IntKind.i64 (c (1 : Nat))), AV.v (Value.int IntKind.i64 (c (2 : Nat))), AV.v (Value.int IntKind.i64 (c (3 : Nat))), AV.v (Value.int IntKind.i64 (c (4 : Nat))), AV.v (Value.int IntKind.i64 (c (5 : Nat))), AV.v (Value.int IntKind.i64 (c (6 : Nat))), AV.v (Value.int IntKind.i64 (c (7 : Nat)))] (40 : TypeId)]) else Res.out (Ex.exit (0 : Nat)) [AV.v (Value.int IntKind.i64 x)] [AB.row false m (8 : Nat) (row8 a) t] := by kernel_rfl

noncomputable abbrev lamWs (a : Nat → Nat → Int) (m : Nat) (c : Nat → Int) (t : TypeId) (x : Int) : Nat → Option Sum := oneL 0 (atS 85 (lvWs .normal) 1 (stWs m 0 0) (hpPo a m c t) (fun K => K .normal (mkT 0 85 [(6, .v (i64 x))]) [.row false m 8 (row8 a) t]))
def gmWsF (va : (Nat → Nat → Int) → Nat → Bool) (sm : (Nat → Int) → Int → Bool) (po : (Nat → Nat → Int) → Nat → (Nat → Int) → Bool) : Gam := ext (ext (ext g0 24 (specR md_list (FvaO va))) 67 (specV (fSm sm))) 28 (specR md_lc (FpoO po))
theorem treeWs (va : (Nat → Nat → Int) → Nat → Bool) (sm : (Nat → Int) → Int → Bool) (po : (Nat → Nat → Int) → Nat → (Nat → Int) → Bool) (a : Nat → Nat → Int) (m : Nat) (c : Nat → Int) (x : Int) : execF Try.prog (gmWsF va sm po) (lamWs a m c 40 x) 100 fWs [.sl 0 8 0 0 m none, .v (cyv c)] [.row false m 8 (row8 a) 40] (packK 1)
    = needs [Nat.ble ((0 : Nat) + m) m, allC m fun q ↦ row8 a ((0 : Nat) + q), decide (m ≤ (274877906944 : Nat))] (bif !va (itC fun q ↦ row8 a ((0 : Nat) + q)) m then Res.out Ex.ret [AV.tup [AV.v (Value.int IntKind.i64 (0 : Int)), AV.v (Value.bool false)]] [AB.row false m (8 : Nat) (row8 a) (40 : TypeId)] else bif !sm (w8 c) (100 : Int) then Res.out Ex.ret [AV.tup [AV.v (Value.int IntKind.i64 (0 : Int)), AV.v (Value.bool false)]] [AB.row false m (8 : Nat) (row8 a) (40 : TypeId)] else needs [Nat.ble ((0 : Nat) + m) m, allC m fun q ↦ row8 a ((0 : Nat) + q), decide (m ≤ (274877906944 : Nat))] (bif po (itC fun q ↦ row8 a ((0 : Nat) + q)) m (w8 c) then Res.out Ex.ret [AV.tup [AV.v (Value.int IntKind.i64 (0 : Int)), AV.v (Value.bool false)]] [AB.row false m (8 : Nat) (row8 a) (40 : TypeId)] else needs [chk ([AV.sl (0 : Nat) (8 : Nat) (0 : Nat) (0 : Nat) m none, AV.ptr (1 : Nat) (0 : Nat) (0 : Nat) (0 : Nat), AV.v (Value.int IntKind.i64 (0 : Int)), AV.v (Value.int IntKind.i64 (0 : Int))] = stWs m (0 : Int) (0 : Nat) ∧ Hsim [AB.row false m (8 : Nat) (row8 a) (40 : TypeId), AB.cells [AV.v (Value.int IntKind.i64 (c (0 : Nat))), AV.v (Value.int IntKind.i64 (c (1 : Nat))), AV.v (Value.int IntKind.i64 (c (2 : Nat))), AV.v (Value.int IntKind.i64 (c (3 : Nat))), AV.v (Value.int IntKind.i64 (c (4 : Nat))), AV.v (Value.int IntKind.i64 (c (5 : Nat))), AV.v (Value.int IntKind.i64 (c (6 : Nat))), AV.v (Value.int IntKind.i64 (c (7 : Nat)))] (40 : Nat)] (hpPo a m c (40 : TypeId)))] (Res.out Ex.ret [AV.tup [AV.v (Value.int IntKind.i64 x), AV.v (Value.bool true)]] [AB.row false m (8 : Nat) (row8 a) (40 : TypeId)]))) := by kernel_rfl

end Go.Proofs.Ytoligfhcogligaa

/- The abstract machine, 34: two cases of a word, read as one. No conditions. -/
namespace Go.Proofs.Ytoligfhcogligaa
open Go.RowKit
set_option maxRecDepth 100000

theorem specR_two {P : Program} {f : FuncId} {mds : List Md} {FY FN F : List SA → Option FR} (hY : SpecOk P f (specR mds FY)) (hN : SpecOk P f (specR mds FN))
    (hF : ∀ sas fr, F sas = some fr → obls fr.obl = true → (∃ ob, FY sas = some { fr with obl := ob } ∧ obls ob = true) ∨ ∃ ob, FN sas = some { fr with obl := ob } ∧ obls ob = true) : SpecOk P f (specR mds F) := by
  classical
  refine ⟨hY.1, fun avs H base δ ν vals w hS ho hv hr hlt hfree hsep => ?_⟩
  have hS' := hS
  unfold specR at hS'
  split at hS'
  · rename_i xs hxs
    split at hS'
    · rename_i fr hFr
      split at hS'
      · cases hc : ((!hasWr mds || nodupB ((ixC mds xs).filterMap id)) && fr.new.all isRowT && Nat.beq (abP mds (xs.map (·.sa)) fr.put).length (abC mds (xs.map (·.sa))).length) with
        | false => rw [hc] at hS'; cases hS'
        | true =>
          rw [hc] at hS'
          simp only [cond_true, Option.some.injEq] at hS'
          have ho' : obls fr.obl = true := by
            rw [← hS'] at ho
            have : obls (xs.flatMap (·.ob)) = true ∧ obls fr.obl = true := by simpa [obls, List.all_append] using ho
            exact this.2
          have one : ∀ {G : List SA → Option FR}, SpecOk P f (specR mds G) → (∃ ob, G (xs.map (·.sa)) = some { fr with obl := ob } ∧ obls ob = true) → SpecOk P f (specR mds fun sas => if sas = xs.map (·.sa) then some fr else none) := fun {G} hG hob =>
            specR_case hG fun sas fr' h' _ => by
              split at h'
              · rename_i e
                cases h'
                rw [e]
                exact hob
              · cases h'
          have key : SpecOk P f (specR mds fun sas => if sas = xs.map (·.sa) then some fr else none) := by
            rcases hF _ _ hFr ho' with h | h
            · exact one hY h
            · exact one hN h
          refine key.2 avs H base δ ν vals w ?_ ho hv hr hlt hfree hsep
          rw [← hS]
          unfold specR
          rw [hxs]
          simp only [hFr, if_true]
      · cases hS'
    · cases hS'
  · cases hS'

end Go.Proofs.Ytoligfhcogligaa

/- PolyWinding of both: they tell the same. Conditions: a list of points. -/
namespace Go.Proofs.Ytoligfhcogligaa
open Go.RowKit
set_option maxRecDepth 100000

/-- Where a corner lies, above the point's height or not; on which side of side j the point lies. -/
def wnF (a : Nat → Nat → Int) (c : Nat → Int) (j : Nat) : Int := sgn4 (w4 (imF (w8 (mnF (w8 (a j)) (w8 c)))))
def wnL (a : Nat → Nat → Int) (m : Nat) (c : Nat → Int) (j : Nat) : Int := sgn4 (w4 (crF (w8 (mnF (w8 (a ((j + 1) % m))) (w8 (a j)))) (w8 (mnF (w8 c) (w8 (a j))))))
def stpN (f l s x : Int) : Int := bif decide (f > 0) then bif decide (l ≤ 0) then bif decide (s < 0) then W (x - 1) else x else x else x
def stpB (f l s x : Int) : Int := bif decide (f ≤ 0) then bif decide (l > 0) then bif decide (s > 0) then W (x + 1) else stpN f l s x else stpN f l s x else stpN f l s x
def wnT (a : Nat → Nat → Int) (m : Nat) (c : Nat → Int) (x : Int) (j : Nat) : Int := stpB (wnF a c j) (wnF a c ((j + 1) % m)) (wnL a m c j) x
def wnS (a : Nat → Nat → Int) (m : Nat) (c : Nat → Int) (i : Nat) : Int := (List.range i).foldl (wnT a m c) 0
def wkV (a : Nat → Nat → Int) (m : Nat) (c : Nat → Int) : Bool := f_valid a m && (smN c 100 && !onV a m c)
def wnV (a : Nat → Nat → Int) (m : Nat) (c : Nat → Int) : Int := bif wkV a m c then wnS a m c m else 0
def FwnO (wn : (Nat → Nat → Int) → Nat → (Nat → Int) → Int) (wk : (Nat → Nat → Int) → Nat → (Nat → Int) → Bool) : List SA → Option FR
  | [.row m g, .v (.agg ⟨[.int .i64 c0, .int .i64 c1, .int .i64 c2, .int .i64 c3, .int .i64 c4, .int .i64 c5, .int .i64 c6, .int .i64 c7]⟩)] => some { val := .tup [.v (i64 (wn (itC g) m (v8 c0 c1 c2 c3 c4 c5 c6 c7))), .v (.bool (wk (itC g) m (v8 c0 c1 c2 c3 c4 c5 c6 c7)))], obl := [allC m g, decide (m ≤ 2 ^ 38)] }
  | _ => none
def FwnC (r : Bool) (wn : (Nat → Nat → Int) → Nat → (Nat → Int) → Int) (wk : (Nat → Nat → Int) → Nat → (Nat → Int) → Bool) : List SA → Option FR
  | [.row m g, .v (.agg ⟨[.int .i64 c0, .int .i64 c1, .int .i64 c2, .int .i64 c3, .int .i64 c4, .int .i64 c5, .int .i64 c6, .int .i64 c7]⟩)] => some { val := .tup [.v (i64 (wn (itC g) m (v8 c0 c1 c2 c3 c4 c5 c6 c7))), .v (.bool (wk (itC g) m (v8 c0 c1 c2 c3 c4 c5 c6 c7)))], obl := [allC m g, decide (m ≤ 2 ^ 38), wk (itC g) m (v8 c0 c1 c2 c3 c4 c5 c6 c7) == r] }
  | _ => none
theorem wk_parts {a : Nat → Nat → Int} {m : Nat} {c : Nat → Int} (h : wkV a m c = true) : f_valid a m = true ∧ smN c 100 = true ∧ onV a m c = false := by
  rw [wkV, Bool.and_eq_true, Bool.and_eq_true, Bool.not_eq_true'] at h
  exact ⟨h.1, h.2.1, h.2.2⟩
theorem gmWn_ok : GamOk Try.prog (gmWn f_valid smN onV mnF crF imF sgn4 i64B) := ext_ok (ext_ok (ext_ok (ext_ok (ext_ok (ext_ok (ext_ok g0_ok okv_I) (fSm_small ▸ ok_small)) ok_on) (fMn_minus ▸ ok_minus)) (fAl_cr ▸ ok_cross)) (fRe_im' ▸ ok_im)) (fSn_sgn ▸ ok_sign)
theorem map_fin (m : Nat) : (List.finRange m).map Fin.val = List.range m := by
  apply List.ext_getElem
  · simp
  · intro i h1 h2
    simp
theorem stp_roundO {Q : Ex → List AV → List AB → Prop} (f l s x : Int) (O : Int → Res) (h : GoodQ (O (stpB f l s x)) Q) :
    GoodQ (bif decide (f ≤ 0) then bif decide (l > 0) then bif decide (s > 0) then O (W (x + 1))
      else bif decide (f > 0) then bif decide (l ≤ 0) then bif decide (s < 0) then O (W (x - 1)) else O x else O x else O x
      else bif decide (f > 0) then bif decide (l ≤ 0) then bif decide (s < 0) then O (W (x - 1)) else O x else O x else O x
      else bif decide (f > 0) then bif decide (l ≤ 0) then bif decide (s < 0) then O (W (x - 1)) else O x else O x else O x) Q := by
  unfold stpB stpN at h
  generalize decide (f ≤ 0) = b1 at *
  generalize decide (l > 0) = b2 at *
  generalize decide (s > 0) = b3 at *
  generalize decide (f > 0) = b4 at *
  generalize decide (l ≤ 0) = b5 at *
  generalize decide (s < 0) = b6 at *
  cases b1 <;> cases b2 <;> cases b3 <;> cases b4 <;> cases b5 <;> cases b6 <;> exact h
theorem stp_round {Q : Ex → List AV → List AB → Prop} (f l s x : Int) (T : List AV) (H : Int → List AB) (h : Q .normal T (H (stpB f l s x))) :
    GoodQ (bif decide (f ≤ 0) then bif decide (l > 0) then bif decide (s > 0) then Res.out .normal T (H (W (x + 1)))
      else bif decide (f > 0) then bif decide (l ≤ 0) then bif decide (s < 0) then Res.out .normal T (H (W (x - 1))) else Res.out .normal T (H x) else Res.out .normal T (H x) else Res.out .normal T (H x)
      else bif decide (f > 0) then bif decide (l ≤ 0) then bif decide (s < 0) then Res.out .normal T (H (W (x - 1))) else Res.out .normal T (H x) else Res.out .normal T (H x) else Res.out .normal T (H x)
      else bif decide (f > 0) then bif decide (l ≤ 0) then bif decide (s < 0) then Res.out .normal T (H (W (x - 1))) else Res.out .normal T (H x) else Res.out .normal T (H x) else Res.out .normal T (H x)) Q :=
  stp_roundO f l s x (fun y => .out .normal T (H y)) (good_out h)
theorem ok_wnY : SpecOk Try.prog 29 (specR md_lc (FwnC true wnV wkV)) := by
  refine specR_calls enters Try.func29 rfl fun sas fr hF ho => ?_
  unfold FwnC at hF
  split at hF
  · rename_i m g c0 c1 c2 c3 c4 c5 c6 c7
    cases hF
    simp only [ob_cons] at ho
    obtain ⟨h1, h2, h3, _⟩ := ho
    have hm := of_decide_eq_true h2
    have h3 := beq_iff_eq.1 h3
    refine ⟨[.row false m 8 (row8 (itC g)) 40], .cons (ABeq.row fun j hj => allC_get h1 j hj) .nil, ?_⟩
    revert h3
    generalize hc : v8 c0 c1 c2 c3 c4 c5 c6 c7 = c
    have ec : (.agg ⟨[.int .i64 c0, .int .i64 c1, .int .i64 c2, .int .i64 c3, .int .i64 c4, .int .i64 c5, .int .i64 c6, .int .i64 c7]⟩ : Value) = cyv c := by rw [← hc]; rfl
    have ew : w8 c = c := by rw [← hc]; rfl
    rw [ec]
    intro h3
    obtain ⟨hv, hs, hn⟩ := wk_parts h3
    obtain ⟨hm0, _⟩ := valid_m hv
    have eV : wnV (itC g) m c = wnS (itC g) m c m := by rw [wnV, h3]; rfl
    have ha : allC m (row8 (itC g)) = true := allC_of (a := itC g) fun _ _ => rfl
    have fin : ∀ x, wnV (itC g) m c = x → (Res.out .ret [.tup [.v (i64 x), .v (.bool true)]] [.row false m 8 (row8 (itC g)) 40]).ok (GivR (abP md_lc [.row m g, .v (cyv c)] []) { val := .tup [.v (i64 (wnV (itC g) m c)), .v (.bool (wkV (itC g) m c))], obl := [allC m g, decide (m ≤ 2 ^ 38), wkV (itC g) m c == true] }) := fun x hx =>
      ⟨_, rfl, by rw [hx, h3], .cons (ABeq.row fun j hj => (allC_get h1 j hj).symm) .nil⟩
    refine calls_range (α := Fin m) (n := 100) (nn := 0) gmWn_ok mixed enters Try.func29 bWn_eq (by kernel_rfl) (by kernel_rfl) (by kernel_rfl) (by kernel_rfl) (by kernel_rfl) (lvp := lv3 [3, 6, 27] [] []) (TT := ttWn) (HH := hpWn0 (itC g) m c 40 0 ++ [.cells [.sl 0 8 0 0 m none] 23])
      (encs := fun x => [pairV (itC g x) (itC g ((x + 1) % m))]) (S := fun xs => xs = List.finRange m) (Sp := fun _ => True) (N := m) ?_ (gf := 99) (cs := [.ptr 3 0 0 0]) (by kernel_rfl) ttLw (by kernel_rfl) (mask_less (live := [3, 6]) (by kernel_rfl)) (fun _ => false) (fun pre => hpWn (itC g) m c 40 ((pre.map Fin.val).foldl (wnT (itC g) m c) 0)) (fun _ _ => []) rfl (fun i => ?_)
      (enters_of' Try.func99 rfl) (fun W ν1 a1 lb hS hv => ?_) (fun _ => rfl) (by decide) (fun pre x hlen => ?_) (fun xs hxs => ?_) (fun e pre _ h => by cases h)
    · show (execL Try.prog (gmWn f_valid smN onV mnF crF imF sgn4 i64B) 100 ([wnR0, wnR1, wnR3] ++ [wnP2]) ([.sl 0 8 0 0 m none, .v (cyv c)] ++ List.replicate ((Try.f29).ntmps - 2) (.v undef)) [.row false m 8 (row8 (itC g)) 40] (leafK (lv3 [3, 6, 27] [] []) 1)).ok _
      rw [preWn]
      simp only [Nat.zero_add, ew]
      refine (good_needs ?_ (good_false ?_ (good_false ?_ (good_needs ?_ (good_false hn (good_out ⟨rfl, rfl, rfl⟩)))))).out
      · simp only [ob_cons, ob_nil, and_true]
        exact ⟨by simp, ha, h2⟩
      · rw [show f_valid (itC fun q => row8 (itC g) q) m = true from hv]
        rfl
      · rw [hs]
        rfl
      · simp only [ob_cons, ob_nil, and_true]
        exact ⟨by simp, ha, decide_eq_true hm0, h2⟩
    · rcases (by omega : i = 0 ∨ i = 1 ∨ i = 2 ∨ i = 3 ∨ 4 ≤ i) with rfl | rfl | rfl | rfl | h
      · exact .inl rfl
      · exact .inl rfl
      · exact .inl rfl
      · exact .inr rfl
      · right
        simp [hpWn, List.getD_eq_getElem?_getD, h]
    · refine sides_at hS hv (ib := 3) (il := 0) rfl rfl (by decide) hm0 (by omega) fun i hw => ?_
      rcases (by omega : i = 0 ∨ i = 1 ∨ i = 2 ∨ i = 3 ∨ 4 ≤ i) with rfl | rfl | rfl | rfl | h
      · simp [hpWn, AB.wr] at hw
      · exact ⟨rfl, by decide⟩
      · exact ⟨rfl, by decide⟩
      · simp [hpWn, AB.wr] at hw
      · simp [hpWn, List.getD_eq_getElem?_getD, h, AB.wr] at hw
    · suffices h : GoodQ (execC Try.prog (gmWn f_valid smN onV mnF crF imF sgn4 i64B) 100 noLam wnAs (parT [28] [pairV (itC g x) (itC g ((x + 1) % m))] ttLw) (hpWn (itC g) m c 40 ((pre.map Fin.val).foldl (wnT (itC g) m c) 0)) (andK Try.prog (gmWn f_valid smN onV mnF crF imF sgn4 i64B) 100 wnBd 4)) (RoundQ (fun _ => false) (fun pre : List (Fin m) => hpWn (itC g) m c 40 ((pre.map Fin.val).foldl (wnT (itC g) m c) 0)) (fun _ _ => []) (pre ++ [x])) from h.out
      rw [rndWn f_valid smN onV mnF crF imF sgn4 i64B (itC g) m c 40 _ x]
      refine good_needs (by simp only [imF, crF, i64B_W, ob_cons, ob_nil, and_self]) ?_
      refine stp_round (wnF (itC g) c x) (wnF (itC g) c ((x + 1) % m)) (wnL (itC g) m c x) _ _ (fun y => hpWn (itC g) m c 40 y) ?_
      show Hsim _ (hpWn (itC g) m c 40 (((pre ++ [x]).map Fin.val).foldl (wnT (itC g) m c) 0))
      rw [List.map_append, List.foldl_append]
      exact Hsim.refl _
    · subst hxs
      show (behind Try.prog (gmWn f_valid smN onV mnF crF imF sgn4 i64B) 100 Try.f29 0 wnRest (packK 1) .normal ttLw (hpWn (itC g) m c 40 (((List.finRange m).map Fin.val).foldl (wnT (itC g) m c) 0))).ok _
      rw [endWn, map_fin]
      exact fin _ eV
  · cases hF
theorem wn_no {a : Nat → Nat → Int} {m : Nat} {c : Nat → Int} (h : wkV a m c = false) : wnV a m c = 0 := by rw [wnV, h]; rfl
theorem ok_wnN : SpecOk Try.prog 29 (specR md_lc (FwnC false wnV wkV)) := by
  refine specR_hr gmWn_ok Try.func29 rfl fun sas fr hF ho => ?_
  unfold FwnC at hF
  split at hF
  · rename_i m g c0 c1 c2 c3 c4 c5 c6 c7
    cases hF
    simp only [ob_cons] at ho
    obtain ⟨h1, h2, h3, _⟩ := ho
    have h3 := beq_iff_eq.1 h3
    revert h3
    generalize hc : v8 c0 c1 c2 c3 c4 c5 c6 c7 = c
    have ec : (.agg ⟨[.int .i64 c0, .int .i64 c1, .int .i64 c2, .int .i64 c3, .int .i64 c4, .int .i64 c5, .int .i64 c6, .int .i64 c7]⟩ : Value) = cyv c := by rw [← hc]; rfl
    have ew : w8 c = c := by rw [← hc]; rfl
    rw [ec]
    intro h3
    refine ⟨[.row false m 8 (row8 (itC g)) 40], noLam, 100, .cons (ABeq.row fun j hj => allC_get h1 j hj) .nil, noLam' _, ?_⟩
    show GoodQ (execF Try.prog (gmWn f_valid smN onV mnF crF imF sgn4 i64B) noLam 100 Try.f29 [.sl 0 8 0 0 m none, .v (cyv c)] [.row false m 8 (row8 (itC g)) 40] (packK 1)) _
    rw [treeWnN]
    simp only [Nat.zero_add, ew]
    have ha : allC m (row8 (itC g)) = true := allC_of (a := itC g) fun _ _ => rfl
    have hout : GoodQ (.out .ret [.tup [.v (i64 0), .v (.bool false)]] [.row false m 8 (row8 (itC g)) 40]) (GivR (abP md_lc [.row m g, .v (cyv c)] []) { val := .tup [.v (i64 (wnV (itC g) m c)), .v (.bool (wkV (itC g) m c))], obl := [allC m g, decide (m ≤ 2 ^ 38), wkV (itC g) m c == false] }) := good_out ⟨_, rfl, by rw [wn_no h3, h3], .cons (ABeq.row fun j hj => (allC_get h1 j hj).symm) .nil⟩
    refine good_needs (by simp only [ob_cons, ob_nil, and_true]; exact ⟨by simp, ha, h2⟩) (good_cond (fun _ => hout) fun q1 => good_cond (fun _ => hout) fun q2 => good_needs ?_ hout)
    rw [Bool.not_eq_false'] at q1 q2
    have q1 : f_valid (itC g) m = true := q1
    rw [wkV, q1, q2, Bool.true_and, Bool.true_and, Bool.not_eq_false'] at h3
    simp only [ob_cons, ob_nil, and_true]
    exact ⟨by simp, ha, decide_eq_true (valid_m q1).1, h2, h3⟩
  · cases hF
theorem ok_wnI : SpecOk Try.prog 29 (specR md_lc (FwnO wnV wkV)) := by
  refine specR_two ok_wnY ok_wnN fun sas fr hF ho => ?_
  unfold FwnO at hF
  split at hF
  · rename_i m g c0 c1 c2 c3 c4 c5 c6 c7
    cases hF
    simp only [ob_cons] at ho
    obtain ⟨h1, h2, _⟩ := ho
    cases hv : wkV (itC g) m (v8 c0 c1 c2 c3 c4 c5 c6 c7) with
    | true =>
      refine .inl ⟨[allC m g, decide (m ≤ 2 ^ 38), wkV (itC g) m (v8 c0 c1 c2 c3 c4 c5 c6 c7) == true], ?_, ?_⟩
      · simp only [FwnC, hv]
      · simp only [ob_cons, ob_nil, and_true]
        exact ⟨h1, h2, by rw [hv]; rfl⟩
    | false =>
      refine .inr ⟨[allC m g, decide (m ≤ 2 ^ 38), wkV (itC g) m (v8 c0 c1 c2 c3 c4 c5 c6 c7) == false], ?_, ?_⟩
      · simp only [FwnC, hv]
      · simp only [ob_cons, ob_nil, and_true]
        exact ⟨h1, h2, by rw [hv]; rfl⟩
  · cases hF

end Go.Proofs.Ytoligfhcogligaa

/- PolyWinding of the reference: it tells the same. Conditions: a list of points. -/
namespace Go.Proofs.Ytoligfhcogligaa
open Go.RowKit
set_option maxRecDepth 100000

def wsF (a : Nat → Nat → Int) (c : Nat → Int) (j : Nat) : Int := sgn4 (w4 (imF (w8 (sumF (w8 (a j)) (-1) (w8 c)))))
def wsL (a : Nat → Nat → Int) (m : Nat) (c : Nat → Int) (j : Nat) : Int := sgn4 (w4 (crF (w8 (sumF (w8 (a j)) (-1) (w8 c))) (w8 (sumF (w8 (a ((j + 1) % m))) (-1) (w8 c)))))
def wsT (a : Nat → Nat → Int) (m : Nat) (c : Nat → Int) (x : Int) (j : Nat) : Int := stpB (wsF a c j) (wsF a c ((j + 1) % m)) (wsL a m c j) x
def wsS (a : Nat → Nat → Int) (m : Nat) (c : Nat → Int) (i : Nat) : Int := (List.range i).foldl (wsT a m c) 0
theorem wsS_succ (a : Nat → Nat → Int) (m : Nat) (c : Nat → Int) (i : Nat) : wsS a m c (i + 1) = wsT a m c (wsS a m c i) i := by
  unfold wsS
  rw [List.range_succ, List.foldl_append]
  rfl
theorem gmWs_ok : GamOk Try.prog (gmWs sumF crF imF sgn4 i64B) := ext_ok (ext_ok (ext_ok (ext_ok g0_ok (fSu_sum ▸ ok_l2Sum)) (fAl_cross ▸ ok_l8Cross)) (fRe_im ▸ ok_l3Im)) (fSn_sgn ▸ ok_l3Sign)
theorem not_gt (f : Int) : (!decide (f > 0)) = decide (f ≤ 0) := by
  rw [Bool.eq_iff_iff, Bool.not_eq_true', decide_eq_false_iff_not, decide_eq_true_eq]
  omega
theorem sumWs (a : Nat → Nat → Int) (m : Nat) (c : Nat → Int) (t : TypeId) (hm : m ≤ 2 ^ 38) :
    SumOk Try.prog 1 (.block 0 (.loop (loopAt 0 fWs))) (atS 85 (lvWs .normal) 1 (stWs m 0 0) (hpPo a m c t) (fun K => K .normal (mkT 0 85 [(6, .v (i64 (wsS a m c m)))]) [.row false m 8 (row8 a) t])) := by
  refine for_at gmWs_ok (n := 100) (m := 1) (lv := lvWs) (fun i => stWs m (wsS a m c i) i) (fun _ => hpPo a m c t) (fun _ => True) m (fun _ => noLam) (lv3_ris rfl rfl rfl) (Nat.le_refl _) trivial fun K Q hk i _ him => ⟨noLam_ok _ _ _, ?_⟩
  rw [rndWs]
  refine good_cond (fun c1 => ?_) fun c1 => ?_
  · have c1 := of_decide_eq_true c1
    have c1' : i < m := by omega
    have hlt := Nat.mod_lt (i + 1) (show 0 < m by omega)
    have e1 := next_at c1' hm
    rw [e1]
    simp only [Int.toNat_natCast, Nat.zero_add]
    rw [wr_in (x := (i : Int) + 1) (by omega)]
    refine good_needs ?_ ?_
    · simp only [ob_cons, ob_nil, and_true, decide_eq_true_eq, Bool.not_eq_true', decide_eq_false_iff_not, imF, crF, i64B_W]
      omega
    · simp only [not_gt]
      refine stp_roundO (wsF a c i) (wsF a c ((i + 1) % m)) (wsL a m c i) (wsS a m c i) (fun y => .out .normal [.sl 0 8 0 0 m none, .ptr 1 0 0 0, .v (i64 y), .v (i64 ((i : Int) + 1))] (hpPo a m c t)) (good_out ⟨i + 1, ⟨rfl, c1', trivial⟩, ?_, Hsim.refl _⟩)
      show _ = stWs m (wsS a m c (i + 1)) (i + 1)
      rw [wsS_succ]
      rfl
  · have c1 := of_decide_eq_false c1
    have : i = m := by omega
    subst this
    refine good_out ⟨_, Hsim.refl _, ?_⟩
    rw [if_pos rfl]
    exact hk

theorem v8_same {f g : Nat → Int} (h : ∀ k, k < 8 → f k = g k) : w8 f = w8 g := by
  show v8 _ _ _ _ _ _ _ _ = v8 _ _ _ _ _ _ _ _
  rw [h 0 (by omega), h 1 (by omega), h 2 (by omega), h 3 (by omega), h 4 (by omega), h 5 (by omega), h 6 (by omega), h 7 (by omega)]
theorem wsF_same {a : Nat → Nat → Int} {m : Nat} {c : Nat → Int} (h : f_valid a m = true) (hc : bd8 100 c) {j : Nat} (hj : j < m) : wsF a c j = wnF a c j := by
  have hp := corner_bd h hj
  unfold wsF wnF
  rw [v8_same fun k hk => (su_at hp hc k hk).trans (mn_at hp hc k hk).symm]
/-- The side, in plain terms. -/
noncomputable def sdZ (a : Nat → Nat → Int) (m : Nat) (c : Nat → Int) (j : Nat) : Int := SG ((RE (a ((j + 1) % m)) + -RE (a j)) * (IM c + -IM (a j)) - (IM (a ((j + 1) % m)) + -IM (a j)) * (RE c + -RE (a j)))
theorem wnL_Z {a : Nat → Nat → Int} {m : Nat} {c : Nat → Int} (h : f_valid a m = true) (hc : bd8 100 c) {j : Nat} (hj : j < m) : wnL a m c j = sdZ a m c j := by
  have hp := corner_bd h hj
  have hq := corner_bd h (Nat.mod_lt (j + 1) (show 0 < m by omega))
  have d1 := mn_at hq hp
  have d2 := mn_at hc hp
  have s1 := (cross_SG (bd_sub hq hp d1) (bd_sub hc hp d2)).1
  obtain ⟨r1, i1⟩ := sub_pt d1
  obtain ⟨r2, i2⟩ := sub_pt d2
  rw [r1, i1, r2, i2] at s1
  exact s1
theorem wsL_Z {a : Nat → Nat → Int} {m : Nat} {c : Nat → Int} (h : f_valid a m = true) (hc : bd8 100 c) {j : Nat} (hj : j < m) : wsL a m c j = sdZ a m c j := by
  have hp := corner_bd h hj
  have hq := corner_bd h (Nat.mod_lt (j + 1) (show 0 < m by omega))
  have d1 := su_at hp hc
  have d2 := su_at hq hc
  have s1 := (cross_SG (bd_sub hp hc d1) (bd_sub hq hc d2)).1
  obtain ⟨r1, i1⟩ := sub_pt d1
  obtain ⟨r2, i2⟩ := sub_pt d2
  rw [r1, i1, r2, i2] at s1
  have e : wsL a m c j = _ := s1
  rw [e]
  unfold sdZ
  congr 1
  grind
theorem stp_congr {f f' l l' s s' x : Int} (h1 : f = f') (h2 : l = l') (h3 : s = s') : stpB f l s x = stpB f' l' s' x := by
  rw [h1, h2, h3]
theorem ws_same {a : Nat → Nat → Int} {m : Nat} {c : Nat → Int} (h : f_valid a m = true) (hc : bd8 100 c) : ∀ i, i ≤ m → wsS a m c i = wnS a m c i
  | 0, _ => by simp only [wsS, wnS, List.range_zero, List.foldl_nil]
  | i + 1, hi => by
    have e : wnS a m c (i + 1) = wnT a m c (wnS a m c i) i := by
      unfold wnS
      rw [List.range_succ, List.foldl_append]
      rfl
    rw [wsS_succ, e, ws_same h hc i (by omega)]
    exact stp_congr (wsF_same h hc (show i < m by omega)) (wsF_same h hc (Nat.mod_lt (i + 1) (show 0 < m by omega))) ((wsL_Z h hc (show i < m by omega)).trans (wnL_Z h hc (show i < m by omega)).symm)
theorem gmWsF_ok : GamOk Try.prog (gmWsF f_valid smN poV) := ext_ok (ext_ok (ext_ok g0_ok okv_S) (fSm_small ▸ ok_l8Small)) ok_poS
theorem ok_wnS : SpecOk Try.prog 31 (specR md_lc (FwnO wnV wkV)) := by
  refine specR_hr gmWsF_ok Try.func31 rfl fun sas fr hF ho => ?_
  unfold FwnO at hF
  split at hF
  · rename_i m g c0 c1 c2 c3 c4 c5 c6 c7
    cases hF
    simp only [ob_cons] at ho
    obtain ⟨h1, h2, _⟩ := ho
    generalize hc : v8 c0 c1 c2 c3 c4 c5 c6 c7 = c
    have ec : (.agg ⟨[.int .i64 c0, .int .i64 c1, .int .i64 c2, .int .i64 c3, .int .i64 c4, .int .i64 c5, .int .i64 c6, .int .i64 c7]⟩ : Value) = cyv c := by rw [← hc]; rfl
    have ew : w8 c = c := by rw [← hc]; rfl
    rw [ec]
    refine ⟨[.row false m 8 (row8 (itC g)) 40], lamWs (itC g) m c 40 (wsS (itC g) m c m), 100, .cons (ABeq.row fun j hj => allC_get h1 j hj) .nil, lam1 (by kernel_rfl) (sumWs (itC g) m c 40 (of_decide_eq_true h2)), ?_⟩
    show GoodQ (execF Try.prog (gmWsF f_valid smN poV) (lamWs (itC g) m c 40 (wsS (itC g) m c m)) 100 fWs [.sl 0 8 0 0 m none, .v (cyv c)] [.row false m 8 (row8 (itC g)) 40] (packK 1)) _
    rw [treeWs]
    simp only [Nat.zero_add, ew]
    have ha : allC m (row8 (itC g)) = true := allC_of (a := itC g) fun _ _ => rfl
    have no : wkV (itC g) m c = false → GoodQ (.out .ret [.tup [.v (i64 0), .v (.bool false)]] [.row false m 8 (row8 (itC g)) 40]) (GivR (abP md_lc [.row m g, .v (cyv c)] []) { val := .tup [.v (i64 (wnV (itC g) m c)), .v (.bool (wkV (itC g) m c))], obl := [allC m g, decide (m ≤ 2 ^ 38)] }) := fun h3 => good_out ⟨_, rfl, by rw [wn_no h3, h3], .cons (ABeq.row fun j hj => (allC_get h1 j hj).symm) .nil⟩
    refine good_needs (by simp only [ob_cons, ob_nil, and_true]; exact ⟨by simp, ha, h2⟩) (good_cond (fun q1 => no ?_) fun q1 => good_cond (fun q2 => no ?_) fun q2 => good_needs ?_ (good_cond (fun q3 => no ?_) fun q3 => good_needs ?_ ?_))
    · rw [Bool.not_eq_true'] at q1
      unfold wkV
      rw [show f_valid (itC g) m = false from q1]
      rfl
    · rw [Bool.not_eq_true'] at q2
      unfold wkV
      rw [q2, Bool.false_and, Bool.and_false]
    · simp only [ob_cons, ob_nil, and_true]
      exact ⟨by simp, ha, h2⟩
    · rw [Bool.not_eq_false'] at q1 q2
      have q1 : f_valid (itC g) m = true := q1
      have q3 : poV (itC g) m c = true := q3
      unfold poV at q3
      rw [q1, q2, Bool.true_and, Bool.true_and] at q3
      unfold wkV
      rw [q1, q2, q3]
      rfl
    · rw [ob_cons]
      exact ⟨chk_of ⟨rfl, Hsim.refl _⟩, rfl⟩
    · rw [Bool.not_eq_false'] at q1 q2
      have q1 : f_valid (itC g) m = true := q1
      have q3 : poV (itC g) m c = false := q3
      unfold poV at q3
      rw [q1, q2, Bool.true_and, Bool.true_and] at q3
      have hk : wkV (itC g) m c = true := by
        unfold wkV
        rw [q1, q2, q3]
        rfl
      refine good_out ⟨_, rfl, ?_, .cons (ABeq.row fun j hj => (allC_get h1 j hj).symm) .nil⟩
      rw [hk, wnV, hk, cond_true, ws_same q1 (small_bd q2) m (Nat.le_refl _)]
  · cases hF

end Go.Proofs.Ytoligfhcogligaa
