/- DesignAt of the program; DesignClosed of both: the whole. Conditions: a list of wheels. -/
import Derived.Test.YtnlfdcjpeoafhaaZA0
import Derived.Test.YtnlfdcjpeoafhaaZA1
import Derived.Test.YtnlfdcjpeoafhaaZA2
import Derived.Test.YtnlfdcjpeoafhaaZA3
import Derived.Test.YtnlfdcjpeoafhaaZA4
import Derived.Test.YtnlfdcjpeoafhaaZA5
import Derived.Test.YtnlfdcjpeoafhaaZA6
/- Products of designs: CycTimes of both, DesignTimes of both: trees. Conditions: two lists of wheels. -/
namespace Go.Proofs.Ytnlfdcjpeoafhaa
open Go.RowKit
set_option maxRecDepth 100000

def gmCT (ok : (Nat → Int) → Bool) (mul : (Nat → Int) → (Nat → Int) → Nat → Int) : Gam := ext (ext g0 96 (specV (fOkc ok))) 110 (specV (fAdd2 mul))
theorem treeCTI (ok : (Nat → Int) → Bool) (mul : (Nat → Int) → (Nat → Int) → Nat → Int) (a b : Nat → Int) : execF Try.prog (gmCT ok mul) noLam 100 Try.f65 [.v (cyv a), .v (cyv b)] [] (packK 0)
    = bif !ok (w8 a) then Res.out Ex.ret [AV.tup [AV.agg [AV.v (Value.int IntKind.i64 (0 : Int)), AV.v (Value.int IntKind.i64 (0 : Int)), AV.v (Value.int IntKind.i64 (0 : Int)), AV.v (Value.int IntKind.i64 (0 : Int)), AV.v (Value.int IntKind.i64 (0 : Int)), AV.v (Value.int IntKind.i64 (0 : Int)), AV.v (Value.int IntKind.i64 (0 : Int)), AV.v (Value.int IntKind.i64 (0 : Int))], AV.v (Value.bool false)]] [] else bif !ok (w8 b) then Res.out Ex.ret [AV.tup [AV.agg [AV.v (Value.int IntKind.i64 (0 : Int)), AV.v (Value.int IntKind.i64 (0 : Int)), AV.v (Value.int IntKind.i64 (0 : Int)), AV.v (Value.int IntKind.i64 (0 : Int)), AV.v (Value.int IntKind.i64 (0 : Int)), AV.v (Value.int IntKind.i64 (0 : Int)), AV.v (Value.int IntKind.i64 (0 : Int)), AV.v (Value.int IntKind.i64 (0 : Int))], AV.v (Value.bool false)]] [] else bif !ok (w8 (mul (w8 a) (w8 b))) then Res.out Ex.ret [AV.tup [AV.agg [AV.v (Value.int IntKind.i64 (0 : Int)), AV.v (Value.int IntKind.i64 (0 : Int)), AV.v (Value.int IntKind.i64 (0 : Int)), AV.v (Value.int IntKind.i64 (0 : Int)), AV.v (Value.int IntKind.i64 (0 : Int)), AV.v (Value.int IntKind.i64 (0 : Int)), AV.v (Value.int IntKind.i64 (0 : Int)), AV.v (Value.int IntKind.i64 (0 : Int))], AV.v (Value.bool false)]] [] else Res.out Ex.ret [AV.tup [AV.agg [AV.v (Value.int IntKind.i64 (mul (w8 a) (w8 b) (0 : Nat))), AV.v (Value.int IntKind.i64 (mul (w8 a) (w8 b) (1 : Nat))), AV.v (Value.int IntKind.i64 (mul (w8 a) (w8 b) (2 : Nat))), AV.v (Value.int IntKind.i64 (mul (w8 a) (w8 b) (3 : Nat))), AV.v (Value.int IntKind.i64 (mul (w8 a) (w8 b) (4 : Nat))), AV.v (Value.int IntKind.i64 (mul (w8 a) (w8 b) (5 : Nat))), AV.v (Value.int IntKind.i64 (mul (w8 a) (w8 b) (6 : Nat))), AV.v (Value.int IntKind.i64 (mul (w8 a) (w8 b) (7 : Nat)))], AV.v (Value.bool true)]] [] := by kernel_rfl

def gmCS (ok : (Nat → Int) → Bool) (mul : (Nat → Int) → (Nat → Int) → Nat → Int) : Gam := ext (ext g0 103 (specV (fOkc ok))) 104 (specV (fAdd2 mul))
theorem treeCTS (ok : (Nat → Int) → Bool) (mul : (Nat → Int) → (Nat → Int) → Nat → Int) (a b : Nat → Int) : execF Try.prog (gmCS ok mul) noLam 100 Try.f62 [.v (cyv a), .v (cyv b)] [] (packK 0)
    = bif !ok (w8 a) then Res.out Ex.ret [AV.tup [AV.agg [AV.v (Value.int IntKind.i64 (0 : Int)), AV.v (Value.int IntKind.i64 (0 : Int)), AV.v (Value.int IntKind.i64 (0 : Int)), AV.v (Value.int IntKind.i64 (0 : Int)), AV.v (Value.int IntKind.i64 (0 : Int)), AV.v (Value.int IntKind.i64 (0 : Int)), AV.v (Value.int IntKind.i64 (0 : Int)), AV.v (Value.int IntKind.i64 (0 : Int))], AV.v (Value.bool false)]] [] else bif !ok (w8 b) then Res.out Ex.ret [AV.tup [AV.agg [AV.v (Value.int IntKind.i64 (0 : Int)), AV.v (Value.int IntKind.i64 (0 : Int)), AV.v (Value.int IntKind.i64 (0 : Int)), AV.v (Value.int IntKind.i64 (0 : Int)), AV.v (Value.int IntKind.i64 (0 : Int)), AV.v (Value.int IntKind.i64 (0 : Int)), AV.v (Value.int IntKind.i64 (0 : Int)), AV.v (Value.int IntKind.i64 (0 : Int))], AV.v (Value.bool false)]] [] else bif !ok (w8 (mul (w8 a) (w8 b))) then Res.out Ex.ret [AV.tup [AV.agg [AV.v (Value.int IntKind.i64 (0 : Int)), AV.v (Value.int IntKind.i64 (0 : Int)), AV.v (Value.int IntKind.i64 (0 : Int)), AV.v (Value.int IntKind.i64 (0 : Int)), AV.v (Value.int IntKind.i64 (0 : Int)), AV.v (Value.int IntKind.i64 (0 : Int)), AV.v (Value.int IntKind.i64 (0 : Int)), AV.v (Value.int IntKind.i64 (0 : Int))], AV.v (Value.bool false)]] [] else Res.out Ex.ret [AV.tup [AV.agg [AV.v (Value.int IntKind.i64 (mul (w8 a) (w8 b) (0 : Nat))), AV.v (Value.int IntKind.i64 (mul (w8 a) (w8 b) (1 : Nat))), AV.v (Value.int IntKind.i64 (mul (w8 a) (w8 b) (2 : Nat))), AV.v (Value.int IntKind.i64 (mul (w8 a) (w8 b) (3 : Nat))), AV.v (Value.int IntKind.i64 (mul (w8 a) (w8 b) (4 : Nat))), AV.v (Value.int IntKind.i64 (mul (w8 a) (w8 b) (5 : Nat))), AV.v (Value.int IntKind.i64 (mul (w8 a) (w8 b) (6 : Nat))), AV.v (Value.int IntKind.i64 (mul (w8 a) (w8 b) (7 : Nat)))], AV.v (Value.bool true)]] [] := by kernel_rfl

/-- The product of two points, if they and it are valid. -/
def FctO (pr : (Nat → Int) → (Nat → Int) → Nat → Int) (ok : (Nat → Int) → (Nat → Int) → Bool) : List SA → Option FR
  | [.v (.agg ⟨[.int .i64 a0, .int .i64 a1, .int .i64 a2, .int .i64 a3, .int .i64 a4, .int .i64 a5, .int .i64 a6, .int .i64 a7]⟩), .v (.agg ⟨[.int .i64 b0, .int .i64 b1, .int .i64 b2, .int .i64 b3, .int .i64 b4, .int .i64 b5, .int .i64 b6, .int .i64 b7]⟩)] => some { val := .tup [.agg (cyC (pr (v8 a0 a1 a2 a3 a4 a5 a6 a7) (v8 b0 b1 b2 b3 b4 b5 b6 b7))), .v (.bool (ok (v8 a0 a1 a2 a3 a4 a5 a6 a7) (v8 b0 b1 b2 b3 b4 b5 b6 b7)))] }
  | _ => none
def gmT1 (pr : (Nat → Int) → (Nat → Int) → Nat → Int) (ok : (Nat → Int) → (Nat → Int) → Bool) : Gam := ext g0 65 (specR [.val, .val] (FctO pr ok))
abbrev lvT2 : Ex → List Nat := lv3 [1, 6, 8, 22, 23, 24, 28, 29, 30] [1, 6, 22, 23, 24] [4, 5]
abbrev stT2 (m n k i j : Nat) : List AV := [.sl 1 9 0 0 n none, .own 2 k, .ptr 3 0 0 0, .sl 0 9 0 0 m none, .v (i64 m), .v (i64 i), .sl 1 9 0 0 n none, .v (i64 n), .v (i64 j)]
abbrev hpT0 (m : Nat) (f : Nat → Nat → Int) (n : Nat) (g : Nat → Nat → Int) (k : Nat) (h : Nat → Nat → Int) : List AB := [.row false m 9 (row9 f) 67, .row false n 9 (row9 g) 67, .row true k 9 (row9 h) 67]
abbrev hpT2 (m : Nat) (f : Nat → Nat → Int) (n : Nat) (g : Nat → Nat → Int) (k : Nat) (h : Nat → Nat → Int) (x : Nat → Int) : List AB := [.row false m 9 (row9 f) 67, .row false n 9 (row9 g) 67, .row true k 9 (row9 h) 67, .cells [.v (i64 (x 0)), .v (i64 (x 1)), .v (i64 (x 2)), .v (i64 (x 3)), .v (i64 (x 4)), .v (i64 (x 5)), .v (i64 (x 6)), .v (i64 (x 7)), .v (i64 (x 8))] 67]
abbrev hpTr (m : Nat) (f : Nat → Nat → Int) (n : Nat) (g : Nat → Nat → Int) : List AB := [.row false m 9 (row9 f) 67, .row false n 9 (row9 g) 67]
theorem rndT2 (pr : (Nat → Int) → (Nat → Int) → Nat → Int) (ok : (Nat → Int) → (Nat → Int) → Bool) (m : Nat) (f : Nat → Nat → Int) (n : Nat) (g : Nat → Nat → Int) (k : Nat) (h : Nat → Nat → Int) (x : Nat → Int) (i j : Nat) : execC Try.prog (gmT1 pr ok) 100 noLam (loopAt 2 Try.f23) (mkT 0 60 ((lvT2 .normal).zip (stT2 m n k i j))) (hpT2 m f n g k h x) (leafV 60 lvT2 2)
    = bif decide ((↑j : Int) < (↑n : Int)) then needs [decide ((↑j : Int) < (↑n : Int)), decide ((0 : Nat) + Int.toNat (↑j : Int) < n)] (bif !ok (v8 (x (1 : Nat)) (x (2 : Nat)) (x (3 : Nat)) (x (4 : Nat)) (x (5 : Nat)) (x (6 : Nat)) (x (7 : Nat)) (x (8 : Nat))) (v8 (g ((0 : Nat) + Int.toNat (↑j : Int)) (1 : Nat)) (g ((0 : Nat) + Int.toNat (↑j : Int)) (2 : Nat)) (g ((0 : Nat) + Int.toNat (↑j : Int)) (3 : Nat)) (g ((0 : Nat) + Int.toNat (↑j : Int)) (4 : Nat)) (g ((0 : Nat) + Int.toNat (↑j : Int)) (5 : Nat)) (g ((0 : Nat) + Int.toNat (↑j : Int)) (6 : Nat)) (g ((0 : Nat) + Int.toNat (↑j : Int)) (7 : Nat)) (g ((0 : Nat) + Int.toNat (↑j : Int)) (8 : Nat))) then Res.out Ex.ret [AV.v (Value.slice none (0 : Nat) (0 : Nat)), AV.v (Value.bool false)] [AB.row false m (9 : Nat) (row9 f) (67 : TypeId), AB.row false n (9 : Nat) (row9 g) (67 : TypeId)] else needs [Nat.ble k k, Nat.ble (k + (1 : Nat)) (549755813888 : Nat)] (Res.out Ex.normal [AV.sl (1 : Nat) (9 : Nat) (0 : Nat) (0 : Nat) n none, AV.own (2 : Nat) (k + (1 : Nat)), AV.ptr (3 : Nat) (0 : Nat) (0 : Nat) (0 : Nat), AV.sl (0 : Nat) (9 : Nat) (0 : Nat) (0 : Nat) m none, AV.v (Value.int IntKind.i64 (↑m : Int)), AV.v (Value.int IntKind.i64 (↑i : Int)), AV.sl (1 : Nat) (9 : Nat) (0 : Nat) (0 : Nat) n none, AV.v (Value.int IntKind.i64 (↑n : Int)), AV.v (Value.int IntKind.i64 (IntKind.wrap IntKind.i64 ((↑j : Int) + (1 : Int))))] [AB.row false m (9 : Nat) (row9 f) (67 : TypeId), AB.row false n (9 : Nat) (row9 g) (67 : TypeId), AB.row true (k + (1 : Nat)) (9 : Nat) (fun q ↦ [Value.int IntKind.i64 (bif Nat.blt q k then h q (0 : Nat) else IntKind.wrap IntKind.i64 (x (0 : Nat) + g ((0 : Nat) + Int.toNat (↑j : Int)) (0 : Nat))), Value.int IntKind.i64 (bif Nat.blt q k then h q (1 : Nat) else pr (v8 (x (1 : Nat)) (x (2 : Nat)) (x (3 : Nat)) (x (4 : Nat)) (x (5 : Nat)) (x (6 : Nat)) (x (7 : Nat)) (x (8 : Nat))) (v8 (g ((0 : Nat) + Int.toNat (↑j : Int)) (1 : Nat)) (g ((0 : Nat) + Int.toNat (↑j : Int)) (2 : Nat)) (g ((0 : Nat) + Int.toNat (↑j : Int)) (3 : Nat)) (g ((0 : Nat) + Int.toNat (↑j : Int)) (4 : Nat)) (g ((0 : Nat) + Int.toNat (↑j : Int)) (5 : Nat)) (g ((0 : Nat) + Int.toNat (↑j : Int)) (6 : Nat)) (g ((0 : Nat) + Int.toNat (↑j : Int)) (7 : Nat)) (g ((0 : Nat) + Int.toNat (↑j : Int)) (8 : Nat))) (0 : Nat)), Value.int IntKind.i64 (bif Nat.blt q k then h q (2 : Nat) else pr (v8 (x (1 : Nat)) (x (2 : Nat)) (x (3 : Nat)) (x (4 : Nat)) (x (5 : Nat)) (x (6 : Nat)) (x (7 : Nat)) (x (8 : Nat))) (v8 (g ((0 : Nat) + Int.toNat (↑j : Int)) (1 : Nat)) (g ((0 : Nat) + Int.toNat (↑j : Int)) (2 : Nat)) (g ((0 : Nat) + Int.toNat (↑j : Int)) (3 : Nat)) (g ((0 : Nat) + Int.toNat (↑j : Int)) (4 : Nat)) (g ((0 : Nat) + Int.toNat (↑j : Int)) (5 : Nat)) (g ((0 : Nat) + Int.toNat (↑j : Int)) (6 : Nat)) (g ((0 : Nat) + Int.toNat (↑j : Int)) (7 : Nat)) (g ((0 : Nat) + Int.toNat (↑j : Int)) (8 : Nat))) (1 : Nat)), Value.int IntKind.i64 (bif Nat.blt q k then h q (3 : Nat) else pr (v8 (x (1 : Nat)) (x (2 : Nat)) (x (3 : Nat)) (x (4 : Nat)) (x (5 : Nat)) (x (6 : Nat)) (x (7 : Nat)) (x (8 : Nat))) (v8 (g ((0 : Nat) + Int.toNat (↑j : Int)) (1 : Nat)) (g ((0 : Nat) + Int.toNat (↑j : Int)) (2 : Nat)) (g ((0 : Nat) + Int.toNat (↑j : Int)) (3 : Nat)) (g ((0 : Nat) + Int.toNat (↑j : Int)) (4 : Nat)) (g ((0 : Nat) + Int.toNat (↑j : Int)) (5 : Nat)) (g ((0 : Nat) + Int.toNat (↑j : Int)) (6 : Nat)) (g ((0 : Nat) + Int.toNat (↑j : Int)) (7 : Nat)) (g ((0 : Nat) + Int.toNat (↑j : Int)) (8 : Nat))) (2 : Nat)), Value.int IntKind.i64 (bif Nat.blt q k then h q (4 : Nat) else pr (v8 (x (1 : Nat)) (x (2 : Nat)) (x (3 : Nat)) (x (4 : Nat)) (x (5 : Nat)) (x (6 : Nat)) (x (7 : Nat)) (x (8 : Nat))) (v8 (g ((0 : Nat) + Int.toNat (↑j : Int)) (1 : Nat)) (g ((0 : Nat) + Int.toNat (↑j : Int)) (2 : Nat)) (g ((0 : Nat) + Int.toNat (↑j : Int)) (3 : Nat)) (g ((0 : Nat) + Int.toNat (↑j : Int)) (4 : Nat)) (g ((0 : Nat) + Int.toNat (↑j : Int)) (5 : Nat)) (g ((0 : Nat) + Int.toNat (↑j : Int)) (6 : Nat)) (g ((0 : Nat) + Int.toNat (↑j : Int)) (7 : Nat)) (g ((0 : Nat) + Int.toNat (↑j : Int)) (8 : Nat))) (3 : Nat)), Value.int IntKind.i64 (bif Nat.blt q k then h q (5 : Nat) else pr (v8 (x (1 : Nat)) (x (2 : Nat)) (x (3 : Nat)) (x (4 : Nat)) (x (5 : Nat)) (x (6 : Nat)) (x (7 : Nat)) (x (8 : Nat))) (v8 (g ((0 : Nat) + Int.toNat (↑j : Int)) (1 : Nat)) (g ((0 : Nat) + Int.toNat (↑j : Int)) (2 : Nat)) (g ((0 : Nat) + Int.toNat (↑j : Int)) (3 : Nat)) (g ((0 : Nat) + Int.toNat (↑j : Int)) (4 : Nat)) (g ((0 : Nat) + Int.toNat (↑j : Int)) (5 : Nat)) (g ((0 : Nat) + Int.toNat (↑j : Int)) (6 : Nat)) (g ((0 : Nat) + Int.toNat (↑j : Int)) (7 : Nat)) (g ((0 : Nat) + Int.toNat (↑j : Int)) (8 : Nat))) (4 : Nat)), Value.int IntKind.i64 (bif Nat.blt q k then h q (6 : Nat) else pr (v8 (x (1 : Nat)) (x (2 : Nat)) (x (3 : Nat)) (x (4 : Nat)) (x (5 : Nat)) (x (6 : Nat)) (x (7 : Nat)) (x (8 : Nat))) (v8 (g ((0 : Nat) + Int.toNat (↑j : Int)) (1 : Nat)) (g ((0 : Nat) + Int.toNat (↑j : Int)) (2 : Nat)) (g ((0 : Nat) + Int.toNat (↑j : Int)) (3 : Nat)) (g ((0 : Nat) + Int.toNat (↑j : Int)) (4 : Nat)) (g ((0 : Nat) + Int.toNat (↑j : Int)) (5 : Nat)) (g ((0 : Nat) + Int.toNat (↑j : Int)) (6 : Nat)) (g ((0 : Nat) + Int.toNat (↑j : Int)) (7 : Nat)) (g ((0 : Nat) + Int.toNat (↑j : Int)) (8 : Nat))) (5 : Nat)), Value.int IntKind.i64 (bif Nat.blt q k then h q (7 : Nat) else pr (v8 (x (1 : Nat)) (x (2 : Nat)) (x (3 : Nat)) (x (4 : Nat)) (x (5 : Nat)) (x (6 : Nat)) (x (7 : Nat)) (x (8 : Nat))) (v8 (g ((0 : Nat) + Int.toNat (↑j : Int)) (1 : Nat)) (g ((0 : Nat) + Int.toNat (↑j : Int)) (2 : Nat)) (g ((0 : Nat) + Int.toNat (↑j : Int)) (3 : Nat)) (g ((0 : Nat) + Int.toNat (↑j : Int)) (4 : Nat)) (g ((0 : Nat) + Int.toNat (↑j : Int)) (5 : Nat)) (g ((0 : Nat) + Int.toNat (↑j : Int)) (6 : Nat)) (g ((0 : Nat) + Int.toNat (↑j : Int)) (7 : Nat)) (g ((0 : Nat) + Int.toNat (↑j : Int)) (8 : Nat))) (6 : Nat)), Value.int IntKind.i64 (bif Nat.blt q k then h q (8 : Nat) else pr (v8 (x (1 : Nat)) (x (2 : Nat)) (x (3 : Nat)) (x (4 : Nat)) (x (5 : Nat)) (x (6 : Nat)) (x (7 : Nat)) (x (8 : Nat))) (v8 (g ((0 : Nat) + Int.toNat (↑j : Int)) (1 : Nat)) (g ((0 : Nat) + Int.toNat (↑j : Int)) (2 : Nat)) (g ((0 : Nat) + Int.toNat (↑j : Int)) (3 : Nat)) (g ((0 : Nat) + Int.toNat (↑j : Int)) (4 : Nat)) (g ((0 : Nat) + Int.toNat (↑j : Int)) (5 : Nat)) (g ((0 : Nat) + Int.toNat (↑j : Int)) (6 : Nat)) (g ((0 : Nat) + Int.toNat (↑j : Int)) (7 : Nat)) (g ((0 : Nat) + Int.toNat (↑j : Int)) (8 : Nat))) (7 : Nat))]) (67 : Nat), AB.cells [AV.v (Value.int IntKind.i64 (x (0 : Nat))), AV.v (Value.int IntKind.i64 (x (1 : Nat))), AV.v (Value.int IntKind.i64 (x (2 : Nat))), AV.v (Value.int IntKind.i64 (x (3 : Nat))), AV.v (Value.int IntKind.i64 (x (4 : Nat))), AV.v (Value.int IntKind.i64 (x (5 : Nat))), AV.v (Value.int IntKind.i64 (x (6 : Nat))), AV.v (Value.int IntKind.i64 (x (7 : Nat))), AV.v (Value.int IntKind.i64 (x (8 : Nat)))] (67 : TypeId)])) else Res.out (Ex.exit (2 : Nat)) [AV.sl (1 : Nat) (9 : Nat) (0 : Nat) (0 : Nat) n none, AV.own (2 : Nat) k, AV.sl (0 : Nat) (9 : Nat) (0 : Nat) (0 : Nat) m none, AV.v (Value.int IntKind.i64 (↑m : Int)), AV.v (Value.int IntKind.i64 (↑i : Int))] [AB.row false m (9 : Nat) (row9 f) (67 : TypeId), AB.row false n (9 : Nat) (row9 g) (67 : TypeId), AB.row true k (9 : Nat) (row9 h) (67 : TypeId)] := by kernel_rfl

abbrev lvT0 : Ex → List Nat := lv3 [1, 6, 22, 23, 24] [6] [4, 5]
abbrev stT0 (m n k i : Nat) : List AV := [.sl 1 9 0 0 n none, .own 2 k, .sl 0 9 0 0 m none, .v (i64 m), .v (i64 i)]
noncomputable abbrev lamT2 (m : Nat) (f : Nat → Nat → Int) (n : Nat) (g : Nat → Nat → Int) (k : Nat) (h : Nat → Nat → Int) (x : Nat → Int) (i : Nat) (c : Bool) (k2 : Nat) (h2 : Nat → Nat → Int) : Nat → Option Sum := oneL 2 (atS 60 (lvT2 .normal) 2 (stT2 m n k i 0) (hpT2 m f n g k h x) (fun K => cond c (K .normal (mkT 0 60 ([1, 6, 22, 23, 24].zip (stT0 m n k2 i))) (hpT0 m f n g k2 h2)) (K .ret (mkT 0 60 [(4, .v (.slice none 0 0)), (5, .v (.bool false))]) (hpTr m f n g))))
theorem rndT0 (pr : (Nat → Int) → (Nat → Int) → Nat → Int) (ok : (Nat → Int) → (Nat → Int) → Bool) (m : Nat) (f : Nat → Nat → Int) (n : Nat) (g : Nat → Nat → Int) (k : Nat) (h : Nat → Nat → Int) (i : Nat) (c : Bool) (k2 : Nat) (h2 : Nat → Nat → Int) : execC Try.prog (gmT1 pr ok) 100 (lamT2 m f n g k h (f i) i c k2 h2) (loopAt 0 Try.f23) (mkT 0 60 ((lvT0 .normal).zip (stT0 m n k i))) (hpT0 m f n g k h) (leafV 60 lvT0 2)
    = bif decide ((↑i : Int) < (↑m : Int)) then needs [decide ((↑i : Int) < (↑m : Int)), decide ((0 : Nat) + Int.toNat (↑i : Int) < m), chk ([AV.sl (1 : Nat) (9 : Nat) (0 : Nat) (0 : Nat) n none, AV.own (2 : Nat) k, AV.ptr (3 : Nat) (0 : Nat) (0 : Nat) (0 : Nat), AV.sl (0 : Nat) (9 : Nat) (0 : Nat) (0 : Nat) m none, AV.v (Value.int IntKind.i64 (↑m : Int)), AV.v (Value.int IntKind.i64 (↑i : Int)), AV.sl (1 : Nat) (9 : Nat) (0 : Nat) (0 : Nat) n none, AV.v (Value.int IntKind.i64 (↑n : Int)), AV.v (Value.int IntKind.i64 (0 : Int))] = stT2 m n k i (0 : Nat) ∧ Hsim [AB.row false m (9 : Nat) (row9 f) (67 : TypeId), AB.row false n (9 : Nat) (row9 g) (67 : TypeId), AB.row true k (9 : Nat) (row9 h) (67 : TypeId), AB.cells [AV.v (Value.int IntKind.i64 (f ((0 : Nat) + Int.toNat (↑i : Int)) (0 : Nat))), AV.v (Value.int IntKind.i64 (f ((0 : Nat) + Int.toNat (↑i : Int)) (1 : Nat))), AV.v (Value.int IntKind.i64 (f ((0 : Nat) + Int.toNat (↑i : Int)) (2 : Nat))), AV.v (Value.int IntKind.i64 (f ((0 : Nat) + Int.toNat (↑i : Int)) (3 : Nat))), AV.v (Value.int IntKind.i64 (f ((0 : Nat) + Int.toNat (↑i : Int)) (4 : Nat))), AV.v (Value.int IntKind.i64 (f ((0 : Nat) + Int.toNat (↑i : Int)) (5 : Nat))), AV.v (Value.int IntKind.i64 (f ((0 : Nat) + Int.toNat (↑i : Int)) (6 : Nat))), AV.v (Value.int IntKind.i64 (f ((0 : Nat) + Int.toNat (↑i : Int)) (7 : Nat))), AV.v (Value.int IntKind.i64 (f ((0 : Nat) + Int.toNat (↑i : Int)) (8 : Nat)))] (67 : Nat)] (hpT2 m f n g k h (f i)))] (bif c then Res.out Ex.normal [AV.sl (1 : Nat) (9 : Nat) (0 : Nat) (0 : Nat) n none, AV.own (2 : Nat) k2, AV.sl (0 : Nat) (9 : Nat) (0 : Nat) (0 : Nat) m none, AV.v (Value.int IntKind.i64 (↑m : Int)), AV.v (Value.int IntKind.i64 (IntKind.wrap IntKind.i64 ((↑i : Int) + (1 : Int))))] [AB.row false m (9 : Nat) (row9 f) (67 : TypeId), AB.row false n (9 : Nat) (row9 g) (67 : TypeId), AB.row true k2 (9 : Nat) (row9 h2) (67 : TypeId)] else Res.out Ex.ret [AV.v (Value.slice none (0 : Nat) (0 : Nat)), AV.v (Value.bool false)] [AB.row false m (9 : Nat) (row9 f) (67 : TypeId), AB.row false n (9 : Nat) (row9 g) (67 : TypeId)]) else Res.out (Ex.exit (0 : Nat)) [AV.own (2 : Nat) k] [AB.row false m (9 : Nat) (row9 f) (67 : TypeId), AB.row false n (9 : Nat) (row9 g) (67 : TypeId), AB.row true k (9 : Nat) (row9 h) (67 : TypeId)] := by kernel_rfl

theorem rndT0n (pr : (Nat → Int) → (Nat → Int) → Nat → Int) (ok : (Nat → Int) → (Nat → Int) → Bool) (m : Nat) (f : Nat → Nat → Int) (n : Nat) (g : Nat → Nat → Int) (k : Nat) (h : Nat → Nat → Int) (i : Nat) : execC Try.prog (gmT1 pr ok) 100 (oneL 2 errS) (loopAt 0 Try.f23) (mkT 0 60 ((lvT0 .normal).zip (stT0 m n k i))) (hpT0 m f n g k h) (leafV 60 lvT0 2)
    = bif decide ((↑i : Int) < (↑m : Int)) then needs [decide ((↑i : Int) < (↑m : Int)), decide ((0 : Nat) + Int.toNat (↑i : Int) < m)] Res.err else Res.out (Ex.exit (0 : Nat)) [AV.own (2 : Nat) k] [AB.row false m (9 : Nat) (row9 f) (67 : TypeId), AB.row false n (9 : Nat) (row9 g) (67 : TypeId), AB.row true k (9 : Nat) (row9 h) (67 : TypeId)] := by kernel_rfl

noncomputable abbrev lamT0 (m : Nat) (f : Nat → Nat → Int) (n : Nat) (g : Nat → Nat → Int) (c : Bool) (k : Nat) (h : Nat → Nat → Int) : Nat → Option Sum := oneL 0 (atS 60 (lvT0 .normal) 2 (stT0 m n 0 0) (hpT0 m f n g 0 (wfun [])) (fun K => cond c (K .normal (mkT 0 60 [(6, .own 2 k)]) (hpT0 m f n g k h)) (K .ret (mkT 0 60 [(4, .v (.slice none 0 0)), (5, .v (.bool false))]) (hpTr m f n g))))
theorem treeTmY (okd : List Wh → Bool) (ti : List Wh → List Wh) (okt inw : List Wh → Bool) (m : Nat) (f : Nat → Nat → Int) (n : Nat) (g : Nat → Nat → Int) (c : Bool) (k : Nat) (h : Nat → Nat → Int) : execF Try.prog (gmChY okd ti okt inw) (lamT0 m f n g c k h) 100 Try.f23 [.sl 0 9 0 0 m none, .sl 1 9 0 0 n none] (hpTr m f n g) (packK 2)
    = needs [Nat.ble ((0 : Nat) + m) m, allW m fun q ↦ row9 f ((0 : Nat) + q), decide (m ≤ (549755813888 : Nat))] (bif !okd (listW (itW fun q ↦ row9 f ((0 : Nat) + q)) m) then Res.out Ex.ret [AV.tup [AV.v (Value.slice none (0 : Nat) (0 : Nat)), AV.v (Value.bool false)]] [AB.row false m (9 : Nat) (row9 f) (67 : TypeId), AB.row false n (9 : Nat) (row9 g) (67 : TypeId)] else needs [Nat.ble ((0 : Nat) + n) n, allW n fun q ↦ row9 g ((0 : Nat) + q), decide (n ≤ (549755813888 : Nat))] (bif !okd (listW (itW fun q ↦ row9 g ((0 : Nat) + q)) n) then Res.out Ex.ret [AV.tup [AV.v (Value.slice none (0 : Nat) (0 : Nat)), AV.v (Value.bool false)]] [AB.row false m (9 : Nat) (row9 f) (67 : TypeId), AB.row false n (9 : Nat) (row9 g) (67 : TypeId)] else needs [chk ([AV.sl (1 : Nat) (9 : Nat) (0 : Nat) (0 : Nat) n none, AV.own (2 : Nat) (0 : Nat), AV.sl (0 : Nat) (9 : Nat) (0 : Nat) (0 : Nat) m none, AV.v (Value.int IntKind.i64 (↑m : Int)), AV.v (Value.int IntKind.i64 (0 : Int))] = stT0 m n (0 : Nat) (0 : Nat) ∧ Hsim [AB.row false m (9 : Nat) (row9 f) (67 : TypeId), AB.row false n (9 : Nat) (row9 g) (67 : TypeId), AB.row true (0 : Nat) (9 : Nat) (fun x ↦ []) (67 : Nat)] (hpT0 m f n g (0 : Nat) (wfun [])))] (bif c then needs [Nat.ble k k, allW k (row9 h), decide (k ≤ (274877906944 : Nat)), inw (listW (itW (row9 h)) k), okt (listW (itW (row9 h)) k)] (Res.out Ex.ret [AV.tup [AV.sl (2 : Nat) (9 : Nat) (0 : Nat) (0 : Nat) (List.length (ti (listW (itW (row9 h)) k))) (some (List.length (ti (listW (itW (row9 h)) k)))), AV.v (Value.bool true)]] [AB.row false m (9 : Nat) (row9 f) (67 : TypeId), AB.row false n (9 : Nat) (row9 g) (67 : TypeId), AB.row true (List.length (ti (listW (itW (row9 h)) k))) (9 : Nat) (row9 (wfun (ti (listW (itW (row9 h)) k)))) (67 : TypeId)]) else Res.out Ex.ret [AV.tup [AV.v (Value.slice none (0 : Nat) (0 : Nat)), AV.v (Value.bool false)]] [AB.row false m (9 : Nat) (row9 f) (67 : TypeId), AB.row false n (9 : Nat) (row9 g) (67 : TypeId)]))) := by kernel_rfl

theorem treeTmN (okd : List Wh → Bool) (okt inw : List Wh → Bool) (m : Nat) (f : Nat → Nat → Int) (n : Nat) (g : Nat → Nat → Int) (c : Bool) (k : Nat) (h : Nat → Nat → Int) : execF Try.prog (gmChN okd okt inw) (lamT0 m f n g c k h) 100 Try.f23 [.sl 0 9 0 0 m none, .sl 1 9 0 0 n none] (hpTr m f n g) (packK 2)
    = needs [Nat.ble ((0 : Nat) + m) m, allW m fun q ↦ row9 f ((0 : Nat) + q), decide (m ≤ (549755813888 : Nat))] (bif !okd (listW (itW fun q ↦ row9 f ((0 : Nat) + q)) m) then Res.out Ex.ret [AV.tup [AV.v (Value.slice none (0 : Nat) (0 : Nat)), AV.v (Value.bool false)]] [AB.row false m (9 : Nat) (row9 f) (67 : TypeId), AB.row false n (9 : Nat) (row9 g) (67 : TypeId)] else needs [Nat.ble ((0 : Nat) + n) n, allW n fun q ↦ row9 g ((0 : Nat) + q), decide (n ≤ (549755813888 : Nat))] (bif !okd (listW (itW fun q ↦ row9 g ((0 : Nat) + q)) n) then Res.out Ex.ret [AV.tup [AV.v (Value.slice none (0 : Nat) (0 : Nat)), AV.v (Value.bool false)]] [AB.row false m (9 : Nat) (row9 f) (67 : TypeId), AB.row false n (9 : Nat) (row9 g) (67 : TypeId)] else needs [chk ([AV.sl (1 : Nat) (9 : Nat) (0 : Nat) (0 : Nat) n none, AV.own (2 : Nat) (0 : Nat), AV.sl (0 : Nat) (9 : Nat) (0 : Nat) (0 : Nat) m none, AV.v (Value.int IntKind.i64 (↑m : Int)), AV.v (Value.int IntKind.i64 (0 : Int))] = stT0 m n (0 : Nat) (0 : Nat) ∧ Hsim [AB.row false m (9 : Nat) (row9 f) (67 : TypeId), AB.row false n (9 : Nat) (row9 g) (67 : TypeId), AB.row true (0 : Nat) (9 : Nat) (fun x ↦ []) (67 : Nat)] (hpT0 m f n g (0 : Nat) (wfun [])))] (bif c then needs [Nat.ble k k, allW k (row9 h), decide (k ≤ (274877906944 : Nat)), inw (listW (itW (row9 h)) k), !okt (listW (itW (row9 h)) k)] (Res.out Ex.ret [AV.tup [AV.v (Value.slice none (0 : Nat) (0 : Nat)), AV.v (Value.bool false)]] [AB.row false m (9 : Nat) (row9 f) (67 : TypeId), AB.row false n (9 : Nat) (row9 g) (67 : TypeId)]) else Res.out Ex.ret [AV.tup [AV.v (Value.slice none (0 : Nat) (0 : Nat)), AV.v (Value.bool false)]] [AB.row false m (9 : Nat) (row9 f) (67 : TypeId), AB.row false n (9 : Nat) (row9 g) (67 : TypeId)]))) := by kernel_rfl

def gmS1 (pr : (Nat → Int) → (Nat → Int) → Nat → Int) (ok : (Nat → Int) → (Nat → Int) → Bool) : Gam := ext g0 62 (specR [.val, .val] (FctO pr ok))
abbrev lvS2 : Ex → List Nat := lv3 [0, 1, 6, 7, 8] [0, 1, 6, 7] [4, 5]
abbrev stS2 (m n k i j : Nat) : List AV := [.sl 0 9 0 0 m none, .sl 1 9 0 0 n none, .own 2 k, .v (i64 i), .v (i64 j)]
theorem rndS2 (pr : (Nat → Int) → (Nat → Int) → Nat → Int) (ok : (Nat → Int) → (Nat → Int) → Bool) (m : Nat) (f : Nat → Nat → Int) (n : Nat) (g : Nat → Nat → Int) (k : Nat) (h : Nat → Nat → Int) (i j : Nat) : execC Try.prog (gmS1 pr ok) 100 noLam (loopAt 2 Try.f22) (mkT 0 70 ((lvS2 .normal).zip (stS2 m n k i j))) (hpT0 m f n g k h) (leafV 70 lvS2 2)
    = bif decide ((↑j : Int) < (↑n : Int)) then needs [decide ((↑i : Int) < (↑m : Int)), decide ((0 : Nat) + Int.toNat (↑i : Int) < m), decide ((↑j : Int) < (↑n : Int)), decide ((0 : Nat) + Int.toNat (↑j : Int) < n)] (bif !ok (v8 (f ((0 : Nat) + Int.toNat (↑i : Int)) (1 : Nat)) (f ((0 : Nat) + Int.toNat (↑i : Int)) (2 : Nat)) (f ((0 : Nat) + Int.toNat (↑i : Int)) (3 : Nat)) (f ((0 : Nat) + Int.toNat (↑i : Int)) (4 : Nat)) (f ((0 : Nat) + Int.toNat (↑i : Int)) (5 : Nat)) (f ((0 : Nat) + Int.toNat (↑i : Int)) (6 : Nat)) (f ((0 : Nat) + Int.toNat (↑i : Int)) (7 : Nat)) (f ((0 : Nat) + Int.toNat (↑i : Int)) (8 : Nat))) (v8 (g ((0 : Nat) + Int.toNat (↑j : Int)) (1 : Nat)) (g ((0 : Nat) + Int.toNat (↑j : Int)) (2 : Nat)) (g ((0 : Nat) + Int.toNat (↑j : Int)) (3 : Nat)) (g ((0 : Nat) + Int.toNat (↑j : Int)) (4 : Nat)) (g ((0 : Nat) + Int.toNat (↑j : Int)) (5 : Nat)) (g ((0 : Nat) + Int.toNat (↑j : Int)) (6 : Nat)) (g ((0 : Nat) + Int.toNat (↑j : Int)) (7 : Nat)) (g ((0 : Nat) + Int.toNat (↑j : Int)) (8 : Nat))) then Res.out Ex.ret [AV.own (2 : Nat) (0 : Nat), AV.v (Value.bool false)] [AB.row false m (9 : Nat) (row9 f) (67 : TypeId), AB.row false n (9 : Nat) (row9 g) (67 : TypeId), AB.row true (0 : Nat) (9 : Nat) (fun x ↦ []) (67 : Nat)] else needs [decide ((↑i : Int) < (↑m : Int)), decide ((0 : Nat) + Int.toNat (↑i : Int) < m), decide ((↑j : Int) < (↑n : Int)), decide ((0 : Nat) + Int.toNat (↑j : Int) < n), Nat.ble k k, Nat.ble (k + (1 : Nat)) (549755813888 : Nat)] (Res.out Ex.normal [AV.sl (0 : Nat) (9 : Nat) (0 : Nat) (0 : Nat) m none, AV.sl (1 : Nat) (9 : Nat) (0 : Nat) (0 : Nat) n none, AV.own (2 : Nat) (k + (1 : Nat)), AV.v (Value.int IntKind.i64 (↑i : Int)), AV.v (Value.int IntKind.i64 (IntKind.wrap IntKind.i64 ((↑j : Int) + (1 : Int))))] [AB.row false m (9 : Nat) (row9 f) (67 : TypeId), AB.row false n (9 : Nat) (row9 g) (67 : TypeId), AB.row true (k + (1 : Nat)) (9 : Nat) (fun q ↦ [Value.int IntKind.i64 (bif Nat.blt q k then h q (0 : Nat) else IntKind.wrap IntKind.i64 (f ((0 : Nat) + Int.toNat (↑i : Int)) (0 : Nat) + g ((0 : Nat) + Int.toNat (↑j : Int)) (0 : Nat))), Value.int IntKind.i64 (bif Nat.blt q k then h q (1 : Nat) else pr (v8 (f ((0 : Nat) + Int.toNat (↑i : Int)) (1 : Nat)) (f ((0 : Nat) + Int.toNat (↑i : Int)) (2 : Nat)) (f ((0 : Nat) + Int.toNat (↑i : Int)) (3 : Nat)) (f ((0 : Nat) + Int.toNat (↑i : Int)) (4 : Nat)) (f ((0 : Nat) + Int.toNat (↑i : Int)) (5 : Nat)) (f ((0 : Nat) + Int.toNat (↑i : Int)) (6 : Nat)) (f ((0 : Nat) + Int.toNat (↑i : Int)) (7 : Nat)) (f ((0 : Nat) + Int.toNat (↑i : Int)) (8 : Nat))) (v8 (g ((0 : Nat) + Int.toNat (↑j : Int)) (1 : Nat)) (g ((0 : Nat) + Int.toNat (↑j : Int)) (2 : Nat)) (g ((0 : Nat) + Int.toNat (↑j : Int)) (3 : Nat)) (g ((0 : Nat) + Int.toNat (↑j : Int)) (4 : Nat)) (g ((0 : Nat) + Int.toNat (↑j : Int)) (5 : Nat)) (g ((0 : Nat) + Int.toNat (↑j : Int)) (6 : Nat)) (g ((0 : Nat) + Int.toNat (↑j : Int)) (7 : Nat)) (g ((0 : Nat) + Int.toNat (↑j : Int)) (8 : Nat))) (0 : Nat)), Value.int IntKind.i64 (bif Nat.blt q k then h q (2 : Nat) else pr (v8 (f ((0 : Nat) + Int.toNat (↑i : Int)) (1 : Nat)) (f ((0 : Nat) + Int.toNat (↑i : Int)) (2 : Nat)) (f ((0 : Nat) + Int.toNat (↑i : Int)) (3 : Nat)) (f ((0 : Nat) + Int.toNat (↑i : Int)) (4 : Nat)) (f ((0 : Nat) + Int.toNat (↑i : Int)) (5 : Nat)) (f ((0 : Nat) + Int.toNat (↑i : Int)) (6 : Nat)) (f ((0 : Nat) + Int.toNat (↑i : Int)) (7 : Nat)) (f ((0 : Nat) + Int.toNat (↑i : Int)) (8 : Nat))) (v8 (g ((0 : Nat) + Int.toNat (↑j : Int)) (1 : Nat)) (g ((0 : Nat) + Int.toNat (↑j : Int)) (2 : Nat)) (g ((0 : Nat) + Int.toNat (↑j : Int)) (3 : Nat)) (g ((0 : Nat) + Int.toNat (↑j : Int)) (4 : Nat)) (g ((0 : Nat) + Int.toNat (↑j : Int)) (5 : Nat)) (g ((0 : Nat) + Int.toNat (↑j : Int)) (6 : Nat)) (g ((0 : Nat) + Int.toNat (↑j : Int)) (7 : Nat)) (g ((0 : Nat) + Int.toNat (↑j : Int)) (8 : Nat))) (1 : Nat)), Value.int IntKind.i64 (bif Nat.blt q k then h q (3 : Nat) else pr (v8 (f ((0 : Nat) + Int.toNat (↑i : Int)) (1 : Nat)) (f ((0 : Nat) + Int.toNat (↑i : Int)) (2 : Nat)) (f ((0 : Nat) + Int.toNat (↑i : Int)) (3 : Nat)) (f ((0 : Nat) + Int.toNat (↑i : Int)) (4 : Nat)) (f ((0 : Nat) + Int.toNat (↑i : Int)) (5 : Nat)) (f ((0 : Nat) + Int.toNat (↑i : Int)) (6 : Nat)) (f ((0 : Nat) + Int.toNat (↑i : Int)) (7 : Nat)) (f ((0 : Nat) + Int.toNat (↑i : Int)) (8 : Nat))) (v8 (g ((0 : Nat) + Int.toNat (↑j : Int)) (1 : Nat)) (g ((0 : Nat) + Int.toNat (↑j : Int)) (2 : Nat)) (g ((0 : Nat) + Int.toNat (↑j : Int)) (3 : Nat)) (g ((0 : Nat) + Int.toNat (↑j : Int)) (4 : Nat)) (g ((0 : Nat) + Int.toNat (↑j : Int)) (5 : Nat)) (g ((0 : Nat) + Int.toNat (↑j : Int)) (6 : Nat)) (g ((0 : Nat) + Int.toNat (↑j : Int)) (7 : Nat)) (g ((0 : Nat) + Int.toNat (↑j : Int)) (8 : Nat))) (2 : Nat)), Value.int IntKind.i64 (bif Nat.blt q k then h q (4 : Nat) else pr (v8 (f ((0 : Nat) + Int.toNat (↑i : Int)) (1 : Nat)) (f ((0 : Nat) + Int.toNat (↑i : Int)) (2 : Nat)) (f ((0 : Nat) + Int.toNat (↑i : Int)) (3 : Nat)) (f ((0 : Nat) + Int.toNat (↑i : Int)) (4 : Nat)) (f ((0 : Nat) + Int.toNat (↑i : Int)) (5 : Nat)) (f ((0 : Nat) + Int.toNat (↑i : Int)) (6 : Nat)) (f ((0 : Nat) + Int.toNat (↑i : Int)) (7 : Nat)) (f ((0 : Nat) + Int.toNat (↑i : Int)) (8 : Nat))) (v8 (g ((0 : Nat) + Int.toNat (↑j : Int)) (1 : Nat)) (g ((0 : Nat) + Int.toNat (↑j : Int)) (2 : Nat)) (g ((0 : Nat) + Int.toNat (↑j : Int)) (3 : Nat)) (g ((0 : Nat) + Int.toNat (↑j : Int)) (4 : Nat)) (g ((0 : Nat) + Int.toNat (↑j : Int)) (5 : Nat)) (g ((0 : Nat) + Int.toNat (↑j : Int)) (6 : Nat)) (g ((0 : Nat) + Int.toNat (↑j : Int)) (7 : Nat)) (g ((0 : Nat) + Int.toNat (↑j : Int)) (8 : Nat))) (3 : Nat)), Value.int IntKind.i64 (bif Nat.blt q k then h q (5 : Nat) else pr (v8 (f ((0 : Nat) + Int.toNat (↑i : Int)) (1 : Nat)) (f ((0 : Nat) + Int.toNat (↑i : Int)) (2 : Nat)) (f ((0 : Nat) + Int.toNat (↑i : Int)) (3 : Nat)) (f ((0 : Nat) + Int.toNat (↑i : Int)) (4 : Nat)) (f ((0 : Nat) + Int.toNat (↑i : Int)) (5 : Nat)) (f ((0 : Nat) + Int.toNat (↑i : Int)) (6 : Nat)) (f ((0 : Nat) + Int.toNat (↑i : Int)) (7 : Nat)) (f ((0 : Nat) + Int.toNat (↑i : Int)) (8 : Nat))) (v8 (g ((0 : Nat) + Int.toNat (↑j : Int)) (1 : Nat)) (g ((0 : Nat) + Int.toNat (↑j : Int)) (2 : Nat)) (g ((0 : Nat) + Int.toNat (↑j : Int)) (3 : Nat)) (g ((0 : Nat) + Int.toNat (↑j : Int)) (4 : Nat)) (g ((0 : Nat) + Int.toNat (↑j : Int)) (5 : Nat)) (g ((0 : Nat) + Int.toNat (↑j : Int)) (6 : Nat)) (g ((0 : Nat) + Int.toNat (↑j : Int)) (7 : Nat)) (g ((0 : Nat) + Int.toNat (↑j : Int)) (8 : Nat))) (4 : Nat)), Value.int IntKind.i64 (bif Nat.blt q k then h q (6 : Nat) else pr (v8 (f ((0 : Nat) + Int.toNat (↑i : Int)) (1 : Nat)) (f ((0 : Nat) + Int.toNat (↑i : Int)) (2 : Nat)) (f ((0 : Nat) + Int.toNat (↑i : Int)) (3 : Nat)) (f ((0 : Nat) + Int.toNat (↑i : Int)) (4 : Nat)) (f ((0 : Nat) + Int.toNat (↑i : Int)) (5 : Nat)) (f ((0 : Nat) + Int.toNat (↑i : Int)) (6 : Nat)) (f ((0 : Nat) + Int.toNat (↑i : Int)) (7 : Nat)) (f ((0 : Nat) + Int.toNat (↑i : Int)) (8 : Nat))) (v8 (g ((0 : Nat) + Int.toNat (↑j : Int)) (1 : Nat)) (g ((0 : Nat) + Int.toNat (↑j : Int)) (2 : Nat)) (g ((0 : Nat) + Int.toNat (↑j : Int)) (3 : Nat)) (g ((0 : Nat) + Int.toNat (↑j : Int)) (4 : Nat)) (g ((0 : Nat) + Int.toNat (↑j : Int)) (5 : Nat)) (g ((0 : Nat) + Int.toNat (↑j : Int)) (6 : Nat)) (g ((0 : Nat) + Int.toNat (↑j : Int)) (7 : Nat)) (g ((0 : Nat) + Int.toNat (↑j : Int)) (8 : Nat))) (5 : Nat)), Value.int IntKind.i64 (bif Nat.blt q k then h q (7 : Nat) else pr (v8 (f ((0 : Nat) + Int.toNat (↑i : Int)) (1 : Nat)) (f ((0 : Nat) + Int.toNat (↑i : Int)) (2 : Nat)) (f ((0 : Nat) + Int.toNat (↑i : Int)) (3 : Nat)) (f ((0 : Nat) + Int.toNat (↑i : Int)) (4 : Nat)) (f ((0 : Nat) + Int.toNat (↑i : Int)) (5 : Nat)) (f ((0 : Nat) + Int.toNat (↑i : Int)) (6 : Nat)) (f ((0 : Nat) + Int.toNat (↑i : Int)) (7 : Nat)) (f ((0 : Nat) + Int.toNat (↑i : Int)) (8 : Nat))) (v8 (g ((0 : Nat) + Int.toNat (↑j : Int)) (1 : Nat)) (g ((0 : Nat) + Int.toNat (↑j : Int)) (2 : Nat)) (g ((0 : Nat) + Int.toNat (↑j : Int)) (3 : Nat)) (g ((0 : Nat) + Int.toNat (↑j : Int)) (4 : Nat)) (g ((0 : Nat) + Int.toNat (↑j : Int)) (5 : Nat)) (g ((0 : Nat) + Int.toNat (↑j : Int)) (6 : Nat)) (g ((0 : Nat) + Int.toNat (↑j : Int)) (7 : Nat)) (g ((0 : Nat) + Int.toNat (↑j : Int)) (8 : Nat))) (6 : Nat)), Value.int IntKind.i64 (bif Nat.blt q k then h q (8 : Nat) else pr (v8 (f ((0 : Nat) + Int.toNat (↑i : Int)) (1 : Nat)) (f ((0 : Nat) + Int.toNat (↑i : Int)) (2 : Nat)) (f ((0 : Nat) + Int.toNat (↑i : Int)) (3 : Nat)) (f ((0 : Nat) + Int.toNat (↑i : Int)) (4 : Nat)) (f ((0 : Nat) + Int.toNat (↑i : Int)) (5 : Nat)) (f ((0 : Nat) + Int.toNat (↑i : Int)) (6 : Nat)) (f ((0 : Nat) + Int.toNat (↑i : Int)) (7 : Nat)) (f ((0 : Nat) + Int.toNat (↑i : Int)) (8 : Nat))) (v8 (g ((0 : Nat) + Int.toNat (↑j : Int)) (1 : Nat)) (g ((0 : Nat) + Int.toNat (↑j : Int)) (2 : Nat)) (g ((0 : Nat) + Int.toNat (↑j : Int)) (3 : Nat)) (g ((0 : Nat) + Int.toNat (↑j : Int)) (4 : Nat)) (g ((0 : Nat) + Int.toNat (↑j : Int)) (5 : Nat)) (g ((0 : Nat) + Int.toNat (↑j : Int)) (6 : Nat)) (g ((0 : Nat) + Int.toNat (↑j : Int)) (7 : Nat)) (g ((0 : Nat) + Int.toNat (↑j : Int)) (8 : Nat))) (7 : Nat))]) (67 : Nat)])) else Res.out (Ex.exit (2 : Nat)) [AV.sl (0 : Nat) (9 : Nat) (0 : Nat) (0 : Nat) m none, AV.sl (1 : Nat) (9 : Nat) (0 : Nat) (0 : Nat) n none, AV.own (2 : Nat) k, AV.v (Value.int IntKind.i64 (↑i : Int))] [AB.row false m (9 : Nat) (row9 f) (67 : TypeId), AB.row false n (9 : Nat) (row9 g) (67 : TypeId), AB.row true k (9 : Nat) (row9 h) (67 : TypeId)] := by kernel_rfl

abbrev lvS0 : Ex → List Nat := lv3 [0, 1, 6, 7] [6] [4, 5]
abbrev stS0 (m n k i : Nat) : List AV := [.sl 0 9 0 0 m none, .sl 1 9 0 0 n none, .own 2 k, .v (i64 i)]
abbrev hpSr (m : Nat) (f : Nat → Nat → Int) (n : Nat) (g : Nat → Nat → Int) : List AB := hpT0 m f n g 0 (wfun [])
noncomputable abbrev lamS2 (m : Nat) (f : Nat → Nat → Int) (n : Nat) (g : Nat → Nat → Int) (k : Nat) (h : Nat → Nat → Int) (i : Nat) (c : Bool) (k2 : Nat) (h2 : Nat → Nat → Int) : Nat → Option Sum := oneL 2 (atS 70 (lvS2 .normal) 2 (stS2 m n k i 0) (hpT0 m f n g k h) (fun K => cond c (K .normal (mkT 0 70 ([0, 1, 6, 7].zip (stS0 m n k2 i))) (hpT0 m f n g k2 h2)) (K .ret (mkT 0 70 [(4, .own 2 0), (5, .v (.bool false))]) (hpSr m f n g))))
theorem rndS0 (pr : (Nat → Int) → (Nat → Int) → Nat → Int) (ok : (Nat → Int) → (Nat → Int) → Bool) (m : Nat) (f : Nat → Nat → Int) (n : Nat) (g : Nat → Nat → Int) (k : Nat) (h : Nat → Nat → Int) (i : Nat) (c : Bool) (k2 : Nat) (h2 : Nat → Nat → Int) : execC Try.prog (gmS1 pr ok) 100 (lamS2 m f n g k h i c k2 h2) (loopAt 0 Try.f22) (mkT 0 70 ((lvS0 .normal).zip (stS0 m n k i))) (hpT0 m f n g k h) (leafV 70 lvS0 2)
    = bif decide ((↑i : Int) < (↑m : Int)) then needs [chk ([AV.sl (0 : Nat) (9 : Nat) (0 : Nat) (0 : Nat) m none, AV.sl (1 : Nat) (9 : Nat) (0 : Nat) (0 : Nat) n none, AV.own (2 : Nat) k, AV.v (Value.int IntKind.i64 (↑i : Int)), AV.v (Value.int IntKind.i64 (0 : Int))] = stS2 m n k i (0 : Nat) ∧ Hsim [AB.row false m (9 : Nat) (row9 f) (67 : TypeId), AB.row false n (9 : Nat) (row9 g) (67 : TypeId), AB.row true k (9 : Nat) (row9 h) (67 : TypeId)] (hpT0 m f n g k h))] (bif c then Res.out Ex.normal [AV.sl (0 : Nat) (9 : Nat) (0 : Nat) (0 : Nat) m none, AV.sl (1 : Nat) (9 : Nat) (0 : Nat) (0 : Nat) n none, AV.own (2 : Nat) k2, AV.v (Value.int IntKind.i64 (IntKind.wrap IntKind.i64 ((↑i : Int) + (1 : Int))))] [AB.row false m (9 : Nat) (row9 f) (67 : TypeId), AB.row false n (9 : Nat) (row9 g) (67 : TypeId), AB.row true k2 (9 : Nat) (row9 h2) (67 : TypeId)] else Res.out Ex.ret [AV.own (2 : Nat) (0 : Nat), AV.v (Value.bool false)] [AB.row false m (9 : Nat) (row9 f) (67 : TypeId), AB.row false n (9 : Nat) (row9 g) (67 : TypeId), AB.row true (0 : Nat) (9 : Nat) (row9 (wfun [])) (67 : TypeId)]) else Res.out (Ex.exit (0 : Nat)) [AV.own (2 : Nat) k] [AB.row false m (9 : Nat) (row9 f) (67 : TypeId), AB.row false n (9 : Nat) (row9 g) (67 : TypeId), AB.row true k (9 : Nat) (row9 h) (67 : TypeId)] := by kernel_rfl

theorem rndS0n (pr : (Nat → Int) → (Nat → Int) → Nat → Int) (ok : (Nat → Int) → (Nat → Int) → Bool) (m : Nat) (f : Nat → Nat → Int) (n : Nat) (g : Nat → Nat → Int) (k : Nat) (h : Nat → Nat → Int) (i : Nat) : execC Try.prog (gmS1 pr ok) 100 (oneL 2 errS) (loopAt 0 Try.f22) (mkT 0 70 ((lvS0 .normal).zip (stS0 m n k i))) (hpT0 m f n g k h) (leafV 70 lvS0 2)
    = bif decide ((↑i : Int) < (↑m : Int)) then Res.err else Res.out (Ex.exit (0 : Nat)) [AV.own (2 : Nat) k] [AB.row false m (9 : Nat) (row9 f) (67 : TypeId), AB.row false n (9 : Nat) (row9 g) (67 : TypeId), AB.row true k (9 : Nat) (row9 h) (67 : TypeId)] := by kernel_rfl

noncomputable abbrev lamS0 (m : Nat) (f : Nat → Nat → Int) (n : Nat) (g : Nat → Nat → Int) (c : Bool) (k : Nat) (h : Nat → Nat → Int) : Nat → Option Sum := oneL 0 (atS 70 (lvS0 .normal) 2 (stS0 m n 0 0) (hpT0 m f n g 0 (wfun [])) (fun K => cond c (K .normal (mkT 0 70 [(6, .own 2 k)]) (hpT0 m f n g k h)) (K .ret (mkT 0 70 [(4, .own 2 0), (5, .v (.bool false))]) (hpSr m f n g))))
def gmS2 (okd : List Wh → Bool) (ti : List Wh → List Wh) (okt : List Wh → Bool) : Gam := ext (ext g0 61 (specR md_ws (FdvO okd))) 63 (specR md_ws (FtidyO ti okt))
theorem treeTmS (okd : List Wh → Bool) (ti : List Wh → List Wh) (okt : List Wh → Bool) (m : Nat) (f : Nat → Nat → Int) (n : Nat) (g : Nat → Nat → Int) (c : Bool) (k : Nat) (h : Nat → Nat → Int) : execF Try.prog (gmS2 okd ti okt) (lamS0 m f n g c k h) 100 Try.f22 [.sl 0 9 0 0 m none, .sl 1 9 0 0 n none] (hpTr m f n g) (packK 2)
    = needs [Nat.ble ((0 : Nat) + m) m, allW m fun q ↦ row9 f ((0 : Nat) + q), decide (m ≤ (549755813888 : Nat))] (bif !okd (listW (itW fun q ↦ row9 f ((0 : Nat) + q)) m) then Res.out Ex.ret [AV.tup [AV.own (2 : Nat) (0 : Nat), AV.v (Value.bool false)]] [AB.row false m (9 : Nat) (row9 f) (67 : TypeId), AB.row false n (9 : Nat) (row9 g) (67 : TypeId), AB.row true (0 : Nat) (9 : Nat) (fun x ↦ []) (67 : Nat)] else needs [Nat.ble ((0 : Nat) + n) n, allW n fun q ↦ row9 g ((0 : Nat) + q), decide (n ≤ (549755813888 : Nat))] (bif !okd (listW (itW fun q ↦ row9 g ((0 : Nat) + q)) n) then Res.out Ex.ret [AV.tup [AV.own (2 : Nat) (0 : Nat), AV.v (Value.bool false)]] [AB.row false m (9 : Nat) (row9 f) (67 : TypeId), AB.row false n (9 : Nat) (row9 g) (67 : TypeId), AB.row true (0 : Nat) (9 : Nat) (fun x ↦ []) (67 : Nat)] else needs [chk ([AV.sl (0 : Nat) (9 : Nat) (0 : Nat) (0 : Nat) m none, AV.sl (1 : Nat) (9 : Nat) (0 : Nat) (0 : Nat) n none, AV.own (2 : Nat) (0 : Nat), AV.v (Value.int IntKind.i64 (0 : Int))] = stS0 m n (0 : Nat) (0 : Nat) ∧ Hsim [AB.row false m (9 : Nat) (row9 f) (67 : TypeId), AB.row false n (9 : Nat) (row9 g) (67 : TypeId), AB.row true (0 : Nat) (9 : Nat) (fun x ↦ []) (67 : Nat)] (hpT0 m f n g (0 : Nat) (wfun [])))] (bif c then needs [Nat.ble k k, allW k (row9 h), decide (k ≤ (274877906944 : Nat))] (Res.out Ex.ret [AV.tup [AV.own (2 : Nat) (List.length (ti (listW (itW (row9 h)) k))), AV.v (Value.bool (okt (listW (itW (row9 h)) k)))]] [AB.row false m (9 : Nat) (row9 f) (67 : TypeId), AB.row false n (9 : Nat) (row9 g) (67 : TypeId), AB.row true (List.length (ti (listW (itW (row9 h)) k))) (9 : Nat) (row9 (wfun (ti (listW (itW (row9 h)) k)))) (67 : TypeId)]) else Res.out Ex.ret [AV.tup [AV.own (2 : Nat) (0 : Nat), AV.v (Value.bool false)]] [AB.row false m (9 : Nat) (row9 f) (67 : TypeId), AB.row false n (9 : Nat) (row9 g) (67 : TypeId), AB.row true (0 : Nat) (9 : Nat) (row9 (wfun [])) (67 : TypeId)]))) := by kernel_rfl

theorem treeTmE (okd : List Wh → Bool) (okt inw : List Wh → Bool) (m : Nat) (f : Nat → Nat → Int) (n : Nat) (g : Nat → Nat → Int) : execF Try.prog (gmChN okd okt inw) (oneL 0 errS) 100 Try.f23 [.sl 0 9 0 0 m none, .sl 1 9 0 0 n none] (hpTr m f n g) (packK 2)
    = needs [Nat.ble ((0 : Nat) + m) m, allW m fun q ↦ row9 f ((0 : Nat) + q), decide (m ≤ (549755813888 : Nat))] (bif !okd (listW (itW fun q ↦ row9 f ((0 : Nat) + q)) m) then Res.out Ex.ret [AV.tup [AV.v (Value.slice none (0 : Nat) (0 : Nat)), AV.v (Value.bool false)]] [AB.row false m (9 : Nat) (row9 f) (67 : TypeId), AB.row false n (9 : Nat) (row9 g) (67 : TypeId)] else needs [Nat.ble ((0 : Nat) + n) n, allW n fun q ↦ row9 g ((0 : Nat) + q), decide (n ≤ (549755813888 : Nat)), !okd (listW (itW fun q ↦ row9 g ((0 : Nat) + q)) n)] (Res.out Ex.ret [AV.tup [AV.v (Value.slice none (0 : Nat) (0 : Nat)), AV.v (Value.bool false)]] [AB.row false m (9 : Nat) (row9 f) (67 : TypeId), AB.row false n (9 : Nat) (row9 g) (67 : TypeId)])) := by kernel_rfl

theorem treeTmSE (okd : List Wh → Bool) (ti : List Wh → List Wh) (okt : List Wh → Bool) (m : Nat) (f : Nat → Nat → Int) (n : Nat) (g : Nat → Nat → Int) : execF Try.prog (gmS2 okd ti okt) (oneL 0 errS) 100 Try.f22 [.sl 0 9 0 0 m none, .sl 1 9 0 0 n none] (hpTr m f n g) (packK 2)
    = needs [Nat.ble ((0 : Nat) + m) m, allW m fun q ↦ row9 f ((0 : Nat) + q), decide (m ≤ (549755813888 : Nat))] (bif !okd (listW (itW fun q ↦ row9 f ((0 : Nat) + q)) m) then Res.out Ex.ret [AV.tup [AV.own (2 : Nat) (0 : Nat), AV.v (Value.bool false)]] [AB.row false m (9 : Nat) (row9 f) (67 : TypeId), AB.row false n (9 : Nat) (row9 g) (67 : TypeId), AB.row true (0 : Nat) (9 : Nat) (fun x ↦ []) (67 : Nat)] else needs [Nat.ble ((0 : Nat) + n) n, allW n fun q ↦ row9 g ((0 : Nat) + q), decide (n ≤ (549755813888 : Nat)), !okd (listW (itW fun q ↦ row9 g ((0 : Nat) + q)) n)] (Res.out Ex.ret [AV.tup [AV.own (2 : Nat) (0 : Nat), AV.v (Value.bool false)]] [AB.row false m (9 : Nat) (row9 f) (67 : TypeId), AB.row false n (9 : Nat) (row9 g) (67 : TypeId), AB.row true (0 : Nat) (9 : Nat) (fun x ↦ []) (67 : Nat)])) := by kernel_rfl


end Go.Proofs.Ytnlfdcjpeoafhaa

/- Products of designs: CycTimes of both, DesignTimes of both. Conditions: two lists of wheels. -/
namespace Go.Proofs.Ytnlfdcjpeoafhaa
open Go.RowKit
set_option maxRecDepth 100000

def okM (a b : Nat → Int) : Bool := (cyOk (cyOf a) && cyOk (cyOf b)) && cyOk (cyOf (mulF a b))
def prF (a b : Nat → Int) : Nat → Int := bif okM a b then mulF a b else fun _ => 0
theorem gmCT_ok : GamOk Try.prog (gmCT (fun v => cyOk (cyOf v)) mulF) := by
  have e3 : fAdd2 mulF = f_times := by funext l; rfl
  unfold gmCT
  rw [fOkc_eq, e3]
  exact ext_ok (ext_ok g0_ok ok_cvI) ok_times
theorem gmCS_ok : GamOk Try.prog (gmCS (fun v => cyOk (cyOf v)) mulF) := by
  have e3 : fAdd2 mulF = f_l2Times := by funext l; rfl
  unfold gmCS
  rw [fOkc_eq, e3]
  exact ext_ok (ext_ok g0_ok ok_cv) ok_l2Times
theorem ok_ctI : SpecOk Try.prog 65 (specR [.val, .val] (FctO prF okM)) := by
  refine specR_hr gmCT_ok Try.func65 rfl fun sas fr hF ho => ?_
  unfold FctO at hF
  split at hF
  · rename_i a0 a1 a2 a3 a4 a5 a6 a7 b0 b1 b2 b3 b4 b5 b6 b7
    cases hF
    refine ⟨[], noLam, 100, .nil, noLam' _, ?_⟩
    show GoodQ (execF Try.prog (gmCT (fun v => cyOk (cyOf v)) mulF) noLam 100 Try.f65 [.v (cyv (v8 a0 a1 a2 a3 a4 a5 a6 a7)), .v (cyv (v8 b0 b1 b2 b3 b4 b5 b6 b7))] [] (packK 0)) _
    rw [treeCTI]
    generalize hA : v8 a0 a1 a2 a3 a4 a5 a6 a7 = a
    generalize hB : v8 b0 b1 b2 b3 b4 b5 b6 b7 = b
    have fin : ∀ (v : Nat → Int) (o : Bool), prF a b = v → okM a b = o → GoodQ (.out .ret [.tup [.agg (cyC v), .v (.bool o)]] []) (GivR (abP [.val, .val] [.v (.agg ⟨[.int .i64 a0, .int .i64 a1, .int .i64 a2, .int .i64 a3, .int .i64 a4, .int .i64 a5, .int .i64 a6, .int .i64 a7]⟩), .v (.agg ⟨[.int .i64 b0, .int .i64 b1, .int .i64 b2, .int .i64 b3, .int .i64 b4, .int .i64 b5, .int .i64 b6, .int .i64 b7]⟩)] []) { val := .tup [.agg (cyC (prF a b)), .v (.bool (okM a b))] }) := by
      rintro v o rfl rfl
      exact good_out ⟨_, rfl, rfl, .nil⟩
    have bad : okM a b = false → GoodQ (.out .ret [.tup [.agg (cyC fun _ => 0), .v (.bool false)]] []) _ := fun e => fin _ _ (by rw [prF, e]; rfl) e
    refine good_cond (fun q => ?_) fun q => ?_
    · have q' : (!cyOk (cyOf a)) = true := q
      exact bad (by rw [okM, show cyOk (cyOf a) = false by simpa using q']; rfl)
    · have q' : (!cyOk (cyOf a)) = false := q
      have qa : cyOk (cyOf a) = true := by simpa using q'
      refine good_cond (fun q => ?_) fun q => ?_
      · have q' : (!cyOk (cyOf b)) = true := q
        exact bad (by rw [okM, qa, show cyOk (cyOf b) = false by simpa using q']; rfl)
      · have q' : (!cyOk (cyOf b)) = false := q
        have qb : cyOk (cyOf b) = true := by simpa using q'
        refine good_cond (fun q => ?_) fun q => ?_
        · have q' : (!cyOk (cyOf (mulF a b))) = true := q
          exact bad (by rw [okM, qa, qb, show cyOk (cyOf (mulF a b)) = false by simpa using q']; rfl)
        · have q' : (!cyOk (cyOf (mulF a b))) = false := q
          have qm : cyOk (cyOf (mulF a b)) = true := by simpa using q'
          have e : okM a b = true := by rw [okM, qa, qb, qm]; rfl
          exact fin (mulF a b) true (by rw [prF, e]; rfl) e
  · cases hF

theorem ok_ctS : SpecOk Try.prog 62 (specR [.val, .val] (FctO prF okM)) := by
  refine specR_hr gmCS_ok Try.func62 rfl fun sas fr hF ho => ?_
  unfold FctO at hF
  split at hF
  · rename_i a0 a1 a2 a3 a4 a5 a6 a7 b0 b1 b2 b3 b4 b5 b6 b7
    cases hF
    refine ⟨[], noLam, 100, .nil, noLam' _, ?_⟩
    show GoodQ (execF Try.prog (gmCS (fun v => cyOk (cyOf v)) mulF) noLam 100 Try.f62 [.v (cyv (v8 a0 a1 a2 a3 a4 a5 a6 a7)), .v (cyv (v8 b0 b1 b2 b3 b4 b5 b6 b7))] [] (packK 0)) _
    rw [treeCTS]
    generalize hA : v8 a0 a1 a2 a3 a4 a5 a6 a7 = a
    generalize hB : v8 b0 b1 b2 b3 b4 b5 b6 b7 = b
    have fin : ∀ (v : Nat → Int) (o : Bool), prF a b = v → okM a b = o → GoodQ (.out .ret [.tup [.agg (cyC v), .v (.bool o)]] []) (GivR (abP [.val, .val] [.v (.agg ⟨[.int .i64 a0, .int .i64 a1, .int .i64 a2, .int .i64 a3, .int .i64 a4, .int .i64 a5, .int .i64 a6, .int .i64 a7]⟩), .v (.agg ⟨[.int .i64 b0, .int .i64 b1, .int .i64 b2, .int .i64 b3, .int .i64 b4, .int .i64 b5, .int .i64 b6, .int .i64 b7]⟩)] []) { val := .tup [.agg (cyC (prF a b)), .v (.bool (okM a b))] }) := by
      rintro v o rfl rfl
      exact good_out ⟨_, rfl, rfl, .nil⟩
    have bad : okM a b = false → GoodQ (.out .ret [.tup [.agg (cyC fun _ => 0), .v (.bool false)]] []) _ := fun e => fin _ _ (by rw [prF, e]; rfl) e
    refine good_cond (fun q => ?_) fun q => ?_
    · have q' : (!cyOk (cyOf a)) = true := q
      exact bad (by rw [okM, show cyOk (cyOf a) = false by simpa using q']; rfl)
    · have q' : (!cyOk (cyOf a)) = false := q
      have qa : cyOk (cyOf a) = true := by simpa using q'
      refine good_cond (fun q => ?_) fun q => ?_
      · have q' : (!cyOk (cyOf b)) = true := q
        exact bad (by rw [okM, qa, show cyOk (cyOf b) = false by simpa using q']; rfl)
      · have q' : (!cyOk (cyOf b)) = false := q
        have qb : cyOk (cyOf b) = true := by simpa using q'
        refine good_cond (fun q => ?_) fun q => ?_
        · have q' : (!cyOk (cyOf (mulF a b))) = true := q
          exact bad (by rw [okM, qa, qb, show cyOk (cyOf (mulF a b)) = false by simpa using q']; rfl)
        · have q' : (!cyOk (cyOf (mulF a b))) = false := q
          have qm : cyOk (cyOf (mulF a b)) = true := by simpa using q'
          have e : okM a b = true := by rw [okM, qa, qb, qm]; rfl
          exact fin (mulF a b) true (by rw [prF, e]; rfl) e
  · cases hF

/-- The product of two wheels. -/
def prodW (x y : Wh) : Wh := ⟨IntKind.wrap IntKind.i64 (x.s + y.s), cyOf (prF x.r.f y.r.f)⟩
def okW2 (x y : Wh) : Bool := okM x.r.f y.r.f
def prodL (A B : List Wh) : List Wh := A.flatMap fun x => B.map (prodW x)
def okAll (A B : List Wh) : Bool := A.all fun x => B.all (okW2 x)
theorem prodL_snoc (A B : List Wh) (x : Wh) : prodL (A ++ [x]) B = prodL A B ++ B.map (prodW x) := by simp [prodL]
theorem okAll_snoc (A B : List Wh) (x : Wh) : okAll (A ++ [x]) B = (okAll A B && B.all (okW2 x)) := by simp [okAll]
theorem prodL_length (A B : List Wh) : (prodL A B).length = A.length * B.length := by
  induction A with
  | nil => simp [prodL]
  | cons x A ih =>
    have : prodL (x :: A) B = B.map (prodW x) ++ prodL A B := rfl
    rw [this, List.length_append, List.length_map, ih, List.length_cons, Nat.add_mul, Nat.one_mul, Nat.add_comm]
theorem prodL_in (A B : List Wh) : inW (prodL A B) := by
  intro w hw
  simp only [prodL, List.mem_flatMap, List.mem_map] at hw
  obtain ⟨x, _, y, _, rfl⟩ := hw
  refine cyOf_in fun k _ => ?_
  unfold prF
  cases okM x.r.f y.r.f with
  | true => exact w64_range _
  | false => show (-9223372036854775808 : Int) ≤ 0 ∧ (0 : Int) ≤ 9223372036854775807; omega
theorem okAll_no {A B : List Wh} {i : Nat} {f : Nat → Nat → Int} {m : Nat} (hA : A = listW f m) (hi : i < m) (h : B.all (okW2 (whOf (f i))) = false) : okAll A B = false := by
  subst hA
  cases e : okAll (listW f m) B with
  | false => rfl
  | true =>
    have := List.all_eq_true.1 e (whOf (f i)) (List.mem_of_getElem? (listW_get f hi))
    rw [h] at this
    cases this
theorem all_no {g : Nat → Nat → Int} {n j : Nat} {p : Wh → Bool} (hj : j < n) (h : p (whOf (g j)) = false) : (listW g n).all p = false := by
  cases e : (listW g n).all p with
  | false => rfl
  | true =>
    have := List.all_eq_true.1 e (whOf (g j)) (List.mem_of_getElem? (listW_get g hj))
    rw [h] at this
    cases this
theorem gmT1_ok : GamOk Try.prog (gmT1 prF okM) := ext_ok g0_ok ok_ctI
theorem gmS1_ok : GamOk Try.prog (gmS1 prF okM) := ext_ok g0_ok ok_ctS

theorem sumT2 (m : Nat) (f : Nat → Nat → Int) (n : Nat) (g : Nat → Nat → Int) (P : List Wh) (x : Nat → Int) (i : Nat) (hP : P.length ≤ 2 ^ 37) (hn : n ≤ 2 ^ 37) (hm : m ≤ 2 ^ 37) :
    SumOk Try.prog 2 (.block 2 (.loop (loopAt 2 Try.f23))) (atS 60 (lvT2 .normal) 2 (stT2 m n P.length i 0) (hpT2 m f n g P.length (wfun P) x) (fun K => cond ((listW g n).all (okW2 (whOf x))) (K .normal (mkT 0 60 ([1, 6, 22, 23, 24].zip (stT0 m n (P.length + n) i))) (hpT0 m f n g (P.length + n) (wfun (P ++ (listW g n).map (prodW (whOf x)))))) (K .ret (mkT 0 60 [(4, .v (.slice none 0 0)), (5, .v (.bool false))]) (hpTr m f n g)))) := by
  have S : SumOk Try.prog 2 (.block 2 (.loop (loopAt 2 Try.f23))) (atS 60 (lvT2 .normal) 2 (stT2 m n (P.length + 0) i 0) (hpT2 m f n g (P.length + 0) (wfun (P ++ (listW g 0).map (prodW (whOf x)))) x) (fun K => cond ((listW g n).all (okW2 (whOf x))) (K .normal (mkT 0 60 ([1, 6, 22, 23, 24].zip (stT0 m n (P.length + n) i))) (hpT0 m f n g (P.length + n) (wfun (P ++ (listW g n).map (prodW (whOf x)))))) (K .ret (mkT 0 60 [(4, .v (.slice none 0 0)), (5, .v (.bool false))]) (hpTr m f n g)))) := by
    refine for_at gmT1_ok (n := 100) (m := 2) (lv := lvT2) (fun j => stT2 m n (P.length + j) i j) (fun j => hpT2 m f n g (P.length + j) (wfun (P ++ (listW g j).map (prodW (whOf x)))) x) (fun j => (listW g j).all (okW2 (whOf x)) = true) n (fun _ => noLam) (lv3_ris rfl rfl rfl) (Nat.le_refl _) rfl fun K Q hk j hj hjn => ⟨noLam_ok _ _ _, ?_⟩
    rw [rndT2]
    refine good_cond (fun c1 => ?_) fun c1 => ?_
    · have c1 := of_decide_eq_true c1
      have c1' : j < n := by omega
      simp only [Int.toNat_natCast, Nat.zero_add]
      rw [wr_in (x := (j : Int) + 1) (by omega)]
      refine good_needs (by simp only [ob_cons, ob_nil, and_true, decide_eq_true_eq]; omega) (good_cond (fun q => ?_) fun q => ?_)
      · have q' : (!(okW2 (whOf x) (whOf (g j)))) = true := q
        have hz : (listW g n).all (okW2 (whOf x)) = false := all_no c1' (by simpa using q')
        rw [hz] at hk
        exact good_out ⟨_, Hsim.refl _, hk⟩
      · have q' : (!(okW2 (whOf x) (whOf (g j)))) = false := q
        have q2 : okW2 (whOf x) (whOf (g j)) = true := by simpa using q'
        refine good_needs (by simp only [ob_cons, ob_nil, and_true, decide_eq_true_eq, Nat.ble_eq]; omega) (good_out ⟨j + 1, ⟨rfl, c1', by rw [listW_succ, List.all_append, hj]; simp [q2]⟩, rfl, ?_⟩)
        show Hsim _ (hpT2 m f n g (P.length + (j + 1)) (wfun (P ++ (listW g (j + 1)).map (prodW (whOf x)))) x)
        rw [listW_succ, List.map_append, ← List.append_assoc]
        refine .cons (ABeq.refl _) (.cons (ABeq.refl _) (.cons (ABeq.row fun r hr => ?_) (.cons (ABeq.refl _) .nil)))
        exact ch_row _ (prodW (whOf x) (whOf (g j))) (P.length + j) (by rw [List.length_append, List.length_map, listW_length]) r hr
    · have c1 := of_decide_eq_false c1
      have : j = n := by omega
      subst this
      refine good_out ⟨_, Hsim.refl _, ?_⟩
      rw [if_pos rfl]
      rw [hj] at hk
      exact hk
  have e0 : P ++ (listW g 0).map (prodW (whOf x)) = P := List.append_nil P
  rw [e0] at S
  exact S

theorem sumT0 (m : Nat) (f : Nat → Nat → Int) (n : Nat) (g : Nat → Nat → Int) (hm : m ≤ 12) (hn : n ≤ 12) :
    SumOk Try.prog 2 (.block 0 (.loop (loopAt 0 Try.f23))) (atS 60 (lvT0 .normal) 2 (stT0 m n 0 0) (hpT0 m f n g 0 (wfun [])) (fun K => cond (okAll (listW f m) (listW g n)) (K .normal (mkT 0 60 [(6, .own 2 (prodL (listW f m) (listW g n)).length)]) (hpT0 m f n g (prodL (listW f m) (listW g n)).length (wfun (prodL (listW f m) (listW g n))))) (K .ret (mkT 0 60 [(4, .v (.slice none 0 0)), (5, .v (.bool false))]) (hpTr m f n g)))) := by
  refine for_at gmT1_ok (n := 100) (m := 2) (lv := lvT0) (fun i => stT0 m n (prodL (listW f i) (listW g n)).length i) (fun i => hpT0 m f n g (prodL (listW f i) (listW g n)).length (wfun (prodL (listW f i) (listW g n)))) (fun i => okAll (listW f i) (listW g n) = true) m
    (fun i => bif Nat.blt i m then lamT2 m f n g (prodL (listW f i) (listW g n)).length (wfun (prodL (listW f i) (listW g n))) (f i) i ((listW g n).all (okW2 (whOf (f i)))) ((prodL (listW f i) (listW g n)).length + n) (wfun (prodL (listW f i) (listW g n) ++ (listW g n).map (prodW (whOf (f i))))) else oneL 2 errS) (lv3_ris rfl rfl rfl) (Nat.le_refl _) rfl fun K Q hk i hi him => ?_
  by_cases hlt : i < m
  · rw [blt_yes hlt, cond_true]
    have hP : (prodL (listW f i) (listW g n)).length ≤ 2 ^ 37 := by
      rw [prodL_length, listW_length, listW_length]
      exact Nat.le_trans (Nat.mul_le_mul (by omega : i ≤ 12) hn) (by omega)
    refine ⟨lamC (c := loopAt 2 Try.f23) (by kernel_rfl) (sumT2 m f n g _ (f i) i hP (by omega) (by omega)), ?_⟩
    rw [rndT0]
    refine good_true (decide_eq_true (by omega)) ?_
    rw [Int.toNat_natCast, Nat.zero_add, wr_in (x := (i : Int) + 1) (by omega)]
    refine good_needs (by simp only [ob_cons, ob_nil, and_true, decide_eq_true_eq]; exact ⟨by omega, by omega, chk_of ⟨rfl, Hsim.refl _⟩⟩) (good_cond (fun q => ?_) fun q => ?_)
    · refine good_out ⟨i + 1, ⟨rfl, hlt, by rw [listW_succ, okAll_snoc, hi, q]; rfl⟩, ?_, ?_⟩
      · show _ = stT0 m n (prodL (listW f (i + 1)) (listW g n)).length (i + 1)
        rw [listW_succ, prodL_snoc, List.length_append, List.length_map, listW_length]
        rfl
      · show Hsim _ (hpT0 m f n g (prodL (listW f (i + 1)) (listW g n)).length (wfun (prodL (listW f (i + 1)) (listW g n))))
        rw [listW_succ, prodL_snoc, List.length_append, List.length_map, listW_length]
        exact Hsim.refl _
    · rw [okAll_no rfl hlt q] at hk
      exact good_out ⟨_, Hsim.refl _, hk⟩
  · have b : Nat.blt i m = false := by
      cases hb : Nat.blt i m with
      | false => rfl
      | true => rw [Nat.blt_eq] at hb; omega
    rw [b, cond_false]
    have : i = m := by omega
    subst this
    refine ⟨lamC (c := loopAt 2 Try.f23) (by kernel_rfl) errS_ok, ?_⟩
    rw [rndT0n]
    refine good_false (decide_eq_false (by omega)) (good_out ⟨_, Hsim.refl _, ?_⟩)
    rw [if_pos rfl]
    rw [hi] at hk
    exact hk

theorem sumS2 (m : Nat) (f : Nat → Nat → Int) (n : Nat) (g : Nat → Nat → Int) (P : List Wh) (i : Nat) (hP : P.length ≤ 2 ^ 37) (hn : n ≤ 2 ^ 37) (him : i < m) (hm : m ≤ 2 ^ 37) :
    SumOk Try.prog 2 (.block 2 (.loop (loopAt 2 Try.f22))) (atS 70 (lvS2 .normal) 2 (stS2 m n P.length i 0) (hpT0 m f n g P.length (wfun P)) (fun K => cond ((listW g n).all (okW2 (whOf (f i)))) (K .normal (mkT 0 70 ([0, 1, 6, 7].zip (stS0 m n (P.length + n) i))) (hpT0 m f n g (P.length + n) (wfun (P ++ (listW g n).map (prodW (whOf (f i))))))) (K .ret (mkT 0 70 [(4, .own 2 0), (5, .v (.bool false))]) (hpSr m f n g)))) := by
  have S : SumOk Try.prog 2 (.block 2 (.loop (loopAt 2 Try.f22))) (atS 70 (lvS2 .normal) 2 (stS2 m n (P.length + 0) i 0) (hpT0 m f n g (P.length + 0) (wfun (P ++ (listW g 0).map (prodW (whOf (f i)))))) (fun K => cond ((listW g n).all (okW2 (whOf (f i)))) (K .normal (mkT 0 70 ([0, 1, 6, 7].zip (stS0 m n (P.length + n) i))) (hpT0 m f n g (P.length + n) (wfun (P ++ (listW g n).map (prodW (whOf (f i))))))) (K .ret (mkT 0 70 [(4, .own 2 0), (5, .v (.bool false))]) (hpSr m f n g)))) := by
    refine for_at gmS1_ok (n := 100) (m := 2) (lv := lvS2) (fun j => stS2 m n (P.length + j) i j) (fun j => hpT0 m f n g (P.length + j) (wfun (P ++ (listW g j).map (prodW (whOf (f i)))))) (fun j => (listW g j).all (okW2 (whOf (f i))) = true) n (fun _ => noLam) (lv3_ris rfl rfl rfl) (Nat.le_refl _) rfl fun K Q hk j hj hjn => ⟨noLam_ok _ _ _, ?_⟩
    rw [rndS2]
    refine good_cond (fun c1 => ?_) fun c1 => ?_
    · have c1 := of_decide_eq_true c1
      have c1' : j < n := by omega
      simp only [Int.toNat_natCast, Nat.zero_add]
      rw [wr_in (x := (j : Int) + 1) (by omega)]
      refine good_needs (by simp only [ob_cons, ob_nil, and_true, decide_eq_true_eq]; omega) (good_cond (fun q => ?_) fun q => ?_)
      · have q' : (!(okW2 (whOf (f i)) (whOf (g j)))) = true := q
        have hz : (listW g n).all (okW2 (whOf (f i))) = false := all_no c1' (by simpa using q')
        rw [hz] at hk
        exact good_out ⟨_, .cons (ABeq.refl _) (.cons (ABeq.refl _) (.cons (ABeq.row fun j hj => absurd hj (Nat.not_lt_zero _)) .nil)), hk⟩
      · have q' : (!(okW2 (whOf (f i)) (whOf (g j)))) = false := q
        have q2 : okW2 (whOf (f i)) (whOf (g j)) = true := by simpa using q'
        refine good_needs (by simp only [ob_cons, ob_nil, and_true, decide_eq_true_eq, Nat.ble_eq]; omega) (good_out ⟨j + 1, ⟨rfl, c1', by rw [listW_succ, List.all_append, hj]; simp [q2]⟩, rfl, ?_⟩)
        show Hsim _ (hpT0 m f n g (P.length + (j + 1)) (wfun (P ++ (listW g (j + 1)).map (prodW (whOf (f i))))))
        rw [listW_succ, List.map_append, ← List.append_assoc]
        refine .cons (ABeq.refl _) (.cons (ABeq.refl _) (.cons (ABeq.row fun r hr => ?_) .nil))
        exact ch_row _ (prodW (whOf (f i)) (whOf (g j))) (P.length + j) (by rw [List.length_append, List.length_map, listW_length]) r hr
    · have c1 := of_decide_eq_false c1
      have : j = n := by omega
      subst this
      refine good_out ⟨_, Hsim.refl _, ?_⟩
      rw [if_pos rfl]
      rw [hj] at hk
      exact hk
  have e0 : P ++ (listW g 0).map (prodW (whOf (f i))) = P := List.append_nil P
  rw [e0] at S
  exact S

theorem sumS0 (m : Nat) (f : Nat → Nat → Int) (n : Nat) (g : Nat → Nat → Int) (hm : m ≤ 12) (hn : n ≤ 12) :
    SumOk Try.prog 2 (.block 0 (.loop (loopAt 0 Try.f22))) (atS 70 (lvS0 .normal) 2 (stS0 m n 0 0) (hpT0 m f n g 0 (wfun [])) (fun K => cond (okAll (listW f m) (listW g n)) (K .normal (mkT 0 70 [(6, .own 2 (prodL (listW f m) (listW g n)).length)]) (hpT0 m f n g (prodL (listW f m) (listW g n)).length (wfun (prodL (listW f m) (listW g n))))) (K .ret (mkT 0 70 [(4, .own 2 0), (5, .v (.bool false))]) (hpSr m f n g)))) := by
  refine for_at gmS1_ok (n := 100) (m := 2) (lv := lvS0) (fun i => stS0 m n (prodL (listW f i) (listW g n)).length i) (fun i => hpT0 m f n g (prodL (listW f i) (listW g n)).length (wfun (prodL (listW f i) (listW g n)))) (fun i => okAll (listW f i) (listW g n) = true) m
    (fun i => bif Nat.blt i m then lamS2 m f n g (prodL (listW f i) (listW g n)).length (wfun (prodL (listW f i) (listW g n))) i ((listW g n).all (okW2 (whOf (f i)))) ((prodL (listW f i) (listW g n)).length + n) (wfun (prodL (listW f i) (listW g n) ++ (listW g n).map (prodW (whOf (f i))))) else oneL 2 errS) (lv3_ris rfl rfl rfl) (Nat.le_refl _) rfl fun K Q hk i hi him => ?_
  by_cases hlt : i < m
  · rw [blt_yes hlt, cond_true]
    have hP : (prodL (listW f i) (listW g n)).length ≤ 2 ^ 37 := by
      rw [prodL_length, listW_length, listW_length]
      exact Nat.le_trans (Nat.mul_le_mul (by omega : i ≤ 12) hn) (by omega)
    refine ⟨lamC (c := loopAt 2 Try.f22) (by kernel_rfl) (sumS2 m f n g _ i hP (by omega) hlt (by omega)), ?_⟩
    rw [rndS0]
    refine good_true (decide_eq_true (by omega)) ?_
    rw [wr_in (x := (i : Int) + 1) (by omega)]
    refine good_needs (by rw [ob_cons]; exact ⟨chk_of ⟨rfl, Hsim.refl _⟩, rfl⟩) (good_cond (fun q => ?_) fun q => ?_)
    · refine good_out ⟨i + 1, ⟨rfl, hlt, by rw [listW_succ, okAll_snoc, hi, q]; rfl⟩, ?_, ?_⟩
      · show _ = stS0 m n (prodL (listW f (i + 1)) (listW g n)).length (i + 1)
        rw [listW_succ, prodL_snoc, List.length_append, List.length_map, listW_length]
        rfl
      · show Hsim _ (hpT0 m f n g (prodL (listW f (i + 1)) (listW g n)).length (wfun (prodL (listW f (i + 1)) (listW g n))))
        rw [listW_succ, prodL_snoc, List.length_append, List.length_map, listW_length]
        exact Hsim.refl _
    · rw [okAll_no rfl hlt q] at hk
      exact good_out ⟨_, .cons (ABeq.refl _) (.cons (ABeq.refl _) (.cons (ABeq.row fun j hj => absurd hj (Nat.not_lt_zero _)) .nil)), hk⟩
  · have b : Nat.blt i m = false := by
      cases hb : Nat.blt i m with
      | false => rfl
      | true => rw [Nat.blt_eq] at hb; omega
    rw [b, cond_false]
    have : i = m := by omega
    subst this
    refine ⟨lamC (c := loopAt 2 Try.f22) (by kernel_rfl) errS_ok, ?_⟩
    rw [rndS0n]
    refine good_false (decide_eq_false (by omega)) (good_out ⟨_, Hsim.refl _, ?_⟩)
    rw [if_pos rfl]
    rw [hi] at hk
    exact hk

end Go.Proofs.Ytnlfdcjpeoafhaa

/- DesignTimes of both. Conditions: two lists of wheels. -/
namespace Go.Proofs.Ytnlfdcjpeoafhaa
open Go.RowKit
set_option maxRecDepth 100000

/-- The lists are designs, and their product too. -/
def tmP (A B : List Wh) : Bool := (okD A && okD B) && okAll A B
def yesTm (A B : List Wh) : Bool := tmP A B && okT (prodL A B)
def tmT (A B : List Wh) : List Wh := tidyL (prodL A B)
def tmL (A B : List Wh) : List Wh := bif tmP A B then tidyL (prodL A B) else []
def FtmY (yes : List Wh → List Wh → Bool) (tt : List Wh → List Wh → List Wh) : List SA → Option FR
  | [.row m ga, .row n gb] => some { val := valY (tt (listW (itW ga) m) (listW (itW gb) n)), new := newY (tt (listW (itW ga) m) (listW (itW gb) n)), obl := [allW m ga, allW n gb, decide (m ≤ 2 ^ 38), decide (n ≤ 2 ^ 38), yes (listW (itW ga) m) (listW (itW gb) n)] }
  | _ => none
def FtmN (yes : List Wh → List Wh → Bool) : List SA → Option FR
  | [.row m ga, .row n gb] => some { val := valN, obl := [allW m ga, allW n gb, decide (m ≤ 2 ^ 38), decide (n ≤ 2 ^ 38), !yes (listW (itW ga) m) (listW (itW gb) n)] }
  | _ => none
def FtmS (ok : List Wh → List Wh → Bool) (tl : List Wh → List Wh → List Wh) : List SA → Option FR
  | [.row m ga, .row n gb] => some { val := .tup [.own 0 (tl (listW (itW ga) m) (listW (itW gb) n)).length, .v (.bool (ok (listW (itW ga) m) (listW (itW gb) n)))], new := [.row true (tl (listW (itW ga) m) (listW (itW gb) n)).length 9 (row9 (wfun (tl (listW (itW ga) m) (listW (itW gb) n)))) 67], obl := [allW m ga, allW n gb, decide (m ≤ 2 ^ 38), decide (n ≤ 2 ^ 38)] }
  | _ => none
theorem gmS2_ok : GamOk Try.prog (gmS2 okD tidyL okT) := by
  unfold gmS2
  rw [FtidyO_eq, FdvO_eq]
  exact ext_ok (ext_ok g0_ok ok_dv) ok_tidyS

theorem ok_tmY : SpecOk Try.prog 23 (specR md_eqWS (FtmY yesTm tmT)) := by
  refine specR_hr gmChY_ok Try.func23 rfl fun sas fr hF ho => ?_
  unfold FtmY at hF
  split at hF
  · rename_i m ga n gb
    cases hF
    simp only [ob_cons] at ho
    obtain ⟨h1, h2, h3, h4, h5, _⟩ := ho
    have hm := of_decide_eq_true h3
    have hn := of_decide_eq_true h4
    rw [yesTm, tmP, Bool.and_eq_true, Bool.and_eq_true, Bool.and_eq_true] at h5
    obtain ⟨⟨⟨hA, hB⟩, hO⟩, hT⟩ := h5
    have lA := okD_len hA
    have lB := okD_len hB
    rw [listW_length] at lA lB
    have hL : (prodL (listW (itW ga) m) (listW (itW gb) n)).length ≤ 144 := by
      rw [prodL_length, listW_length, listW_length]
      exact Nat.le_trans (Nat.mul_le_mul lA lB) (by omega)
    have hG : GoodQ (execF Try.prog (gmChY okD tidyL okT inWB) (lamT0 m (itW ga) n (itW gb) (okAll (listW (itW ga) m) (listW (itW gb) n)) (prodL (listW (itW ga) m) (listW (itW gb) n)).length (wfun (prodL (listW (itW ga) m) (listW (itW gb) n)))) 100 Try.f23 [.sl 0 9 0 0 m none, .sl 1 9 0 0 n none] (hpTr m (itW ga) n (itW gb)) (packK 2)) (GivR (abP md_eqWS [.row m ga, .row n gb] []) { val := valY (tmT (listW (itW ga) m) (listW (itW gb) n)), new := newY (tmT (listW (itW ga) m) (listW (itW gb) n)), obl := [allW m ga, allW n gb, decide (m ≤ 2 ^ 38), decide (n ≤ 2 ^ 38), yesTm (listW (itW ga) m) (listW (itW gb) n)] }) := by
      rw [treeTmY, row0, row0, listW_itW, listW_itW, listW_self _ _ rfl]
      refine good_needs (by simp only [ob_cons, ob_nil, and_true, decide_eq_true_eq, Nat.ble_eq, allW_row, true_and]; omega) (good_false (by rw [hA]; rfl) (good_needs (by simp only [ob_cons, ob_nil, and_true, decide_eq_true_eq, Nat.ble_eq, allW_row, true_and]; omega) (good_false (by rw [hB]; rfl) (good_needs ?_ (good_true hO (good_needs ?_ (good_out ⟨_, rfl, rfl, .cons (ABeq.row fun j hj => (allW_get h1 j hj).symm) (.cons (ABeq.row fun j hj => (allW_get h2 j hj).symm) (Hsim.refl _))⟩)))))))
      · rw [ob_cons]
        exact ⟨chk_of ⟨rfl, .cons (ABeq.refl _) (.cons (ABeq.refl _) (.cons (ABeq.row fun j hj => absurd hj (Nat.not_lt_zero _)) .nil))⟩, rfl⟩
      · simp only [ob_cons, ob_nil, and_true, allW_row]
        exact ⟨by simp, trivial, decide_eq_true (by omega), chk_of (prodL_in _ _), hT⟩
    exact ⟨hpTr m (itW ga) n (itW gb), _, 100, .cons (ABeq.row fun j hj => allW_get h1 j hj) (.cons (ABeq.row fun j hj => allW_get h2 j hj) .nil), lam1 (by kernel_rfl) (sumT0 m (itW ga) n (itW gb) lA lB), hG⟩
  · cases hF

theorem ok_tmN : SpecOk Try.prog 23 (specR md_eqWS (FtmN yesTm)) := by
  refine specR_hr gmChN_ok Try.func23 rfl fun sas fr hF ho => ?_
  unfold FtmN at hF
  split at hF
  · rename_i m ga n gb
    cases hF
    simp only [ob_cons] at ho
    obtain ⟨h1, h2, h3, h4, h5, _⟩ := ho
    have hm := of_decide_eq_true h3
    have hn := of_decide_eq_true h4
    have fin : GoodQ (.out .ret [valN] (hpTr m (itW ga) n (itW gb))) (GivR (abP md_eqWS [.row m ga, .row n gb] []) { val := valN, obl := [allW m ga, allW n gb, decide (m ≤ 2 ^ 38), decide (n ≤ 2 ^ 38), !yesTm (listW (itW ga) m) (listW (itW gb) n)] }) :=
      good_out ⟨_, rfl, rfl, .cons (ABeq.row fun j hj => (allW_get h1 j hj).symm) (.cons (ABeq.row fun j hj => (allW_get h2 j hj).symm) .nil)⟩
    have ob1 : obls [Nat.ble (0 + m) m, allW m (row9 (itW ga)), decide (m ≤ 549755813888)] = true := by simp only [ob_cons, ob_nil, and_true, decide_eq_true_eq, Nat.ble_eq, allW_row, true_and]; omega
    have ob2 : obls [Nat.ble (0 + n) n, allW n (row9 (itW gb)), decide (n ≤ 549755813888)] = true := by simp only [ob_cons, ob_nil, and_true, decide_eq_true_eq, Nat.ble_eq, allW_row, true_and]; omega
    by_cases hD : (okD (listW (itW ga) m) && okD (listW (itW gb) n)) = true
    · rw [Bool.and_eq_true] at hD
      obtain ⟨hA, hB⟩ := hD
      have lA := okD_len hA
      have lB := okD_len hB
      rw [listW_length] at lA lB
      have hL : (prodL (listW (itW ga) m) (listW (itW gb) n)).length ≤ 144 := by
        rw [prodL_length, listW_length, listW_length]
        exact Nat.le_trans (Nat.mul_le_mul lA lB) (by omega)
      refine ⟨hpTr m (itW ga) n (itW gb), lamT0 m (itW ga) n (itW gb) (okAll (listW (itW ga) m) (listW (itW gb) n)) (prodL (listW (itW ga) m) (listW (itW gb) n)).length (wfun (prodL (listW (itW ga) m) (listW (itW gb) n))), 100, .cons (ABeq.row fun j hj => allW_get h1 j hj) (.cons (ABeq.row fun j hj => allW_get h2 j hj) .nil), lam1 (by kernel_rfl) (sumT0 m (itW ga) n (itW gb) lA lB), ?_⟩
      show GoodQ (execF Try.prog (gmChN okD okT inWB) (lamT0 m (itW ga) n (itW gb) (okAll (listW (itW ga) m) (listW (itW gb) n)) (prodL (listW (itW ga) m) (listW (itW gb) n)).length (wfun (prodL (listW (itW ga) m) (listW (itW gb) n)))) 100 Try.f23 [.sl 0 9 0 0 m none, .sl 1 9 0 0 n none] (hpTr m (itW ga) n (itW gb)) (packK 2)) _
      rw [treeTmN, row0, row0, listW_itW, listW_itW, listW_self _ _ rfl]
      refine good_needs ob1 (good_false (by rw [hA]; rfl) (good_needs ob2 (good_false (by rw [hB]; rfl) (good_needs ?_ (good_cond (fun q => good_needs ?_ fin) fun _ => fin)))))
      · rw [ob_cons]
        exact ⟨chk_of ⟨rfl, .cons (ABeq.refl _) (.cons (ABeq.refl _) (.cons (ABeq.row fun j hj => absurd hj (Nat.not_lt_zero _)) .nil))⟩, rfl⟩
      · rw [yesTm, tmP, hA, hB, q] at h5
        simp only [ob_cons, ob_nil, and_true, allW_row]
        exact ⟨by simp, trivial, decide_eq_true (by omega), chk_of (prodL_in _ _), h5⟩
    · refine ⟨hpTr m (itW ga) n (itW gb), oneL 0 errS, 100, .cons (ABeq.row fun j hj => allW_get h1 j hj) (.cons (ABeq.row fun j hj => allW_get h2 j hj) .nil), lam1 (c := loopAt 0 Try.f23) (by kernel_rfl) errS_ok, ?_⟩
      show GoodQ (execF Try.prog (gmChN okD okT inWB) (oneL 0 errS) 100 Try.f23 [.sl 0 9 0 0 m none, .sl 1 9 0 0 n none] (hpTr m (itW ga) n (itW gb)) (packK 2)) _
      rw [treeTmE, row0, row0, listW_itW, listW_itW]
      refine good_needs ob1 (good_cond (fun _ => fin) fun q => good_needs ?_ fin)
      have qA : okD (listW (itW ga) m) = true := by
        have q' : (!okD (listW (itW ga) m)) = false := q
        simpa using q'
      have qB : okD (listW (itW gb) n) = false := by
        rw [qA, Bool.true_and] at hD
        simpa using hD
      simp only [ob_cons, ob_nil, and_true, decide_eq_true_eq, Nat.ble_eq, allW_row, true_and, qB]
      exact ⟨by omega, by omega, rfl⟩
  · cases hF

theorem ok_tmS : SpecOk Try.prog 22 (specR md_eqWS (FtmS yesTm tmL)) := by
  refine specR_hr gmS2_ok Try.func22 rfl fun sas fr hF ho => ?_
  unfold FtmS at hF
  split at hF
  · rename_i m ga n gb
    cases hF
    simp only [ob_cons] at ho
    obtain ⟨h1, h2, h3, h4, _⟩ := ho
    have hm := of_decide_eq_true h3
    have hn := of_decide_eq_true h4
    have fin : ∀ (D : List Wh) (b : Bool) (G : Nat → List Value), yesTm (listW (itW ga) m) (listW (itW gb) n) = b → tmL (listW (itW ga) m) (listW (itW gb) n) = D → (∀ j, j < D.length → G j = row9 (wfun D) j) → GoodQ (.out .ret [.tup [.own 2 D.length, .v (.bool b)]] [.row false m 9 (row9 (itW ga)) 67, .row false n 9 (row9 (itW gb)) 67, .row true D.length 9 G 67])
        (GivR (abP md_eqWS [.row m ga, .row n gb] []) { val := .tup [.own 0 (tmL (listW (itW ga) m) (listW (itW gb) n)).length, .v (.bool (yesTm (listW (itW ga) m) (listW (itW gb) n)))], new := [.row true (tmL (listW (itW ga) m) (listW (itW gb) n)).length 9 (row9 (wfun (tmL (listW (itW ga) m) (listW (itW gb) n)))) 67], obl := [allW m ga, allW n gb, decide (m ≤ 2 ^ 38), decide (n ≤ 2 ^ 38)] }) := by
      rintro D b G rfl rfl hG
      exact good_out ⟨_, rfl, rfl, .cons (ABeq.row fun j hj => (allW_get h1 j hj).symm) (.cons (ABeq.row fun j hj => (allW_get h2 j hj).symm) (.cons (ABeq.row hG) .nil))⟩
    have bad : ∀ G, tmP (listW (itW ga) m) (listW (itW gb) n) = false → GoodQ (.out .ret [.tup [.own 2 0, .v (.bool false)]] [.row false m 9 (row9 (itW ga)) 67, .row false n 9 (row9 (itW gb)) 67, .row true 0 9 G 67]) _ := fun G e =>
      fin [] false G (by rw [yesTm, e]; rfl) (by rw [tmL, e]; rfl) fun j hj => absurd hj (Nat.not_lt_zero _)
    have ob1 : obls [Nat.ble (0 + m) m, allW m (row9 (itW ga)), decide (m ≤ 549755813888)] = true := by simp only [ob_cons, ob_nil, and_true, decide_eq_true_eq, Nat.ble_eq, allW_row, true_and]; omega
    have ob2 : obls [Nat.ble (0 + n) n, allW n (row9 (itW gb)), decide (n ≤ 549755813888)] = true := by simp only [ob_cons, ob_nil, and_true, decide_eq_true_eq, Nat.ble_eq, allW_row, true_and]; omega
    by_cases hD : (okD (listW (itW ga) m) && okD (listW (itW gb) n)) = true
    · rw [Bool.and_eq_true] at hD
      obtain ⟨hA, hB⟩ := hD
      have lA := okD_len hA
      have lB := okD_len hB
      rw [listW_length] at lA lB
      have hL : (prodL (listW (itW ga) m) (listW (itW gb) n)).length ≤ 144 := by
        rw [prodL_length, listW_length, listW_length]
        exact Nat.le_trans (Nat.mul_le_mul lA lB) (by omega)
      refine ⟨hpTr m (itW ga) n (itW gb), lamS0 m (itW ga) n (itW gb) (okAll (listW (itW ga) m) (listW (itW gb) n)) (prodL (listW (itW ga) m) (listW (itW gb) n)).length (wfun (prodL (listW (itW ga) m) (listW (itW gb) n))), 100, .cons (ABeq.row fun j hj => allW_get h1 j hj) (.cons (ABeq.row fun j hj => allW_get h2 j hj) .nil), lam1 (by kernel_rfl) (sumS0 m (itW ga) n (itW gb) lA lB), ?_⟩
      show GoodQ (execF Try.prog (gmS2 okD tidyL okT) (lamS0 m (itW ga) n (itW gb) (okAll (listW (itW ga) m) (listW (itW gb) n)) (prodL (listW (itW ga) m) (listW (itW gb) n)).length (wfun (prodL (listW (itW ga) m) (listW (itW gb) n)))) 100 Try.f22 [.sl 0 9 0 0 m none, .sl 1 9 0 0 n none] (hpTr m (itW ga) n (itW gb)) (packK 2)) _
      rw [treeTmS, row0, row0, listW_itW, listW_itW, listW_self _ _ rfl]
      refine good_needs ob1 (good_false (by rw [hA]; rfl) (good_needs ob2 (good_false (by rw [hB]; rfl) (good_needs ?_ (good_cond (fun q => ?_) fun q => ?_)))))
      · rw [ob_cons]
        exact ⟨chk_of ⟨rfl, .cons (ABeq.refl _) (.cons (ABeq.refl _) (.cons (ABeq.row fun j hj => absurd hj (Nat.not_lt_zero _)) .nil))⟩, rfl⟩
      · have e : tmP (listW (itW ga) m) (listW (itW gb) n) = true := by rw [tmP, hA, hB, q]; rfl
        refine good_needs ?_ (fin _ _ _ (by rw [yesTm, e]; rfl) (by rw [tmL, e]; rfl) fun j hj => rfl)
        simp only [ob_cons, ob_nil, and_true, allW_row]
        exact ⟨by simp, trivial, decide_eq_true (by omega)⟩
      · exact bad _ (by rw [tmP, q, Bool.and_false])
    · have e : tmP (listW (itW ga) m) (listW (itW gb) n) = false := by
        rw [tmP, show (okD (listW (itW ga) m) && okD (listW (itW gb) n)) = false by simpa using hD]
        rfl
      refine ⟨hpTr m (itW ga) n (itW gb), oneL 0 errS, 100, .cons (ABeq.row fun j hj => allW_get h1 j hj) (.cons (ABeq.row fun j hj => allW_get h2 j hj) .nil), lam1 (c := loopAt 0 Try.f22) (by kernel_rfl) errS_ok, ?_⟩
      show GoodQ (execF Try.prog (gmS2 okD tidyL okT) (oneL 0 errS) 100 Try.f22 [.sl 0 9 0 0 m none, .sl 1 9 0 0 n none] (hpTr m (itW ga) n (itW gb)) (packK 2)) _
      rw [treeTmSE, row0, row0, listW_itW, listW_itW]
      refine good_needs ob1 (good_cond (fun _ => bad _ e) fun q => good_needs ?_ (bad _ e))
      have qA : okD (listW (itW ga) m) = true := by
        have q' : (!okD (listW (itW ga) m)) = false := q
        simpa using q'
      have qB : okD (listW (itW gb) n) = false := by
        rw [qA, Bool.true_and] at hD
        simpa using hD
      simp only [ob_cons, ob_nil, and_true, decide_eq_true_eq, Nat.ble_eq, allW_row, true_and, qB]
      exact ⟨by omega, by omega, rfl⟩
  · cases hF

noncomputable def gmTmH (ok : List Wh → List Wh → Bool) (tl : List Wh → List Wh → List Wh) : Gam := ext gmH 22 (specR md_eqWS (FtmS ok tl))
theorem lawYTm (ok yes : List Wh → List Wh → Bool) (tl tt : List Wh → List Wh → List Wh) (m : Nat) (f : Nat → Nat → Int) (t : TypeId) (n : Nat) (g : Nat → Nat → Int) (t2 : TypeId) : execF Try.prog (ext (gmTmH ok tl) 23 (specR md_eqWS (FtmY yes tt))) noLam 100 Try.f4 [.sl 0 9 0 0 m none, .sl 1 9 0 0 n none] [.row false m 9 (row9 f) t, .row false n 9 (row9 g) t2] (packK 2)
    = bif decide (IntKind.wrap IntKind.i64 ((1048576 : Int) - (↑m : Int)) < (0 : Int)) then Res.out Ex.ret [AV.v (Value.bool true)] [AB.row false m (9 : Nat) (row9 f) t, AB.row false n (9 : Nat) (row9 g) t2] else bif decide (IntKind.wrap IntKind.i64 ((1048576 : Int) - (↑m : Int)) < (0 : Int)) then Res.out Ex.ret [AV.v (Value.bool true)] [AB.row false m (9 : Nat) (row9 f) t, AB.row false n (9 : Nat) (row9 g) t2] else bif decide (IntKind.wrap IntKind.i64 (IntKind.wrap IntKind.i64 ((1048576 : Int) - (↑m : Int)) - (↑n : Int)) < (0 : Int)) then Res.out Ex.ret [AV.v (Value.bool true)] [AB.row false m (9 : Nat) (row9 f) t, AB.row false n (9 : Nat) (row9 g) t2] else bif decide (IntKind.wrap IntKind.i64 (IntKind.wrap IntKind.i64 ((1048576 : Int) - (↑m : Int)) - (↑n : Int)) < (0 : Int)) then Res.out Ex.ret [AV.v (Value.bool true)] [AB.row false m (9 : Nat) (row9 f) t, AB.row false n (9 : Nat) (row9 g) t2] else needs [Nat.ble ((0 : Nat) + m) m, allW m fun q ↦ row9 f ((0 : Nat) + q), decide (m ≤ (549755813888 : Nat)), Nat.ble ((0 : Nat) + n) n, allW n fun q ↦ row9 g ((0 : Nat) + q), decide (n ≤ (549755813888 : Nat)), Nat.ble m m, Nat.ble n n, allW m (row9 (itW fun q ↦ row9 f ((0 : Nat) + q))), allW n (row9 (itW fun q ↦ row9 g ((0 : Nat) + q))), decide (m ≤ (274877906944 : Nat)), decide (n ≤ (274877906944 : Nat)), Nat.ble ((0 : Nat) + m) m, allW m fun q ↦ row9 f ((0 : Nat) + q), decide (m ≤ (549755813888 : Nat)), Nat.ble ((0 : Nat) + n) n, allW n fun q ↦ row9 g ((0 : Nat) + q), decide (n ≤ (549755813888 : Nat)), Nat.ble m m, Nat.ble n n, allW m (row9 (itW fun q ↦ row9 f ((0 : Nat) + q))), allW n (row9 (itW fun q ↦ row9 g ((0 : Nat) + q))), decide (m ≤ (274877906944 : Nat)), decide (n ≤ (274877906944 : Nat)), yes (listW (itW (row9 (itW fun q ↦ row9 f ((0 : Nat) + q)))) m) (listW (itW (row9 (itW fun q ↦ row9 g ((0 : Nat) + q)))) n), Nat.ble ((0 : Nat) + List.length (tt (listW (itW (row9 (itW fun q ↦ row9 f ((0 : Nat) + q)))) m) (listW (itW (row9 (itW fun q ↦ row9 g ((0 : Nat) + q)))) n))) (List.length (tt (listW (itW (row9 (itW fun q ↦ row9 f ((0 : Nat) + q)))) m) (listW (itW (row9 (itW fun q ↦ row9 g ((0 : Nat) + q)))) n))), Nat.ble (List.length (tl (listW (itW (row9 (itW fun q ↦ row9 f ((0 : Nat) + q)))) m) (listW (itW (row9 (itW fun q ↦ row9 g ((0 : Nat) + q)))) n))) (List.length (tl (listW (itW (row9 (itW fun q ↦ row9 f ((0 : Nat) + q)))) m) (listW (itW (row9 (itW fun q ↦ row9 g ((0 : Nat) + q)))) n))), Nat.beq (List.length (tl (listW (itW (row9 (itW fun q ↦ row9 f ((0 : Nat) + q)))) m) (listW (itW (row9 (itW fun q ↦ row9 g ((0 : Nat) + q)))) n))) (List.length (tt (listW (itW (row9 (itW fun q ↦ row9 f ((0 : Nat) + q)))) m) (listW (itW (row9 (itW fun q ↦ row9 g ((0 : Nat) + q)))) n))), allW (List.length (tt (listW (itW (row9 (itW fun q ↦ row9 f ((0 : Nat) + q)))) m) (listW (itW (row9 (itW fun q ↦ row9 g ((0 : Nat) + q)))) n))) fun q ↦ row9 (wfun (tt (listW (itW (row9 (itW fun q ↦ row9 f ((0 : Nat) + q)))) m) (listW (itW (row9 (itW fun q ↦ row9 g ((0 : Nat) + q)))) n))) ((0 : Nat) + q), allW (List.length (tt (listW (itW (row9 (itW fun q ↦ row9 f ((0 : Nat) + q)))) m) (listW (itW (row9 (itW fun q ↦ row9 g ((0 : Nat) + q)))) n))) (row9 (wfun (tl (listW (itW (row9 (itW fun q ↦ row9 f ((0 : Nat) + q)))) m) (listW (itW (row9 (itW fun q ↦ row9 g ((0 : Nat) + q)))) n)))), sameW (List.length (tt (listW (itW (row9 (itW fun q ↦ row9 f ((0 : Nat) + q)))) m) (listW (itW (row9 (itW fun q ↦ row9 g ((0 : Nat) + q)))) n))) (itW fun q ↦ row9 (wfun (tt (listW (itW (row9 (itW fun q ↦ row9 f ((0 : Nat) + q)))) m) (listW (itW (row9 (itW fun q ↦ row9 g ((0 : Nat) + q)))) n))) ((0 : Nat) + q)) (itW (row9 (wfun (tl (listW (itW (row9 (itW fun q ↦ row9 f ((0 : Nat) + q)))) m) (listW (itW (row9 (itW fun q ↦ row9 g ((0 : Nat) + q)))) n))))), decide (List.length (tt (listW (itW (row9 (itW fun q ↦ row9 f ((0 : Nat) + q)))) m) (listW (itW (row9 (itW fun q ↦ row9 g ((0 : Nat) + q)))) n)) ≤ (1099511627776 : Nat))] (bif !true == ok (listW (itW (row9 (itW fun q ↦ row9 f ((0 : Nat) + q)))) m) (listW (itW (row9 (itW fun q ↦ row9 g ((0 : Nat) + q)))) n) then Res.out Ex.ret [AV.v (Value.bool false)] [AB.row false m (9 : Nat) (row9 f) t, AB.row false n (9 : Nat) (row9 g) t2] else needs [Nat.ble ((0 : Nat) + m) m, allW m fun q ↦ row9 f ((0 : Nat) + q), decide (m ≤ (549755813888 : Nat)), Nat.ble m m, Nat.ble m m, Nat.beq m m, allW m (row9 (itW fun q ↦ row9 f ((0 : Nat) + q))), allW m (row9 (itW fun q ↦ row9 f ((0 : Nat) + q))), sameW m (itW (row9 (itW fun q ↦ row9 f ((0 : Nat) + q)))) (itW (row9 (itW fun q ↦ row9 f ((0 : Nat) + q)))), decide (m ≤ (1099511627776 : Nat)), Nat.ble ((0 : Nat) + n) n, allW n fun q ↦ row9 g ((0 : Nat) + q), decide (n ≤ (549755813888 : Nat)), Nat.ble n n, Nat.ble n n, Nat.beq n n, allW n (row9 (itW fun q ↦ row9 g ((0 : Nat) + q))), allW n (row9 (itW fun q ↦ row9 g ((0 : Nat) + q))), sameW n (itW (row9 (itW fun q ↦ row9 g ((0 : Nat) + q)))) (itW (row9 (itW fun q ↦ row9 g ((0 : Nat) + q)))), decide (n ≤ (1099511627776 : Nat)), Nat.beq m m, allW m (row9 (itW fun q ↦ row9 f ((0 : Nat) + q))), decide (m ≤ (1099511627776 : Nat)), Nat.beq n n, allW n (row9 (itW fun q ↦ row9 g ((0 : Nat) + q))), decide ((1 : Int) + (9 : Int) * (↑m : Int) ≤ (1125899906842624 : Int)), decide (n ≤ (1099511627776 : Nat)), Nat.ble ((0 : Nat) + List.length (tt (listW (itW (row9 (itW fun q ↦ row9 f ((0 : Nat) + q)))) m) (listW (itW (row9 (itW fun q ↦ row9 g ((0 : Nat) + q)))) n))) (List.length (tt (listW (itW (row9 (itW fun q ↦ row9 f ((0 : Nat) + q)))) m) (listW (itW (row9 (itW fun q ↦ row9 g ((0 : Nat) + q)))) n))), Nat.ble (List.length (tl (listW (itW (row9 (itW fun q ↦ row9 f ((0 : Nat) + q)))) m) (listW (itW (row9 (itW fun q ↦ row9 g ((0 : Nat) + q)))) n))) (List.length (tl (listW (itW (row9 (itW fun q ↦ row9 f ((0 : Nat) + q)))) m) (listW (itW (row9 (itW fun q ↦ row9 g ((0 : Nat) + q)))) n))), Nat.beq (List.length (tl (listW (itW (row9 (itW fun q ↦ row9 f ((0 : Nat) + q)))) m) (listW (itW (row9 (itW fun q ↦ row9 g ((0 : Nat) + q)))) n))) (List.length (tt (listW (itW (row9 (itW fun q ↦ row9 f ((0 : Nat) + q)))) m) (listW (itW (row9 (itW fun q ↦ row9 g ((0 : Nat) + q)))) n))), allW (List.length (tt (listW (itW (row9 (itW fun q ↦ row9 f ((0 : Nat) + q)))) m) (listW (itW (row9 (itW fun q ↦ row9 g ((0 : Nat) + q)))) n))) fun q ↦ row9 (wfun (tt (listW (itW (row9 (itW fun q ↦ row9 f ((0 : Nat) + q)))) m) (listW (itW (row9 (itW fun q ↦ row9 g ((0 : Nat) + q)))) n))) ((0 : Nat) + q), allW (List.length (tt (listW (itW (row9 (itW fun q ↦ row9 f ((0 : Nat) + q)))) m) (listW (itW (row9 (itW fun q ↦ row9 g ((0 : Nat) + q)))) n))) (row9 (wfun (tl (listW (itW (row9 (itW fun q ↦ row9 f ((0 : Nat) + q)))) m) (listW (itW (row9 (itW fun q ↦ row9 g ((0 : Nat) + q)))) n)))), sameW (List.length (tt (listW (itW (row9 (itW fun q ↦ row9 f ((0 : Nat) + q)))) m) (listW (itW (row9 (itW fun q ↦ row9 g ((0 : Nat) + q)))) n))) (itW fun q ↦ row9 (wfun (tt (listW (itW (row9 (itW fun q ↦ row9 f ((0 : Nat) + q)))) m) (listW (itW (row9 (itW fun q ↦ row9 g ((0 : Nat) + q)))) n))) ((0 : Nat) + q)) (itW (row9 (wfun (tl (listW (itW (row9 (itW fun q ↦ row9 f ((0 : Nat) + q)))) m) (listW (itW (row9 (itW fun q ↦ row9 g ((0 : Nat) + q)))) n))))), decide (List.length (tt (listW (itW (row9 (itW fun q ↦ row9 f ((0 : Nat) + q)))) m) (listW (itW (row9 (itW fun q ↦ row9 g ((0 : Nat) + q)))) n)) ≤ (1099511627776 : Nat))] (bif !true == ok (listW (itW (row9 (itW fun q ↦ row9 f ((0 : Nat) + q)))) m) (listW (itW (row9 (itW fun q ↦ row9 g ((0 : Nat) + q)))) n) then Res.out Ex.ret [AV.v (Value.bool false)] [AB.row false m (9 : Nat) (row9 f) t, AB.row false n (9 : Nat) (row9 g) t2] else needs [Nat.beq (List.length (tt (listW (itW (row9 (itW fun q ↦ row9 f ((0 : Nat) + q)))) m) (listW (itW (row9 (itW fun q ↦ row9 g ((0 : Nat) + q)))) n))) (List.length (tt (listW (itW (row9 (itW fun q ↦ row9 f ((0 : Nat) + q)))) m) (listW (itW (row9 (itW fun q ↦ row9 g ((0 : Nat) + q)))) n))), Nat.beq (List.length (tt (listW (itW (row9 (itW fun q ↦ row9 f ((0 : Nat) + q)))) m) (listW (itW (row9 (itW fun q ↦ row9 g ((0 : Nat) + q)))) n))) (List.length (tt (listW (itW (row9 (itW fun q ↦ row9 f ((0 : Nat) + q)))) m) (listW (itW (row9 (itW fun q ↦ row9 g ((0 : Nat) + q)))) n))), allW (List.length (tt (listW (itW (row9 (itW fun q ↦ row9 f ((0 : Nat) + q)))) m) (listW (itW (row9 (itW fun q ↦ row9 g ((0 : Nat) + q)))) n))) (row9 (wfun (tt (listW (itW (row9 (itW fun q ↦ row9 f ((0 : Nat) + q)))) m) (listW (itW (row9 (itW fun q ↦ row9 g ((0 : Nat) + q)))) n)))), decide (List.length (tt (listW (itW (row9 (itW fun q ↦ row9 f ((0 : Nat) + q)))) m) (listW (itW (row9 (itW fun q ↦ row9 g ((0 : Nat) + q)))) n)) ≤ (1099511627776 : Nat)), Nat.ble ((0 : Nat) + List.length (tt (listW (itW (row9 (itW fun q ↦ row9 f ((0 : Nat) + q)))) m) (listW (itW (row9 (itW fun q ↦ row9 g ((0 : Nat) + q)))) n))) (List.length (tt (listW (itW (row9 (itW fun q ↦ row9 f ((0 : Nat) + q)))) m) (listW (itW (row9 (itW fun q ↦ row9 g ((0 : Nat) + q)))) n))), allW (List.length (tt (listW (itW (row9 (itW fun q ↦ row9 f ((0 : Nat) + q)))) m) (listW (itW (row9 (itW fun q ↦ row9 g ((0 : Nat) + q)))) n))) fun q ↦ row9 (markF (1 : Int)) ((0 : Nat) + q), sameW (List.length (tt (listW (itW (row9 (itW fun q ↦ row9 f ((0 : Nat) + q)))) m) (listW (itW (row9 (itW fun q ↦ row9 g ((0 : Nat) + q)))) n))) (itW fun q ↦ row9 (markF (1 : Int)) ((0 : Nat) + q)) (markF (1 : Int)), decide (List.length (tt (listW (itW (row9 (itW fun q ↦ row9 f ((0 : Nat) + q)))) m) (listW (itW (row9 (itW fun q ↦ row9 g ((0 : Nat) + q)))) n)) ≤ (1099511627776 : Nat))] (bif (1 : Int) + (9 : Int) * (↑(List.length (tt (listW (itW (row9 (itW fun q ↦ row9 f ((0 : Nat) + q)))) m) (listW (itW (row9 (itW fun q ↦ row9 g ((0 : Nat) + q)))) n))) : Int) != (1 : Int) + (9 : Int) * (↑(List.length (tt (listW (itW (row9 (itW fun q ↦ row9 f ((0 : Nat) + q)))) m) (listW (itW (row9 (itW fun q ↦ row9 g ((0 : Nat) + q)))) n))) : Int) then Res.out Ex.ret [AV.v (Value.bool false)] [AB.row false m (9 : Nat) (row9 f) t, AB.row false n (9 : Nat) (row9 g) t2] else needs [Nat.ble ((0 : Nat) + m) m, allW m fun q ↦ row9 f ((0 : Nat) + q), decide (m ≤ (549755813888 : Nat)), Nat.ble ((0 : Nat) + n) n, allW n fun q ↦ row9 g ((0 : Nat) + q), decide (n ≤ (549755813888 : Nat)), Nat.ble m m, Nat.ble n n, allW m (row9 (itW fun q ↦ row9 f ((0 : Nat) + q))), allW n (row9 (itW fun q ↦ row9 g ((0 : Nat) + q))), decide (m ≤ (274877906944 : Nat)), decide (n ≤ (274877906944 : Nat)), yes (listW (itW (row9 (itW fun q ↦ row9 f ((0 : Nat) + q)))) m) (listW (itW (row9 (itW fun q ↦ row9 g ((0 : Nat) + q)))) n), Nat.ble ((0 : Nat) + List.length (tt (listW (itW (row9 (itW fun q ↦ row9 f ((0 : Nat) + q)))) m) (listW (itW (row9 (itW fun q ↦ row9 g ((0 : Nat) + q)))) n))) (List.length (tt (listW (itW (row9 (itW fun q ↦ row9 f ((0 : Nat) + q)))) m) (listW (itW (row9 (itW fun q ↦ row9 g ((0 : Nat) + q)))) n))), Nat.ble (List.length (tl (listW (itW (row9 (itW fun q ↦ row9 f ((0 : Nat) + q)))) m) (listW (itW (row9 (itW fun q ↦ row9 g ((0 : Nat) + q)))) n))) (List.length (tl (listW (itW (row9 (itW fun q ↦ row9 f ((0 : Nat) + q)))) m) (listW (itW (row9 (itW fun q ↦ row9 g ((0 : Nat) + q)))) n))), Nat.beq (List.length (tl (listW (itW (row9 (itW fun q ↦ row9 f ((0 : Nat) + q)))) m) (listW (itW (row9 (itW fun q ↦ row9 g ((0 : Nat) + q)))) n))) (List.length (tt (listW (itW (row9 (itW fun q ↦ row9 f ((0 : Nat) + q)))) m) (listW (itW (row9 (itW fun q ↦ row9 g ((0 : Nat) + q)))) n))), allW (List.length (tt (listW (itW (row9 (itW fun q ↦ row9 f ((0 : Nat) + q)))) m) (listW (itW (row9 (itW fun q ↦ row9 g ((0 : Nat) + q)))) n))) fun q ↦ row9 (wfun (tt (listW (itW (row9 (itW fun q ↦ row9 f ((0 : Nat) + q)))) m) (listW (itW (row9 (itW fun q ↦ row9 g ((0 : Nat) + q)))) n))) ((0 : Nat) + q), allW (List.length (tt (listW (itW (row9 (itW fun q ↦ row9 f ((0 : Nat) + q)))) m) (listW (itW (row9 (itW fun q ↦ row9 g ((0 : Nat) + q)))) n))) (row9 (wfun (tl (listW (itW (row9 (itW fun q ↦ row9 f ((0 : Nat) + q)))) m) (listW (itW (row9 (itW fun q ↦ row9 g ((0 : Nat) + q)))) n)))), sameW (List.length (tt (listW (itW (row9 (itW fun q ↦ row9 f ((0 : Nat) + q)))) m) (listW (itW (row9 (itW fun q ↦ row9 g ((0 : Nat) + q)))) n))) (itW fun q ↦ row9 (wfun (tt (listW (itW (row9 (itW fun q ↦ row9 f ((0 : Nat) + q)))) m) (listW (itW (row9 (itW fun q ↦ row9 g ((0 : Nat) + q)))) n))) ((0 : Nat) + q)) (itW (row9 (wfun (tl (listW (itW (row9 (itW fun q ↦ row9 f ((0 : Nat) + q)))) m) (listW (itW (row9 (itW fun q ↦ row9 g ((0 : Nat) + q)))) n))))), decide (List.length (tt (listW (itW (row9 (itW fun q ↦ row9 f ((0 : Nat) + q)))) m) (listW (itW (row9 (itW fun q ↦ row9 g ((0 : Nat) + q)))) n)) ≤ (1099511627776 : Nat))] (bif !true == ok (listW (itW (row9 (itW fun q ↦ row9 f ((0 : Nat) + q)))) m) (listW (itW (row9 (itW fun q ↦ row9 g ((0 : Nat) + q)))) n) then Res.out Ex.ret [AV.v (Value.bool false)] [AB.row false m (9 : Nat) (row9 f) t, AB.row false n (9 : Nat) (row9 g) t2] else needs [Nat.ble ((0 : Nat) + List.length (tt (listW (itW (row9 (itW fun q ↦ row9 f ((0 : Nat) + q)))) m) (listW (itW (row9 (itW fun q ↦ row9 g ((0 : Nat) + q)))) n))) (List.length (tt (listW (itW (row9 (itW fun q ↦ row9 f ((0 : Nat) + q)))) m) (listW (itW (row9 (itW fun q ↦ row9 g ((0 : Nat) + q)))) n))), allW (List.length (tt (listW (itW (row9 (itW fun q ↦ row9 f ((0 : Nat) + q)))) m) (listW (itW (row9 (itW fun q ↦ row9 g ((0 : Nat) + q)))) n))) fun q ↦ row9 (markF (1 : Int)) ((0 : Nat) + q), sameW (List.length (tt (listW (itW (row9 (itW fun q ↦ row9 f ((0 : Nat) + q)))) m) (listW (itW (row9 (itW fun q ↦ row9 g ((0 : Nat) + q)))) n))) (itW fun q ↦ row9 (markF (1 : Int)) ((0 : Nat) + q)) (markF (1 : Int)), decide (List.length (tt (listW (itW (row9 (itW fun q ↦ row9 f ((0 : Nat) + q)))) m) (listW (itW (row9 (itW fun q ↦ row9 g ((0 : Nat) + q)))) n)) ≤ (1099511627776 : Nat))] (bif (1 : Int) + (9 : Int) * (↑(List.length (tt (listW (itW (row9 (itW fun q ↦ row9 f ((0 : Nat) + q)))) m) (listW (itW (row9 (itW fun q ↦ row9 g ((0 : Nat) + q)))) n))) : Int) != (1 : Int) + (9 : Int) * (↑(List.length (tt (listW (itW (row9 (itW fun q ↦ row9 f ((0 : Nat) + q)))) m) (listW (itW (row9 (itW fun q ↦ row9 g ((0 : Nat) + q)))) n))) : Int) then Res.out Ex.ret [AV.v (Value.bool false)] [AB.row false m (9 : Nat) (row9 f) t, AB.row false n (9 : Nat) (row9 g) t2] else Res.out Ex.ret [AV.v (Value.bool true)] [AB.row false m (9 : Nat) (row9 f) t, AB.row false n (9 : Nat) (row9 g) t2]))))) := by kernel_rfl

theorem lawNTm (ok yes : List Wh → List Wh → Bool) (tl : List Wh → List Wh → List Wh) (m : Nat) (f : Nat → Nat → Int) (t : TypeId) (n : Nat) (g : Nat → Nat → Int) (t2 : TypeId) : execF Try.prog (ext (gmTmH ok tl) 23 (specR md_eqWS (FtmN yes))) noLam 100 Try.f4 [.sl 0 9 0 0 m none, .sl 1 9 0 0 n none] [.row false m 9 (row9 f) t, .row false n 9 (row9 g) t2] (packK 2)
    = bif decide (IntKind.wrap IntKind.i64 ((1048576 : Int) - (↑m : Int)) < (0 : Int)) then Res.out Ex.ret [AV.v (Value.bool true)] [AB.row false m (9 : Nat) (row9 f) t, AB.row false n (9 : Nat) (row9 g) t2] else bif decide (IntKind.wrap IntKind.i64 ((1048576 : Int) - (↑m : Int)) < (0 : Int)) then Res.out Ex.ret [AV.v (Value.bool true)] [AB.row false m (9 : Nat) (row9 f) t, AB.row false n (9 : Nat) (row9 g) t2] else bif decide (IntKind.wrap IntKind.i64 (IntKind.wrap IntKind.i64 ((1048576 : Int) - (↑m : Int)) - (↑n : Int)) < (0 : Int)) then Res.out Ex.ret [AV.v (Value.bool true)] [AB.row false m (9 : Nat) (row9 f) t, AB.row false n (9 : Nat) (row9 g) t2] else bif decide (IntKind.wrap IntKind.i64 (IntKind.wrap IntKind.i64 ((1048576 : Int) - (↑m : Int)) - (↑n : Int)) < (0 : Int)) then Res.out Ex.ret [AV.v (Value.bool true)] [AB.row false m (9 : Nat) (row9 f) t, AB.row false n (9 : Nat) (row9 g) t2] else needs [Nat.ble ((0 : Nat) + m) m, allW m fun q ↦ row9 f ((0 : Nat) + q), decide (m ≤ (549755813888 : Nat)), Nat.ble ((0 : Nat) + n) n, allW n fun q ↦ row9 g ((0 : Nat) + q), decide (n ≤ (549755813888 : Nat)), Nat.ble m m, Nat.ble n n, allW m (row9 (itW fun q ↦ row9 f ((0 : Nat) + q))), allW n (row9 (itW fun q ↦ row9 g ((0 : Nat) + q))), decide (m ≤ (274877906944 : Nat)), decide (n ≤ (274877906944 : Nat)), Nat.ble ((0 : Nat) + m) m, allW m fun q ↦ row9 f ((0 : Nat) + q), decide (m ≤ (549755813888 : Nat)), Nat.ble ((0 : Nat) + n) n, allW n fun q ↦ row9 g ((0 : Nat) + q), decide (n ≤ (549755813888 : Nat)), Nat.ble m m, Nat.ble n n, allW m (row9 (itW fun q ↦ row9 f ((0 : Nat) + q))), allW n (row9 (itW fun q ↦ row9 g ((0 : Nat) + q))), decide (m ≤ (274877906944 : Nat)), decide (n ≤ (274877906944 : Nat)), !yes (listW (itW (row9 (itW fun q ↦ row9 f ((0 : Nat) + q)))) m) (listW (itW (row9 (itW fun q ↦ row9 g ((0 : Nat) + q)))) n), Nat.ble (List.length (tl (listW (itW (row9 (itW fun q ↦ row9 f ((0 : Nat) + q)))) m) (listW (itW (row9 (itW fun q ↦ row9 g ((0 : Nat) + q)))) n))) (List.length (tl (listW (itW (row9 (itW fun q ↦ row9 f ((0 : Nat) + q)))) m) (listW (itW (row9 (itW fun q ↦ row9 g ((0 : Nat) + q)))) n))), Nat.beq (List.length (tl (listW (itW (row9 (itW fun q ↦ row9 f ((0 : Nat) + q)))) m) (listW (itW (row9 (itW fun q ↦ row9 g ((0 : Nat) + q)))) n))) (0 : Nat), sameW (0 : Nat) (itW fun x ↦ []) (itW (row9 (wfun (tl (listW (itW (row9 (itW fun q ↦ row9 f ((0 : Nat) + q)))) m) (listW (itW (row9 (itW fun q ↦ row9 g ((0 : Nat) + q)))) n)))))] (bif !false == ok (listW (itW (row9 (itW fun q ↦ row9 f ((0 : Nat) + q)))) m) (listW (itW (row9 (itW fun q ↦ row9 g ((0 : Nat) + q)))) n) then Res.out Ex.ret [AV.v (Value.bool false)] [AB.row false m (9 : Nat) (row9 f) t, AB.row false n (9 : Nat) (row9 g) t2] else needs [Nat.ble ((0 : Nat) + m) m, allW m fun q ↦ row9 f ((0 : Nat) + q), decide (m ≤ (549755813888 : Nat)), Nat.ble m m, Nat.ble m m, Nat.beq m m, allW m (row9 (itW fun q ↦ row9 f ((0 : Nat) + q))), allW m (row9 (itW fun q ↦ row9 f ((0 : Nat) + q))), sameW m (itW (row9 (itW fun q ↦ row9 f ((0 : Nat) + q)))) (itW (row9 (itW fun q ↦ row9 f ((0 : Nat) + q)))), decide (m ≤ (1099511627776 : Nat)), Nat.ble ((0 : Nat) + n) n, allW n fun q ↦ row9 g ((0 : Nat) + q), decide (n ≤ (549755813888 : Nat)), Nat.ble n n, Nat.ble n n, Nat.beq n n, allW n (row9 (itW fun q ↦ row9 g ((0 : Nat) + q))), allW n (row9 (itW fun q ↦ row9 g ((0 : Nat) + q))), sameW n (itW (row9 (itW fun q ↦ row9 g ((0 : Nat) + q)))) (itW (row9 (itW fun q ↦ row9 g ((0 : Nat) + q)))), decide (n ≤ (1099511627776 : Nat)), Nat.beq m m, allW m (row9 (itW fun q ↦ row9 f ((0 : Nat) + q))), decide (m ≤ (1099511627776 : Nat)), Nat.beq n n, allW n (row9 (itW fun q ↦ row9 g ((0 : Nat) + q))), decide ((1 : Int) + (9 : Int) * (↑m : Int) ≤ (1125899906842624 : Int)), decide (n ≤ (1099511627776 : Nat)), Nat.ble (List.length (tl (listW (itW (row9 (itW fun q ↦ row9 f ((0 : Nat) + q)))) m) (listW (itW (row9 (itW fun q ↦ row9 g ((0 : Nat) + q)))) n))) (List.length (tl (listW (itW (row9 (itW fun q ↦ row9 f ((0 : Nat) + q)))) m) (listW (itW (row9 (itW fun q ↦ row9 g ((0 : Nat) + q)))) n))), Nat.beq (List.length (tl (listW (itW (row9 (itW fun q ↦ row9 f ((0 : Nat) + q)))) m) (listW (itW (row9 (itW fun q ↦ row9 g ((0 : Nat) + q)))) n))) (0 : Nat), sameW (0 : Nat) (itW fun x ↦ []) (itW (row9 (wfun (tl (listW (itW (row9 (itW fun q ↦ row9 f ((0 : Nat) + q)))) m) (listW (itW (row9 (itW fun q ↦ row9 g ((0 : Nat) + q)))) n)))))] (bif !false == ok (listW (itW (row9 (itW fun q ↦ row9 f ((0 : Nat) + q)))) m) (listW (itW (row9 (itW fun q ↦ row9 g ((0 : Nat) + q)))) n) then Res.out Ex.ret [AV.v (Value.bool false)] [AB.row false m (9 : Nat) (row9 f) t, AB.row false n (9 : Nat) (row9 g) t2] else needs [sameW (0 : Nat) (itW fun x ↦ []) (markF (1 : Int)), Nat.ble ((0 : Nat) + m) m, allW m fun q ↦ row9 f ((0 : Nat) + q), decide (m ≤ (549755813888 : Nat)), Nat.ble ((0 : Nat) + n) n, allW n fun q ↦ row9 g ((0 : Nat) + q), decide (n ≤ (549755813888 : Nat)), Nat.ble m m, Nat.ble n n, allW m (row9 (itW fun q ↦ row9 f ((0 : Nat) + q))), allW n (row9 (itW fun q ↦ row9 g ((0 : Nat) + q))), decide (m ≤ (274877906944 : Nat)), decide (n ≤ (274877906944 : Nat)), !yes (listW (itW (row9 (itW fun q ↦ row9 f ((0 : Nat) + q)))) m) (listW (itW (row9 (itW fun q ↦ row9 g ((0 : Nat) + q)))) n), Nat.ble (List.length (tl (listW (itW (row9 (itW fun q ↦ row9 f ((0 : Nat) + q)))) m) (listW (itW (row9 (itW fun q ↦ row9 g ((0 : Nat) + q)))) n))) (List.length (tl (listW (itW (row9 (itW fun q ↦ row9 f ((0 : Nat) + q)))) m) (listW (itW (row9 (itW fun q ↦ row9 g ((0 : Nat) + q)))) n))), Nat.beq (List.length (tl (listW (itW (row9 (itW fun q ↦ row9 f ((0 : Nat) + q)))) m) (listW (itW (row9 (itW fun q ↦ row9 g ((0 : Nat) + q)))) n))) (0 : Nat), sameW (0 : Nat) (itW fun x ↦ []) (itW (row9 (wfun (tl (listW (itW (row9 (itW fun q ↦ row9 f ((0 : Nat) + q)))) m) (listW (itW (row9 (itW fun q ↦ row9 g ((0 : Nat) + q)))) n)))))] (bif !false == ok (listW (itW (row9 (itW fun q ↦ row9 f ((0 : Nat) + q)))) m) (listW (itW (row9 (itW fun q ↦ row9 g ((0 : Nat) + q)))) n) then Res.out Ex.ret [AV.v (Value.bool false)] [AB.row false m (9 : Nat) (row9 f) t, AB.row false n (9 : Nat) (row9 g) t2] else needs [sameW (0 : Nat) (itW fun x ↦ []) (markF (1 : Int))] (Res.out Ex.ret [AV.v (Value.bool true)] [AB.row false m (9 : Nat) (row9 f) t, AB.row false n (9 : Nat) (row9 g) t2])))) := by kernel_rfl

theorem yes_times (m : Nat) (f : Nat → Nat → Int) (t : TypeId) (n : Nat) (g : Nat → Nat → Int) (t2 : TypeId) (hm : m ≤ 9223372036854775807) (hn : n ≤ 9223372036854775807) : ∃ Γ, GamOk Try.prog Γ ∧ GoodQ (execF Try.prog Γ noLam 100 Try.f4 [.sl 0 9 0 0 m none, .sl 1 9 0 0 n none] [.row false m 9 (row9 f) t, .row false n 9 (row9 g) t2] (packK 2)) SaysYes := by
  have e1 : IntKind.wrap IntKind.i64 ((1048576 : Int) - (m : Int)) = 1048576 - m := wr_in (by omega)
  have gS : GamOk Try.prog (gmTmH yesTm tmL) := ext_ok gmH_ok ok_tmS
  have gY : GamOk Try.prog (ext (gmTmH yesTm tmL) 23 (specR md_eqWS (FtmY yesTm tmT))) := ext_ok gS ok_tmY
  have gN : GamOk Try.prog (ext (gmTmH yesTm tmL) 23 (specR md_eqWS (FtmN yesTm))) := ext_ok gS ok_tmN
  by_cases hb : m ≤ 1048576
  · have c1 : decide ((1048576 : Int) - m < 0) = false := decide_eq_false (by omega)
    have e2 : IntKind.wrap IntKind.i64 ((1048576 : Int) - (m : Int) - (n : Int)) = 1048576 - m - n := wr_in (by omega)
    by_cases hb2 : m + n ≤ 1048576
    · have c2 : decide ((1048576 : Int) - m - n < 0) = false := decide_eq_false (by omega)
      have b40 : decide (m ≤ 1099511627776) = true := decide_eq_true (by omega)
      have b39 : decide (m ≤ 549755813888) = true := decide_eq_true (by omega)
      have b38 : decide (m ≤ 274877906944) = true := decide_eq_true (by omega)
      have a40 : decide (n ≤ 1099511627776) = true := decide_eq_true (by omega)
      have a39 : decide (n ≤ 549755813888) = true := decide_eq_true (by omega)
      have a38 : decide (n ≤ 274877906944) = true := decide_eq_true (by omega)
      have k0 : decide ((1 : Int) + 9 * (m : Int) ≤ 1125899906842624) = true := decide_eq_true (by omega)
      have k1 : decide ((0 : Int) ≤ 1 + 9 * (m : Int)) = true := decide_eq_true (by omega)
      have k2 : decide ((1 : Int) + 9 * (m : Int) + 9 * (n : Int) < 0) = false := decide_eq_false (by omega)
      cases hv : yesTm (listW f m) (listW g n) with
      | true =>
        refine ⟨_, gY, ?_⟩
        rw [lawYTm]
        have hv2 := hv
        rw [yesTm, Bool.and_eq_true] at hv2
        have hE : tmL (listW f m) (listW g n) = tmT (listW f m) (listW g n) := by rw [tmL, hv2.1]; rfl
        have hl : (tmT (listW f m) (listW g n)).length ≤ 12 := tidyL_len hv2.2
        generalize hT : tmT (listW f m) (listW g n) = T at hE hl
        have bT : decide (T.length ≤ 1099511627776) = true := decide_eq_true (by omega)
        have cT : decide ((1 : Int) + 9 * (T.length : Int) < 0) = false := decide_eq_false (by omega)
        simp only [row0, row9_itW, listW_itW, hv, hE, hT, e1, e2, c1, c2, cT, bT, b40, b39, b38, a40, a39, a38, k0, k1, k2, allW_row, sameW_self, sameW_row, ble_me, beq_me, needs_t, needs_nil, cond_true, cond_false, Nat.zero_add, bne_self_eq_false, beq_self_eq_true, Bool.not_true]
        exact good_out rfl
      | false =>
        refine ⟨_, gN, ?_⟩
        rw [lawNTm]
        have hE : tmL (listW f m) (listW g n) = [] := by
          rw [tmL]
          cases hp : tmP (listW f m) (listW g n) with
          | false => rfl
          | true =>
            rw [yesTm, hp, Bool.true_and] at hv
            exact tidyL_no hv
        simp only [row0, row9_itW, listW_itW, hv, hE, e1, e2, c1, c2, b40, b39, b38, a40, a39, a38, k0, k1, k2, allW_row, sameW_self, sameW_zero, List.length_nil, ble_me, beq_me, needs_t, needs_nil, cond_true, cond_false, Nat.zero_add, bne_self_eq_false, beq_self_eq_true, Bool.not_false, Bool.not_true]
        exact good_out rfl
    · refine ⟨_, gN, ?_⟩
      rw [lawNTm, e1, e2, c1, show decide ((1048576 : Int) - m - n < 0) = true from decide_eq_true (by omega)]
      exact good_out rfl
  · refine ⟨_, gN, ?_⟩
    rw [lawNTm, e1, show decide ((1048576 : Int) - m < 0) = true from decide_eq_true (by omega)]
    exact good_out rfl

end Go.Proofs.Ytnlfdcjpeoafhaa

/- DesignAt, the reference's: its word. Conditions: a list of wheels. -/
namespace Go.Proofs.Ytnlfdcjpeoafhaa
open Go.RowKit
set_option maxRecDepth 100000

theorem gmDA_ok : GamOk Try.prog (gmDA atF doneC (fun v => cyOk (cyOf v))) := by
  unfold gmDA
  rw [FdoO_eq]
  exact ext_ok (ext_ok (ext_ok (ext_ok g0_ok ok_dv) ok_l1Is) ok_l5At) ok_l2Done
theorem zero_row9 (f : Nat → Nat → Int) : (fun q => row9 f (0 + q)) = row9 f := by
  funext q
  rw [Nat.zero_add]
def daOk (f : Nat → Nat → Int) (n : Int) (m : Nat) : Bool := okD (listW f m) && inR n 0 23 && cyOk (cyOf (atF f n m))
def daV (f : Nat → Nat → Int) (n : Int) (m : Nat) : Nat → Int := bif daOk f n m then atF f n m else fun _ => 0
def F_DA : List SA → Option FR
  | [.row m g, .v (.int .i64 n)] => some { val := .tup [.agg (cyC (daV (itW g) n m)), .v (.bool (daOk (itW g) n m))], obl := [allW m g, decide (m ≤ 2 ^ 38)] }
  | _ => none
theorem ok_DA : SpecOk Try.prog 49 (specR md_wv F_DA) := by
  refine specR_hr gmDA_ok Try.func49 rfl fun sas fr hF ho => ?_
  unfold F_DA at hF
  split at hF
  · rename_i m g n
    cases hF
    simp only [ob_cons] at ho
    obtain ⟨h1, h2, _⟩ := ho
    have hm := of_decide_eq_true h2
    refine ⟨[.row false m 9 (row9 (itW g)) 67], noLam, 100, .cons (ABeq.row fun j hj => allW_get h1 j hj) .nil, noLam' _, ?_⟩
    show GoodQ (execF Try.prog (gmDA atF doneC (fun v => cyOk (cyOf v))) noLam 100 Try.f49 [.sl 0 9 0 0 m none, .v (i64 n)] [.row false m 9 (row9 (itW g)) 67] (packK 1)) _
    rw [treeDA, zero_row9, listW_itW, atF_row]
    have fin : ∀ (c : Bool) (b : Nat → Int), daOk (itW g) n m = c → cyC b = cyC (bif c then atF (itW g) n m else fun _ => 0) → GoodQ (.out .ret [.tup [.agg (cyC b), .v (.bool c)]] [.row false m 9 (row9 (itW g)) 67])
        (GivR (abP md_wv [.row m g, .v (.int .i64 n)] []) { val := .tup [.agg (cyC (daV (itW g) n m)), .v (.bool (daOk (itW g) n m))], obl := [allW m g, decide (m ≤ 2 ^ 38)] }) := by
      rintro c b rfl hb
      refine good_out ⟨_, rfl, ?_, .cons (ABeq.row fun j hj => (allW_get h1 j hj).symm) .nil⟩
      rw [hb]
      rfl
    have ob : ∀ k : Nat, m ≤ k → obls [Nat.ble (0 + m) m, allW m (row9 (itW g)), decide (m ≤ k)] = true := fun k hk => by
      simp only [ob_cons, ob_nil, and_true, decide_eq_true_eq, Nat.ble_eq, allW_row, true_and, Nat.zero_add, Nat.le_refl]
      exact hk
    refine good_needs (ob _ (by omega)) (good_cond (fun q => ?_) fun q => ?_)
    · have q : okD (listW (itW g) m) = false := by simpa using q
      exact fin false (fun _ => 0) (by unfold daOk; rw [q]; rfl) rfl
    · have q : okD (listW (itW g) m) = true := by simpa using q
      refine good_cond (fun q2 => ?_) fun q2 => ?_
      · have q2 : inR n 0 23 = false := by simpa using q2
        exact fin false (fun _ => 0) (by unfold daOk; rw [q, q2]; rfl) rfl
      · have q2 : inR n 0 23 = true := by simpa using q2
        refine good_needs (ob _ (by omega)) ?_
        refine fin (cyOk (cyOf (atF (itW g) n m))) (doneC (w8 (atF (itW g) n m))) (by unfold daOk; rw [q, q2]; rfl) ?_
        have e : cyOf (w8 (atF (itW g) n m)) = cyOf (atF (itW g) n m) := rfl
        unfold doneC
        rw [e]
        cases cyOk (cyOf (atF (itW g) n m)) <;> rfl
  · cases hF

end Go.Proofs.Ytnlfdcjpeoafhaa

/- impl.at, and the program's DesignAt: the reference's word. Conditions: a list of wheels. -/
namespace Go.Proofs.Ytnlfdcjpeoafhaa
open Go.RowKit
set_option maxRecDepth 100000

def gmAI (tu : (Nat → Int) → Int → Nat → Int) (ad : (Nat → Int) → (Nat → Int) → Nat → Int) : Gam := ext (ext g0 69 (specR [.val, .val] (FtuI tu))) 113 (specV (fAdd2 ad))
abbrev lvAI : Ex → List Nat := lv3 [1, 4, 5, 8, 9, 10] [4, 5] [4]
abbrev stAI (m : Nat) (n : Int) (i : Nat) : List AV := [.v (i64 n), .ptr 1 0 0 0, .ptr 2 0 0 0, .sl 0 9 0 0 m none, .v (i64 m), .v (i64 i)]
theorem rndAI (tu : (Nat → Int) → Int → Nat → Int) (ad : (Nat → Int) → (Nat → Int) → Nat → Int) (m : Nat) (f : Nat → Nat → Int) (t : TypeId) (n : Int) (a : Nat → Int) (i : Nat) : execC Try.prog (gmAI tu ad) 100 noLam (loopAt 0 Try.f91) (mkT 0 25 ((lvAI .normal).zip (stAI m n i))) (hpAt m f t a) (leafV 25 lvAI 1)
    = bif decide ((↑i : Int) < (↑m : Int)) then needs [decide ((↑i : Int) < (↑m : Int)), decide ((0 : Nat) + Int.toNat (↑i : Int) < m), inB (v8 (f ((0 : Nat) + Int.toNat (↑i : Int)) (1 : Nat)) (f ((0 : Nat) + Int.toNat (↑i : Int)) (2 : Nat)) (f ((0 : Nat) + Int.toNat (↑i : Int)) (3 : Nat)) (f ((0 : Nat) + Int.toNat (↑i : Int)) (4 : Nat)) (f ((0 : Nat) + Int.toNat (↑i : Int)) (5 : Nat)) (f ((0 : Nat) + Int.toNat (↑i : Int)) (6 : Nat)) (f ((0 : Nat) + Int.toNat (↑i : Int)) (7 : Nat)) (f ((0 : Nat) + Int.toNat (↑i : Int)) (8 : Nat))), inR (IntKind.wrap IntKind.i64 (n * f ((0 : Nat) + Int.toNat (↑i : Int)) (0 : Nat))) (-9223372036854775808 : Int) (9223372036854775807 : Int)] (Res.out Ex.normal [AV.v (Value.int IntKind.i64 n), AV.ptr (1 : Nat) (0 : Nat) (0 : Nat) (0 : Nat), AV.ptr (2 : Nat) (0 : Nat) (0 : Nat) (0 : Nat), AV.sl (0 : Nat) (9 : Nat) (0 : Nat) (0 : Nat) m none, AV.v (Value.int IntKind.i64 (↑m : Int)), AV.v (Value.int IntKind.i64 (IntKind.wrap IntKind.i64 ((↑i : Int) + (1 : Int))))] [AB.row false m (9 : Nat) (row9 f) t, AB.cells [AV.v (Value.int IntKind.i64 (0 : Int)), AV.v (Value.int IntKind.i64 (0 : Int)), AV.v (Value.int IntKind.i64 (0 : Int)), AV.v (Value.int IntKind.i64 (0 : Int)), AV.v (Value.int IntKind.i64 (0 : Int)), AV.v (Value.int IntKind.i64 (0 : Int)), AV.v (Value.int IntKind.i64 (0 : Int)), AV.v (Value.int IntKind.i64 (0 : Int))] (60 : TypeId), AB.cells [AV.v (Value.int IntKind.i64 (ad (w8 a) (w8 (tu (v8 (f ((0 : Nat) + Int.toNat (↑i : Int)) (1 : Nat)) (f ((0 : Nat) + Int.toNat (↑i : Int)) (2 : Nat)) (f ((0 : Nat) + Int.toNat (↑i : Int)) (3 : Nat)) (f ((0 : Nat) + Int.toNat (↑i : Int)) (4 : Nat)) (f ((0 : Nat) + Int.toNat (↑i : Int)) (5 : Nat)) (f ((0 : Nat) + Int.toNat (↑i : Int)) (6 : Nat)) (f ((0 : Nat) + Int.toNat (↑i : Int)) (7 : Nat)) (f ((0 : Nat) + Int.toNat (↑i : Int)) (8 : Nat))) (IntKind.wrap IntKind.i64 (n * f ((0 : Nat) + Int.toNat (↑i : Int)) (0 : Nat))))) (0 : Nat))), AV.v (Value.int IntKind.i64 (ad (w8 a) (w8 (tu (v8 (f ((0 : Nat) + Int.toNat (↑i : Int)) (1 : Nat)) (f ((0 : Nat) + Int.toNat (↑i : Int)) (2 : Nat)) (f ((0 : Nat) + Int.toNat (↑i : Int)) (3 : Nat)) (f ((0 : Nat) + Int.toNat (↑i : Int)) (4 : Nat)) (f ((0 : Nat) + Int.toNat (↑i : Int)) (5 : Nat)) (f ((0 : Nat) + Int.toNat (↑i : Int)) (6 : Nat)) (f ((0 : Nat) + Int.toNat (↑i : Int)) (7 : Nat)) (f ((0 : Nat) + Int.toNat (↑i : Int)) (8 : Nat))) (IntKind.wrap IntKind.i64 (n * f ((0 : Nat) + Int.toNat (↑i : Int)) (0 : Nat))))) (1 : Nat))), AV.v (Value.int IntKind.i64 (ad (w8 a) (w8 (tu (v8 (f ((0 : Nat) + Int.toNat (↑i : Int)) (1 : Nat)) (f ((0 : Nat) + Int.toNat (↑i : Int)) (2 : Nat)) (f ((0 : Nat) + Int.toNat (↑i : Int)) (3 : Nat)) (f ((0 : Nat) + Int.toNat (↑i : Int)) (4 : Nat)) (f ((0 : Nat) + Int.toNat (↑i : Int)) (5 : Nat)) (f ((0 : Nat) + Int.toNat (↑i : Int)) (6 : Nat)) (f ((0 : Nat) + Int.toNat (↑i : Int)) (7 : Nat)) (f ((0 : Nat) + Int.toNat (↑i : Int)) (8 : Nat))) (IntKind.wrap IntKind.i64 (n * f ((0 : Nat) + Int.toNat (↑i : Int)) (0 : Nat))))) (2 : Nat))), AV.v (Value.int IntKind.i64 (ad (w8 a) (w8 (tu (v8 (f ((0 : Nat) + Int.toNat (↑i : Int)) (1 : Nat)) (f ((0 : Nat) + Int.toNat (↑i : Int)) (2 : Nat)) (f ((0 : Nat) + Int.toNat (↑i : Int)) (3 : Nat)) (f ((0 : Nat) + Int.toNat (↑i : Int)) (4 : Nat)) (f ((0 : Nat) + Int.toNat (↑i : Int)) (5 : Nat)) (f ((0 : Nat) + Int.toNat (↑i : Int)) (6 : Nat)) (f ((0 : Nat) + Int.toNat (↑i : Int)) (7 : Nat)) (f ((0 : Nat) + Int.toNat (↑i : Int)) (8 : Nat))) (IntKind.wrap IntKind.i64 (n * f ((0 : Nat) + Int.toNat (↑i : Int)) (0 : Nat))))) (3 : Nat))), AV.v (Value.int IntKind.i64 (ad (w8 a) (w8 (tu (v8 (f ((0 : Nat) + Int.toNat (↑i : Int)) (1 : Nat)) (f ((0 : Nat) + Int.toNat (↑i : Int)) (2 : Nat)) (f ((0 : Nat) + Int.toNat (↑i : Int)) (3 : Nat)) (f ((0 : Nat) + Int.toNat (↑i : Int)) (4 : Nat)) (f ((0 : Nat) + Int.toNat (↑i : Int)) (5 : Nat)) (f ((0 : Nat) + Int.toNat (↑i : Int)) (6 : Nat)) (f ((0 : Nat) + Int.toNat (↑i : Int)) (7 : Nat)) (f ((0 : Nat) + Int.toNat (↑i : Int)) (8 : Nat))) (IntKind.wrap IntKind.i64 (n * f ((0 : Nat) + Int.toNat (↑i : Int)) (0 : Nat))))) (4 : Nat))), AV.v (Value.int IntKind.i64 (ad (w8 a) (w8 (tu (v8 (f ((0 : Nat) + Int.toNat (↑i : Int)) (1 : Nat)) (f ((0 : Nat) + Int.toNat (↑i : Int)) (2 : Nat)) (f ((0 : Nat) + Int.toNat (↑i : Int)) (3 : Nat)) (f ((0 : Nat) + Int.toNat (↑i : Int)) (4 : Nat)) (f ((0 : Nat) + Int.toNat (↑i : Int)) (5 : Nat)) (f ((0 : Nat) + Int.toNat (↑i : Int)) (6 : Nat)) (f ((0 : Nat) + Int.toNat (↑i : Int)) (7 : Nat)) (f ((0 : Nat) + Int.toNat (↑i : Int)) (8 : Nat))) (IntKind.wrap IntKind.i64 (n * f ((0 : Nat) + Int.toNat (↑i : Int)) (0 : Nat))))) (5 : Nat))), AV.v (Value.int IntKind.i64 (ad (w8 a) (w8 (tu (v8 (f ((0 : Nat) + Int.toNat (↑i : Int)) (1 : Nat)) (f ((0 : Nat) + Int.toNat (↑i : Int)) (2 : Nat)) (f ((0 : Nat) + Int.toNat (↑i : Int)) (3 : Nat)) (f ((0 : Nat) + Int.toNat (↑i : Int)) (4 : Nat)) (f ((0 : Nat) + Int.toNat (↑i : Int)) (5 : Nat)) (f ((0 : Nat) + Int.toNat (↑i : Int)) (6 : Nat)) (f ((0 : Nat) + Int.toNat (↑i : Int)) (7 : Nat)) (f ((0 : Nat) + Int.toNat (↑i : Int)) (8 : Nat))) (IntKind.wrap IntKind.i64 (n * f ((0 : Nat) + Int.toNat (↑i : Int)) (0 : Nat))))) (6 : Nat))), AV.v (Value.int IntKind.i64 (ad (w8 a) (w8 (tu (v8 (f ((0 : Nat) + Int.toNat (↑i : Int)) (1 : Nat)) (f ((0 : Nat) + Int.toNat (↑i : Int)) (2 : Nat)) (f ((0 : Nat) + Int.toNat (↑i : Int)) (3 : Nat)) (f ((0 : Nat) + Int.toNat (↑i : Int)) (4 : Nat)) (f ((0 : Nat) + Int.toNat (↑i : Int)) (5 : Nat)) (f ((0 : Nat) + Int.toNat (↑i : Int)) (6 : Nat)) (f ((0 : Nat) + Int.toNat (↑i : Int)) (7 : Nat)) (f ((0 : Nat) + Int.toNat (↑i : Int)) (8 : Nat))) (IntKind.wrap IntKind.i64 (n * f ((0 : Nat) + Int.toNat (↑i : Int)) (0 : Nat))))) (7 : Nat)))] (60 : TypeId)]) else Res.out (Ex.exit (0 : Nat)) [AV.ptr (1 : Nat) (0 : Nat) (0 : Nat) (0 : Nat), AV.ptr (2 : Nat) (0 : Nat) (0 : Nat) (0 : Nat)] [AB.row false m (9 : Nat) (row9 f) t, AB.cells [AV.v (Value.int IntKind.i64 (0 : Int)), AV.v (Value.int IntKind.i64 (0 : Int)), AV.v (Value.int IntKind.i64 (0 : Int)), AV.v (Value.int IntKind.i64 (0 : Int)), AV.v (Value.int IntKind.i64 (0 : Int)), AV.v (Value.int IntKind.i64 (0 : Int)), AV.v (Value.int IntKind.i64 (0 : Int)), AV.v (Value.int IntKind.i64 (0 : Int))] (60 : TypeId), AB.cells [AV.v (Value.int IntKind.i64 (a (0 : Nat))), AV.v (Value.int IntKind.i64 (a (1 : Nat))), AV.v (Value.int IntKind.i64 (a (2 : Nat))), AV.v (Value.int IntKind.i64 (a (3 : Nat))), AV.v (Value.int IntKind.i64 (a (4 : Nat))), AV.v (Value.int IntKind.i64 (a (5 : Nat))), AV.v (Value.int IntKind.i64 (a (6 : Nat))), AV.v (Value.int IntKind.i64 (a (7 : Nat)))] (60 : TypeId)] := by kernel_rfl

noncomputable abbrev lamAI (m : Nat) (f : Nat → Nat → Int) (t : TypeId) (n : Int) (b : Nat → Int) : Nat → Option Sum := oneL 0 (atS 25 (lvAI .normal) 1 (stAI m n 0) (hpAt m f t fun _ => 0) (fun K => K .normal (mkT 0 25 [(4, .ptr 1 0 0 0), (5, .ptr 2 0 0 0)]) (hpAt m f t b)))
theorem treeAI (m : Nat) (f : Nat → Nat → Int) (t : TypeId) (n : Int) (b : Nat → Int) : execF Try.prog g0 (lamAI m f t n b) 100 Try.f91 [.sl 0 9 0 0 m none, .v (i64 n)] [.row false m 9 (row9 f) t] (packK 1)
    = needs [chk ([AV.v (Value.int IntKind.i64 n), AV.ptr (1 : Nat) (0 : Nat) (0 : Nat) (0 : Nat), AV.ptr (2 : Nat) (0 : Nat) (0 : Nat) (0 : Nat), AV.sl (0 : Nat) (9 : Nat) (0 : Nat) (0 : Nat) m none, AV.v (Value.int IntKind.i64 (↑m : Int)), AV.v (Value.int IntKind.i64 (0 : Int))] = stAI m n (0 : Nat) ∧ Hsim [AB.row false m (9 : Nat) (row9 f) t, AB.cells [AV.v (Value.int IntKind.i64 (0 : Int)), AV.v (Value.int IntKind.i64 (0 : Int)), AV.v (Value.int IntKind.i64 (0 : Int)), AV.v (Value.int IntKind.i64 (0 : Int)), AV.v (Value.int IntKind.i64 (0 : Int)), AV.v (Value.int IntKind.i64 (0 : Int)), AV.v (Value.int IntKind.i64 (0 : Int)), AV.v (Value.int IntKind.i64 (0 : Int))] (60 : Nat), AB.cells [AV.v (Value.int IntKind.i64 (0 : Int)), AV.v (Value.int IntKind.i64 (0 : Int)), AV.v (Value.int IntKind.i64 (0 : Int)), AV.v (Value.int IntKind.i64 (0 : Int)), AV.v (Value.int IntKind.i64 (0 : Int)), AV.v (Value.int IntKind.i64 (0 : Int)), AV.v (Value.int IntKind.i64 (0 : Int)), AV.v (Value.int IntKind.i64 (0 : Int))] (60 : Nat)] (hpAt m f t fun x ↦ (0 : Int)))] (Res.out Ex.ret [AV.agg [AV.v (Value.int IntKind.i64 (b (0 : Nat))), AV.v (Value.int IntKind.i64 (b (1 : Nat))), AV.v (Value.int IntKind.i64 (b (2 : Nat))), AV.v (Value.int IntKind.i64 (b (3 : Nat))), AV.v (Value.int IntKind.i64 (b (4 : Nat))), AV.v (Value.int IntKind.i64 (b (5 : Nat))), AV.v (Value.int IntKind.i64 (b (6 : Nat))), AV.v (Value.int IntKind.i64 (b (7 : Nat)))]] [AB.row false m (9 : Nat) (row9 f) t]) := by kernel_rfl

def FatI (at_ : (Nat → Nat → Int) → Int → Nat → Nat → Int) (okd : List Wh → Bool) : List SA → Option FR
  | [.row m g, .v (.int .i64 n)] => some { val := .agg (cyC (at_ (itW g) n m)), obl := [allW m g, decide (m ≤ 2 ^ 38), okd (listW (itW g) m)] }
  | _ => none
def gmDI (at_ : (Nat → Nat → Int) → Int → Nat → Nat → Int) (okd : List Wh → Bool) (ok : (Nat → Int) → Bool) : Gam := ext (ext (ext gm_within 91 (specR md_wv (FatI at_ okd))) 64 (specR md_ws (FdvO okd))) 96 (specV (fOkc ok))
theorem treeDI (at_ : (Nat → Nat → Int) → Int → Nat → Nat → Int) (okd : List Wh → Bool) (ok : (Nat → Int) → Bool) (m : Nat) (f : Nat → Nat → Int) (t : TypeId) (n : Int) : execF Try.prog (gmDI at_ okd ok) noLam 100 Try.f48 [.sl 0 9 0 0 m none, .v (i64 n)] [.row false m 9 (row9 f) t] (packK 1)
    = needs [Nat.ble ((0 : Nat) + m) m, allW m fun q ↦ row9 f ((0 : Nat) + q), decide (m ≤ (549755813888 : Nat))] (bif !okd (listW (itW fun q ↦ row9 f ((0 : Nat) + q)) m) then Res.out Ex.ret [AV.tup [AV.agg [AV.v (Value.int IntKind.i64 (0 : Int)), AV.v (Value.int IntKind.i64 (0 : Int)), AV.v (Value.int IntKind.i64 (0 : Int)), AV.v (Value.int IntKind.i64 (0 : Int)), AV.v (Value.int IntKind.i64 (0 : Int)), AV.v (Value.int IntKind.i64 (0 : Int)), AV.v (Value.int IntKind.i64 (0 : Int)), AV.v (Value.int IntKind.i64 (0 : Int))], AV.v (Value.bool false)]] [AB.row false m (9 : Nat) (row9 f) t] else bif !inR n (0 : Int) (23 : Int) then Res.out Ex.ret [AV.tup [AV.agg [AV.v (Value.int IntKind.i64 (0 : Int)), AV.v (Value.int IntKind.i64 (0 : Int)), AV.v (Value.int IntKind.i64 (0 : Int)), AV.v (Value.int IntKind.i64 (0 : Int)), AV.v (Value.int IntKind.i64 (0 : Int)), AV.v (Value.int IntKind.i64 (0 : Int)), AV.v (Value.int IntKind.i64 (0 : Int)), AV.v (Value.int IntKind.i64 (0 : Int))], AV.v (Value.bool false)]] [AB.row false m (9 : Nat) (row9 f) t] else needs [Nat.ble ((0 : Nat) + m) m, allW m fun q ↦ row9 f ((0 : Nat) + q), decide (m ≤ (274877906944 : Nat)), okd (listW (itW fun q ↦ row9 f ((0 : Nat) + q)) m)] (bif !ok (w8 (at_ (itW fun q ↦ row9 f ((0 : Nat) + q)) n m)) then Res.out Ex.ret [AV.tup [AV.agg [AV.v (Value.int IntKind.i64 (0 : Int)), AV.v (Value.int IntKind.i64 (0 : Int)), AV.v (Value.int IntKind.i64 (0 : Int)), AV.v (Value.int IntKind.i64 (0 : Int)), AV.v (Value.int IntKind.i64 (0 : Int)), AV.v (Value.int IntKind.i64 (0 : Int)), AV.v (Value.int IntKind.i64 (0 : Int)), AV.v (Value.int IntKind.i64 (0 : Int))], AV.v (Value.bool false)]] [AB.row false m (9 : Nat) (row9 f) t] else Res.out Ex.ret [AV.tup [AV.agg [AV.v (Value.int IntKind.i64 (at_ (itW fun q ↦ row9 f ((0 : Nat) + q)) n m (0 : Nat))), AV.v (Value.int IntKind.i64 (at_ (itW fun q ↦ row9 f ((0 : Nat) + q)) n m (1 : Nat))), AV.v (Value.int IntKind.i64 (at_ (itW fun q ↦ row9 f ((0 : Nat) + q)) n m (2 : Nat))), AV.v (Value.int IntKind.i64 (at_ (itW fun q ↦ row9 f ((0 : Nat) + q)) n m (3 : Nat))), AV.v (Value.int IntKind.i64 (at_ (itW fun q ↦ row9 f ((0 : Nat) + q)) n m (4 : Nat))), AV.v (Value.int IntKind.i64 (at_ (itW fun q ↦ row9 f ((0 : Nat) + q)) n m (5 : Nat))), AV.v (Value.int IntKind.i64 (at_ (itW fun q ↦ row9 f ((0 : Nat) + q)) n m (6 : Nat))), AV.v (Value.int IntKind.i64 (at_ (itW fun q ↦ row9 f ((0 : Nat) + q)) n m (7 : Nat)))], AV.v (Value.bool true)]] [AB.row false m (9 : Nat) (row9 f) t])) := by kernel_rfl

def FDAo (dv : (Nat → Nat → Int) → Int → Nat → Nat → Int) (dk : (Nat → Nat → Int) → Int → Nat → Bool) : List SA → Option FR
  | [.row m g, .v (.int .i64 n)] => some { val := .tup [.agg (cyC (dv (itW g) n m)), .v (.bool (dk (itW g) n m))], obl := [allW m g, decide (m ≤ 2 ^ 38)] }
  | _ => none
def gmKI (dv : (Nat → Nat → Int) → Int → Nat → Nat → Int) (dk : (Nat → Nat → Int) → Int → Nat → Bool) (tu : (Nat → Int) → Int → Nat → Int) : Gam := ext (ext g0 69 (specR [.val, .val] (FtuI tu))) 48 (specR md_wv (FDAo dv dk))
abbrev lvKI : Ex → List Nat := lv3 [0, 7, 8, 35] [] [4]
abbrev stKI (m : Nat) (fs sp : Int) (i : Nat) : List AV := [.sl 0 9 0 0 m none, .v (i64 fs), .v (i64 sp), .v (i64 i)]
abbrev hpK (m : Nat) (f : Nat → Nat → Int) : List AB := [.row false m 9 (row9 f) 67]
theorem rndKI (dv : (Nat → Nat → Int) → Int → Nat → Nat → Int) (dk : (Nat → Nat → Int) → Int → Nat → Bool) (tu : (Nat → Int) → Int → Nat → Int) (m : Nat) (f : Nat → Nat → Int) (fs sp : Int) (i : Nat) : execC Try.prog (gmKI dv dk tu) 100 noLam (loopAt 0 Try.f29) (mkT 0 70 ((lvKI .normal).zip (stKI m fs sp i))) (hpK m f) (leafV 70 lvKI 1)
    = bif decide ((↑i : Int) < (24 : Int)) then needs [Nat.ble ((0 : Nat) + m) m, allW m fun q ↦ row9 f ((0 : Nat) + q), decide (m ≤ (274877906944 : Nat)), Nat.ble ((0 : Nat) + m) m, allW m fun q ↦ row9 f ((0 : Nat) + q), decide (m ≤ (274877906944 : Nat))] (bif !dk (itW fun q ↦ row9 f ((0 : Nat) + q)) (↑i : Int) m then Res.out Ex.ret [AV.v (Value.bool false)] [AB.row false m (9 : Nat) (row9 f) (67 : TypeId)] else bif !dk (itW fun q ↦ row9 f ((0 : Nat) + q)) (Int.tmod (IntKind.wrap IntKind.i64 ((↑i : Int) + sp)) (24 : Int)) m then Res.out Ex.ret [AV.v (Value.bool false)] [AB.row false m (9 : Nat) (row9 f) (67 : TypeId)] else needs [inB (w8 (dv (itW fun q ↦ row9 f ((0 : Nat) + q)) (Int.tmod (IntKind.wrap IntKind.i64 ((↑i : Int) + sp)) (24 : Int)) m)), inR (IntKind.wrap IntKind.i64 (IntKind.wrap IntKind.i64 ((0 : Int) - sp) * fs)) (-9223372036854775808 : Int) (9223372036854775807 : Int)] (bif !(tu (w8 (dv (itW fun q ↦ row9 f ((0 : Nat) + q)) (Int.tmod (IntKind.wrap IntKind.i64 ((↑i : Int) + sp)) (24 : Int)) m)) (IntKind.wrap IntKind.i64 (IntKind.wrap IntKind.i64 ((0 : Int) - sp) * fs)) (0 : Nat) == dv (itW fun q ↦ row9 f ((0 : Nat) + q)) (↑i : Int) m (0 : Nat) && (tu (w8 (dv (itW fun q ↦ row9 f ((0 : Nat) + q)) (Int.tmod (IntKind.wrap IntKind.i64 ((↑i : Int) + sp)) (24 : Int)) m)) (IntKind.wrap IntKind.i64 (IntKind.wrap IntKind.i64 ((0 : Int) - sp) * fs)) (1 : Nat) == dv (itW fun q ↦ row9 f ((0 : Nat) + q)) (↑i : Int) m (1 : Nat) && (tu (w8 (dv (itW fun q ↦ row9 f ((0 : Nat) + q)) (Int.tmod (IntKind.wrap IntKind.i64 ((↑i : Int) + sp)) (24 : Int)) m)) (IntKind.wrap IntKind.i64 (IntKind.wrap IntKind.i64 ((0 : Int) - sp) * fs)) (2 : Nat) == dv (itW fun q ↦ row9 f ((0 : Nat) + q)) (↑i : Int) m (2 : Nat) && (tu (w8 (dv (itW fun q ↦ row9 f ((0 : Nat) + q)) (Int.tmod (IntKind.wrap IntKind.i64 ((↑i : Int) + sp)) (24 : Int)) m)) (IntKind.wrap IntKind.i64 (IntKind.wrap IntKind.i64 ((0 : Int) - sp) * fs)) (3 : Nat) == dv (itW fun q ↦ row9 f ((0 : Nat) + q)) (↑i : Int) m (3 : Nat) && (tu (w8 (dv (itW fun q ↦ row9 f ((0 : Nat) + q)) (Int.tmod (IntKind.wrap IntKind.i64 ((↑i : Int) + sp)) (24 : Int)) m)) (IntKind.wrap IntKind.i64 (IntKind.wrap IntKind.i64 ((0 : Int) - sp) * fs)) (4 : Nat) == dv (itW fun q ↦ row9 f ((0 : Nat) + q)) (↑i : Int) m (4 : Nat) && (tu (w8 (dv (itW fun q ↦ row9 f ((0 : Nat) + q)) (Int.tmod (IntKind.wrap IntKind.i64 ((↑i : Int) + sp)) (24 : Int)) m)) (IntKind.wrap IntKind.i64 (IntKind.wrap IntKind.i64 ((0 : Int) - sp) * fs)) (5 : Nat) == dv (itW fun q ↦ row9 f ((0 : Nat) + q)) (↑i : Int) m (5 : Nat) && (tu (w8 (dv (itW fun q ↦ row9 f ((0 : Nat) + q)) (Int.tmod (IntKind.wrap IntKind.i64 ((↑i : Int) + sp)) (24 : Int)) m)) (IntKind.wrap IntKind.i64 (IntKind.wrap IntKind.i64 ((0 : Int) - sp) * fs)) (6 : Nat) == dv (itW fun q ↦ row9 f ((0 : Nat) + q)) (↑i : Int) m (6 : Nat) && (tu (w8 (dv (itW fun q ↦ row9 f ((0 : Nat) + q)) (Int.tmod (IntKind.wrap IntKind.i64 ((↑i : Int) + sp)) (24 : Int)) m)) (IntKind.wrap IntKind.i64 (IntKind.wrap IntKind.i64 ((0 : Int) - sp) * fs)) (7 : Nat) == dv (itW fun q ↦ row9 f ((0 : Nat) + q)) (↑i : Int) m (7 : Nat) && true))))))) && true) then Res.out Ex.ret [AV.v (Value.bool false)] [AB.row false m (9 : Nat) (row9 f) (67 : TypeId)] else Res.out Ex.normal [AV.sl (0 : Nat) (9 : Nat) (0 : Nat) (0 : Nat) m none, AV.v (Value.int IntKind.i64 fs), AV.v (Value.int IntKind.i64 sp), AV.v (Value.int IntKind.i64 (IntKind.wrap IntKind.i64 ((↑i : Int) + (1 : Int))))] [AB.row false m (9 : Nat) (row9 f) (67 : TypeId)])) else Res.out (Ex.exit (0 : Nat)) [] [AB.row false m (9 : Nat) (row9 f) (67 : TypeId)] := by kernel_rfl

noncomputable abbrev lamKI (m : Nat) (f : Nat → Nat → Int) (fs sp : Int) (c : Bool) : Nat → Option Sum := oneL 0 (atS 70 (lvKI .normal) 1 (stKI m fs sp 0) (hpK m f) (fun K => cond c (K .normal (mkT 0 70 []) (hpK m f)) (K .ret (mkT 0 70 [(4, .v (.bool false))]) (hpK m f))))
theorem treeKY (yes : List Wh → Bool) (ti mp : List Wh → List Wh) (m : Nat) (f : Nat → Nat → Int) (n : Int) (fs sp : Int) (c : Bool) : execF Try.prog (ext g0 52 (specR md_ws (FdeYTi yes ti mp))) (lamKI m f fs sp c) 100 Try.f29 [.sl 0 9 0 0 m none, .v (i64 n)] (hpK m f) (packK 1)
    = needs [Nat.ble ((0 : Nat) + m) m, allW m fun q ↦ row9 f ((0 : Nat) + q), decide (m ≤ (274877906944 : Nat)), yes (listW (itW fun q ↦ row9 f ((0 : Nat) + q)) m)] (bif decide (n ≥ (1 : Int)) then needs [!decide (n = (0 : Int))] (bif !Int.tmod (24 : Int) n == (0 : Int) then Res.out Ex.ret [AV.v (Value.bool false)] [AB.row false m (9 : Nat) (row9 f) (67 : TypeId)] else bif decide ((↑(List.length (ti (mp (listW (itW fun q ↦ row9 f ((0 : Nat) + q)) m)))) : Int) > (0 : Int)) then needs [decide ((0 : Int) < (↑(List.length (ti (mp (listW (itW fun q ↦ row9 f ((0 : Nat) + q)) m)))) : Int)), decide ((0 : Nat) < List.length (ti (mp (listW (itW fun q ↦ row9 f ((0 : Nat) + q)) m)))), !decide (n = (0 : Int)), chk ([AV.sl (0 : Nat) (9 : Nat) (0 : Nat) (0 : Nat) m none, AV.v (Value.int IntKind.i64 (wfun (ti (mp (listW (itW fun q ↦ row9 f ((0 : Nat) + q)) m))) (0 : Nat) (0 : Nat))), AV.v (Value.int IntKind.i64 (IntKind.wrap IntKind.i64 (Int.tdiv (24 : Int) n))), AV.v (Value.int IntKind.i64 (0 : Int))] = stKI m fs sp (0 : Nat) ∧ Hsim [AB.row false m (9 : Nat) (row9 f) (67 : TypeId)] (hpK m f))] (bif c then Res.out Ex.ret [AV.v (Value.bool true)] [AB.row false m (9 : Nat) (row9 f) (67 : TypeId)] else Res.out Ex.ret [AV.v (Value.bool false)] [AB.row false m (9 : Nat) (row9 f) (67 : TypeId)]) else needs [!decide (n = (0 : Int)), chk ([AV.sl (0 : Nat) (9 : Nat) (0 : Nat) (0 : Nat) m none, AV.v (Value.int IntKind.i64 (0 : Int)), AV.v (Value.int IntKind.i64 (IntKind.wrap IntKind.i64 (Int.tdiv (24 : Int) n))), AV.v (Value.int IntKind.i64 (0 : Int))] = stKI m fs sp (0 : Nat) ∧ Hsim [AB.row false m (9 : Nat) (row9 f) (67 : TypeId)] (hpK m f))] (bif c then Res.out Ex.ret [AV.v (Value.bool true)] [AB.row false m (9 : Nat) (row9 f) (67 : TypeId)] else Res.out Ex.ret [AV.v (Value.bool false)] [AB.row false m (9 : Nat) (row9 f) (67 : TypeId)])) else Res.out Ex.ret [AV.v (Value.bool false)] [AB.row false m (9 : Nat) (row9 f) (67 : TypeId)]) := by kernel_rfl

theorem treeKN (yes : List Wh → Bool) (m : Nat) (f : Nat → Nat → Int) (n : Int) : execF Try.prog (ext g0 52 (specR md_ws (FdeNTi yes))) (oneL 0 errS) 100 Try.f29 [.sl 0 9 0 0 m none, .v (i64 n)] (hpK m f) (packK 1)
    = needs [Nat.ble ((0 : Nat) + m) m, allW m fun q ↦ row9 f ((0 : Nat) + q), decide (m ≤ (274877906944 : Nat)), !yes (listW (itW fun q ↦ row9 f ((0 : Nat) + q)) m)] (Res.out Ex.ret [AV.v (Value.bool false)] [AB.row false m (9 : Nat) (row9 f) (67 : TypeId)]) := by kernel_rfl

def gmKS (dv : (Nat → Nat → Int) → Int → Nat → Nat → Int) (dk : (Nat → Nat → Int) → Int → Nat → Bool) (md : Int → Int) (tu : (Nat → Int) → Int → Nat → Int) : Gam := ext (ext (ext g0 72 (specV (fMd md))) 73 (specR [.val, .val] (FtuO tu))) 49 (specR md_wv (FDAo dv dk))
abbrev lvKS : Ex → List Nat := lv3 [0, 7, 8, 9] [] [4]
theorem rndKS (dv : (Nat → Nat → Int) → Int → Nat → Nat → Int) (dk : (Nat → Nat → Int) → Int → Nat → Bool) (md : Int → Int) (tu : (Nat → Int) → Int → Nat → Int) (m : Nat) (f : Nat → Nat → Int) (fs sp : Int) (i : Nat) : execC Try.prog (gmKS dv dk md tu) 100 noLam (loopAt 0 Try.f28) (mkT 0 71 ((lvKS .normal).zip (stKI m fs sp i))) (hpK m f) (leafV 71 lvKS 1)
    = bif decide ((↑i : Int) < (24 : Int)) then needs [Nat.ble ((0 : Nat) + m) m, allW m fun q ↦ row9 f ((0 : Nat) + q), decide (m ≤ (274877906944 : Nat)), Nat.ble ((0 : Nat) + m) m, allW m fun q ↦ row9 f ((0 : Nat) + q), decide (m ≤ (274877906944 : Nat))] (bif !dk (itW fun q ↦ row9 f ((0 : Nat) + q)) (↑i : Int) m then Res.out Ex.ret [AV.v (Value.bool false)] [AB.row false m (9 : Nat) (row9 f) (67 : TypeId)] else bif !dk (itW fun q ↦ row9 f ((0 : Nat) + q)) (md (IntKind.wrap IntKind.i64 ((↑i : Int) + sp))) m then Res.out Ex.ret [AV.v (Value.bool false)] [AB.row false m (9 : Nat) (row9 f) (67 : TypeId)] else needs [decide (md (IntKind.wrap IntKind.i64 ((0 : Int) - IntKind.wrap IntKind.i64 (sp * fs))) ≤ (1099511627776 : Int))] (bif !(tu (w8 (dv (itW fun q ↦ row9 f ((0 : Nat) + q)) (md (IntKind.wrap IntKind.i64 ((↑i : Int) + sp))) m)) (md (IntKind.wrap IntKind.i64 ((0 : Int) - IntKind.wrap IntKind.i64 (sp * fs)))) (0 : Nat) == dv (itW fun q ↦ row9 f ((0 : Nat) + q)) (↑i : Int) m (0 : Nat) && (tu (w8 (dv (itW fun q ↦ row9 f ((0 : Nat) + q)) (md (IntKind.wrap IntKind.i64 ((↑i : Int) + sp))) m)) (md (IntKind.wrap IntKind.i64 ((0 : Int) - IntKind.wrap IntKind.i64 (sp * fs)))) (1 : Nat) == dv (itW fun q ↦ row9 f ((0 : Nat) + q)) (↑i : Int) m (1 : Nat) && (tu (w8 (dv (itW fun q ↦ row9 f ((0 : Nat) + q)) (md (IntKind.wrap IntKind.i64 ((↑i : Int) + sp))) m)) (md (IntKind.wrap IntKind.i64 ((0 : Int) - IntKind.wrap IntKind.i64 (sp * fs)))) (2 : Nat) == dv (itW fun q ↦ row9 f ((0 : Nat) + q)) (↑i : Int) m (2 : Nat) && (tu (w8 (dv (itW fun q ↦ row9 f ((0 : Nat) + q)) (md (IntKind.wrap IntKind.i64 ((↑i : Int) + sp))) m)) (md (IntKind.wrap IntKind.i64 ((0 : Int) - IntKind.wrap IntKind.i64 (sp * fs)))) (3 : Nat) == dv (itW fun q ↦ row9 f ((0 : Nat) + q)) (↑i : Int) m (3 : Nat) && (tu (w8 (dv (itW fun q ↦ row9 f ((0 : Nat) + q)) (md (IntKind.wrap IntKind.i64 ((↑i : Int) + sp))) m)) (md (IntKind.wrap IntKind.i64 ((0 : Int) - IntKind.wrap IntKind.i64 (sp * fs)))) (4 : Nat) == dv (itW fun q ↦ row9 f ((0 : Nat) + q)) (↑i : Int) m (4 : Nat) && (tu (w8 (dv (itW fun q ↦ row9 f ((0 : Nat) + q)) (md (IntKind.wrap IntKind.i64 ((↑i : Int) + sp))) m)) (md (IntKind.wrap IntKind.i64 ((0 : Int) - IntKind.wrap IntKind.i64 (sp * fs)))) (5 : Nat) == dv (itW fun q ↦ row9 f ((0 : Nat) + q)) (↑i : Int) m (5 : Nat) && (tu (w8 (dv (itW fun q ↦ row9 f ((0 : Nat) + q)) (md (IntKind.wrap IntKind.i64 ((↑i : Int) + sp))) m)) (md (IntKind.wrap IntKind.i64 ((0 : Int) - IntKind.wrap IntKind.i64 (sp * fs)))) (6 : Nat) == dv (itW fun q ↦ row9 f ((0 : Nat) + q)) (↑i : Int) m (6 : Nat) && (tu (w8 (dv (itW fun q ↦ row9 f ((0 : Nat) + q)) (md (IntKind.wrap IntKind.i64 ((↑i : Int) + sp))) m)) (md (IntKind.wrap IntKind.i64 ((0 : Int) - IntKind.wrap IntKind.i64 (sp * fs)))) (7 : Nat) == dv (itW fun q ↦ row9 f ((0 : Nat) + q)) (↑i : Int) m (7 : Nat) && true))))))) && true) then Res.out Ex.ret [AV.v (Value.bool false)] [AB.row false m (9 : Nat) (row9 f) (67 : TypeId)] else Res.out Ex.normal [AV.sl (0 : Nat) (9 : Nat) (0 : Nat) (0 : Nat) m none, AV.v (Value.int IntKind.i64 fs), AV.v (Value.int IntKind.i64 sp), AV.v (Value.int IntKind.i64 (IntKind.wrap IntKind.i64 ((↑i : Int) + (1 : Int))))] [AB.row false m (9 : Nat) (row9 f) (67 : TypeId)])) else Res.out (Ex.exit (0 : Nat)) [] [AB.row false m (9 : Nat) (row9 f) (67 : TypeId)] := by kernel_rfl

noncomputable abbrev lamKS (m : Nat) (f : Nat → Nat → Int) (fs sp : Int) (c : Bool) : Nat → Option Sum := oneL 0 (atS 71 (lvKS .normal) 1 (stKI m fs sp 0) (hpK m f) (fun K => cond c (K .normal (mkT 0 71 []) (hpK m f)) (K .ret (mkT 0 71 [(4, .v (.bool false))]) (hpK m f))))
theorem treeKS (okd : List Wh → Bool) (ti : List Wh → List Wh) (okt : List Wh → Bool) (m : Nat) (f : Nat → Nat → Int) (n : Int) (fs sp : Int) (c : Bool) : execF Try.prog (gmS2 okd ti okt) (lamKS m f fs sp c) 100 Try.f28 [.sl 0 9 0 0 m none, .v (i64 n)] (hpK m f) (packK 1)
    = needs [Nat.ble ((0 : Nat) + m) m, allW m fun q ↦ row9 f ((0 : Nat) + q), decide (m ≤ (549755813888 : Nat))] (bif !okd (listW (itW fun q ↦ row9 f ((0 : Nat) + q)) m) then Res.out Ex.ret [AV.v (Value.bool false)] [AB.row false m (9 : Nat) (row9 f) (67 : TypeId)] else needs [Nat.ble ((0 : Nat) + m) m, allW m fun q ↦ row9 f ((0 : Nat) + q), decide (m ≤ (274877906944 : Nat))] (bif !okt (listW (itW fun q ↦ row9 f ((0 : Nat) + q)) m) then Res.out Ex.ret [AV.v (Value.bool false)] [AB.row false m (9 : Nat) (row9 f) (67 : TypeId)] else bif decide (n ≥ (1 : Int)) then bif decide (n ≤ (24 : Int)) then needs [!decide (n = (0 : Int))] (bif !Int.tmod (24 : Int) n == (0 : Int) then Res.out Ex.ret [AV.v (Value.bool false)] [AB.row false m (9 : Nat) (row9 f) (67 : TypeId)] else bif decide ((↑(List.length (ti (listW (itW fun q ↦ row9 f ((0 : Nat) + q)) m))) : Int) > (0 : Int)) then needs [decide ((0 : Int) < (↑(List.length (ti (listW (itW fun q ↦ row9 f ((0 : Nat) + q)) m))) : Int)), decide ((0 : Nat) < List.length (ti (listW (itW fun q ↦ row9 f ((0 : Nat) + q)) m))), !decide (n = (0 : Int)), chk ([AV.sl (0 : Nat) (9 : Nat) (0 : Nat) (0 : Nat) m none, AV.v (Value.int IntKind.i64 (wfun (ti (listW (itW fun q ↦ row9 f ((0 : Nat) + q)) m)) (0 : Nat) (0 : Nat))), AV.v (Value.int IntKind.i64 (IntKind.wrap IntKind.i64 (Int.tdiv (24 : Int) n))), AV.v (Value.int IntKind.i64 (0 : Int))] = stKI m fs sp (0 : Nat) ∧ Hsim [AB.row false m (9 : Nat) (row9 f) (67 : TypeId)] (hpK m f))] (bif c then Res.out Ex.ret [AV.v (Value.bool true)] [AB.row false m (9 : Nat) (row9 f) (67 : TypeId)] else Res.out Ex.ret [AV.v (Value.bool false)] [AB.row false m (9 : Nat) (row9 f) (67 : TypeId)]) else needs [!decide (n = (0 : Int)), chk ([AV.sl (0 : Nat) (9 : Nat) (0 : Nat) (0 : Nat) m none, AV.v (Value.int IntKind.i64 (0 : Int)), AV.v (Value.int IntKind.i64 (IntKind.wrap IntKind.i64 (Int.tdiv (24 : Int) n))), AV.v (Value.int IntKind.i64 (0 : Int))] = stKI m fs sp (0 : Nat) ∧ Hsim [AB.row false m (9 : Nat) (row9 f) (67 : TypeId)] (hpK m f))] (bif c then Res.out Ex.ret [AV.v (Value.bool true)] [AB.row false m (9 : Nat) (row9 f) (67 : TypeId)] else Res.out Ex.ret [AV.v (Value.bool false)] [AB.row false m (9 : Nat) (row9 f) (67 : TypeId)])) else Res.out Ex.ret [AV.v (Value.bool false)] [AB.row false m (9 : Nat) (row9 f) (67 : TypeId)] else Res.out Ex.ret [AV.v (Value.bool false)] [AB.row false m (9 : Nat) (row9 f) (67 : TypeId)])) := by kernel_rfl

end Go.Proofs.Ytnlfdcjpeoafhaa

/- DesignAt of the program; DesignClosed of both: the whole. Conditions: a list of wheels. -/
namespace Go.Proofs.Ytnlfdcjpeoafhaa
open Go.RowKit
set_option maxRecDepth 100000

theorem gmAI_ok : GamOk Try.prog (gmAI tuF plusF) := by
  unfold gmAI
  rw [fAdd2_eq]
  exact ext_ok (ext_ok g0_ok ok_tuI) ok_plus
theorem atF_next (f : Nat → Nat → Int) (n : Int) (i : Nat) : atF f n (i + 1) = plusF (atF f n i) (tuF (v8 (f i 1) (f i 2) (f i 3) (f i 4) (f i 5) (f i 6) (f i 7) (f i 8)) (IntKind.wrap IntKind.i64 (n * f i 0))) := by
  funext k
  show W (atF f n i k + 1 * _) = W (atF f n i k + _)
  rw [Int.one_mul]
theorem sumAI (m : Nat) (f : Nat → Nat → Int) (t : TypeId) (n : Int) (hm : m ≤ 2 ^ 40) (hok : ∀ w ∈ listW f m, inB w.r.f = true) :
    SumOk Try.prog 1 (.block 0 (.loop (loopAt 0 Try.f91))) (atS 25 (lvAI .normal) 1 (stAI m n 0) (hpAt m f t fun _ => 0) (fun K => K .normal (mkT 0 25 [(4, .ptr 1 0 0 0), (5, .ptr 2 0 0 0)]) (hpAt m f t (atF f n m)))) := by
  refine for_at gmAI_ok (n := 100) (m := 1) (lv := lvAI) (fun i => stAI m n i) (fun i => hpAt m f t (atF f n i)) (fun _ => True) m (fun _ => noLam) (lv3_ris rfl rfl rfl) (Nat.le_refl _) trivial fun K Q hk i hi him => ⟨noLam_ok _ _ _, ?_⟩
  rw [rndAI]
  refine good_cond (fun c1 => ?_) fun c1 => ?_
  · have c1 := of_decide_eq_true c1
    have c1' : i < m := by omega
    rw [Int.toNat_natCast, Nat.zero_add, wr_in (x := (i : Int) + 1) (by omega)]
    refine good_needs ?_ (good_out ⟨i + 1, ⟨rfl, c1', trivial⟩, rfl, ?_⟩)
    · simp only [ob_cons, ob_nil, and_true, decide_eq_true_eq]
      exact ⟨by omega, by omega, hok _ (List.mem_of_getElem? (listW_get f c1')), inR_iff.2 (w64_range _)⟩
    · show Hsim _ (hpAt m f t (atF f n (i + 1)))
      rw [atF_next]
      exact Hsim.refl _
  · have c1 := of_decide_eq_false c1
    have : i = m := by omega
    subst this
    refine good_out ⟨_, Hsim.refl _, ?_⟩
    rw [if_pos rfl]
    exact hk
theorem ok_atI : SpecOk Try.prog 91 (specR md_wv (FatI atF okD)) := by
  refine specR_hr g0_ok Try.func91 rfl fun sas fr hF ho => ?_
  unfold FatI at hF
  split at hF
  · rename_i m g n
    cases hF
    simp only [ob_cons] at ho
    obtain ⟨h1, h2, h3, _⟩ := ho
    have hm := of_decide_eq_true h2
    refine ⟨[.row false m 9 (row9 (itW g)) 67], lamAI m (itW g) 67 n (atF (itW g) n m), 100, .cons (ABeq.row fun j hj => allW_get h1 j hj) .nil, lam1 (by kernel_rfl) (sumAI m (itW g) 67 n (by omega) fun w hw => valid_inB h3 hw), ?_⟩
    show GoodQ (execF Try.prog g0 (lamAI m (itW g) 67 n (atF (itW g) n m)) 100 Try.f91 [.sl 0 9 0 0 m none, .v (i64 n)] [.row false m 9 (row9 (itW g)) 67] (packK 1)) _
    rw [treeAI]
    exact good_needs (by rw [ob_cons]; exact ⟨chk_of ⟨rfl, Hsim.refl _⟩, rfl⟩) (good_out ⟨_, rfl, rfl, .cons (ABeq.row fun j hj => (allW_get h1 j hj).symm) .nil⟩)
  · cases hF
theorem gmDI_ok : GamOk Try.prog (gmDI atF okD (fun v => cyOk (cyOf v))) := by
  unfold gmDI
  rw [fOkc_eq, FdvO_eq]
  exact ext_ok (ext_ok (ext_ok gm_within_ok ok_atI) ok_dvI) ok_cvI
theorem FDAo_eq : FDAo daV daOk = F_DA := by
  funext l
  rfl
theorem ok_DAI : SpecOk Try.prog 48 (specR md_wv (FDAo daV daOk)) := by
  refine specR_hr gmDI_ok Try.func48 rfl fun sas fr hF ho => ?_
  unfold FDAo at hF
  split at hF
  · rename_i m g n
    cases hF
    simp only [ob_cons] at ho
    obtain ⟨h1, h2, _⟩ := ho
    have hm := of_decide_eq_true h2
    refine ⟨[.row false m 9 (row9 (itW g)) 67], noLam, 100, .cons (ABeq.row fun j hj => allW_get h1 j hj) .nil, noLam' _, ?_⟩
    show GoodQ (execF Try.prog (gmDI atF okD (fun v => cyOk (cyOf v))) noLam 100 Try.f48 [.sl 0 9 0 0 m none, .v (i64 n)] [.row false m 9 (row9 (itW g)) 67] (packK 1)) _
    rw [treeDI, row0, listW_itW, atF_row]
    have fin : ∀ (c : Bool) (b : Nat → Int), daOk (itW g) n m = c → cyC b = cyC (bif c then atF (itW g) n m else fun _ => 0) → GoodQ (.out .ret [.tup [.agg (cyC b), .v (.bool c)]] [.row false m 9 (row9 (itW g)) 67])
        (GivR (abP md_wv [.row m g, .v (.int .i64 n)] []) { val := .tup [.agg (cyC (daV (itW g) n m)), .v (.bool (daOk (itW g) n m))], obl := [allW m g, decide (m ≤ 2 ^ 38)] }) := by
      rintro c b rfl hb
      refine good_out ⟨_, rfl, ?_, .cons (ABeq.row fun j hj => (allW_get h1 j hj).symm) .nil⟩
      rw [hb]
      rfl
    refine good_needs (by simp only [ob_cons, ob_nil, and_true, decide_eq_true_eq, Nat.ble_eq, allW_row, true_and]; omega) (good_cond (fun q => ?_) fun q => ?_)
    · have q' : (!okD (listW (itW g) m)) = true := q
      have q2 : okD (listW (itW g) m) = false := by simpa using q'
      exact fin false (fun _ => 0) (by unfold daOk; rw [q2]; rfl) rfl
    · have q' : (!okD (listW (itW g) m)) = false := q
      have qd : okD (listW (itW g) m) = true := by simpa using q'
      refine good_cond (fun q2 => ?_) fun q2 => ?_
      · have q2 : inR n 0 23 = false := by simpa using q2
        exact fin false (fun _ => 0) (by unfold daOk; rw [qd, q2]; rfl) rfl
      · have q2 : inR n 0 23 = true := by simpa using q2
        refine good_needs (by simp only [ob_cons, ob_nil, and_true, decide_eq_true_eq, Nat.ble_eq, allW_row, true_and]; exact ⟨by omega, hm, qd⟩) (good_cond (fun q3 => ?_) fun q3 => ?_)
        · have q3' : (!cyOk (cyOf (atF (itW g) n m))) = true := q3
          have q4 : cyOk (cyOf (atF (itW g) n m)) = false := by simpa using q3'
          exact fin false (fun _ => 0) (by unfold daOk; rw [qd, q2, q4]; rfl) rfl
        · have q3' : (!cyOk (cyOf (atF (itW g) n m))) = false := q3
          have q4 : cyOk (cyOf (atF (itW g) n m)) = true := by simpa using q3'
          exact fin true (atF (itW g) n m) (by unfold daOk; rw [qd, q2, q4]; rfl) rfl
  · cases hF

theorem daOk_row (f : Nat → Nat → Int) (n : Int) (m : Nat) : daOk (itW (row9 f)) n m = daOk f n m := by unfold daOk; rw [listW_itW, atF_row]
theorem daV_row (f : Nat → Nat → Int) (n : Int) (m : Nat) : daV (itW (row9 f)) n m = daV f n m := by unfold daV; rw [daOk_row, atF_row]
theorem daV_in (f : Nat → Nat → Int) (n : Int) (m : Nat) : inB (w8 (daV f n m)) = true := by
  refine smallF_iff.2 fun k hk => ?_
  have e : w8 (daV f n m) k = daV f n m k := by
    rcases (by omega : k = 0 ∨ k = 1 ∨ k = 2 ∨ k = 3 ∨ k = 4 ∨ k = 5 ∨ k = 6 ∨ k = 7) with rfl | rfl | rfl | rfl | rfl | rfl | rfl | rfl <;> rfl
  rw [e]
  unfold daV
  cases h : daOk f n m with
  | false => show (-9223372036854775808 : Int) ≤ 0 ∧ (0 : Int) ≤ 9223372036854775807; omega
  | true =>
    unfold daOk at h
    rw [Bool.and_eq_true] at h
    have := smallF_iff.1 h.2 k hk
    rw [cyOf_f8 _ k hk] at this
    show -9223372036854775808 ≤ atF f n m k ∧ atF f n m k ≤ 9223372036854775807
    omega
/-- The same eight numbers. -/
def eq8 (a b : Nat → Int) : Bool := (a 0 == b 0 && (a 1 == b 1 && (a 2 == b 2 && (a 3 == b 3 && (a 4 == b 4 && (a 5 == b 5 && (a 6 == b 6 && (a 7 == b 7 && true)))))))) && true
def clK (fs sp : Int) : Int := IntKind.wrap IntKind.i64 (0 - sp * fs)
/-- At this turn the point is not turned onto the next one. -/
def badK (f : Nat → Nat → Int) (m : Nat) (fs sp : Int) (i : Nat) : Bool := bif !daOk f i m then true else bif !daOk f (((i : Int) + sp) % 24) m then true else !(eq8 (turnedF (w8 (daV f (((i : Int) + sp) % 24) m)) (clK fs sp % 24).toNat) (daV f i m))
theorem clK_I (fs sp : Int) : IntKind.wrap IntKind.i64 (IntKind.wrap IntKind.i64 (0 - sp) * fs) = clK fs sp := by
  show W (W (0 - sp) * fs) = W (0 - sp * fs)
  rw [w64_mul_l, Int.sub_mul, Int.zero_mul]
theorem clK_S (fs sp : Int) : IntKind.wrap IntKind.i64 (0 - IntKind.wrap IntKind.i64 (sp * fs)) = clK fs sp := w64_sub_r _ _
theorem gmKI_ok : GamOk Try.prog (gmKI daV daOk tuF) := ext_ok (ext_ok g0_ok ok_tuI) ok_DAI
theorem gmKS_ok : GamOk Try.prog (gmKS daV daOk (fun n => n % 24) (fun a n => turnedF a n.toNat)) := by
  unfold gmKS
  rw [fMd_eq, FtuO_eq, FDAo_eq]
  exact ext_ok (ext_ok (ext_ok g0_ok ok_l1Mod) ok_turnedS) ok_DA
theorem sumKI (m : Nat) (f : Nat → Nat → Int) (fs sp : Int) (hm : m ≤ 2 ^ 38) (hsp : 0 ≤ sp ∧ sp ≤ 24) :
    SumOk Try.prog 1 (.block 0 (.loop (loopAt 0 Try.f29))) (atS 70 (lvKI .normal) 1 (stKI m fs sp 0) (hpK m f) (fun K => cond (noneTo (badK f m fs sp) 24) (K .normal (mkT 0 70 []) (hpK m f)) (K .ret (mkT 0 70 [(4, .v (.bool false))]) (hpK m f)))) := by
  refine for_at gmKI_ok (n := 100) (m := 1) (lv := lvKI) (fun i => stKI m fs sp i) (fun _ => hpK m f) (fun i => noneTo (badK f m fs sp) i = true) 24 (fun _ => noLam) (lv3_ris rfl rfl rfl) (Nat.le_refl _) rfl fun K Q hk i hi him => ⟨noLam_ok _ _ _, ?_⟩
  rw [rndKI]
  refine good_cond (fun c1 => ?_) fun c1 => ?_
  · have c1 := of_decide_eq_true c1
    have c1' : i < 24 := by omega
    have bad : badK f m fs sp i = true → GoodQ (.out .ret [.v (.bool false)] [.row false m 9 (row9 f) 67]) (RoundV 70 0 lvKI (fun i => stKI m fs sp i) (fun _ => hpK m f) (fun s' => s' = i + 1 ∧ i < 24 ∧ noneTo (badK f m fs sp) (i + 1) = true) K Q) := fun hb => by
      refine good_out ⟨_, Hsim.refl _, ?_⟩
      rw [noneTo_no c1' hb] at hk
      exact hk
    have e1 : Int.tmod (IntKind.wrap IntKind.i64 ((i : Int) + sp)) 24 = ((i : Int) + sp) % 24 := by
      rw [wr_in (by omega), Int.tmod_eq_emod_of_nonneg (by omega)]
    simp only [row0, daOk_row, daV_row, e1, clK_I]
    rw [wr_in (x := (i : Int) + 1) (by omega)]
    refine good_needs (by simp only [ob_cons, ob_nil, and_true, decide_eq_true_eq, Nat.ble_eq, allW_row, true_and]; omega) (good_cond (fun q => ?_) fun q => ?_)
    · exact bad (by unfold badK; rw [q]; rfl)
    · refine good_cond (fun q2 => ?_) fun q2 => ?_
      · exact bad (by unfold badK; rw [q, q2]; rfl)
      · refine good_needs (by simp only [ob_cons, ob_nil, and_true]; exact ⟨daV_in _ _ _, inR_iff.2 (w64_range _)⟩) (good_cond (fun q3 => ?_) fun q3 => ?_)
        · exact bad (by unfold badK; rw [q, q2]; exact q3)
        · exact good_out ⟨i + 1, ⟨rfl, c1', noneTo_succ hi (by unfold badK; rw [q, q2]; exact q3)⟩, rfl, Hsim.refl _⟩
  · have c1 := of_decide_eq_false c1
    have : i = 24 := by omega
    subst this
    refine good_out ⟨_, Hsim.refl _, ?_⟩
    rw [if_pos rfl]
    rw [hi] at hk
    exact hk

theorem sumKS (m : Nat) (f : Nat → Nat → Int) (fs sp : Int) (hm : m ≤ 2 ^ 38) (hsp : 0 ≤ sp ∧ sp ≤ 24) :
    SumOk Try.prog 1 (.block 0 (.loop (loopAt 0 Try.f28))) (atS 71 (lvKS .normal) 1 (stKI m fs sp 0) (hpK m f) (fun K => cond (noneTo (badK f m fs sp) 24) (K .normal (mkT 0 71 []) (hpK m f)) (K .ret (mkT 0 71 [(4, .v (.bool false))]) (hpK m f)))) := by
  refine for_at gmKS_ok (n := 100) (m := 1) (lv := lvKS) (fun i => stKI m fs sp i) (fun _ => hpK m f) (fun i => noneTo (badK f m fs sp) i = true) 24 (fun _ => noLam) (lv3_ris rfl rfl rfl) (Nat.le_refl _) rfl fun K Q hk i hi him => ⟨noLam_ok _ _ _, ?_⟩
  rw [rndKS]
  refine good_cond (fun c1 => ?_) fun c1 => ?_
  · have c1 := of_decide_eq_true c1
    have c1' : i < 24 := by omega
    have bad : badK f m fs sp i = true → GoodQ (.out .ret [.v (.bool false)] [.row false m 9 (row9 f) 67]) (RoundV 71 0 lvKS (fun i => stKI m fs sp i) (fun _ => hpK m f) (fun s' => s' = i + 1 ∧ i < 24 ∧ noneTo (badK f m fs sp) (i + 1) = true) K Q) := fun hb => by
      refine good_out ⟨_, Hsim.refl _, ?_⟩
      rw [noneTo_no c1' hb] at hk
      exact hk
    have e1 : IntKind.wrap IntKind.i64 ((i : Int) + sp) = (i : Int) + sp := wr_in (by omega)
    simp only [row0, daOk_row, daV_row, e1, clK_S]
    rw [wr_in (x := (i : Int) + 1) (by omega)]
    refine good_needs (by simp only [ob_cons, ob_nil, and_true, decide_eq_true_eq, Nat.ble_eq, allW_row, true_and]; omega) (good_cond (fun q => ?_) fun q => ?_)
    · exact bad (by unfold badK; rw [q]; rfl)
    · refine good_cond (fun q2 => ?_) fun q2 => ?_
      · exact bad (by unfold badK; rw [q, q2]; rfl)
      · refine good_needs (by simp only [ob_cons, ob_nil, and_true]; exact decide_eq_true (by omega)) (good_cond (fun q3 => ?_) fun q3 => ?_)
        · exact bad (by unfold badK; rw [q, q2]; exact q3)
        · exact good_out ⟨i + 1, ⟨rfl, c1', noneTo_succ hi (by unfold badK; rw [q, q2]; exact q3)⟩, rfl, Hsim.refl _⟩
  · have c1 := of_decide_eq_false c1
    have : i = 24 := by omega
    subst this
    refine good_out ⟨_, Hsim.refl _, ?_⟩
    rw [if_pos rfl]
    rw [hi] at hk
    exact hk

/-- The first speed. -/
def fsT (T : List Wh) : Int := bif decide ((T.length : Int) > 0) then wfun T 0 0 else 0
def spN (n : Int) : Int := IntKind.wrap IntKind.i64 (Int.tdiv 24 n)
def closV (f : Nat → Nat → Int) (m : Nat) (n : Int) (T : List Wh) : Bool := (decide (n ≥ 1) && (decide (n ≤ 24) && (Int.tmod 24 n == 0))) && noneTo (badK f m (fsT T) (spN n)) 24
theorem sp_in : ∀ k : Nat, k < 25 → 0 ≤ spN k ∧ spN k ≤ 24 := by decide +kernel
theorem spN_in {n : Int} (h1 : n ≥ 1) (h2 : n ≤ 24) : 0 ≤ spN n ∧ spN n ≤ 24 := by
  obtain ⟨k, rfl⟩ := Int.eq_ofNat_of_zero_le (show 0 ≤ n by omega)
  exact sp_in k (by omega)
theorem map_Ti (L : List Wh) : mpTi L = L := by
  show L.map chTi = L
  exact List.map_id'' (fun _ => rfl) L
def FclY (yes : List Wh → Bool) (cl : (Nat → Nat → Int) → Nat → Int → Bool) : List SA → Option FR
  | [.row m g, .v (.int .i64 n)] => some { val := .v (.bool (cl (itW g) m n)), obl := [allW m g, decide (m ≤ 2 ^ 38), yes (listW (itW g) m)] }
  | _ => none
def FclN (yes : List Wh → Bool) : List SA → Option FR
  | [.row m g, .v (.int .i64 n)] => some { val := .v (.bool false), obl := [allW m g, decide (m ≤ 2 ^ 38), !yes (listW (itW g) m)] }
  | _ => none
def FclS (yes : List Wh → Bool) (cl : (Nat → Nat → Int) → Nat → Int → Bool) : List SA → Option FR
  | [.row m g, .v (.int .i64 n)] => some { val := .v (.bool (yes (listW (itW g) m) && cl (itW g) m n)), obl := [allW m g, decide (m ≤ 2 ^ 38)] }
  | _ => none
def clT (f : Nat → Nat → Int) (m : Nat) (n : Int) : Bool := closV f m n (tidyL (listW f m))
theorem ok_clY : SpecOk Try.prog 29 (specR md_wv (FclY yesTi clT)) := by
  refine specR_hr (ext_ok g0_ok ok_deYTi) Try.func29 rfl fun sas fr hF ho => ?_
  unfold FclY at hF
  split at hF
  · rename_i m g n
    cases hF
    simp only [ob_cons] at ho
    obtain ⟨h1, h2, h3, _⟩ := ho
    have hm := of_decide_eq_true h2
    have fin : ∀ b, clT (itW g) m n = b → GoodQ (.out .ret [.v (.bool b)] [.row false m 9 (row9 (itW g)) 67]) (GivR (abP md_wv [.row m g, .v (.int .i64 n)] []) { val := .v (.bool (clT (itW g) m n)), obl := [allW m g, decide (m ≤ 2 ^ 38), yesTi (listW (itW g) m)] }) := fun b hb =>
      good_out ⟨_, rfl, by rw [hb], .cons (ABeq.row fun j hj => (allW_get h1 j hj).symm) .nil⟩
    have ob : obls [Nat.ble (0 + m) m, allW m (row9 (itW g)), decide (m ≤ 274877906944), yesTi (listW (itW g) m)] = true := by simp only [ob_cons, ob_nil, and_true, decide_eq_true_eq, Nat.ble_eq, allW_row, true_and]; exact ⟨by omega, by omega, h3⟩
    by_cases hn : (n ≥ 1 ∧ n ≤ 24) ∧ (Int.tmod 24 n == 0) = true
    · obtain ⟨⟨n1, n2⟩, n3⟩ := hn
      refine ⟨hpK m (itW g), lamKI m (itW g) (fsT (tidyL (listW (itW g) m))) (spN n) (noneTo (badK (itW g) m (fsT (tidyL (listW (itW g) m))) (spN n)) 24), 100, .cons (ABeq.row fun j hj => allW_get h1 j hj) .nil, lam1 (by kernel_rfl) (sumKI m (itW g) _ _ hm (spN_in n1 n2)), ?_⟩
      show GoodQ (execF Try.prog (ext g0 52 (specR md_ws (FdeYTi yesTi tidyL mpTi))) (lamKI m (itW g) (fsT (tidyL (listW (itW g) m))) (spN n) (noneTo (badK (itW g) m (fsT (tidyL (listW (itW g) m))) (spN n)) 24)) 100 Try.f29 [.sl 0 9 0 0 m none, .v (i64 n)] (hpK m (itW g)) (packK 1)) _
      rw [treeKY, row0, listW_itW, map_Ti]
      have en : (!decide (n = 0)) = true := by
        rw [decide_eq_false (by omega)]
        rfl
      have ec : clT (itW g) m n = noneTo (badK (itW g) m (fsT (tidyL (listW (itW g) m))) (spN n)) 24 := by
        unfold clT closV
        rw [decide_eq_true n1, decide_eq_true n2, n3]
        rfl
      refine good_needs ob (good_true (decide_eq_true n1) (good_needs (by rw [ob_cons]; exact ⟨en, rfl⟩) (good_false (by rw [n3]; rfl) (good_cond (fun q => ?_) fun q => ?_))))
      · have q' := of_decide_eq_true q
        have ef : fsT (tidyL (listW (itW g) m)) = wfun (tidyL (listW (itW g) m)) 0 0 := by unfold fsT; rw [q]; rfl
        refine good_needs ?_ (good_cond (fun q2 => fin true (ec.trans q2)) fun q2 => fin false (ec.trans q2))
        simp only [ob_cons, ob_nil, and_true]
        exact ⟨decide_eq_true (by omega), decide_eq_true (by omega), en, chk_of ⟨by rw [ef]; rfl, Hsim.refl _⟩⟩
      · have ef : fsT (tidyL (listW (itW g) m)) = 0 := by unfold fsT; rw [q]; rfl
        refine good_needs ?_ (good_cond (fun q2 => fin true (ec.trans q2)) fun q2 => fin false (ec.trans q2))
        simp only [ob_cons, ob_nil, and_true]
        exact ⟨en, chk_of ⟨by rw [ef]; rfl, Hsim.refl _⟩⟩
    · have ec : clT (itW g) m n = false := by
        unfold clT closV
        cases d1 : decide (n ≥ 1) with
        | false => rfl
        | true =>
          cases d2 : decide (n ≤ 24) with
          | false => rfl
          | true =>
            cases d3 : (Int.tmod 24 n == 0) with
            | false => rfl
            | true => exact (hn ⟨⟨of_decide_eq_true d1, of_decide_eq_true d2⟩, d3⟩).elim
      refine ⟨hpK m (itW g), lamKI m (itW g) 0 0 (noneTo (badK (itW g) m 0 0) 24), 100, .cons (ABeq.row fun j hj => allW_get h1 j hj) .nil, lam1 (by kernel_rfl) (sumKI m (itW g) 0 0 hm ⟨by omega, by omega⟩), ?_⟩
      show GoodQ (execF Try.prog (ext g0 52 (specR md_ws (FdeYTi yesTi tidyL mpTi))) (lamKI m (itW g) 0 0 (noneTo (badK (itW g) m 0 0) 24)) 100 Try.f29 [.sl 0 9 0 0 m none, .v (i64 n)] (hpK m (itW g)) (packK 1)) _
      rw [treeKY, row0, listW_itW, map_Ti]
      refine good_needs ob (good_cond (fun q => ?_) fun q => fin false ec)
      have n1 := of_decide_eq_true q
      have en : (!decide (n = 0)) = true := by
        rw [decide_eq_false (by omega)]
        rfl
      refine good_needs (by rw [ob_cons]; exact ⟨en, rfl⟩) (good_true ?_ (fin false ec))
      cases d3 : (Int.tmod 24 n == 0) with
      | false => rfl
      | true =>
        exfalso
        refine hn ⟨⟨n1, ?_⟩, d3⟩
        rcases Int.lt_or_le 24 n with h | h
        · have e := beq_iff_eq.1 d3
          rw [Int.tmod_eq_emod_of_nonneg (by omega), Int.emod_eq_of_lt (by omega) h] at e
          omega
        · exact h
  · cases hF
theorem ok_clN : SpecOk Try.prog 29 (specR md_wv (FclN yesTi)) := by
  refine specR_hr (ext_ok g0_ok ok_deNTi) Try.func29 rfl fun sas fr hF ho => ?_
  unfold FclN at hF
  split at hF
  · rename_i m g n
    cases hF
    simp only [ob_cons] at ho
    obtain ⟨h1, h2, h3, _⟩ := ho
    have hm := of_decide_eq_true h2
    refine ⟨hpK m (itW g), oneL 0 errS, 100, .cons (ABeq.row fun j hj => allW_get h1 j hj) .nil, lam1 (c := loopAt 0 Try.f29) (by kernel_rfl) errS_ok, ?_⟩
    show GoodQ (execF Try.prog (ext g0 52 (specR md_ws (FdeNTi yesTi))) (oneL 0 errS) 100 Try.f29 [.sl 0 9 0 0 m none, .v (i64 n)] (hpK m (itW g)) (packK 1)) _
    rw [treeKN, row0, listW_itW]
    exact good_needs (by simp only [ob_cons, ob_nil, and_true, decide_eq_true_eq, Nat.ble_eq, allW_row, true_and]; exact ⟨by omega, by omega, h3⟩) (good_out ⟨_, rfl, rfl, .cons (ABeq.row fun j hj => (allW_get h1 j hj).symm) .nil⟩)
  · cases hF
theorem ok_clS : SpecOk Try.prog 28 (specR md_wv (FclS yesTi clT)) := by
  refine specR_hr gmS2_ok Try.func28 rfl fun sas fr hF ho => ?_
  unfold FclS at hF
  split at hF
  · rename_i m g n
    cases hF
    simp only [ob_cons] at ho
    obtain ⟨h1, h2, _⟩ := ho
    have hm := of_decide_eq_true h2
    have fin : ∀ b, (yesTi (listW (itW g) m) && clT (itW g) m n) = b → GoodQ (.out .ret [.v (.bool b)] [.row false m 9 (row9 (itW g)) 67]) (GivR (abP md_wv [.row m g, .v (.int .i64 n)] []) { val := .v (.bool (yesTi (listW (itW g) m) && clT (itW g) m n)), obl := [allW m g, decide (m ≤ 2 ^ 38)] }) := fun b hb =>
      good_out ⟨_, rfl, by rw [hb], .cons (ABeq.row fun j hj => (allW_get h1 j hj).symm) .nil⟩
    have ey : yesTi (listW (itW g) m) = (okD (listW (itW g) m) && okT (listW (itW g) m)) := by
      have := map_Ti (listW (itW g) m)
      unfold yesTi
      rw [show (listW (itW g) m).map chTi = listW (itW g) m from this]
    have ob : ∀ k : Nat, m ≤ k → obls [Nat.ble (0 + m) m, allW m (row9 (itW g)), decide (m ≤ k)] = true := fun k hk => by
      simp only [ob_cons, ob_nil, and_true, decide_eq_true_eq, Nat.ble_eq, allW_row, true_and]
      omega
    have run : ∀ fs sp, 0 ≤ sp ∧ sp ≤ 24 → ((n ≥ 1 ∧ n ≤ 24) ∧ (Int.tmod 24 n == 0) = true → fs = fsT (tidyL (listW (itW g) m)) ∧ sp = spN n) → GoodQ (execF Try.prog (gmS2 okD tidyL okT) (lamKS m (itW g) fs sp (noneTo (badK (itW g) m fs sp) 24)) 100 Try.f28 [.sl 0 9 0 0 m none, .v (i64 n)] (hpK m (itW g)) (packK 1)) (GivR (abP md_wv [.row m g, .v (.int .i64 n)] []) { val := .v (.bool (yesTi (listW (itW g) m) && clT (itW g) m n)), obl := [allW m g, decide (m ≤ 2 ^ 38)] }) := by
      intro fs sp _ hfs
      rw [treeKS, row0, listW_itW]
      refine good_needs (ob _ (by omega)) (good_cond (fun q => ?_) fun q => ?_)
      · have q' : (!okD (listW (itW g) m)) = true := q
        exact fin false (by rw [ey, show okD (listW (itW g) m) = false by simpa using q']; rfl)
      · have q' : (!okD (listW (itW g) m)) = false := q
        have qd : okD (listW (itW g) m) = true := by simpa using q'
        refine good_needs (ob _ (by omega)) (good_cond (fun q => ?_) fun q => ?_)
        · have q' : (!okT (listW (itW g) m)) = true := q
          exact fin false (by rw [ey, qd, show okT (listW (itW g) m) = false by simpa using q']; rfl)
        · have q' : (!okT (listW (itW g) m)) = false := q
          have qt : okT (listW (itW g) m) = true := by simpa using q'
          have ey2 : yesTi (listW (itW g) m) = true := by rw [ey, qd, qt]; rfl
          have e0 : (yesTi (listW (itW g) m) && clT (itW g) m n) = clT (itW g) m n := by rw [ey2, Bool.true_and]
          refine good_cond (fun d1 => ?_) fun d1 => fin false (by rw [e0, clT, closV, d1]; rfl)
          refine good_cond (fun d2 => ?_) fun d2 => fin false (by rw [e0, clT, closV, d1, d2]; rfl)
          have n1 := of_decide_eq_true d1
          have n2 := of_decide_eq_true d2
          have en : (!decide (n = 0)) = true := by
            rw [decide_eq_false (by omega)]
            rfl
          refine good_needs (by rw [ob_cons]; exact ⟨en, rfl⟩) (good_cond (fun d3 => ?_) fun d3 => ?_)
          · have d3' : (!(Int.tmod 24 n == 0)) = true := d3
            exact fin false (by rw [e0, clT, closV, d1, d2, show (Int.tmod 24 n == 0) = false by simpa using d3']; rfl)
          · have d3' : (!(Int.tmod 24 n == 0)) = false := d3
            have n3 : (Int.tmod 24 n == 0) = true := by
              cases h : (Int.tmod 24 n == 0) with
              | true => rfl
              | false => rw [h] at d3'; cases d3'
            obtain ⟨rfl, rfl⟩ := hfs ⟨⟨n1, n2⟩, n3⟩
            have ec : (yesTi (listW (itW g) m) && clT (itW g) m n) = noneTo (badK (itW g) m (fsT (tidyL (listW (itW g) m))) (spN n)) 24 := by
              rw [e0, clT, closV, d1, d2, n3]
              rfl
            refine good_cond (fun q => ?_) fun q => ?_
            · have q' := of_decide_eq_true q
              have ef : fsT (tidyL (listW (itW g) m)) = wfun (tidyL (listW (itW g) m)) 0 0 := by unfold fsT; rw [q]; rfl
              refine good_needs ?_ (good_cond (fun q2 => fin true (ec.trans q2)) fun q2 => fin false (ec.trans q2))
              simp only [ob_cons, ob_nil, and_true]
              exact ⟨decide_eq_true (by omega), decide_eq_true (by omega), en, chk_of ⟨by rw [ef]; rfl, Hsim.refl _⟩⟩
            · have ef : fsT (tidyL (listW (itW g) m)) = 0 := by unfold fsT; rw [q]; rfl
              refine good_needs ?_ (good_cond (fun q2 => fin true (ec.trans q2)) fun q2 => fin false (ec.trans q2))
              simp only [ob_cons, ob_nil, and_true]
              exact ⟨en, chk_of ⟨by rw [ef]; rfl, Hsim.refl _⟩⟩
    by_cases hn : n ≥ 1 ∧ n ≤ 24
    · exact ⟨hpK m (itW g), _, 100, .cons (ABeq.row fun j hj => allW_get h1 j hj) .nil, lam1 (by kernel_rfl) (sumKS m (itW g) (fsT (tidyL (listW (itW g) m))) (spN n) hm (spN_in hn.1 hn.2)), run _ _ (spN_in hn.1 hn.2) fun _ => ⟨rfl, rfl⟩⟩
    · exact ⟨hpK m (itW g), _, 100, .cons (ABeq.row fun j hj => allW_get h1 j hj) .nil, lam1 (by kernel_rfl) (sumKS m (itW g) 0 0 hm ⟨by omega, by omega⟩), run _ _ ⟨by omega, by omega⟩ fun h => (hn h.1).elim⟩
  · cases hF

theorem lawYCl (yes : List Wh → Bool) (cl : (Nat → Nat → Int) → Nat → Int → Bool) (m : Nat) (f : Nat → Nat → Int) (t : TypeId) (x : Int) : execF Try.prog (ext (ext gmH 28 (specR md_wv (FclS yes cl))) 29 (specR md_wv (FclY yes cl))) noLam 100 Try.f7 [.sl 0 9 0 0 m none, .v (i64 x)] [.row false m 9 (row9 f) t] (packK 1)
    = bif decide (IntKind.wrap IntKind.i64 ((1048576 : Int) - (↑m : Int)) < (0 : Int)) then Res.out Ex.ret [AV.v (Value.bool true)] [AB.row false m (9 : Nat) (row9 f) t] else bif decide (IntKind.wrap IntKind.i64 ((1048576 : Int) - (↑m : Int)) < (0 : Int)) then Res.out Ex.ret [AV.v (Value.bool true)] [AB.row false m (9 : Nat) (row9 f) t] else needs [Nat.ble ((0 : Nat) + m) m, allW m fun q ↦ row9 f ((0 : Nat) + q), decide (m ≤ (549755813888 : Nat)), Nat.ble m m, allW m (row9 (itW fun q ↦ row9 f ((0 : Nat) + q))), decide (m ≤ (274877906944 : Nat)), Nat.ble ((0 : Nat) + m) m, allW m fun q ↦ row9 f ((0 : Nat) + q), decide (m ≤ (549755813888 : Nat)), Nat.ble m m, allW m (row9 (itW fun q ↦ row9 f ((0 : Nat) + q))), decide (m ≤ (274877906944 : Nat)), yes (listW (itW (row9 (itW fun q ↦ row9 f ((0 : Nat) + q)))) m)] (bif !cl (itW (row9 (itW fun q ↦ row9 f ((0 : Nat) + q)))) m x == (yes (listW (itW (row9 (itW fun q ↦ row9 f ((0 : Nat) + q)))) m) && cl (itW (row9 (itW fun q ↦ row9 f ((0 : Nat) + q)))) m x) then Res.out Ex.ret [AV.v (Value.bool false)] [AB.row false m (9 : Nat) (row9 f) t] else needs [Nat.ble ((0 : Nat) + m) m, allW m fun q ↦ row9 f ((0 : Nat) + q), decide (m ≤ (549755813888 : Nat)), Nat.ble m m, Nat.ble m m, Nat.beq m m, allW m (row9 (itW fun q ↦ row9 f ((0 : Nat) + q))), allW m (row9 (itW fun q ↦ row9 f ((0 : Nat) + q))), sameW m (itW (row9 (itW fun q ↦ row9 f ((0 : Nat) + q)))) (itW (row9 (itW fun q ↦ row9 f ((0 : Nat) + q)))), decide (m ≤ (1099511627776 : Nat))] (Res.out Ex.ret [AV.v (Value.bool true)] [AB.row false m (9 : Nat) (row9 f) t])) := by kernel_rfl

theorem lawNCl (yes : List Wh → Bool) (cl : (Nat → Nat → Int) → Nat → Int → Bool) (m : Nat) (f : Nat → Nat → Int) (t : TypeId) (x : Int) : execF Try.prog (ext (ext gmH 28 (specR md_wv (FclS yes cl))) 29 (specR md_wv (FclN yes))) noLam 100 Try.f7 [.sl 0 9 0 0 m none, .v (i64 x)] [.row false m 9 (row9 f) t] (packK 1)
    = bif decide (IntKind.wrap IntKind.i64 ((1048576 : Int) - (↑m : Int)) < (0 : Int)) then Res.out Ex.ret [AV.v (Value.bool true)] [AB.row false m (9 : Nat) (row9 f) t] else bif decide (IntKind.wrap IntKind.i64 ((1048576 : Int) - (↑m : Int)) < (0 : Int)) then Res.out Ex.ret [AV.v (Value.bool true)] [AB.row false m (9 : Nat) (row9 f) t] else needs [Nat.ble ((0 : Nat) + m) m, allW m fun q ↦ row9 f ((0 : Nat) + q), decide (m ≤ (549755813888 : Nat)), Nat.ble m m, allW m (row9 (itW fun q ↦ row9 f ((0 : Nat) + q))), decide (m ≤ (274877906944 : Nat)), Nat.ble ((0 : Nat) + m) m, allW m fun q ↦ row9 f ((0 : Nat) + q), decide (m ≤ (549755813888 : Nat)), Nat.ble m m, allW m (row9 (itW fun q ↦ row9 f ((0 : Nat) + q))), decide (m ≤ (274877906944 : Nat)), !yes (listW (itW (row9 (itW fun q ↦ row9 f ((0 : Nat) + q)))) m)] (bif !false == (yes (listW (itW (row9 (itW fun q ↦ row9 f ((0 : Nat) + q)))) m) && cl (itW (row9 (itW fun q ↦ row9 f ((0 : Nat) + q)))) m x) then Res.out Ex.ret [AV.v (Value.bool false)] [AB.row false m (9 : Nat) (row9 f) t] else needs [Nat.ble ((0 : Nat) + m) m, allW m fun q ↦ row9 f ((0 : Nat) + q), decide (m ≤ (549755813888 : Nat)), Nat.ble m m, Nat.ble m m, Nat.beq m m, allW m (row9 (itW fun q ↦ row9 f ((0 : Nat) + q))), allW m (row9 (itW fun q ↦ row9 f ((0 : Nat) + q))), sameW m (itW (row9 (itW fun q ↦ row9 f ((0 : Nat) + q)))) (itW (row9 (itW fun q ↦ row9 f ((0 : Nat) + q)))), decide (m ≤ (1099511627776 : Nat))] (Res.out Ex.ret [AV.v (Value.bool true)] [AB.row false m (9 : Nat) (row9 f) t])) := by kernel_rfl

theorem yes_closed (m : Nat) (f : Nat → Nat → Int) (t : TypeId) (x : Int) (hm : m ≤ 9223372036854775807) : ∃ Γ, GamOk Try.prog Γ ∧ GoodQ (execF Try.prog Γ noLam 100 Try.f7 [.sl 0 9 0 0 m none, .v (i64 x)] [.row false m 9 (row9 f) t] (packK 1)) SaysYes := by
  have e1 : IntKind.wrap IntKind.i64 ((1048576 : Int) - (m : Int)) = 1048576 - m := wr_in (by omega)
  have gS : GamOk Try.prog (ext gmH 28 (specR md_wv (FclS yesTi clT))) := ext_ok gmH_ok ok_clS
  have gY : GamOk Try.prog (ext (ext gmH 28 (specR md_wv (FclS yesTi clT))) 29 (specR md_wv (FclY yesTi clT))) := ext_ok gS ok_clY
  have gN : GamOk Try.prog (ext (ext gmH 28 (specR md_wv (FclS yesTi clT))) 29 (specR md_wv (FclN yesTi))) := ext_ok gS ok_clN
  by_cases hb : m ≤ 1048576
  · have c1 : decide ((1048576 : Int) - m < 0) = false := decide_eq_false (by omega)
    have b40 : decide (m ≤ 1099511627776) = true := decide_eq_true (by omega)
    have b39 : decide (m ≤ 549755813888) = true := decide_eq_true (by omega)
    have b38 : decide (m ≤ 274877906944) = true := decide_eq_true (by omega)
    cases hv : yesTi (listW f m) with
    | true =>
      refine ⟨_, gY, ?_⟩
      rw [lawYCl]
      simp only [row0, row9_itW, listW_itW, hv, e1, c1, b40, b39, b38, allW_row, sameW_self, sameW_row, ble_me, beq_me, needs_t, needs_nil, cond_true, cond_false, Nat.zero_add, bne_self_eq_false, beq_self_eq_true, Bool.not_true, Bool.true_and]
      exact good_out rfl
    | false =>
      refine ⟨_, gN, ?_⟩
      rw [lawNCl]
      simp only [row0, row9_itW, listW_itW, hv, e1, c1, b40, b39, b38, allW_row, sameW_self, sameW_row, ble_me, beq_me, needs_t, needs_nil, cond_true, cond_false, Nat.zero_add, bne_self_eq_false, beq_self_eq_true, Bool.not_true, Bool.not_false, Bool.false_and]
      exact good_out rfl
  · refine ⟨_, gN, ?_⟩
    rw [lawNCl, e1, show decide ((1048576 : Int) - m < 0) = true from decide_eq_true (by omega)]
    exact good_out rfl

end Go.Proofs.Ytnlfdcjpeoafhaa
