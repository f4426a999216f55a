/- Designs of rows go through the row: FnRowDesign returns true, whatever the bytes are, and they read as before. No conditions. -/
import Derived.Test.YtmdcafhnjihckaaZD0
import Derived.Test.YtmdcafhnjihckaaZD1
import Derived.Test.YtmdcafhnjihckaaZD2
import Derived.Test.YtmdcafhnjihckaaZD3
import Derived.Test.YtmdcafhnjihckaaZD4
import Derived.Test.YtmdcafhnjihckaaZD5
import Derived.Test.YtmdcafhnjihckaaZD6
import Derived.Test.YtmdcafhnjihckaaZKRd0
/- Products of designs: CycTimes of both, DesignTimes of both: trees. Conditions: two lists of wheels. -/
namespace Go.Proofs.Ytmdcafhnjihckaa
open Go.RowKit
set_option maxRecDepth 100000

def gmCT (ok : (Nat → Int) → Bool) (mul : (Nat → Int) → (Nat → Int) → Nat → Int) : Gam := ext (ext g0 66 (specV (fOkc ok))) 127 (specV (fAdd2 mul))
/-- The product of two points, if they and it are valid. -/
def FctO (pr : (Nat → Int) → (Nat → Int) → Nat → Int) (ok : (Nat → Int) → (Nat → Int) → Bool) : List SA → Option FR
  | [.v (.agg ⟨[.int .i64 a0, .int .i64 a1, .int .i64 a2, .int .i64 a3, .int .i64 a4, .int .i64 a5, .int .i64 a6, .int .i64 a7]⟩), .v (.agg ⟨[.int .i64 b0, .int .i64 b1, .int .i64 b2, .int .i64 b3, .int .i64 b4, .int .i64 b5, .int .i64 b6, .int .i64 b7]⟩)] => some { val := .tup [.agg (cyC (pr (v8 a0 a1 a2 a3 a4 a5 a6 a7) (v8 b0 b1 b2 b3 b4 b5 b6 b7))), .v (.bool (ok (v8 a0 a1 a2 a3 a4 a5 a6 a7) (v8 b0 b1 b2 b3 b4 b5 b6 b7)))] }
  | _ => none
abbrev lvT2 : Ex → List Nat := lv3 [1, 6, 8, 22, 23, 24, 28, 29, 30] [1, 6, 22, 23, 24] [4, 5]
abbrev stT2 (m n k i j : Nat) : List AV := [.sl 1 9 0 0 n none, .own 2 k, .ptr 3 0 0 0, .sl 0 9 0 0 m none, .v (i64 m), .v (i64 i), .sl 1 9 0 0 n none, .v (i64 n), .v (i64 j)]
abbrev hpT0 (m : Nat) (f : Nat → Nat → Int) (n : Nat) (g : Nat → Nat → Int) (k : Nat) (h : Nat → Nat → Int) : List AB := [.row false m 9 (row9 f) 46, .row false n 9 (row9 g) 46, .row true k 9 (row9 h) 46]
abbrev hpT2 (m : Nat) (f : Nat → Nat → Int) (n : Nat) (g : Nat → Nat → Int) (k : Nat) (h : Nat → Nat → Int) (x : Nat → Int) : List AB := [.row false m 9 (row9 f) 46, .row false n 9 (row9 g) 46, .row true k 9 (row9 h) 46, .cells [.v (i64 (x 0)), .v (i64 (x 1)), .v (i64 (x 2)), .v (i64 (x 3)), .v (i64 (x 4)), .v (i64 (x 5)), .v (i64 (x 6)), .v (i64 (x 7)), .v (i64 (x 8))] 46]
abbrev hpTr (m : Nat) (f : Nat → Nat → Int) (n : Nat) (g : Nat → Nat → Int) : List AB := [.row false m 9 (row9 f) 46, .row false n 9 (row9 g) 46]
abbrev lvT0 : Ex → List Nat := lv3 [1, 6, 22, 23, 24] [6] [4, 5]
abbrev stT0 (m n k i : Nat) : List AV := [.sl 1 9 0 0 n none, .own 2 k, .sl 0 9 0 0 m none, .v (i64 m), .v (i64 i)]
noncomputable abbrev lamT2 (m : Nat) (f : Nat → Nat → Int) (n : Nat) (g : Nat → Nat → Int) (k : Nat) (h : Nat → Nat → Int) (x : Nat → Int) (i : Nat) (c : Bool) (k2 : Nat) (h2 : Nat → Nat → Int) : Nat → Option Sum := oneL 2 (atS 60 (lvT2 .normal) 2 (stT2 m n k i 0) (hpT2 m f n g k h x) (fun K => cond c (K .normal (mkT 0 60 ([1, 6, 22, 23, 24].zip (stT0 m n k2 i))) (hpT0 m f n g k2 h2)) (K .ret (mkT 0 60 [(4, .v (.slice none 0 0)), (5, .v (.bool false))]) (hpTr m f n g))))
noncomputable abbrev lamT0 (m : Nat) (f : Nat → Nat → Int) (n : Nat) (g : Nat → Nat → Int) (c : Bool) (k : Nat) (h : Nat → Nat → Int) : Nat → Option Sum := oneL 0 (atS 60 (lvT0 .normal) 2 (stT0 m n 0 0) (hpT0 m f n g 0 (wfun [])) (fun K => cond c (K .normal (mkT 0 60 [(6, .own 2 k)]) (hpT0 m f n g k h)) (K .ret (mkT 0 60 [(4, .v (.slice none 0 0)), (5, .v (.bool false))]) (hpTr m f n g))))
abbrev lvS2 : Ex → List Nat := lv3 [0, 1, 6, 7, 8] [0, 1, 6, 7] [4, 5]
abbrev stS2 (m n k i j : Nat) : List AV := [.sl 0 9 0 0 m none, .sl 1 9 0 0 n none, .own 2 k, .v (i64 i), .v (i64 j)]
abbrev lvS0 : Ex → List Nat := lv3 [0, 1, 6, 7] [6] [4, 5]
abbrev stS0 (m n k i : Nat) : List AV := [.sl 0 9 0 0 m none, .sl 1 9 0 0 n none, .own 2 k, .v (i64 i)]
abbrev hpSr (m : Nat) (f : Nat → Nat → Int) (n : Nat) (g : Nat → Nat → Int) : List AB := hpT0 m f n g 0 (wfun [])
noncomputable abbrev lamS2 (m : Nat) (f : Nat → Nat → Int) (n : Nat) (g : Nat → Nat → Int) (k : Nat) (h : Nat → Nat → Int) (i : Nat) (c : Bool) (k2 : Nat) (h2 : Nat → Nat → Int) : Nat → Option Sum := oneL 2 (atS 70 (lvS2 .normal) 2 (stS2 m n k i 0) (hpT0 m f n g k h) (fun K => cond c (K .normal (mkT 0 70 ([0, 1, 6, 7].zip (stS0 m n k2 i))) (hpT0 m f n g k2 h2)) (K .ret (mkT 0 70 [(4, .own 2 0), (5, .v (.bool false))]) (hpSr m f n g))))
noncomputable abbrev lamS0 (m : Nat) (f : Nat → Nat → Int) (n : Nat) (g : Nat → Nat → Int) (c : Bool) (k : Nat) (h : Nat → Nat → Int) : Nat → Option Sum := oneL 0 (atS 70 (lvS0 .normal) 2 (stS0 m n 0 0) (hpT0 m f n g 0 (wfun [])) (fun K => cond c (K .normal (mkT 0 70 [(6, .own 2 k)]) (hpT0 m f n g k h)) (K .ret (mkT 0 70 [(4, .own 2 0), (5, .v (.bool false))]) (hpSr m f n g))))
def gmS2 (okd : List Wh → Bool) (ti : List Wh → List Wh) (okt : List Wh → Bool) : Gam := ext (ext g0 61 (specR md_ws (FdvO okd))) 62 (specR md_ws (FtidyO ti okt))
end Go.Proofs.Ytmdcafhnjihckaa

/- Products of designs: CycTimes of both, DesignTimes of both. Conditions: two lists of wheels. -/
namespace Go.Proofs.Ytmdcafhnjihckaa
open Go.RowKit
set_option maxRecDepth 100000

def okM (a b : Nat → Int) : Bool := (cyOk (cyOf a) && cyOk (cyOf b)) && cyOk (cyOf (mulF a b))
def prF (a b : Nat → Int) : Nat → Int := bif okM a b then mulF a b else fun _ => 0
theorem gmCT_ok : GamOk Try.prog (gmCT (fun v => cyOk (cyOf v)) mulF) := by
  have e3 : fAdd2 mulF = f_times := by funext l; rfl
  unfold gmCT
  rw [fOkc_eq, e3]
  exact ext_ok (ext_ok g0_ok ok_cvI) ok_times
/-- The product of two wheels. -/
def prodW (x y : Wh) : Wh := ⟨IntKind.wrap IntKind.i64 (x.s + y.s), cyOf (prF x.r.f y.r.f)⟩
def okW2 (x y : Wh) : Bool := okM x.r.f y.r.f
def prodL (A B : List Wh) : List Wh := A.flatMap fun x => B.map (prodW x)
def okAll (A B : List Wh) : Bool := A.all fun x => B.all (okW2 x)
theorem prodL_snoc (A B : List Wh) (x : Wh) : prodL (A ++ [x]) B = prodL A B ++ B.map (prodW x) := by simp [prodL]
theorem okAll_snoc (A B : List Wh) (x : Wh) : okAll (A ++ [x]) B = (okAll A B && B.all (okW2 x)) := by simp [okAll]
theorem prodL_length (A B : List Wh) : (prodL A B).length = A.length * B.length := by
  induction A with
  | nil => simp [prodL]
  | cons x A ih =>
    have : prodL (x :: A) B = B.map (prodW x) ++ prodL A B := rfl
    rw [this, List.length_append, List.length_map, ih, List.length_cons, Nat.add_mul, Nat.one_mul, Nat.add_comm]
theorem prodL_in (A B : List Wh) : inW (prodL A B) := by
  intro w hw
  simp only [prodL, List.mem_flatMap, List.mem_map] at hw
  obtain ⟨x, _, y, _, rfl⟩ := hw
  refine cyOf_in fun k _ => ?_
  unfold prF
  cases okM x.r.f y.r.f with
  | true => exact w64_range _
  | false => show (-9223372036854775808 : Int) ≤ 0 ∧ (0 : Int) ≤ 9223372036854775807; omega
theorem okAll_no {A B : List Wh} {i : Nat} {f : Nat → Nat → Int} {m : Nat} (hA : A = listW f m) (hi : i < m) (h : B.all (okW2 (whOf (f i))) = false) : okAll A B = false := by
  subst hA
  cases e : okAll (listW f m) B with
  | false => rfl
  | true =>
    have := List.all_eq_true.1 e (whOf (f i)) (List.mem_of_getElem? (listW_get f hi))
    rw [h] at this
    cases this
theorem all_no {g : Nat → Nat → Int} {n j : Nat} {p : Wh → Bool} (hj : j < n) (h : p (whOf (g j)) = false) : (listW g n).all p = false := by
  cases e : (listW g n).all p with
  | false => rfl
  | true =>
    have := List.all_eq_true.1 e (whOf (g j)) (List.mem_of_getElem? (listW_get g hj))
    rw [h] at this
    cases this
end Go.Proofs.Ytmdcafhnjihckaa

/- DesignTimes of both. Conditions: two lists of wheels. -/
namespace Go.Proofs.Ytmdcafhnjihckaa
open Go.RowKit
set_option maxRecDepth 100000

/-- The lists are designs, and their product too. -/
def tmP (A B : List Wh) : Bool := (okD A && okD B) && okAll A B
def yesTm (A B : List Wh) : Bool := tmP A B && okT (prodL A B)
def tmT (A B : List Wh) : List Wh := tidyL (prodL A B)
def tmL (A B : List Wh) : List Wh := bif tmP A B then tidyL (prodL A B) else []
def FtmY (yes : List Wh → List Wh → Bool) (tt : List Wh → List Wh → List Wh) : List SA → Option FR
  | [.row m ga, .row n gb] => some { val := valY (tt (listW (itW ga) m) (listW (itW gb) n)), new := newY (tt (listW (itW ga) m) (listW (itW gb) n)), obl := [allW m ga, allW n gb, decide (m ≤ 2 ^ 38), decide (n ≤ 2 ^ 38), yes (listW (itW ga) m) (listW (itW gb) n)] }
  | _ => none
def FtmN (yes : List Wh → List Wh → Bool) : List SA → Option FR
  | [.row m ga, .row n gb] => some { val := valN, obl := [allW m ga, allW n gb, decide (m ≤ 2 ^ 38), decide (n ≤ 2 ^ 38), !yes (listW (itW ga) m) (listW (itW gb) n)] }
  | _ => none
def FtmS (ok : List Wh → List Wh → Bool) (tl : List Wh → List Wh → List Wh) : List SA → Option FR
  | [.row m ga, .row n gb] => some { val := .tup [.own 0 (tl (listW (itW ga) m) (listW (itW gb) n)).length, .v (.bool (ok (listW (itW ga) m) (listW (itW gb) n)))], new := [.row true (tl (listW (itW ga) m) (listW (itW gb) n)).length 9 (row9 (wfun (tl (listW (itW ga) m) (listW (itW gb) n)))) 46], obl := [allW m ga, allW n gb, decide (m ≤ 2 ^ 38), decide (n ≤ 2 ^ 38)] }
  | _ => none
theorem gmS2_ok : GamOk Try.prog (gmS2 okD tidyL okT) := by
  unfold gmS2
  rw [FtidyO_eq, FdvO_eq]
  exact ext_ok (ext_ok g0_ok ok_dv) ok_tidyS

end Go.Proofs.Ytmdcafhnjihckaa

/- RowDesign of both: trees. Conditions: a row of points. -/
namespace Go.Proofs.Ytmdcafhnjihckaa
open Go.RowKit
set_option maxRecDepth 100000

noncomputable abbrev fRdI : Func := Try.f29
noncomputable abbrev fRdS : Func := Try.f30
abbrev lvRdI : Ex → List Nat := lv3 [4, 7, 26, 27, 28] [7] [2, 3]
abbrev stRdI (m q i : Nat) : List AV := [.v (i64 m), .own 1 i, .sl 2 8 0 0 q none, .v (i64 q), .v (i64 i)]
abbrev hpRdI (m : Nat) (f : Nat → Nat → Int) (q : Nat) (c : Nat → Nat → Int) (i : Nat) (h : Nat → Nat → Int) : List AB := [.row false m 8 (row8 f) 31, .row true i 9 (row9 h) 46, .row false q 8 (row8 c) 31]
abbrev hpRdX (m : Nat) (f : Nat → Nat → Int) (q : Nat) (h : Nat → Nat → Int) : List AB := [.row false m 8 (row8 f) 31, .row true q 9 (row9 h) 46]
theorem rndRdI (m : Nat) (f : Nat → Nat → Int) (q : Nat) (c : Nat → Nat → Int) (h : Nat → Nat → Int) (i : Nat) : execC Try.prog g0 100 noLam (loopAt 0 fRdI) (mkT 0 52 ((lvRdI .normal).zip (stRdI m q i))) (hpRdI m f q c i h) (leafV 52 lvRdI 1)
    = bif decide ((↑i : Int) < (↑q : Int)) then needs [decide ((↑i : Int) < (↑q : Int)), decide ((0 : Nat) + Int.toNat (↑i : Int) < q)] (bif decide (IntKind.wrap IntKind.i64 ((2 : Int) * (↑i : Int)) > (↑m : Int)) then needs [Nat.ble i i, Nat.ble (i + (1 : Nat)) (549755813888 : Nat)] (Res.out Ex.normal [AV.v (Value.int IntKind.i64 (↑m : Int)), AV.own (1 : Nat) (i + (1 : Nat)), AV.sl (2 : Nat) (8 : Nat) (0 : Nat) (0 : Nat) q none, AV.v (Value.int IntKind.i64 (↑q : Int)), AV.v (Value.int IntKind.i64 (IntKind.wrap IntKind.i64 ((↑i : Int) + (1 : Int))))] [AB.row false m (8 : Nat) (row8 f) (31 : TypeId), AB.row true (i + (1 : Nat)) (9 : Nat) (fun q ↦ [Value.int IntKind.i64 (bif Nat.blt q i then h q (0 : Nat) else IntKind.wrap IntKind.i64 ((↑i : Int) - (↑m : Int))), Value.int IntKind.i64 (bif Nat.blt q i then h q (1 : Nat) else c ((0 : Nat) + Int.toNat (↑i : Int)) (0 : Nat)), Value.int IntKind.i64 (bif Nat.blt q i then h q (2 : Nat) else c ((0 : Nat) + Int.toNat (↑i : Int)) (1 : Nat)), Value.int IntKind.i64 (bif Nat.blt q i then h q (3 : Nat) else c ((0 : Nat) + Int.toNat (↑i : Int)) (2 : Nat)), Value.int IntKind.i64 (bif Nat.blt q i then h q (4 : Nat) else c ((0 : Nat) + Int.toNat (↑i : Int)) (3 : Nat)), Value.int IntKind.i64 (bif Nat.blt q i then h q (5 : Nat) else c ((0 : Nat) + Int.toNat (↑i : Int)) (4 : Nat)), Value.int IntKind.i64 (bif Nat.blt q i then h q (6 : Nat) else c ((0 : Nat) + Int.toNat (↑i : Int)) (5 : Nat)), Value.int IntKind.i64 (bif Nat.blt q i then h q (7 : Nat) else c ((0 : Nat) + Int.toNat (↑i : Int)) (6 : Nat)), Value.int IntKind.i64 (bif Nat.blt q i then h q (8 : Nat) else c ((0 : Nat) + Int.toNat (↑i : Int)) (7 : Nat))]) (46 : Nat), AB.row false q (8 : Nat) (row8 c) (31 : TypeId)]) else needs [Nat.ble i i, Nat.ble (i + (1 : Nat)) (549755813888 : Nat)] (Res.out Ex.normal [AV.v (Value.int IntKind.i64 (↑m : Int)), AV.own (1 : Nat) (i + (1 : Nat)), AV.sl (2 : Nat) (8 : Nat) (0 : Nat) (0 : Nat) q none, AV.v (Value.int IntKind.i64 (↑q : Int)), AV.v (Value.int IntKind.i64 (IntKind.wrap IntKind.i64 ((↑i : Int) + (1 : Int))))] [AB.row false m (8 : Nat) (row8 f) (31 : TypeId), AB.row true (i + (1 : Nat)) (9 : Nat) (fun q ↦ [Value.int IntKind.i64 (bif Nat.blt q i then h q (0 : Nat) else (↑i : Int)), Value.int IntKind.i64 (bif Nat.blt q i then h q (1 : Nat) else c ((0 : Nat) + Int.toNat (↑i : Int)) (0 : Nat)), Value.int IntKind.i64 (bif Nat.blt q i then h q (2 : Nat) else c ((0 : Nat) + Int.toNat (↑i : Int)) (1 : Nat)), Value.int IntKind.i64 (bif Nat.blt q i then h q (3 : Nat) else c ((0 : Nat) + Int.toNat (↑i : Int)) (2 : Nat)), Value.int IntKind.i64 (bif Nat.blt q i then h q (4 : Nat) else c ((0 : Nat) + Int.toNat (↑i : Int)) (3 : Nat)), Value.int IntKind.i64 (bif Nat.blt q i then h q (5 : Nat) else c ((0 : Nat) + Int.toNat (↑i : Int)) (4 : Nat)), Value.int IntKind.i64 (bif Nat.blt q i then h q (6 : Nat) else c ((0 : Nat) + Int.toNat (↑i : Int)) (5 : Nat)), Value.int IntKind.i64 (bif Nat.blt q i then h q (7 : Nat) else c ((0 : Nat) + Int.toNat (↑i : Int)) (6 : Nat)), Value.int IntKind.i64 (bif Nat.blt q i then h q (8 : Nat) else c ((0 : Nat) + Int.toNat (↑i : Int)) (7 : Nat))]) (46 : Nat), AB.row false q (8 : Nat) (row8 c) (31 : TypeId)])) else Res.out (Ex.exit (0 : Nat)) [AV.own (1 : Nat) i] [AB.row false m (8 : Nat) (row8 f) (31 : TypeId), AB.row true i (9 : Nat) (row9 h) (46 : TypeId)] := by kernel_rfl

abbrev lvRdS : Ex → List Nat := lv3 [4, 5, 6, 8] [4] [2, 3]
abbrev stRdS (m q i : Nat) : List AV := [.own 1 i, .v (i64 m), .own 2 q, .v (i64 i)]
abbrev hpRdS (m : Nat) (f : Nat → Nat → Int) (q : Nat) (c : Nat → Nat → Int) (i : Nat) (h : Nat → Nat → Int) : List AB := [.row false m 8 (row8 f) 31, .row true i 9 (row9 h) 46, .row true q 8 (row8 c) 31]
theorem rndRdS (m : Nat) (f : Nat → Nat → Int) (q : Nat) (c : Nat → Nat → Int) (h : Nat → Nat → Int) (i : Nat) : execC Try.prog g0 100 noLam (loopAt 0 fRdS) (mkT 0 51 ((lvRdS .normal).zip (stRdS m q i))) (hpRdS m f q c i h) (leafV 51 lvRdS 1)
    = bif decide ((↑i : Int) < (↑m : Int)) then bif decide (IntKind.wrap IntKind.i64 ((2 : Int) * (↑i : Int)) > (↑m : Int)) then needs [decide ((↑i : Int) < (↑q : Int)), decide (Int.toNat (↑i : Int) < q), Nat.ble i i, Nat.ble (i + (1 : Nat)) (549755813888 : Nat)] (Res.out Ex.normal [AV.own (1 : Nat) (i + (1 : Nat)), AV.v (Value.int IntKind.i64 (↑m : Int)), AV.own (2 : Nat) q, AV.v (Value.int IntKind.i64 (IntKind.wrap IntKind.i64 ((↑i : Int) + (1 : Int))))] [AB.row false m (8 : Nat) (row8 f) (31 : TypeId), AB.row true (i + (1 : Nat)) (9 : Nat) (fun q ↦ [Value.int IntKind.i64 (bif Nat.blt q i then h q (0 : Nat) else IntKind.wrap IntKind.i64 ((↑i : Int) - (↑m : Int))), Value.int IntKind.i64 (bif Nat.blt q i then h q (1 : Nat) else c (Int.toNat (↑i : Int)) (0 : Nat)), Value.int IntKind.i64 (bif Nat.blt q i then h q (2 : Nat) else c (Int.toNat (↑i : Int)) (1 : Nat)), Value.int IntKind.i64 (bif Nat.blt q i then h q (3 : Nat) else c (Int.toNat (↑i : Int)) (2 : Nat)), Value.int IntKind.i64 (bif Nat.blt q i then h q (4 : Nat) else c (Int.toNat (↑i : Int)) (3 : Nat)), Value.int IntKind.i64 (bif Nat.blt q i then h q (5 : Nat) else c (Int.toNat (↑i : Int)) (4 : Nat)), Value.int IntKind.i64 (bif Nat.blt q i then h q (6 : Nat) else c (Int.toNat (↑i : Int)) (5 : Nat)), Value.int IntKind.i64 (bif Nat.blt q i then h q (7 : Nat) else c (Int.toNat (↑i : Int)) (6 : Nat)), Value.int IntKind.i64 (bif Nat.blt q i then h q (8 : Nat) else c (Int.toNat (↑i : Int)) (7 : Nat))]) (46 : Nat), AB.row true q (8 : Nat) (row8 c) (31 : TypeId)]) else needs [decide ((↑i : Int) < (↑q : Int)), decide (Int.toNat (↑i : Int) < q), Nat.ble i i, Nat.ble (i + (1 : Nat)) (549755813888 : Nat)] (Res.out Ex.normal [AV.own (1 : Nat) (i + (1 : Nat)), AV.v (Value.int IntKind.i64 (↑m : Int)), AV.own (2 : Nat) q, AV.v (Value.int IntKind.i64 (IntKind.wrap IntKind.i64 ((↑i : Int) + (1 : Int))))] [AB.row false m (8 : Nat) (row8 f) (31 : TypeId), AB.row true (i + (1 : Nat)) (9 : Nat) (fun q ↦ [Value.int IntKind.i64 (bif Nat.blt q i then h q (0 : Nat) else (↑i : Int)), Value.int IntKind.i64 (bif Nat.blt q i then h q (1 : Nat) else c (Int.toNat (↑i : Int)) (0 : Nat)), Value.int IntKind.i64 (bif Nat.blt q i then h q (2 : Nat) else c (Int.toNat (↑i : Int)) (1 : Nat)), Value.int IntKind.i64 (bif Nat.blt q i then h q (3 : Nat) else c (Int.toNat (↑i : Int)) (2 : Nat)), Value.int IntKind.i64 (bif Nat.blt q i then h q (4 : Nat) else c (Int.toNat (↑i : Int)) (3 : Nat)), Value.int IntKind.i64 (bif Nat.blt q i then h q (5 : Nat) else c (Int.toNat (↑i : Int)) (4 : Nat)), Value.int IntKind.i64 (bif Nat.blt q i then h q (6 : Nat) else c (Int.toNat (↑i : Int)) (5 : Nat)), Value.int IntKind.i64 (bif Nat.blt q i then h q (7 : Nat) else c (Int.toNat (↑i : Int)) (6 : Nat)), Value.int IntKind.i64 (bif Nat.blt q i then h q (8 : Nat) else c (Int.toNat (↑i : Int)) (7 : Nat))]) (46 : Nat), AB.row true q (8 : Nat) (row8 c) (31 : TypeId)]) else Res.out (Ex.exit (0 : Nat)) [AV.own (1 : Nat) i] [AB.row false m (8 : Nat) (row8 f) (31 : TypeId), AB.row true i (9 : Nat) (row9 h) (46 : TypeId)] := by kernel_rfl

noncomputable abbrev lamRdI (m : Nat) (f : Nat → Nat → Int) (q : Nat) (c : Nat → Nat → Int) (h : Nat → Nat → Int) : Nat → Option Sum := oneL 0 (atS 52 (lvRdI .normal) 1 (stRdI m q 0) (hpRdI m f q c 0 fun _ _ => 0) (fun K => K .normal (mkT 0 52 [(7, .own 1 q)]) (hpRdX m f q h)))
noncomputable abbrev lamRdS (m : Nat) (f : Nat → Nat → Int) (q : Nat) (c : Nat → Nat → Int) (h : Nat → Nat → Int) : Nat → Option Sum := oneL 0 (atS 51 (lvRdS .normal) 1 (stRdS m q 0) (hpRdS m f q c 0 fun _ _ => 0) (fun K => K .normal (mkT 0 51 [(4, .own 1 m)]) (hpRdX m f m h)))
def gmRdY (okd : List Wh → Bool) (ti : List Wh → List Wh) (okt inw : List Wh → Bool) (rk : (Nat → Nat → Int) → Nat → Bool) (rt : (Nat → Nat → Int) → Nat → List Cy) : Gam := ext (gmChY okd ti okt inw) 85 (specG md_c8 (UtoO rk rt))
def gmRdN (okd : List Wh → Bool) (okt inw : List Wh → Bool) (rk : (Nat → Nat → Int) → Nat → Bool) (rt : (Nat → Nat → Int) → Nat → List Cy) : Gam := ext (gmChN okd okt inw) 85 (specG md_c8 (UtoO rk rt))
theorem treeRdY (okd : List Wh → Bool) (ti : List Wh → List Wh) (okt inw : List Wh → Bool) (rk : (Nat → Nat → Int) → Nat → Bool) (rt : (Nat → Nat → Int) → Nat → List Cy) (m : Nat) (f : Nat → Nat → Int) (q : Nat) (c : Nat → Nat → Int) (h : Nat → Nat → Int) : execF Try.prog (gmRdY okd ti okt inw rk rt) (lamRdI m f q c h) 100 fRdI [.sl 0 8 0 0 m none] (hpIy m f) (packK 1)
    = needs [Nat.ble ((0 : Nat) + m) m, all8 m fun q ↦ row8 f ((0 : Nat) + q), decide (m ≤ (274877906944 : Nat))] (bif !rk (it8 fun q ↦ row8 f ((0 : Nat) + q)) m then Res.out Ex.ret [AV.tup [AV.v (Value.slice none (0 : Nat) (0 : Nat)), AV.v (Value.bool false)]] [AB.row false m (8 : Nat) (row8 f) (31 : TypeId)] else bif decide ((↑m : Int) > (12 : Int)) then Res.out Ex.ret [AV.tup [AV.v (Value.slice none (0 : Nat) (0 : Nat)), AV.v (Value.bool false)]] [AB.row false m (8 : Nat) (row8 f) (31 : TypeId)] else needs [decide ((↑m : Int) ≤ (1099511627776 : Int)), chk ([AV.v (Value.int IntKind.i64 (↑m : Int)), AV.own (1 : Nat) (0 : Nat), AV.sl (2 : Nat) (8 : Nat) (0 : Nat) (0 : Nat) (List.length (rt (it8 fun q ↦ row8 f ((0 : Nat) + q)) m)) none, AV.v (Value.int IntKind.i64 (↑(List.length (rt (it8 fun q ↦ row8 f ((0 : Nat) + q)) m)) : Int)), AV.v (Value.int IntKind.i64 (0 : Int))] = stRdI m q (0 : Nat) ∧ Hsim [AB.row false m (8 : Nat) (row8 f) (31 : TypeId), AB.row true (0 : Nat) (9 : Nat) (fun _ ↦ [Value.int IntKind.i64 (0 : Int), Value.int IntKind.i64 (0 : Int), Value.int IntKind.i64 (0 : Int), Value.int IntKind.i64 (0 : Int), Value.int IntKind.i64 (0 : Int), Value.int IntKind.i64 (0 : Int), Value.int IntKind.i64 (0 : Int), Value.int IntKind.i64 (0 : Int), Value.int IntKind.i64 (0 : Int)]) (46 : Nat), AB.row false (List.length (rt (it8 fun q ↦ row8 f ((0 : Nat) + q)) m)) (8 : Nat) (row8 (cfun (rt (it8 fun q ↦ row8 f ((0 : Nat) + q)) m))) (31 : TypeId)] (hpRdI m f q c (0 : Nat) fun x x_1 ↦ (0 : Int))), Nat.ble q q, allW q (row9 h), decide (q ≤ (274877906944 : Nat)), inw (listW (itW (row9 h)) q), okt (listW (itW (row9 h)) q)] (Res.out Ex.ret [AV.tup [AV.sl (1 : Nat) (9 : Nat) (0 : Nat) (0 : Nat) (List.length (ti (listW (itW (row9 h)) q))) (some (List.length (ti (listW (itW (row9 h)) q)))), AV.v (Value.bool true)]] [AB.row false m (8 : Nat) (row8 f) (31 : TypeId), AB.row true (List.length (ti (listW (itW (row9 h)) q))) (9 : Nat) (row9 (wfun (ti (listW (itW (row9 h)) q)))) (46 : TypeId)])) := by kernel_rfl

theorem treeRdN (okd : List Wh → Bool) (okt inw : List Wh → Bool) (rk : (Nat → Nat → Int) → Nat → Bool) (rt : (Nat → Nat → Int) → Nat → List Cy) (m : Nat) (f : Nat → Nat → Int) (q : Nat) (c : Nat → Nat → Int) (h : Nat → Nat → Int) : execF Try.prog (gmRdN okd okt inw rk rt) (lamRdI m f q c h) 100 fRdI [.sl 0 8 0 0 m none] (hpIy m f) (packK 1)
    = needs [Nat.ble ((0 : Nat) + m) m, all8 m fun q ↦ row8 f ((0 : Nat) + q), decide (m ≤ (274877906944 : Nat))] (bif !rk (it8 fun q ↦ row8 f ((0 : Nat) + q)) m then Res.out Ex.ret [AV.tup [AV.v (Value.slice none (0 : Nat) (0 : Nat)), AV.v (Value.bool false)]] [AB.row false m (8 : Nat) (row8 f) (31 : TypeId)] else bif decide ((↑m : Int) > (12 : Int)) then Res.out Ex.ret [AV.tup [AV.v (Value.slice none (0 : Nat) (0 : Nat)), AV.v (Value.bool false)]] [AB.row false m (8 : Nat) (row8 f) (31 : TypeId)] else needs [decide ((↑m : Int) ≤ (1099511627776 : Int)), chk ([AV.v (Value.int IntKind.i64 (↑m : Int)), AV.own (1 : Nat) (0 : Nat), AV.sl (2 : Nat) (8 : Nat) (0 : Nat) (0 : Nat) (List.length (rt (it8 fun q ↦ row8 f ((0 : Nat) + q)) m)) none, AV.v (Value.int IntKind.i64 (↑(List.length (rt (it8 fun q ↦ row8 f ((0 : Nat) + q)) m)) : Int)), AV.v (Value.int IntKind.i64 (0 : Int))] = stRdI m q (0 : Nat) ∧ Hsim [AB.row false m (8 : Nat) (row8 f) (31 : TypeId), AB.row true (0 : Nat) (9 : Nat) (fun _ ↦ [Value.int IntKind.i64 (0 : Int), Value.int IntKind.i64 (0 : Int), Value.int IntKind.i64 (0 : Int), Value.int IntKind.i64 (0 : Int), Value.int IntKind.i64 (0 : Int), Value.int IntKind.i64 (0 : Int), Value.int IntKind.i64 (0 : Int), Value.int IntKind.i64 (0 : Int), Value.int IntKind.i64 (0 : Int)]) (46 : Nat), AB.row false (List.length (rt (it8 fun q ↦ row8 f ((0 : Nat) + q)) m)) (8 : Nat) (row8 (cfun (rt (it8 fun q ↦ row8 f ((0 : Nat) + q)) m))) (31 : TypeId)] (hpRdI m f q c (0 : Nat) fun x x_1 ↦ (0 : Int))), Nat.ble q q, allW q (row9 h), decide (q ≤ (274877906944 : Nat)), inw (listW (itW (row9 h)) q), !okt (listW (itW (row9 h)) q)] (Res.out Ex.ret [AV.tup [AV.v (Value.slice none (0 : Nat) (0 : Nat)), AV.v (Value.bool false)]] [AB.row false m (8 : Nat) (row8 f) (31 : TypeId)])) := by kernel_rfl

def gmRdS (ti : List Wh → List Wh) (okt : List Wh → Bool) (rk : (Nat → Nat → Int) → Nat → Bool) (rt : (Nat → Nat → Int) → Nat → List Cy) : Gam := ext (ext g0 139 (specR md_cv (FtsS rk rt))) 62 (specR md_ws (FtidyO ti okt))
theorem treeRdS (ti : List Wh → List Wh) (okt : List Wh → Bool) (rk : (Nat → Nat → Int) → Nat → Bool) (rt : (Nat → Nat → Int) → Nat → List Cy) (m : Nat) (f : Nat → Nat → Int) (q : Nat) (c : Nat → Nat → Int) (h : Nat → Nat → Int) : execF Try.prog (gmRdS ti okt rk rt) (lamRdS m f q c h) 100 fRdS [.sl 0 8 0 0 m none] (hpIy m f) (packK 1)
    = needs [Nat.ble ((0 : Nat) + m) m, all8 m fun q ↦ row8 f ((0 : Nat) + q), decide (m ≤ (274877906944 : Nat))] (bif !rk (it8 fun q ↦ row8 f ((0 : Nat) + q)) m then Res.out Ex.ret [AV.tup [AV.own (1 : Nat) (0 : Nat), AV.v (Value.bool false)]] [AB.row false m (8 : Nat) (row8 f) (31 : TypeId), AB.row true (0 : Nat) (9 : Nat) (fun _ ↦ []) (46 : Nat)] else bif decide ((↑m : Int) > (12 : Int)) then Res.out Ex.ret [AV.tup [AV.own (1 : Nat) (0 : Nat), AV.v (Value.bool false)]] [AB.row false m (8 : Nat) (row8 f) (31 : TypeId), AB.row true (0 : Nat) (9 : Nat) (fun _ ↦ []) (46 : Nat)] else needs [chk ([AV.own (1 : Nat) (0 : Nat), AV.v (Value.int IntKind.i64 (↑m : Int)), AV.own (2 : Nat) (List.length (rt (it8 fun q ↦ row8 f ((0 : Nat) + q)) m)), AV.v (Value.int IntKind.i64 (0 : Int))] = stRdS m q (0 : Nat) ∧ Hsim [AB.row false m (8 : Nat) (row8 f) (31 : TypeId), AB.row true (0 : Nat) (9 : Nat) (fun _ ↦ []) (46 : Nat), AB.row true (List.length (rt (it8 fun q ↦ row8 f ((0 : Nat) + q)) m)) (8 : Nat) (row8 (cfun (rt (it8 fun q ↦ row8 f ((0 : Nat) + q)) m))) (31 : TypeId)] (hpRdS m f q c (0 : Nat) fun x x_1 ↦ (0 : Int))), Nat.ble m m, allW m (row9 h), decide (m ≤ (274877906944 : Nat))] (Res.out Ex.ret [AV.tup [AV.own (1 : Nat) (List.length (ti (listW (itW (row9 h)) m))), AV.v (Value.bool (okt (listW (itW (row9 h)) m)))]] [AB.row false m (8 : Nat) (row8 f) (31 : TypeId), AB.row true (List.length (ti (listW (itW (row9 h)) m))) (9 : Nat) (row9 (wfun (ti (listW (itW (row9 h)) m)))) (46 : TypeId)])) := by kernel_rfl

end Go.Proofs.Ytmdcafhnjihckaa

/- RowDesign of both: their word. Conditions: a row of points. -/
namespace Go.Proofs.Ytmdcafhnjihckaa
open Go.RowKit
set_option maxRecDepth 100000

/-- The speed of a place: as near to none as it goes. -/
def spJ (m j : Nat) : Int := bif decide (2 * (j : Int) > m) then (j : Int) - m else j
def rdF (m : Nat) (c : Nat → Nat → Int) : Nat → Nat → Int := fun j k => match k with
  | 0 => spJ m j
  | k + 1 => c j k
def rwW (f : Nat → Nat → Int) (m : Nat) : List Wh := listW (rdF m (trF f m)) m
def rdP (f : Nat → Nat → Int) (m : Nat) : Bool := toK f m && decide (m ≤ 12)
def yRd (f : Nat → Nat → Int) (m : Nat) : Bool := rdP f m && okT (rwW f m)
def tRd (f : Nat → Nat → Int) (m : Nat) : List Wh := bif rdP f m then tidyL (rwW f m) else []
theorem rd_row (m : Nat) (c : Nat → Nat → Int) (i : Nat) (o : Nat → Nat → Int) (x : Int) (ho : ∀ j, j < i → o j = rdF m c j) (hx : x = spJ m i) (j : Nat) (hj : j < i + 1) : [i64 (bif Nat.blt j i then o j 0 else x), i64 (bif Nat.blt j i then o j 1 else c i 0), i64 (bif Nat.blt j i then o j 2 else c i 1), i64 (bif Nat.blt j i then o j 3 else c i 2), i64 (bif Nat.blt j i then o j 4 else c i 3), i64 (bif Nat.blt j i then o j 5 else c i 4), i64 (bif Nat.blt j i then o j 6 else c i 5), i64 (bif Nat.blt j i then o j 7 else c i 6), i64 (bif Nat.blt j i then o j 8 else c i 7)] = row9 (rdF m c) j := by
  by_cases h : j < i
  · rw [blt_yes h]
    simp only [cond_true, ho j h]
  · have : j = i := by omega
    subst this hx
    rw [blt_no]
    rfl
theorem sumRdI (m : Nat) (f c : Nat → Nat → Int) (hm : m ≤ 2 ^ 38) :
    SumOk Try.prog 1 (.block 0 (.loop (loopAt 0 fRdI))) (atS 52 (lvRdI .normal) 1 (stRdI m m 0) (hpRdI m f m c 0 fun _ _ => 0) (fun K => K .normal (mkT 0 52 [(7, .own 1 m)]) (hpRdX m f m (rdF m c)))) := by
  refine for_at g0_ok (n := 100) (m := 1) (lv := lvRdI) (fun i => stRdI m m i) (fun i => hpRdI m f m c i (bif Nat.beq i 0 then (fun _ _ => 0) else rdF m c)) (fun _ => True) m (fun _ => noLam) (lv3_ris rfl rfl rfl) (Nat.le_refl _) trivial fun K Q hk i _ hi => ⟨noLam_ok _ _ _, ?_⟩
  have ho : ∀ j, j < i → (bif Nat.beq i 0 then (fun _ _ => (0 : Int)) else rdF m c) j = rdF m c j := by
    intro j hj
    cases i with
    | zero => exact absurd hj (Nat.not_lt_zero _)
    | succ i => rfl
  rw [rndRdI]
  simp only [Int.toNat_natCast, Nat.zero_add]
  refine good_cond (fun c1 => ?_) fun c1 => ?_
  · have c1 := of_decide_eq_true c1
    have c1' : i < m := by omega
    rw [wr_in (x := (i : Int) + 1) (by omega), wr_in (x := 2 * (i : Int)) (by omega), wr_in (x := (i : Int) - m) (by omega)]
    refine good_needs (by simp only [ob_cons, ob_nil, and_true, decide_eq_true_eq]; omega) (good_cond (fun q => ?_) fun q => ?_)
    · refine good_needs (by simp only [ob_cons, ob_nil, and_true, Nat.ble_eq]; omega) (good_out ⟨i + 1, ⟨rfl, c1', trivial⟩, rfl, .cons (ABeq.refl _) (.cons (ABeq.row fun j hj => ?_) (.cons (ABeq.refl _) .nil))⟩)
      exact rd_row m c i _ _ ho (by rw [spJ, q]; rfl) j hj
    · refine good_needs (by simp only [ob_cons, ob_nil, and_true, Nat.ble_eq]; omega) (good_out ⟨i + 1, ⟨rfl, c1', trivial⟩, rfl, .cons (ABeq.refl _) (.cons (ABeq.row fun j hj => ?_) (.cons (ABeq.refl _) .nil))⟩)
      exact rd_row m c i _ _ ho (by rw [spJ, q]; rfl) j hj
  · have c1 := of_decide_eq_false c1
    have : i = m := by omega
    subst this
    refine good_out ⟨hpRdX i f i (rdF i c), .cons (ABeq.refl _) (.cons (ABeq.row fun j hj => row9_congr fun k _ => by rw [ho j hj]) .nil), ?_⟩
    rw [if_pos rfl]
    exact hk
theorem sumRdS (m : Nat) (f c : Nat → Nat → Int) (hm : m ≤ 2 ^ 38) :
    SumOk Try.prog 1 (.block 0 (.loop (loopAt 0 fRdS))) (atS 51 (lvRdS .normal) 1 (stRdS m m 0) (hpRdS m f m c 0 fun _ _ => 0) (fun K => K .normal (mkT 0 51 [(4, .own 1 m)]) (hpRdX m f m (rdF m c)))) := by
  refine for_at g0_ok (n := 100) (m := 1) (lv := lvRdS) (fun i => stRdS m m i) (fun i => hpRdS m f m c i (bif Nat.beq i 0 then (fun _ _ => 0) else rdF m c)) (fun _ => True) m (fun _ => noLam) (lv3_ris rfl rfl rfl) (Nat.le_refl _) trivial fun K Q hk i _ hi => ⟨noLam_ok _ _ _, ?_⟩
  have ho : ∀ j, j < i → (bif Nat.beq i 0 then (fun _ _ => (0 : Int)) else rdF m c) j = rdF m c j := by
    intro j hj
    cases i with
    | zero => exact absurd hj (Nat.not_lt_zero _)
    | succ i => rfl
  rw [rndRdS]
  simp only [Int.toNat_natCast, Nat.zero_add]
  refine good_cond (fun c1 => ?_) fun c1 => ?_
  · have c1 := of_decide_eq_true c1
    have c1' : i < m := by omega
    rw [wr_in (x := (i : Int) + 1) (by omega), wr_in (x := 2 * (i : Int)) (by omega), wr_in (x := (i : Int) - m) (by omega)]
    refine good_cond (fun q => ?_) fun q => ?_
    · refine good_needs (by simp only [ob_cons, ob_nil, and_true, decide_eq_true_eq, Nat.ble_eq]; omega) (good_out ⟨i + 1, ⟨rfl, c1', trivial⟩, rfl, .cons (ABeq.refl _) (.cons (ABeq.row fun j hj => ?_) (.cons (ABeq.refl _) .nil))⟩)
      exact rd_row m c i _ _ ho (by rw [spJ, q]; rfl) j hj
    · refine good_needs (by simp only [ob_cons, ob_nil, and_true, decide_eq_true_eq, Nat.ble_eq]; omega) (good_out ⟨i + 1, ⟨rfl, c1', trivial⟩, rfl, .cons (ABeq.refl _) (.cons (ABeq.row fun j hj => ?_) (.cons (ABeq.refl _) .nil))⟩)
      exact rd_row m c i _ _ ho (by rw [spJ, q]; rfl) j hj
  · have c1 := of_decide_eq_false c1
    have : i = m := by omega
    subst this
    refine good_out ⟨hpRdX i f i (rdF i c), .cons (ABeq.refl _) (.cons (ABeq.row fun j hj => row9_congr fun k _ => by rw [ho j hj]) .nil), ?_⟩
    rw [if_pos rfl]
    exact hk
theorem trS_in (f : Nat → Nat → Int) (n j : Int) : ∀ i k, -9223372036854775808 ≤ trS f n j i k ∧ trS f n j i k ≤ 9223372036854775807
  | 0, _ => by show -9223372036854775808 ≤ (0 : Int) ∧ (0 : Int) ≤ 9223372036854775807; omega
  | i + 1, k => w64_range _
theorem trV_in (f : Nat → Nat → Int) (n j : Int) (k : Nat) : -9223372036854775808 ≤ trV f n j k ∧ trV f n j k ≤ 9223372036854775807 := by
  unfold trV
  cases trK f n j with
  | true => exact trS_in f n j _ k
  | false => show -9223372036854775808 ≤ (0 : Int) ∧ (0 : Int) ≤ 9223372036854775807; omega
theorem rwW_in (f : Nat → Nat → Int) (m : Nat) : inW (rwW f m) := fun w hw => by
  obtain ⟨j, _, e⟩ := List.mem_map.1 (show w ∈ (List.range m).map fun j => whOf (rdF m (trF f m) j) from hw)
  subst e
  intro k hk
  have e2 : ∀ k, k < 8 → (whOf (rdF m (trF f m) j)).r.f k = trV f m j k := forall8 rfl rfl rfl rfl rfl rfl rfl rfl
  rw [e2 k hk]
  exact trV_in f m j k
theorem toK_in {f : Nat → Nat → Int} {m : Nat} (h : toK f m = true) : 1 ≤ m ∧ m ≤ 24 := by
  rw [toK, Bool.and_eq_true] at h
  have := roV_in (rvB_parts h.1).1
  omega
theorem toT_len {f : Nat → Nat → Int} {m : Nat} (h : toK f m = true) : (toT f m).length = m := by rw [toT_yes h, tTf, listC_length]
theorem toT_row {f : Nat → Nat → Int} {m : Nat} (h : toK f m = true) (j : Nat) (hj : j < m) : row8 (cfun (toT f m)) j = row8 (trF f m) j := by
  rw [toT_yes h]
  exact row8_list _ hj
theorem toK_row (f : Nat → Nat → Int) (m : Nat) : toK (it8 (row8 f)) m = toK f m := by rw [toK, rvB_row, tkB_row]; rfl
theorem toT_row8 (f : Nat → Nat → Int) (m : Nat) : toT (it8 (row8 f)) m = toT f m := by rw [toT, toK_row, tTf_row]; rfl
def FrdY : List SA → Option FR
  | [.row m g] => some { val := valY (tRd (it8 g) m), new := newY (tRd (it8 g) m), obl := [all8 m g, decide (m ≤ 2 ^ 38), yRd (it8 g) m] }
  | _ => none
def FrdN : List SA → Option FR
  | [.row m g] => some { val := valN, obl := [all8 m g, decide (m ≤ 2 ^ 38), !yRd (it8 g) m] }
  | _ => none
def UrdO (yes : (Nat → Nat → Int) → Nat → Bool) (tl : (Nat → Nat → Int) → Nat → List Wh) : List SA → Option UR
  | [.row m g] => some ⟨yes (it8 g) m, tl (it8 g) m, [all8 m g, decide (m ≤ 2 ^ 38)]⟩
  | _ => none
def FrdS (yes : (Nat → Nat → Int) → Nat → Bool) (tl : (Nat → Nat → Int) → Nat → List Wh) : List SA → Option FR
  | [.row m g] => some { val := .tup [.own 0 (tl (it8 g) m).length, .v (.bool (yes (it8 g) m))], new := [.row true (tl (it8 g) m).length 9 (row9 (wfun (tl (it8 g) m))) 46], obl := [all8 m g, decide (m ≤ 2 ^ 38)] }
  | _ => none
theorem tRd_no {f : Nat → Nat → Int} {m : Nat} (h : yRd f m = false) : tRd f m = [] := by
  rw [tRd]
  cases hp : rdP f m with
  | false => rfl
  | true =>
    rw [yRd, hp, Bool.true_and] at h
    exact tidyL_no h
theorem gmRdY_ok : GamOk Try.prog (gmRdY okD tidyL okT inWB toK toT) := ext_ok gmChY_ok ok_Uto
theorem gmRdN_ok : GamOk Try.prog (gmRdN okD okT inWB toK toT) := ext_ok gmChN_ok ok_Uto
theorem gmRdS_ok : GamOk Try.prog (gmRdS tidyL okT toK toT) := by
  refine ext_ok (ext_ok g0_ok ok_ts) ?_
  rw [FtidyO_eq]
  exact ok_tidyS
theorem ok_rdY : SpecOk Try.prog 29 (specR md_c8 FrdY) := by
  refine specR_hr gmRdY_ok Try.func29 rfl fun sas fr hF ho => ?_
  unfold FrdY at hF
  split at hF
  · rename_i m g
    cases hF
    simp only [ob_cons] at ho
    obtain ⟨h1, h2, h3, _⟩ := ho
    have hm := of_decide_eq_true h2
    have h3' := h3
    rw [yRd, rdP, Bool.and_eq_true, Bool.and_eq_true] at h3'
    obtain ⟨⟨hk, h12⟩, hT⟩ := h3'
    have h12 := of_decide_eq_true h12
    refine ⟨hpIy m (it8 g), lamRdI m (it8 g) m (trF (it8 g) m) (rdF m (trF (it8 g) m)), 100, .cons (ABeq.row fun j hj => all8_get h1 j hj) .nil, lam1 (by kernel_rfl) (sumRdI m (it8 g) (trF (it8 g) m) (by omega)), ?_⟩
    show GoodQ (execF Try.prog (gmRdY okD tidyL okT inWB toK toT) (lamRdI m (it8 g) m (trF (it8 g) m) (rdF m (trF (it8 g) m))) 100 fRdI [.sl 0 8 0 0 m none] (hpIy m (it8 g)) (packK 1)) _
    rw [treeRdY]
    simp only [row80, toK_row, toT_row8, row0, listW_itW]
    have eT : tRd (it8 g) m = tidyL (rwW (it8 g) m) := by rw [tRd, rdP, hk, decide_eq_true h12]; rfl
    refine good_needs (by simp only [ob_cons, ob_nil, and_true, decide_eq_true_eq, Nat.ble_eq, all8_row, true_and]; omega) (good_false (by rw [hk]; rfl) (good_false (decide_eq_false (by omega)) (good_needs ?_ (good_out ⟨_, rfl, by rw [eT]; rfl, .cons (ABeq.row fun j hj => (all8_get h1 j hj).symm) ?_⟩))))
    · simp only [ob_cons, ob_nil, and_true, decide_eq_true_eq, Nat.ble_eq, allW_row, true_and]
      refine ⟨by omega, chk_of ⟨by rw [toT_len hk]; rfl, .cons (ABeq.refl _) (.cons (ABeq.row fun j hj => absurd hj (Nat.not_lt_zero _)) (.cons ?_ .nil))⟩, by omega, by omega, chk_of (rwW_in _ _), hT⟩
      rw [toT_len hk]
      exact ABeq.row fun j hj => toT_row hk j hj
    · show Hsim _ [.row true (tRd (it8 g) m).length 9 (row9 (wfun (tRd (it8 g) m))) 46]
      rw [eT]
      exact Hsim.refl _
  · cases hF
theorem ok_rdN : SpecOk Try.prog 29 (specR md_c8 FrdN) := by
  refine specR_hr gmRdN_ok Try.func29 rfl fun sas fr hF ho => ?_
  unfold FrdN at hF
  split at hF
  · rename_i m g
    cases hF
    simp only [ob_cons] at ho
    obtain ⟨h1, h2, h3, _⟩ := ho
    have hm := of_decide_eq_true h2
    have h3 : yRd (it8 g) m = false := by simpa using h3
    have bad : GoodQ (.out .ret [.tup [.v (.slice none 0 0), .v (.bool false)]] (hpIy m (it8 g))) (GivR (abP md_c8 [.row m g] []) { val := valN, obl := [all8 m g, decide (m ≤ 2 ^ 38), !yRd (it8 g) m] }) := good_out ⟨_, rfl, rfl, .cons (ABeq.row fun j hj => (all8_get h1 j hj).symm) .nil⟩
    refine ⟨hpIy m (it8 g), lamRdI m (it8 g) m (trF (it8 g) m) (rdF m (trF (it8 g) m)), 100, .cons (ABeq.row fun j hj => all8_get h1 j hj) .nil, lam1 (by kernel_rfl) (sumRdI m (it8 g) (trF (it8 g) m) (by omega)), ?_⟩
    show GoodQ (execF Try.prog (gmRdN okD okT inWB toK toT) (lamRdI m (it8 g) m (trF (it8 g) m) (rdF m (trF (it8 g) m))) 100 fRdI [.sl 0 8 0 0 m none] (hpIy m (it8 g)) (packK 1)) _
    rw [treeRdN]
    simp only [row80, toK_row, toT_row8, row0, listW_itW]
    refine good_needs (by simp only [ob_cons, ob_nil, and_true, decide_eq_true_eq, Nat.ble_eq, all8_row, true_and]; omega) (good_cond (fun _ => bad) fun q => good_cond (fun _ => bad) fun q2 => good_needs ?_ bad)
    have hk : toK (it8 g) m = true := by simpa using q
    have h12 := of_decide_eq_false q2
    rw [yRd, rdP, hk, decide_eq_true (show m ≤ 12 by omega), Bool.true_and, Bool.true_and] at h3
    simp only [ob_cons, ob_nil, and_true, decide_eq_true_eq, Nat.ble_eq, allW_row, true_and]
    refine ⟨by omega, chk_of ⟨by rw [toT_len hk]; rfl, .cons (ABeq.refl _) (.cons (ABeq.row fun j hj => absurd hj (Nat.not_lt_zero _)) (.cons ?_ .nil))⟩, by omega, by omega, chk_of (rwW_in _ _), by rw [show okT (listW (rdF m (trF (it8 g) m)) m) = false from h3]; rfl⟩
    rw [toT_len hk]
    exact ABeq.row fun j hj => toT_row hk j hj
  · cases hF
theorem ok_Urd : SpecOk Try.prog 29 (specU md_c8 (UrdO yRd tRd)) := by
  refine specU_ok rfl ok_rdY ok_rdN fun sas u hu ho => ?_
  unfold UrdO at hu
  split at hu
  · rename_i m g
    cases hu
    simp only [ob_cons] at ho
    obtain ⟨h1, h2, _⟩ := ho
    refine ⟨rfl, ?_⟩
    cases hv : yRd (it8 g) m with
    | true =>
      left
      refine ⟨rfl, [all8 m g, decide (m ≤ 2 ^ 38), yRd (it8 g) m], rfl, ?_⟩
      simp only [ob_cons, ob_nil, and_true]
      exact ⟨h1, h2, hv⟩
    | false =>
      right
      refine ⟨rfl, tRd_no hv, [all8 m g, decide (m ≤ 2 ^ 38), !yRd (it8 g) m], rfl, ?_⟩
      simp only [ob_cons, ob_nil, and_true]
      exact ⟨h1, h2, by rw [hv]; rfl⟩
  · cases hu
theorem ok_rdS : SpecOk Try.prog 30 (specR md_c8 (FrdS yRd tRd)) := by
  refine specR_hr gmRdS_ok Try.func30 rfl fun sas fr hF ho => ?_
  unfold FrdS at hF
  split at hF
  · rename_i m g
    cases hF
    simp only [ob_cons] at ho
    obtain ⟨h1, h2, _⟩ := ho
    have hm := of_decide_eq_true h2
    have bad : rdP (it8 g) m = false → GoodQ (.out .ret [.tup [.own 1 0, .v (.bool false)]] [.row false m 8 (row8 (it8 g)) 31, .row true 0 9 (fun _ => []) 46]) (GivR (abP md_c8 [.row m g] []) { val := .tup [.own 0 (tRd (it8 g) m).length, .v (.bool (yRd (it8 g) m))], new := [.row true (tRd (it8 g) m).length 9 (row9 (wfun (tRd (it8 g) m))) 46], obl := [all8 m g, decide (m ≤ 2 ^ 38)] }) := fun h => by
      have e1 : yRd (it8 g) m = false := by rw [yRd, h]; rfl
      refine good_out ⟨_, rfl, by rw [tRd_no e1, e1]; rfl, .cons (ABeq.row fun j hj => (all8_get h1 j hj).symm) ?_⟩
      show Hsim _ [.row true (tRd (it8 g) m).length 9 (row9 (wfun (tRd (it8 g) m))) 46]
      rw [tRd_no e1]
      exact .cons (ABeq.row fun j hj => absurd hj (Nat.not_lt_zero _)) .nil
    refine ⟨hpIy m (it8 g), lamRdS m (it8 g) m (trF (it8 g) m) (rdF m (trF (it8 g) m)), 100, .cons (ABeq.row fun j hj => all8_get h1 j hj) .nil, lam1 (by kernel_rfl) (sumRdS m (it8 g) (trF (it8 g) m) (by omega)), ?_⟩
    show GoodQ (execF Try.prog (gmRdS tidyL okT toK toT) (lamRdS m (it8 g) m (trF (it8 g) m) (rdF m (trF (it8 g) m))) 100 fRdS [.sl 0 8 0 0 m none] (hpIy m (it8 g)) (packK 1)) _
    rw [treeRdS]
    simp only [row80, toK_row, toT_row8, row0, listW_itW]
    refine good_needs (by simp only [ob_cons, ob_nil, and_true, decide_eq_true_eq, Nat.ble_eq, all8_row, true_and]; omega) (good_cond (fun q => bad ?_) fun q => good_cond (fun q2 => bad ?_) fun q2 => good_needs ?_ (good_out ?_))
    · have hk : toK (it8 g) m = false := by simpa using q
      rw [rdP, hk]
      rfl
    · have q2 := of_decide_eq_true q2
      rw [rdP, decide_eq_false (show ¬ m ≤ 12 by omega), Bool.and_false]
    · have hk : toK (it8 g) m = true := by simpa using q
      simp only [ob_cons, ob_nil, and_true, decide_eq_true_eq, Nat.ble_eq, allW_row, true_and]
      refine ⟨chk_of ⟨by rw [toT_len hk]; rfl, .cons (ABeq.refl _) (.cons (ABeq.row fun j hj => absurd hj (Nat.not_lt_zero _)) (.cons ?_ .nil))⟩, by omega, by omega⟩
      rw [toT_len hk]
      exact ABeq.row fun j hj => toT_row hk j hj
    · have hk : toK (it8 g) m = true := by simpa using q
      have h12 := of_decide_eq_false q2
      have hp : rdP (it8 g) m = true := by rw [rdP, hk, decide_eq_true (show m ≤ 12 by omega)]; rfl
      have e1 : tRd (it8 g) m = tidyL (rwW (it8 g) m) := by rw [tRd, hp]; rfl
      have e2 : yRd (it8 g) m = okT (rwW (it8 g) m) := by rw [yRd, hp]; rfl
      refine ⟨_, rfl, by rw [e1, e2]; rfl, .cons (ABeq.row fun j hj => (all8_get h1 j hj).symm) ?_⟩
      show Hsim _ [.row true (tRd (it8 g) m).length 9 (row9 (wfun (tRd (it8 g) m))) 46]
      rw [e1]
      exact Hsim.refl _
  · cases hF

end Go.Proofs.Ytmdcafhnjihckaa

/- The program's CycAdd. Conditions: two points. -/
namespace Go.Proofs.Ytmdcafhnjihckaa
open Go.RowKit
set_option maxRecDepth 100000

def gmO3 (ok : (Nat → Int) → Bool) (ad : (Nat → Int) → (Nat → Int) → Nat → Int) : Gam := ext (ext g0 66 (specV (fOkc ok))) 67 (specV (fAdd2 ad))
theorem treeO3 (ok : (Nat → Int) → Bool) (ad : (Nat → Int) → (Nat → Int) → Nat → Int) (a b : Nat → Int) : execF Try.prog (gmO3 ok ad) noLam 100 Try.f19 [.v (cyv a), .v (cyv b)] [] (packK 0)
    = bif !ok (w8 a) then Res.out Ex.ret [AV.tup [AV.agg [AV.v (Value.int IntKind.i64 (0 : Int)), AV.v (Value.int IntKind.i64 (0 : Int)), AV.v (Value.int IntKind.i64 (0 : Int)), AV.v (Value.int IntKind.i64 (0 : Int)), AV.v (Value.int IntKind.i64 (0 : Int)), AV.v (Value.int IntKind.i64 (0 : Int)), AV.v (Value.int IntKind.i64 (0 : Int)), AV.v (Value.int IntKind.i64 (0 : Int))], AV.v (Value.bool false)]] [] else bif !ok (w8 b) then Res.out Ex.ret [AV.tup [AV.agg [AV.v (Value.int IntKind.i64 (0 : Int)), AV.v (Value.int IntKind.i64 (0 : Int)), AV.v (Value.int IntKind.i64 (0 : Int)), AV.v (Value.int IntKind.i64 (0 : Int)), AV.v (Value.int IntKind.i64 (0 : Int)), AV.v (Value.int IntKind.i64 (0 : Int)), AV.v (Value.int IntKind.i64 (0 : Int)), AV.v (Value.int IntKind.i64 (0 : Int))], AV.v (Value.bool false)]] [] else bif !ok (w8 (ad (w8 a) (w8 b))) then Res.out Ex.ret [AV.tup [AV.agg [AV.v (Value.int IntKind.i64 (0 : Int)), AV.v (Value.int IntKind.i64 (0 : Int)), AV.v (Value.int IntKind.i64 (0 : Int)), AV.v (Value.int IntKind.i64 (0 : Int)), AV.v (Value.int IntKind.i64 (0 : Int)), AV.v (Value.int IntKind.i64 (0 : Int)), AV.v (Value.int IntKind.i64 (0 : Int)), AV.v (Value.int IntKind.i64 (0 : Int))], AV.v (Value.bool false)]] [] else Res.out Ex.ret [AV.tup [AV.agg [AV.v (Value.int IntKind.i64 (ad (w8 a) (w8 b) (0 : Nat))), AV.v (Value.int IntKind.i64 (ad (w8 a) (w8 b) (1 : Nat))), AV.v (Value.int IntKind.i64 (ad (w8 a) (w8 b) (2 : Nat))), AV.v (Value.int IntKind.i64 (ad (w8 a) (w8 b) (3 : Nat))), AV.v (Value.int IntKind.i64 (ad (w8 a) (w8 b) (4 : Nat))), AV.v (Value.int IntKind.i64 (ad (w8 a) (w8 b) (5 : Nat))), AV.v (Value.int IntKind.i64 (ad (w8 a) (w8 b) (6 : Nat))), AV.v (Value.int IntKind.i64 (ad (w8 a) (w8 b) (7 : Nat)))], AV.v (Value.bool true)]] [] := by kernel_rfl

theorem gmO3_ok : GamOk Try.prog (gmO3 (fun v => cyOk (cyOf v)) plusF) := by
  unfold gmO3
  rw [fOkc_eq, fAdd2_eq]
  exact ext_ok (ext_ok g0_ok ok_cvI) ok_plus
/-- Two points: a point, and whether it is one. -/
def FcrO (v : (Nat → Int) → (Nat → Int) → Nat → Int) (ok : (Nat → Int) → (Nat → Int) → Bool) : List SA → Option FR
  | [.v (.agg ⟨[.int .i64 a0, .int .i64 a1, .int .i64 a2, .int .i64 a3, .int .i64 a4, .int .i64 a5, .int .i64 a6, .int .i64 a7]⟩), .v (.agg ⟨[.int .i64 b0, .int .i64 b1, .int .i64 b2, .int .i64 b3, .int .i64 b4, .int .i64 b5, .int .i64 b6, .int .i64 b7]⟩)] => some { val := .tup [.agg (cyC (v (v8 a0 a1 a2 a3 a4 a5 a6 a7) (v8 b0 b1 b2 b3 b4 b5 b6 b7))), .v (.bool (ok (v8 a0 a1 a2 a3 a4 a5 a6 a7) (v8 b0 b1 b2 b3 b4 b5 b6 b7)))] }
  | _ => none
def okAd (a b : Nat → Int) : Bool := (cyOk (cyOf a) && cyOk (cyOf b)) && cyOk (cyOf (plusF a b))
def vAd (a b : Nat → Int) : Nat → Int := bif okAd a b then plusF a b else fun _ => 0
theorem ok_cAd : SpecOk Try.prog 19 (specR [.val, .val] (FcrO vAd okAd)) := by
  refine specR_hr gmO3_ok Try.func19 rfl fun sas fr hF ho => ?_
  unfold FcrO at hF
  split at hF
  · rename_i a0 a1 a2 a3 a4 a5 a6 a7 b0 b1 b2 b3 b4 b5 b6 b7
    cases hF
    refine ⟨[], noLam, 100, .nil, noLam' _, ?_⟩
    show GoodQ (execF Try.prog (gmO3 (fun v => cyOk (cyOf v)) plusF) noLam 100 Try.f19 [.v (cyv (v8 a0 a1 a2 a3 a4 a5 a6 a7)), .v (cyv (v8 b0 b1 b2 b3 b4 b5 b6 b7))] [] (packK 0)) _
    rw [treeO3]
    generalize hA : v8 a0 a1 a2 a3 a4 a5 a6 a7 = a
    generalize hB : v8 b0 b1 b2 b3 b4 b5 b6 b7 = b
    have hw : w8 a = a := by subst hA; rfl
    have hv : w8 b = b := by subst hB; rfl
    rw [hw, hv]
    have fin : ∀ (v : Nat → Int) (o : Bool), vAd a b = v → okAd a b = o → GoodQ (.out .ret [.tup [.agg (cyC v), .v (.bool o)]] []) (GivR (abP [.val, .val] [.v (.agg ⟨[.int .i64 a0, .int .i64 a1, .int .i64 a2, .int .i64 a3, .int .i64 a4, .int .i64 a5, .int .i64 a6, .int .i64 a7]⟩), .v (.agg ⟨[.int .i64 b0, .int .i64 b1, .int .i64 b2, .int .i64 b3, .int .i64 b4, .int .i64 b5, .int .i64 b6, .int .i64 b7]⟩)] []) { val := .tup [.agg (cyC (vAd a b)), .v (.bool (okAd a b))] }) := by
      rintro v o rfl rfl
      exact good_out ⟨_, rfl, rfl, .nil⟩
    have bad : okAd a b = false → GoodQ (.out .ret [.tup [.agg (cyC fun _ => 0), .v (.bool false)]] []) _ := fun e => fin _ _ (by rw [vAd, e]; rfl) e
    refine good_cond (fun q => ?_) fun q => ?_
    · have q' : (!cyOk (cyOf a)) = true := q
      exact bad (by rw [okAd, show cyOk (cyOf a) = false by simpa using q']; rfl)
    · have q' : (!cyOk (cyOf a)) = false := q
      have qa : cyOk (cyOf a) = true := by simpa using q'
      refine good_cond (fun q => ?_) fun q => ?_
      · have q' : (!cyOk (cyOf b)) = true := q
        exact bad (by rw [okAd, qa, show cyOk (cyOf b) = false by simpa using q']; rfl)
      · have q' : (!cyOk (cyOf b)) = false := q
        have qb : cyOk (cyOf b) = true := by simpa using q'
        refine good_cond (fun q => ?_) fun q => ?_
        · have q' : (!cyOk (cyOf (plusF a b))) = true := q
          exact bad (by rw [okAd, qa, qb, show cyOk (cyOf (plusF a b)) = false by simpa using q']; rfl)
        · have q' : (!cyOk (cyOf (plusF a b))) = false := q
          have qm : cyOk (cyOf (plusF a b)) = true := by simpa using q'
          have e : okAd a b = true := by rw [okAd, qa, qb, qm]; rfl
          exact fin (plusF a b) true (by rw [vAd, e]; rfl) e
  · cases hF

end Go.Proofs.Ytmdcafhnjihckaa

/- The program's CycScale. Conditions: a point, a number. -/
namespace Go.Proofs.Ytmdcafhnjihckaa
open Go.RowKit
set_option maxRecDepth 100000

def fScO (sc : (Nat → Int) → Int → Nat → Int) : List Value → Option (Value × List Bool)
  | [.agg ⟨[.int .i64 a0, .int .i64 a1, .int .i64 a2, .int .i64 a3, .int .i64 a4, .int .i64 a5, .int .i64 a6, .int .i64 a7]⟩, .int .i64 n] => some (cyv (sc (v8 a0 a1 a2 a3 a4 a5 a6 a7) n), [])
  | _ => none
theorem ok_scl : SpecOk Try.prog 140 (specV (fScO scaledF)) := by
  refine mkV (n := 100) g0_ok Try.func140 rfl fun vs x ob hF ho => ?_
  unfold fScO at hF
  split at hF
  · rename_i a0 a1 a2 a3 a4 a5 a6 a7 n
    simp only [Option.some.injEq, Prod.mk.injEq] at hF
    obtain ⟨rfl, rfl⟩ := hF
    exact one (by kernel_rfl)
  · cases hF
def gmO4 (ok : (Nat → Int) → Bool) (sc : (Nat → Int) → Int → Nat → Int) : Gam := ext (ext gm_within 66 (specV (fOkc ok))) 140 (specV (fScO sc))
theorem treeO4 (ok : (Nat → Int) → Bool) (sc : (Nat → Int) → Int → Nat → Int) (a : Nat → Int) (n : Int) : execF Try.prog (gmO4 ok sc) noLam 100 Try.f87 [.v (cyv a), .v (i64 n)] [] (packK 0)
    = bif !ok (w8 a) then Res.out Ex.ret [AV.tup [AV.agg [AV.v (Value.int IntKind.i64 (0 : Int)), AV.v (Value.int IntKind.i64 (0 : Int)), AV.v (Value.int IntKind.i64 (0 : Int)), AV.v (Value.int IntKind.i64 (0 : Int)), AV.v (Value.int IntKind.i64 (0 : Int)), AV.v (Value.int IntKind.i64 (0 : Int)), AV.v (Value.int IntKind.i64 (0 : Int)), AV.v (Value.int IntKind.i64 (0 : Int))], AV.v (Value.bool false)]] [] else bif !inR n (-1000000 : Int) (1000000 : Int) then Res.out Ex.ret [AV.tup [AV.agg [AV.v (Value.int IntKind.i64 (0 : Int)), AV.v (Value.int IntKind.i64 (0 : Int)), AV.v (Value.int IntKind.i64 (0 : Int)), AV.v (Value.int IntKind.i64 (0 : Int)), AV.v (Value.int IntKind.i64 (0 : Int)), AV.v (Value.int IntKind.i64 (0 : Int)), AV.v (Value.int IntKind.i64 (0 : Int)), AV.v (Value.int IntKind.i64 (0 : Int))], AV.v (Value.bool false)]] [] else bif !ok (w8 (sc (w8 a) n)) then Res.out Ex.ret [AV.tup [AV.agg [AV.v (Value.int IntKind.i64 (0 : Int)), AV.v (Value.int IntKind.i64 (0 : Int)), AV.v (Value.int IntKind.i64 (0 : Int)), AV.v (Value.int IntKind.i64 (0 : Int)), AV.v (Value.int IntKind.i64 (0 : Int)), AV.v (Value.int IntKind.i64 (0 : Int)), AV.v (Value.int IntKind.i64 (0 : Int)), AV.v (Value.int IntKind.i64 (0 : Int))], AV.v (Value.bool false)]] [] else Res.out Ex.ret [AV.tup [AV.agg [AV.v (Value.int IntKind.i64 (sc (w8 a) n (0 : Nat))), AV.v (Value.int IntKind.i64 (sc (w8 a) n (1 : Nat))), AV.v (Value.int IntKind.i64 (sc (w8 a) n (2 : Nat))), AV.v (Value.int IntKind.i64 (sc (w8 a) n (3 : Nat))), AV.v (Value.int IntKind.i64 (sc (w8 a) n (4 : Nat))), AV.v (Value.int IntKind.i64 (sc (w8 a) n (5 : Nat))), AV.v (Value.int IntKind.i64 (sc (w8 a) n (6 : Nat))), AV.v (Value.int IntKind.i64 (sc (w8 a) n (7 : Nat)))], AV.v (Value.bool true)]] [] := by kernel_rfl

theorem gmO4_ok : GamOk Try.prog (gmO4 (fun v => cyOk (cyOf v)) scaledF) := by
  unfold gmO4
  rw [fOkc_eq]
  exact ext_ok (ext_ok gm_within_ok ok_cvI) ok_scl
/-- A point and a number: a point, and whether it is one. -/
def FcsO (v : (Nat → Int) → Int → Nat → Int) (ok : (Nat → Int) → Int → Bool) : List SA → Option FR
  | [.v (.agg ⟨[.int .i64 a0, .int .i64 a1, .int .i64 a2, .int .i64 a3, .int .i64 a4, .int .i64 a5, .int .i64 a6, .int .i64 a7]⟩), .v (.int .i64 n)] => some { val := .tup [.agg (cyC (v (v8 a0 a1 a2 a3 a4 a5 a6 a7) n)), .v (.bool (ok (v8 a0 a1 a2 a3 a4 a5 a6 a7) n))] }
  | _ => none
def okSc (a : Nat → Int) (n : Int) : Bool := (cyOk (cyOf a) && inR n (-1000000) 1000000) && cyOk (cyOf (scaledF a n))
def vSc (a : Nat → Int) (n : Int) : Nat → Int := bif okSc a n then scaledF a n else fun _ => 0
theorem ok_cSc : SpecOk Try.prog 87 (specR [.val, .val] (FcsO vSc okSc)) := by
  refine specR_hr gmO4_ok Try.func87 rfl fun sas fr hF ho => ?_
  unfold FcsO at hF
  split at hF
  · rename_i a0 a1 a2 a3 a4 a5 a6 a7 n
    cases hF
    refine ⟨[], noLam, 100, .nil, noLam' _, ?_⟩
    show GoodQ (execF Try.prog (gmO4 (fun v => cyOk (cyOf v)) scaledF) noLam 100 Try.f87 [.v (cyv (v8 a0 a1 a2 a3 a4 a5 a6 a7)), .v (i64 n)] [] (packK 0)) _
    rw [treeO4]
    generalize hA : v8 a0 a1 a2 a3 a4 a5 a6 a7 = a
    have hw : w8 a = a := by subst hA; rfl
    rw [hw]
    have fin : ∀ (v : Nat → Int) (o : Bool), vSc a n = v → okSc a n = o → GoodQ (.out .ret [.tup [.agg (cyC v), .v (.bool o)]] []) (GivR (abP [.val, .val] [.v (.agg ⟨[.int .i64 a0, .int .i64 a1, .int .i64 a2, .int .i64 a3, .int .i64 a4, .int .i64 a5, .int .i64 a6, .int .i64 a7]⟩), .v (.int .i64 n)] []) { val := .tup [.agg (cyC (vSc a n)), .v (.bool (okSc a n))] }) := by
      rintro v o rfl rfl
      exact good_out ⟨_, rfl, rfl, .nil⟩
    have bad : okSc a n = false → GoodQ (.out .ret [.tup [.agg (cyC fun _ => 0), .v (.bool false)]] []) _ := fun e => fin _ _ (by rw [vSc, e]; rfl) e
    refine good_cond (fun q => ?_) fun q => ?_
    · have q' : (!cyOk (cyOf a)) = true := q
      exact bad (by rw [okSc, show cyOk (cyOf a) = false by simpa using q']; rfl)
    · have q' : (!cyOk (cyOf a)) = false := q
      have qa : cyOk (cyOf a) = true := by simpa using q'
      refine good_cond (fun q => ?_) fun q => ?_
      · have q' : (!inR n (-1000000) 1000000) = true := q
        exact bad (by rw [okSc, qa, show inR n (-1000000) 1000000 = false by simpa using q']; rfl)
      · have q' : (!inR n (-1000000) 1000000) = false := q
        have qb : inR n (-1000000) 1000000 = true := by simpa using q'
        refine good_cond (fun q => ?_) fun q => ?_
        · have q' : (!cyOk (cyOf (scaledF a n))) = true := q
          exact bad (by rw [okSc, qa, qb, show cyOk (cyOf (scaledF a n)) = false by simpa using q']; rfl)
        · have q' : (!cyOk (cyOf (scaledF a n))) = false := q
          have qm : cyOk (cyOf (scaledF a n)) = true := by simpa using q'
          have e : okSc a n = true := by rw [okSc, qa, qb, qm]; rfl
          exact fin (scaledF a n) true (by rw [vSc, e]; rfl) e
  · cases hF

end Go.Proofs.Ytmdcafhnjihckaa

/- scaled: a row times a number. Conditions: a row of points, a number. -/
namespace Go.Proofs.Ytmdcafhnjihckaa
open Go.RowKit
set_option maxRecDepth 100000

noncomputable abbrev fSd : Func := Try.f32
abbrev lvSd : Ex → List Nat := lv3 [0, 1, 6, 7] [6] [4, 5]
abbrev stSd (m : Nat) (x : Int) (i : Nat) : List AV := [.sl 0 8 0 0 m none, .v (i64 x), .own 1 i, .v (i64 i)]
abbrev hpSd (m : Nat) (f : Nat → Nat → Int) (i : Nat) (h : Nat → Nat → Int) : List AB := [.row false m 8 (row8 f) 31, .row true i 8 (row8 h) 31]
def gmSd (v : (Nat → Int) → Int → Nat → Int) (ok : (Nat → Int) → Int → Bool) : Gam := ext g0 87 (specR [.val, .val] (FcsO v ok))
theorem rndSd (v : (Nat → Int) → Int → Nat → Int) (ok : (Nat → Int) → Int → Bool) (m : Nat) (f : Nat → Nat → Int) (x : Int) (h : Nat → Nat → Int) (i : Nat) : execC Try.prog (gmSd v ok) 100 noLam (loopAt 0 fSd) (mkT 0 34 ((lvSd .normal).zip (stSd m x i))) (hpSd m f i h) (leafV 34 lvSd 1)
    = bif decide ((↑i : Int) < (↑m : Int)) then needs [decide ((↑i : Int) < (↑m : Int)), decide ((0 : Nat) + Int.toNat (↑i : Int) < m)] (bif !ok (w8 (f ((0 : Nat) + Int.toNat (↑i : Int)))) x then Res.out Ex.ret [AV.own (1 : Nat) i, AV.v (Value.bool false)] [AB.row false m (8 : Nat) (row8 f) (31 : TypeId), AB.row true i (8 : Nat) (row8 h) (31 : TypeId)] else needs [Nat.ble i i, Nat.ble (i + (1 : Nat)) (549755813888 : Nat)] (Res.out Ex.normal [AV.sl (0 : Nat) (8 : Nat) (0 : Nat) (0 : Nat) m none, AV.v (Value.int IntKind.i64 x), AV.own (1 : Nat) (i + (1 : Nat)), AV.v (Value.int IntKind.i64 (IntKind.wrap IntKind.i64 ((↑i : Int) + (1 : Int))))] [AB.row false m (8 : Nat) (row8 f) (31 : TypeId), AB.row true (i + (1 : Nat)) (8 : Nat) (fun q ↦ [Value.int IntKind.i64 (bif Nat.blt q i then h q (0 : Nat) else v (w8 (f ((0 : Nat) + Int.toNat (↑i : Int)))) x (0 : Nat)), Value.int IntKind.i64 (bif Nat.blt q i then h q (1 : Nat) else v (w8 (f ((0 : Nat) + Int.toNat (↑i : Int)))) x (1 : Nat)), Value.int IntKind.i64 (bif Nat.blt q i then h q (2 : Nat) else v (w8 (f ((0 : Nat) + Int.toNat (↑i : Int)))) x (2 : Nat)), Value.int IntKind.i64 (bif Nat.blt q i then h q (3 : Nat) else v (w8 (f ((0 : Nat) + Int.toNat (↑i : Int)))) x (3 : Nat)), Value.int IntKind.i64 (bif Nat.blt q i then h q (4 : Nat) else v (w8 (f ((0 : Nat) + Int.toNat (↑i : Int)))) x (4 : Nat)), Value.int IntKind.i64 (bif Nat.blt q i then h q (5 : Nat) else v (w8 (f ((0 : Nat) + Int.toNat (↑i : Int)))) x (5 : Nat)), Value.int IntKind.i64 (bif Nat.blt q i then h q (6 : Nat) else v (w8 (f ((0 : Nat) + Int.toNat (↑i : Int)))) x (6 : Nat)), Value.int IntKind.i64 (bif Nat.blt q i then h q (7 : Nat) else v (w8 (f ((0 : Nat) + Int.toNat (↑i : Int)))) x (7 : Nat))]) (31 : Nat)])) else Res.out (Ex.exit (0 : Nat)) [AV.own (1 : Nat) i] [AB.row false m (8 : Nat) (row8 f) (31 : TypeId), AB.row true i (8 : Nat) (row8 h) (31 : TypeId)] := by kernel_rfl

noncomputable abbrev lamSd (m : Nat) (f : Nat → Nat → Int) (x : Int) (c : Bool) (k : Nat) (h : Nat → Nat → Int) : Nat → Option Sum := oneL 0 (atS 34 (lvSd .normal) 1 (stSd m x 0) (hpSd m f 0 fun _ _ => 0) (fun K => cond c (K .normal (mkT 0 34 [(6, .own 1 m)]) (hpSd m f m h)) (K .ret (mkT 0 34 [(4, .own 1 k), (5, .v (.bool false))]) (hpSd m f k h))))
theorem treeSd (m : Nat) (f : Nat → Nat → Int) (x : Int) (c : Bool) (k : Nat) (h : Nat → Nat → Int) : execF Try.prog g0 (lamSd m f x c k h) 100 fSd [.sl 0 8 0 0 m none, .v (i64 x)] (hpIy m f) (packK 1)
    = needs [chk ([AV.sl (0 : Nat) (8 : Nat) (0 : Nat) (0 : Nat) m none, AV.v (Value.int IntKind.i64 x), AV.own (1 : Nat) (0 : Nat), AV.v (Value.int IntKind.i64 (0 : Int))] = stSd m x (0 : Nat) ∧ Hsim [AB.row false m (8 : Nat) (row8 f) (31 : TypeId), AB.row true (0 : Nat) (8 : Nat) (fun _ ↦ []) (31 : Nat)] (hpSd m f (0 : Nat) fun x x_1 ↦ (0 : Int)))] (bif c then Res.out Ex.ret [AV.tup [AV.own (1 : Nat) m, AV.v (Value.bool true)]] [AB.row false m (8 : Nat) (row8 f) (31 : TypeId), AB.row true m (8 : Nat) (row8 h) (31 : TypeId)] else Res.out Ex.ret [AV.tup [AV.own (1 : Nat) k, AV.v (Value.bool false)]] [AB.row false m (8 : Nat) (row8 f) (31 : TypeId), AB.row true k (8 : Nat) (row8 h) (31 : TypeId)]) := by kernel_rfl

/-- A place that cannot be scaled; the row, scaled. -/
def sdB (f : Nat → Nat → Int) (x : Int) (i : Nat) : Bool := !okSc (w8 (f i)) x
def sdF (f : Nat → Nat → Int) (x : Int) : Nat → Nat → Int := fun i => vSc (w8 (f i)) x
def sdK (f : Nat → Nat → Int) (m : Nat) (x : Int) : Bool := noneTo (sdB f x) m
def sdN (f : Nat → Nat → Int) (m : Nat) (x : Int) : Nat := bif sdK f m x then m else (fstAt (sdB f x) m).toNat
def FsdO (sl : (Nat → Nat → Int) → Nat → Int → Nat) (sh : (Nat → Nat → Int) → Int → Nat → Nat → Int) (sq : (Nat → Nat → Int) → Nat → Int → Bool) : List SA → Option FR
  | [.row m g, .v (.int .i64 x)] => some { val := .tup [.own 0 (sl (it8 g) m x), .v (.bool (sq (it8 g) m x))], new := [.row true (sl (it8 g) m x) 8 (row8 (sh (it8 g) x)) 31], obl := [all8 m g, decide (m ≤ 2 ^ 38)] }
  | _ => none
theorem sumSd (m : Nat) (f : Nat → Nat → Int) (x : Int) (hm : m ≤ 2 ^ 38) :
    SumOk Try.prog 1 (.block 0 (.loop (loopAt 0 fSd))) (atS 34 (lvSd .normal) 1 (stSd m x 0) (hpSd m f 0 fun _ _ => 0) (fun K => cond (sdK f m x) (K .normal (mkT 0 34 [(6, .own 1 m)]) (hpSd m f m (sdF f x))) (K .ret (mkT 0 34 [(4, .own 1 (fstAt (sdB f x) m).toNat), (5, .v (.bool false))]) (hpSd m f (fstAt (sdB f x) m).toNat (sdF f x))))) := by
  refine for_at (Γ := gmSd vSc okSc) (ext_ok g0_ok ok_cSc) (n := 100) (m := 1) (lv := lvSd) (fun i => stSd m x i) (fun i => hpSd m f i (bif Nat.beq i 0 then (fun _ _ => 0) else sdF f x)) (fun i => noneTo (sdB f x) i = true) m (fun _ => noLam) (lv3_ris rfl rfl rfl) (Nat.le_refl _) rfl fun K Q hk i hno hi => ⟨noLam_ok _ _ _, ?_⟩
  have ho : ∀ j, j < i → (bif Nat.beq i 0 then (fun _ _ => (0 : Int)) else sdF f x) j = sdF f x j := by
    intro j hj
    cases i with
    | zero => exact absurd hj (Nat.not_lt_zero _)
    | succ i => rfl
  rw [rndSd]
  simp only [Int.toNat_natCast, Nat.zero_add]
  refine good_cond (fun c1 => ?_) fun c1 => ?_
  · have c1 := of_decide_eq_true c1
    have c1' : i < m := by omega
    rw [wr_in (x := (i : Int) + 1) (by omega)]
    refine good_needs (by simp only [ob_cons, ob_nil, and_true, decide_eq_true_eq]; omega) (good_cond (fun q => ?_) fun q => ?_)
    · have hb : sdB f x i = true := q
      refine good_out ⟨hpSd m f i (sdF f x), .cons (ABeq.refl _) (.cons (ABeq.row fun j hj => row8_congr fun k _ => by rw [ho j hj]) .nil), ?_⟩
      rw [show sdK f m x = false from noneTo_no c1' hb, fstAt_at hno c1' hb, Int.toNat_natCast] at hk
      exact hk
    · have hb : sdB f x i = false := q
      refine good_needs (by simp only [ob_cons, ob_nil, and_true, Nat.ble_eq]; omega) (good_out ⟨i + 1, ⟨rfl, c1', noneTo_succ hno hb⟩, rfl, .cons (ABeq.refl _) (.cons (ABeq.row fun j hj => ?_) .nil)⟩)
      by_cases h : j < i
      · rw [blt_yes h]
        simp only [cond_true, ho j h]
        rfl
      · have : j = i := by omega
        subst this
        rw [blt_no]
        rfl
  · have c1 := of_decide_eq_false c1
    have : i = m := by omega
    subst this
    refine good_out ⟨hpSd i f i (sdF f x), .cons (ABeq.refl _) (.cons (ABeq.row fun j hj => row8_congr fun k _ => by rw [ho j hj]) .nil), ?_⟩
    rw [if_pos rfl]
    rw [show sdK f i x = true from hno] at hk
    exact hk
theorem ok_sd : SpecOk Try.prog 32 (specR md_cv (FsdO sdN sdF sdK)) := by
  refine specR_hr g0_ok Try.func32 rfl fun sas fr hF ho => ?_
  unfold FsdO at hF
  split at hF
  · rename_i m g x
    cases hF
    simp only [ob_cons] at ho
    obtain ⟨h1, h2, _⟩ := ho
    have hm := of_decide_eq_true h2
    refine ⟨hpIy m (it8 g), lamSd m (it8 g) x (sdK (it8 g) m x) (fstAt (sdB (it8 g) x) m).toNat (sdF (it8 g) x), 100, .cons (ABeq.row fun j hj => all8_get h1 j hj) .nil, lam1 (by kernel_rfl) (sumSd m (it8 g) x hm), ?_⟩
    show GoodQ (execF Try.prog g0 (lamSd m (it8 g) x (sdK (it8 g) m x) (fstAt (sdB (it8 g) x) m).toNat (sdF (it8 g) x)) 100 fSd [.sl 0 8 0 0 m none, .v (i64 x)] (hpIy m (it8 g)) (packK 1)) _
    rw [treeSd]
    refine good_needs (by rw [ob_cons]; exact ⟨chk_of ⟨rfl, .cons (ABeq.refl _) (.cons (ABeq.row fun j hj => absurd hj (Nat.not_lt_zero _)) .nil)⟩, rfl⟩) (good_cond (fun q => ?_) fun q => ?_)
    · have e : sdN (it8 g) m x = m := by rw [sdN, q]; rfl
      refine good_out ⟨_, rfl, by rw [e, q]; rfl, .cons (ABeq.row fun j hj => (all8_get h1 j hj).symm) ?_⟩
      show Hsim _ [.row true (sdN (it8 g) m x) 8 (row8 (sdF (it8 g) x)) 31]
      rw [e]
      exact Hsim.refl _
    · have e : sdN (it8 g) m x = (fstAt (sdB (it8 g) x) m).toNat := by rw [sdN, q]; rfl
      refine good_out ⟨_, rfl, by rw [e, q]; rfl, .cons (ABeq.row fun j hj => (all8_get h1 j hj).symm) ?_⟩
      show Hsim _ [.row true (sdN (it8 g) m x) 8 (row8 (sdF (it8 g) x)) 31]
      rw [e]
      exact Hsim.refl _
  · cases hF

end Go.Proofs.Ytmdcafhnjihckaa

/- Plain laws of designs: a row's design goes through the row, so many times as large. No program, no conditions. -/
namespace Go.Proofs.Ytmdcafhnjihckaa
open Go.RowKit
set_option maxRecDepth 100000

def sumN (g : Nat → Int) : Nat → Int
  | 0 => 0
  | i + 1 => sumN g i + g i
theorem sumN_congr {g h : Nat → Int} : ∀ {n : Nat}, (∀ i, i < n → g i = h i) → sumN g n = sumN h n
  | 0, _ => rfl
  | n + 1, e => by rw [sumN, sumN, sumN_congr fun i hi => e i (by omega), e n (by omega)]
theorem sumN_zero : ∀ n : Nat, sumN (fun _ => 0) n = 0
  | 0 => rfl
  | n + 1 => by rw [sumN, sumN_zero n]; rfl
theorem sumN_add (g h : Nat → Int) : ∀ n : Nat, sumN (fun i => g i + h i) n = sumN g n + sumN h n
  | 0 => rfl
  | n + 1 => by rw [sumN, sumN, sumN, sumN_add g h n]; omega
theorem sumN_comm (g : Nat → Nat → Int) (m : Nat) : ∀ n : Nat, sumN (fun i => sumN (g i) m) n = sumN (fun j => sumN (fun i => g i j) n) m
  | 0 => (sumN_zero m).symm
  | n + 1 => by
    rw [sumN, sumN_comm g m n, ← sumN_add]
    rfl
theorem sumN_one {g : Nat → Int} {n i : Nat} (hi : i < n) (h : ∀ j, j < n → j ≠ i → g j = 0) : sumN g n = g i := by
  induction n with
  | zero => exact absurd hi (Nat.not_lt_zero _)
  | succ n ih =>
    rw [sumN]
    by_cases e : i = n
    · subst e
      rw [sumN_congr (h := fun _ => 0) fun j hj => h j (by omega) (by omega), sumN_zero]
      omega
    · rw [ih (by omega) fun j hj hne => h j (by omega) hne, h n (by omega) (by omega)]
      omega
theorem tsum_sumN (f : Nat → Int) (s : Int) (k : Nat) : ∀ n : Nat, sumN (fun j => tnI f ((j : Int) * s) k) n = tsum f s n k
  | 0 => rfl
  | n + 1 => by
    rw [sumN, tsum_sumN f s k n]
    rfl
theorem linS_sumN (φ : Int → (Nat → Int) → Int) (h : Nat → Nat → Int) : ∀ n : Nat, linS φ (listW h n) = sumN (fun j => φ (whOf (h j)).s (whOf (h j)).r.f) n
  | 0 => rfl
  | n + 1 => by
    rw [sumN, ← linS_sumN φ h n, show listW h (n + 1) = listW h n ++ [whOf (h n)] by simp [listW, List.range_succ], linS_append]
    show _ + (_ + 0) = _
    omega
def orB (n : Nat) : Bool := (List.range n).all fun r => r == 0 || (List.range 8).all fun j => (List.range 8).all fun k => decide (tsum (eB j) ((r * (24 / n) : Nat) : Int) n k = 0)
theorem orB_all : ([1, 2, 3, 4, 6, 8, 12, 24].all orB) = true := by decide +kernel
theorem div24 : ∀ n, n < 25 → 1 ≤ n → 24 % n = 0 → n ∈ [1, 2, 3, 4, 6, 8, 12, 24] := by decide +kernel
theorem orth_decide {n : Nat} (h0 : 1 ≤ n) (h1 : n < 25) (h2 : 24 % n = 0) {r : Nat} (hr : r < n) (hr0 : r ≠ 0) {j : Nat} (hj : j < 8) {k : Nat} (hk : k < 8) : tsum (eB j) ((r * (24 / n) : Nat) : Int) n k = 0 := by
  have h := List.all_eq_true.1 orB_all n (div24 n h1 h0 h2)
  unfold orB at h
  have h := List.all_eq_true.1 h r (List.mem_range.2 hr)
  rw [beq_eq_false_iff_ne.2 hr0, Bool.false_or] at h
  have h := List.all_eq_true.1 h j (List.mem_range.2 hj)
  have h := List.all_eq_true.1 h k (List.mem_range.2 hk)
  exact of_decide_eq_true h
theorem orth {f : Nat → Int} {n : Nat} (h0 : 1 ≤ n) (h1 : n ≤ 24) (h2 : 24 % n = 0) {d : Int} (hd : d % n ≠ 0) {k : Nat} (hk : k < 8) : tsum f (d * ((24 / n : Nat) : Int)) n k = 0 := by
  obtain ⟨r, hr⟩ : ∃ r : Nat, (r : Int) = d % n := ⟨(d % n).toNat, by have := Int.emod_nonneg d (show (n : Int) ≠ 0 by omega); omega⟩
  have hrn : r < n := by have := Int.emod_lt_of_pos d (show (0 : Int) < n by omega); omega
  have hne : (n : Int) * ((24 / n : Nat) : Int) = 24 := by
    have := Nat.div_add_mod 24 n
    rw [h2] at this
    exact_mod_cast (by omega : n * (24 / n) = 24)
  have e : (d * ((24 / n : Nat) : Int)) % 24 = ((r * (24 / n) : Nat) : Int) % 24 := by
    have hd2 := Int.emod_add_mul_ediv d n
    rw [show d * ((24 / n : Nat) : Int) = ((r * (24 / n) : Nat) : Int) + 24 * (d / n) by
      conv => lhs; rw [← hd2, ← hr]
      rw [Int.add_mul, Int.natCast_mul, Int.mul_assoc (n : Int), Int.mul_comm (d / (n : Int)), ← Int.mul_assoc (n : Int), hne]]
    rw [Int.add_mul_emod_self_left]
  rw [tsum_mod, e, ← tsum_mod]
  have dd := fun j (hj : j < 8) => orth_decide h0 (by omega) h2 hrn (by omega) hj hk
  rw [tsum_basis f _ k hk, dd 0 (by omega), dd 1 (by omega), dd 2 (by omega), dd 3 (by omega), dd 4 (by omega), dd 5 (by omega), dd 6 (by omega), dd 7 (by omega)]
  simp

/-- Sums of turned points, exact. -/
def trZ (f : Nat → Nat → Int) (n j : Int) : Nat → Nat → Int
  | 0 => fun _ => 0
  | i + 1 => fun k => trZ f n j i k + tnI (w8 (f i)) (agC n j i) k
theorem tnI_trZ (f : Nat → Nat → Int) (n j c : Int) {k : Nat} (hk : k < 8) : ∀ i, tnI (trZ f n j i) c k = sumN (fun u => tnI (w8 (f u)) (agC n j u + c) k) i
  | 0 => by
    show tnI (fun _ => 0) c k = 0
    exact Lin.zero (φ := fun _ g => tnI g c k) (fun _ f g => by show tnI (fun k => f k + g k) c k = _; rw [tnI_add]) 0
  | i + 1 => by
    show tnI (fun k => trZ f n j i k + tnI (w8 (f i)) (agC n j i) k) c k = _
    rw [tnI_add, sumN, ← tnI_trZ f n j c hk i]
    show _ + tnI (tnI (w8 (f i)) (agC n j i)) c k = _
    rw [tnI_tnI _ _ _ k hk]
theorem cv_bd {f : Nat → Nat → Int} {m : Nat} (h : cvB f m = true) {i : Nat} (hi : i < m) : bd8 1000000 (w8 (f i)) := fun k hk => by
  have := cyOk_bd (cvB_at h hi) k hk
  rw [cyOf_f8 (f i) k hk] at this
  rw [w8_at (f i) k hk]
  exact this
theorem trS_exact {f : Nat → Nat → Int} {n : Nat} {j : Int} (hc : cvB f n = true) : ∀ i, i ≤ n → noneTo (trB f n j) i = true → ∀ k, k < 8 → trS f n j i k = trZ f n j i k ∧ -1000000 ≤ trS f n j i k ∧ trS f n j i k ≤ 1000000
  | 0, _, _, k, _ => ⟨rfl, by show -1000000 ≤ (0 : Int) ∧ (0 : Int) ≤ 1000000; omega⟩
  | i + 1, hi, hno, k, hk => by
    have hno' : noneTo (trB f n j) i = true := noneTo_iff.2 fun u hu => noneTo_get hno (by omega)
    obtain ⟨e1, b1, b2⟩ := trS_exact hc i (by omega) hno' k hk
    have hb := cv_bd hc (i := i) (by omega)
    have ht : tuF (w8 (f i)) (agC n j i) k = tnI (w8 (f i)) (agC n j i) k := turnedF_Z hb (by omega) _ k hk
    have htb := tnI_bd hb (agC n j i) k hk
    have hs : trS f n j (i + 1) k = W (w8 (trS f n j i) k + w8 (tuF (w8 (f i)) (agC n j i)) k) := rfl
    have hbad : trB f n j i = false := noneTo_get hno (by omega)
    have hck : cyOk (cyOf (trS f n j (i + 1))) = true := by simpa [trB] using hbad
    have hcb := cyOk_bd hck k hk
    rw [cyOf_f8 (trS f n j (i + 1)) k hk] at hcb
    refine ⟨?_, hcb⟩
    rw [hs, w8_at _ k hk, w8_at _ k hk, ht, w64_in (by omega) (by omega), e1]
    rfl

theorem trV_exact {f : Nat → Nat → Int} {n : Nat} {j : Int} (hc : cvB f n = true) (h : trK f n j = true) : (∀ k, k < 8 → trV f n j k = trZ f n j n k) ∧ bd8 1000000 (trV f n j) := by
  have h2 := h
  rw [trK, Int.toNat_natCast] at h2
  have e : trV f n j = trS f n j n := by rw [trV, h, Int.toNat_natCast]; rfl
  have key := trS_exact hc n (Nat.le_refl _) h2
  rw [e]
  exact ⟨fun k hk => (key k hk).1, fun k hk => (key k hk).2⟩
theorem wh_rd (f : Nat → Nat → Int) (n j : Nat) : (whOf (rdF n (trF f n) j)).s = spJ n j ∧ ∀ k, k < 8 → (whOf (rdF n (trF f n) j)).r.f k = trV f n j k := ⟨rfl, forall8 rfl rfl rfl rfl rfl rfl rfl rfl⟩
theorem rw_bd {f : Nat → Nat → Int} {n : Nat} (hc : cvB f n = true) (ht : tkB f n = true) : bdW 2000000000000 (rwW f n) := fun w hw => by
  obtain ⟨j, hj, e⟩ := List.mem_map.1 (show w ∈ (List.range n).map fun j => whOf (rdF n (trF f n) j) from hw)
  subst e
  have hj := List.mem_range.1 hj
  have hk : trK f n j = true := by
    have := noneTo_get ht hj
    simpa [tbK] using this
  intro k h8
  rw [(wh_rd f n j).2 k h8]
  have := (trV_exact hc hk).2 k h8
  omega
/-- The angles meet. -/
theorem ag_meet {n : Nat} (h0 : 1 ≤ n) (h1 : n ≤ 24) (h2 : 24 % n = 0) (i j u : Nat) : (agC n j u + (i : Int) * Int.tdiv 24 n * spJ n j) % 24 = ((j : Int) * (((i : Int) - u) * ((24 / n : Nat) : Int))) % 24 := by
  have hne : (n : Int) * ((24 / n : Nat) : Int) = 24 := by
    have := Nat.div_add_mod 24 n
    rw [h2] at this
    exact_mod_cast (by omega : n * (24 / n) = 24)
  have e1 : Int.tdiv 24 (n : Int) = ((24 / n : Nat) : Int) := (Int.ofNat_tdiv 24 n).symm
  rw [agC, e1]
  generalize ((24 / n : Nat) : Int) = e at hne
  unfold spJ
  cases decide (2 * (j : Int) > n) with
  | false =>
    show (-((j : Int) * u) * e + (i : Int) * e * j) % 24 = _
    rw [show -((j : Int) * u) * e + (i : Int) * e * j = (j : Int) * (((i : Int) - u) * e) by grind]
  | true =>
    show (-((j : Int) * u) * e + (i : Int) * e * (j - n)) % 24 = _
    rw [show -((j : Int) * u) * e + (i : Int) * e * (j - n) = (j : Int) * (((i : Int) - u) * e) + 24 * (-(i : Int)) by grind]
    rw [Int.add_mul_emod_self_left]
/-- The design's point at a turn of the row. -/
theorem row_at {f : Nat → Nat → Int} {n : Nat} (hk : toK f n = true) (hT : okT (rwW f n) = true) {i : Nat} (hi : i < n) {k : Nat} (h8 : k < 8) : dAt (tidyL (rwW f n)) ((i : Int) * Int.tdiv 24 n) k = (n : Int) * f i k := by
  rw [toK, Bool.and_eq_true] at hk
  obtain ⟨hv, ht⟩ := hk
  obtain ⟨hr, hc⟩ := rvB_parts hv
  have hn := roV_in hr
  have h24 : 24 % n = 0 := by
    have := (roV_parts hr).2.2
    have := beq_iff_eq.1 this
    have e := Int.ofNat_tmod 24 n
    rw [show ((24 : Nat) : Int) = 24 from rfl] at e
    omega
  show linS (atT ((i : Int) * Int.tdiv 24 n) k) (tidyL (rwW f n)) = _
  rw [(tidyL_lin (rw_bd hc ht) hT).2 _ (atT_lin _ k), show rwW f n = listW (rdF n (trF f n)) n from rfl, linS_sumN]
  have step : ∀ j, j < n → atT ((i : Int) * Int.tdiv 24 n) k (whOf (rdF n (trF f n) j)).s (whOf (rdF n (trF f n) j)).r.f = sumN (fun u => tnI (w8 (f u)) ((j : Int) * (((i : Int) - u) * ((24 / n : Nat) : Int))) k) n := fun j hj => by
    have hK : trK f n j = true := by
      have := noneTo_get ht hj
      simpa [tbK] using this
    rw [(wh_rd f n j).1]
    show tnI _ ((i : Int) * Int.tdiv 24 n * spJ n j) k = _
    rw [tnI_congr (fun k hk => ((wh_rd f n j).2 k hk).trans ((trV_exact hc hK).1 k hk)) _ k h8, tnI_trZ f n j _ h8]
    refine sumN_congr fun u _ => ?_
    rw [tnI_mod (w8 (f u)) (ag_meet (by omega) (by omega) h24 i j u)]
  rw [sumN_congr step, sumN_comm]
  have inner : ∀ u, u < n → sumN (fun j => tnI (w8 (f u)) ((j : Int) * (((i : Int) - u) * ((24 / n : Nat) : Int))) k) n = if u = i then (n : Int) * f i k else 0 := fun u hu => by
    rw [tsum_sumN]
    by_cases e : u = i
    · subst e
      rw [if_pos rfl, Int.sub_self, Int.zero_mul, tsum_stand, w8_at (f u) k h8]
    · rw [if_neg e]
      refine orth (by omega) (by omega) h24 ?_ h8
      intro h
      obtain ⟨q, hq⟩ := Int.dvd_of_emod_eq_zero h
      have hq0 : q = 0 := by
        rcases Int.lt_trichotomy q 0 with h | h | h
        · exfalso
          have : (n : Int) * q ≤ -(n : Int) := by
            have := Int.mul_le_mul_of_nonneg_left (show q ≤ -1 by omega) (show (0 : Int) ≤ n by omega)
            omega
          omega
        · exact h
        · exfalso
          have : (n : Int) ≤ (n : Int) * q := by
            have := Int.mul_le_mul_of_nonneg_left (show 1 ≤ q by omega) (show (0 : Int) ≤ n by omega)
            omega
          omega
      subst hq0
      omega
  rw [sumN_congr inner, sumN_one hi fun j _ hne => if_neg hne, if_pos rfl]
/-- The row, gone through. -/
theorem law_row {f : Nat → Nat → Int} {n : Nat} (hy : yRd f n = true) (hr : roK (wfun (tRd f n)) (tRd f n).length n = true) (hs : sdK f n n = true) : roT (wfun (tRd f n)) (tRd f n).length n = listC (sdF f n) (sdN f n n) := by
  have hy2 := hy
  rw [yRd, Bool.and_eq_true] at hy2
  obtain ⟨hp, hT⟩ := hy2
  have hp2 := hp
  rw [rdP, Bool.and_eq_true] at hp2
  obtain ⟨hk, _⟩ := hp2
  have eT : tRd f n = tidyL (rwW f n) := by rw [tRd, hp]; rfl
  have hv := roV_in (roK_parts hr).1
  rw [roT_yes hr, Int.toNat_natCast, sdN, hs]
  show (List.range n).map _ = (List.range n).map _
  refine List.map_congr_left fun i hi => ?_
  have hi := List.mem_range.1 hi
  have hd : daOk (wfun (tRd f n)) ((i : Int) * Int.tdiv 24 n) (tRd f n).length = true := by
    have := noneTo_get (roK_parts hr).2.2 (j := i) (by omega)
    simpa [rwB] using this
  have hd2 := (da_spec hd).2.2.1
  rw [listW_fun] at hd2
  have ho : okSc (w8 (f i)) n = true := by
    have := noneTo_get hs hi
    simpa [sdB] using this
  have hb : bd8 1000000 (w8 (f i)) := by
    rw [toK, Bool.and_eq_true] at hk
    exact cv_bd (rvB_parts hk.1).2 hi
  refine cyOf_congr fun k h8 => ?_
  show daV (wfun (tRd f n)) ((i : Int) * Int.tdiv 24 n) (tRd f n).length k = vSc (w8 (f i)) n k
  rw [hd2 k h8, eT, row_at hk hT hi h8, vSc, ho]
  have h1 := hb k h8
  rw [w8_at (f i) k h8] at h1
  have hm := mul_bd (x := f i k) (y := (n : Int)) (A := 1000000) (B := 24) h1.1 h1.2 (by omega) (by omega)
  show _ = W (w8 (f i) k * n)
  rw [w8_at (f i) k h8, w64_in (by omega) (by omega), Int.mul_comm]

end Go.Proofs.Ytmdcafhnjihckaa

/- pick, where there are no bytes; the lengths of rows. No conditions. -/
namespace Go.Proofs.Ytmdcafhnjihckaa
open Go.RowKit
set_option maxRecDepth 100000

theorem treePk0 (q : Option Addr) (c : Nat) (p n : Int) (tr : TypeId) : execF Try.prog g0 noLam 100 Try.f70 [.ptr 0 0 0 0, .v (i64 n)] [.cells [.v (.slice q 0 c), .v (i64 p)] tr] (packK 1)
    = bif decide (n < (1 : Int)) then Res.out Ex.ret [AV.v (Value.int IntKind.i64 (0 : Int))] [AB.cells [AV.v (Value.slice q (0 : Nat) c), AV.v (Value.int IntKind.i64 (IntKind.wrap IntKind.i64 (p + (1 : Int))))] tr] else Res.out Ex.ret [AV.v (Value.int IntKind.i64 (0 : Int))] [AB.cells [AV.v (Value.slice q (0 : Nat) c), AV.v (Value.int IntKind.i64 (IntKind.wrap IntKind.i64 (p + (1 : Int))))] tr] := by kernel_rfl

/-- pick, where there are no bytes. -/
def Fpk0 : List AV → List AB → Option HR
  | [.ptr 0 0 0 0, .v (.int .i64 _)], [.cells [.v (.slice q 0 c), .v (.int .i64 p)] tr] => some { val := .v (.int .i64 0), out := [.cells [.v (.slice q 0 c), .v (.int .i64 (p + 1))] tr], obl := [decide (0 ≤ p), decide (p ≤ 2 ^ 30)] }
  | _, _ => none
theorem ok_pick0 : SpecOk Try.prog 70 (specK [] Fpk0) := by
  refine specK_ok g0_ok Try.func70 rfl fun avs H hr hF ho => ?_
  unfold Fpk0 at hF
  split at hF
  · rename_i n q c p tr
    cases hF
    simp only [ob_cons, decide_eq_true_eq] at ho
    obtain ⟨h1, h2, _⟩ := ho
    refine ⟨[.cells [.v (.slice q 0 c), .v (i64 p)] tr], noLam, 100, Hsim.refl _, noLam' _, ?_⟩
    rw [show execF Try.prog g0 noLam 100 Try.f70 [.ptr 0 0 0 0, .v (.int .i64 n)] [.cells [.v (.slice q 0 c), .v (i64 p)] tr] (packK [AB.cells [AV.v (.slice q 0 c), .v (i64 p)] tr].length) = _ from treePk0 q c p n tr]
    rw [wr_in (x := p + 1) (by omega)]
    exact good_cond (fun _ => good_out ⟨rfl, Hsim.refl _⟩) fun _ => good_out ⟨rfl, Hsim.refl _⟩
  · cases hF
def gmPk0 : Gam := ext g0 70 (specK [] Fpk0)
theorem gmPk0_ok : GamOk Try.prog gmPk0 := ext_ok g0_ok ok_pick0
def rowN (q : Int) : Int := if q = 0 then 1 else if q = 1 then 2 else if q = 2 then 3 else if q = 3 then 4 else if q = 4 then 6 else if q = 5 then 8 else if q = 6 then 12 else if q = 7 then 24 else if q = 8 then 5 else 0

end Go.Proofs.Ytmdcafhnjihckaa

/- l91Row: a row of points, whatever the bytes are. Conditions: those of pick. -/
namespace Go.Proofs.Ytmdcafhnjihckaa
open Go.RowKit
set_option maxRecDepth 100000

noncomputable abbrev fRw : Func := Try.f135
def gmRw (pk : Nat → (Nat → Int) → Int → Int → Int) (cf : Nat → (Nat → Int) → Int → Nat → Int) (cp : Nat → (Nat → Int) → Int → Int) : Gam := ext (gmPk pk) 126 (specK [] (FcyO cf cp))
abbrev lvRw : Ex → List Nat := lv3 [0, 1, 5, 6] [0, 5] [4]
abbrev stRw (n i : Nat) : List AV := [.ptr 0 0 0 0, .v (i64 n), .own 2 i, .v (i64 i)]
abbrev hpRw (l : Nat) (c : Option Nat) (p : Int) (m : Nat) (b : Nat → Int) (tr tb : TypeId) (k : Nat) (h : Nat → Nat → Int) : List AB := [.cells [.sl 1 1 0 0 l c, .v (i64 p)] tr, .row false m 1 (rowB b) tb, .row true k 8 (row8 h) 31]
theorem rndRw (pk : Nat → (Nat → Int) → Int → Int → Int) (cf : Nat → (Nat → Int) → Int → Nat → Int) (cp : Nat → (Nat → Int) → Int → Int) (l : Nat) (c : Option Nat) (p : Int) (m : Nat) (b : Nat → Int) (tr tb : TypeId) (h : Nat → Nat → Int) (n i : Nat) : execC Try.prog (gmRw pk cf cp) 100 noLam (loopAt 0 fRw) (mkT 0 26 ((lvRw .normal).zip (stRw n i))) (hpRw l c p m b tr tb i h) (leafV 26 lvRw 2)
    = bif decide ((↑i : Int) < (↑n : Int)) then needs [okB m (rowB b), decide (l ≤ m), decide ((0 : Int) ≤ p), decide (p ≤ (536870912 : Int)), decide ((0 : Nat) < m), decide ((0 : Nat) < m), Nat.ble i i, Nat.ble (i + (1 : Nat)) (549755813888 : Nat)] (Res.out Ex.normal [AV.ptr (0 : Nat) (0 : Nat) (0 : Nat) (0 : Nat), AV.v (Value.int IntKind.i64 (↑n : Int)), AV.own (2 : Nat) (i + (1 : Nat)), AV.v (Value.int IntKind.i64 (IntKind.wrap IntKind.i64 ((↑i : Int) + (1 : Int))))] [AB.cells [AV.sl (1 : Nat) (1 : Nat) (0 : Nat) (0 : Nat) l c, AV.v (Value.int IntKind.i64 (cp l (itB (rowB b)) p))] tr, AB.row false m (1 : Nat) (rowB b) tb, AB.row true (i + (1 : Nat)) (8 : Nat) (fun q ↦ [Value.int IntKind.i64 (bif Nat.blt q i then h q (0 : Nat) else cf l (itB (rowB b)) p (0 : Nat)), Value.int IntKind.i64 (bif Nat.blt q i then h q (1 : Nat) else cf l (itB (rowB b)) p (1 : Nat)), Value.int IntKind.i64 (bif Nat.blt q i then h q (2 : Nat) else cf l (itB (rowB b)) p (2 : Nat)), Value.int IntKind.i64 (bif Nat.blt q i then h q (3 : Nat) else cf l (itB (rowB b)) p (3 : Nat)), Value.int IntKind.i64 (bif Nat.blt q i then h q (4 : Nat) else cf l (itB (rowB b)) p (4 : Nat)), Value.int IntKind.i64 (bif Nat.blt q i then h q (5 : Nat) else cf l (itB (rowB b)) p (5 : Nat)), Value.int IntKind.i64 (bif Nat.blt q i then h q (6 : Nat) else cf l (itB (rowB b)) p (6 : Nat)), Value.int IntKind.i64 (bif Nat.blt q i then h q (7 : Nat) else cf l (itB (rowB b)) p (7 : Nat))]) (31 : Nat)]) else Res.out (Ex.exit (0 : Nat)) [AV.ptr (0 : Nat) (0 : Nat) (0 : Nat) (0 : Nat), AV.own (2 : Nat) i] [AB.cells [AV.sl (1 : Nat) (1 : Nat) (0 : Nat) (0 : Nat) l c, AV.v (Value.int IntKind.i64 p)] tr, AB.row false m (1 : Nat) (rowB b) tb, AB.row true i (8 : Nat) (row8 h) (31 : TypeId)] := by kernel_rfl

noncomputable abbrev lamRw (l : Nat) (c : Option Nat) (m : Nat) (b : Nat → Int) (tr tb : TypeId) (n : Nat) (p1 p2 : Int) (h : Nat → Nat → Int) : Nat → Option Sum := oneL 0 (atS 26 (lvRw .normal) 2 (stRw n 0) (hpRw l c p1 m b tr tb 0 fun _ _ => 0) (fun K => K .normal (mkT 0 26 [(0, .ptr 0 0 0 0), (5, .own 2 n)]) (hpRw l c p2 m b tr tb n h)))
theorem treeRw (pk : Nat → (Nat → Int) → Int → Int → Int) (cf : Nat → (Nat → Int) → Int → Nat → Int) (cp : Nat → (Nat → Int) → Int → Int) (l : Nat) (c : Option Nat) (p : Int) (m : Nat) (b : Nat → Int) (tr tb : TypeId) (n : Nat) (p1 p2 : Int) (h : Nat → Nat → Int) : execF Try.prog (gmRw pk cf cp) (lamRw l c m b tr tb n p1 p2 h) 100 fRw [.ptr 0 0 0 0, .v (i64 n)] (hpRd l c p m b tr tb) (packK 2)
    = needs [chk ([AV.ptr (0 : Nat) (0 : Nat) (0 : Nat) (0 : Nat), AV.v (Value.int IntKind.i64 (↑n : Int)), AV.own (2 : Nat) (0 : Nat), AV.v (Value.int IntKind.i64 (0 : Int))] = stRw n (0 : Nat) ∧ Hsim [AB.cells [AV.sl (1 : Nat) (1 : Nat) (0 : Nat) (0 : Nat) l c, AV.v (Value.int IntKind.i64 p)] tr, AB.row false m (1 : Nat) (rowB b) tb, AB.row true (0 : Nat) (8 : Nat) (fun _ ↦ []) (31 : Nat)] (hpRw l c p1 m b tr tb (0 : Nat) fun x x_1 ↦ (0 : Int))), okB m (rowB b), decide (l ≤ m), decide ((0 : Int) ≤ p2), decide (p2 ≤ (1073741824 : Int)), decide ((0 : Nat) < m)] (bif pk l (itB (rowB b)) p2 (30 : Int) == (0 : Int) then needs [Nat.ble n n, Nat.ble (n + (1 : Nat)) (549755813888 : Nat)] (Res.out Ex.ret [AV.own (2 : Nat) (n + (1 : Nat))] [AB.cells [AV.sl (1 : Nat) (1 : Nat) (0 : Nat) (0 : Nat) l c, AV.v (Value.int IntKind.i64 (p2 + (1 : Int)))] tr, AB.row false m (1 : Nat) (rowB b) tb, AB.row true (n + (1 : Nat)) (8 : Nat) (fun q ↦ [Value.int IntKind.i64 (bif Nat.blt q n then h q (0 : Nat) else (0 : Int)), Value.int IntKind.i64 (bif Nat.blt q n then h q (1 : Nat) else (0 : Int)), Value.int IntKind.i64 (bif Nat.blt q n then h q (2 : Nat) else (0 : Int)), Value.int IntKind.i64 (bif Nat.blt q n then h q (3 : Nat) else (0 : Int)), Value.int IntKind.i64 (bif Nat.blt q n then h q (4 : Nat) else (0 : Int)), Value.int IntKind.i64 (bif Nat.blt q n then h q (5 : Nat) else (0 : Int)), Value.int IntKind.i64 (bif Nat.blt q n then h q (6 : Nat) else (0 : Int)), Value.int IntKind.i64 (bif Nat.blt q n then h q (7 : Nat) else (0 : Int))]) (31 : Nat)]) else Res.out Ex.ret [AV.own (2 : Nat) n] [AB.cells [AV.sl (1 : Nat) (1 : Nat) (0 : Nat) (0 : Nat) l c, AV.v (Value.int IntKind.i64 (p2 + (1 : Int)))] tr, AB.row false m (1 : Nat) (rowB b) tb, AB.row true n (8 : Nat) (row8 h) (31 : TypeId)]) := by kernel_rfl

/-- A row, drawn: how long, its points, where the reader is. -/
def FrwO (rl : Nat → (Nat → Int) → Int → Int → Nat) (rf : Nat → (Nat → Int) → Int → Int → Nat → Nat → Int) (rp : Nat → (Nat → Int) → Int → Int → Int) : List AV → List AB → Option HR
  | [.ptr 0 0 0 0, .v (.int .i64 n)], [.cells [.sl 1 1 0 0 l c, .v (.int .i64 p)] tr, .row false m 1 g tb] => some { val := .own 2 (rl l (itB g) p n), out := [.cells [.sl 1 1 0 0 l c, .v (.int .i64 (rp l (itB g) p n))] tr, .row false m 1 g tb], new := [.row true (rl l (itB g) p n) 8 (row8 (rf l (itB g) p n)) 31], obl := [okB m g, decide (l ≤ m), decide (0 ≤ p), decide (p ≤ 2 ^ 27), decide (0 < m), inR n 0 24] }
  | _, _ => none
def gmRdJ (pk : Nat → (Nat → Int) → Int → Int → Int) (rl : Nat → (Nat → Int) → Int → Int → Nat) (rf : Nat → (Nat → Int) → Int → Int → Nat → Nat → Int) (rp : Nat → (Nat → Int) → Int → Int → Int) (q : Int) : Gam := ext (gmPJ pk 10 q) 135 (specK [] (FrwO rl rf rp))
theorem treeRRd0 (pk : Nat → (Nat → Int) → Int → Int → Int) (rl : Nat → (Nat → Int) → Int → Int → Nat) (rf : Nat → (Nat → Int) → Int → Int → Nat → Nat → Int) (rp : Nat → (Nat → Int) → Int → Int → Int) (m : Nat) (b : Nat → Int) : execF Try.prog (gmRdJ pk rl rf rp 0) noLam 100 Try.f28 [.sl 0 1 0 0 m none] [.row false m 1 (rowB b) 5] (packK 1)
    = bif decide ((↑m : Int) > (2000 : Int)) then needs [decide ((2000 : Int) ≤ (↑m : Int)), decide ((↑m : Int) ≤ (↑m : Int)), okB m (rowB b), decide (Int.toNat ((2000 : Int) - (0 : Int)) ≤ m), decide (pk (Int.toNat ((2000 : Int) - (0 : Int))) (itB (rowB b)) (0 : Int) (10 : Int) = (0 : Int)), decide ((0 : Nat) < m), okB m (rowB b), decide (Int.toNat ((2000 : Int) - (0 : Int)) ≤ m), decide ((0 : Nat) < m), decide ((0 : Nat) < m)] (Res.out Ex.ret [AV.own (1 : Nat) (rl (Int.toNat ((2000 : Int) - (0 : Int))) (itB (rowB b)) (1 : Int) (1 : Int))] [AB.row false m (1 : Nat) (rowB b) (5 : TypeId), AB.row true (rl (Int.toNat ((2000 : Int) - (0 : Int))) (itB (rowB b)) (1 : Int) (1 : Int)) (8 : Nat) (row8 (rf (Int.toNat ((2000 : Int) - (0 : Int))) (itB (rowB b)) (1 : Int) (1 : Int))) (31 : TypeId)]) else needs [okB m (rowB b), decide (m ≤ m), decide (pk m (itB (rowB b)) (0 : Int) (10 : Int) = (0 : Int)), decide ((0 : Nat) < m), okB m (rowB b), decide (m ≤ m), decide ((0 : Nat) < m), decide ((0 : Nat) < m)] (Res.out Ex.ret [AV.own (1 : Nat) (rl m (itB (rowB b)) (1 : Int) (1 : Int))] [AB.row false m (1 : Nat) (rowB b) (5 : TypeId), AB.row true (rl m (itB (rowB b)) (1 : Int) (1 : Int)) (8 : Nat) (row8 (rf m (itB (rowB b)) (1 : Int) (1 : Int))) (31 : TypeId)]) := by kernel_rfl

theorem treeRRd1 (pk : Nat → (Nat → Int) → Int → Int → Int) (rl : Nat → (Nat → Int) → Int → Int → Nat) (rf : Nat → (Nat → Int) → Int → Int → Nat → Nat → Int) (rp : Nat → (Nat → Int) → Int → Int → Int) (m : Nat) (b : Nat → Int) : execF Try.prog (gmRdJ pk rl rf rp 1) noLam 100 Try.f28 [.sl 0 1 0 0 m none] [.row false m 1 (rowB b) 5] (packK 1)
    = bif decide ((↑m : Int) > (2000 : Int)) then needs [decide ((2000 : Int) ≤ (↑m : Int)), decide ((↑m : Int) ≤ (↑m : Int)), okB m (rowB b), decide (Int.toNat ((2000 : Int) - (0 : Int)) ≤ m), decide (pk (Int.toNat ((2000 : Int) - (0 : Int))) (itB (rowB b)) (0 : Int) (10 : Int) = (1 : Int)), decide ((0 : Nat) < m), okB m (rowB b), decide (Int.toNat ((2000 : Int) - (0 : Int)) ≤ m), decide ((0 : Nat) < m), decide ((0 : Nat) < m)] (Res.out Ex.ret [AV.own (1 : Nat) (rl (Int.toNat ((2000 : Int) - (0 : Int))) (itB (rowB b)) (1 : Int) (2 : Int))] [AB.row false m (1 : Nat) (rowB b) (5 : TypeId), AB.row true (rl (Int.toNat ((2000 : Int) - (0 : Int))) (itB (rowB b)) (1 : Int) (2 : Int)) (8 : Nat) (row8 (rf (Int.toNat ((2000 : Int) - (0 : Int))) (itB (rowB b)) (1 : Int) (2 : Int))) (31 : TypeId)]) else needs [okB m (rowB b), decide (m ≤ m), decide (pk m (itB (rowB b)) (0 : Int) (10 : Int) = (1 : Int)), decide ((0 : Nat) < m), okB m (rowB b), decide (m ≤ m), decide ((0 : Nat) < m), decide ((0 : Nat) < m)] (Res.out Ex.ret [AV.own (1 : Nat) (rl m (itB (rowB b)) (1 : Int) (2 : Int))] [AB.row false m (1 : Nat) (rowB b) (5 : TypeId), AB.row true (rl m (itB (rowB b)) (1 : Int) (2 : Int)) (8 : Nat) (row8 (rf m (itB (rowB b)) (1 : Int) (2 : Int))) (31 : TypeId)]) := by kernel_rfl

theorem treeRRd2 (pk : Nat → (Nat → Int) → Int → Int → Int) (rl : Nat → (Nat → Int) → Int → Int → Nat) (rf : Nat → (Nat → Int) → Int → Int → Nat → Nat → Int) (rp : Nat → (Nat → Int) → Int → Int → Int) (m : Nat) (b : Nat → Int) : execF Try.prog (gmRdJ pk rl rf rp 2) noLam 100 Try.f28 [.sl 0 1 0 0 m none] [.row false m 1 (rowB b) 5] (packK 1)
    = bif decide ((↑m : Int) > (2000 : Int)) then needs [decide ((2000 : Int) ≤ (↑m : Int)), decide ((↑m : Int) ≤ (↑m : Int)), okB m (rowB b), decide (Int.toNat ((2000 : Int) - (0 : Int)) ≤ m), decide (pk (Int.toNat ((2000 : Int) - (0 : Int))) (itB (rowB b)) (0 : Int) (10 : Int) = (2 : Int)), decide ((0 : Nat) < m), okB m (rowB b), decide (Int.toNat ((2000 : Int) - (0 : Int)) ≤ m), decide ((0 : Nat) < m), decide ((0 : Nat) < m)] (Res.out Ex.ret [AV.own (1 : Nat) (rl (Int.toNat ((2000 : Int) - (0 : Int))) (itB (rowB b)) (1 : Int) (3 : Int))] [AB.row false m (1 : Nat) (rowB b) (5 : TypeId), AB.row true (rl (Int.toNat ((2000 : Int) - (0 : Int))) (itB (rowB b)) (1 : Int) (3 : Int)) (8 : Nat) (row8 (rf (Int.toNat ((2000 : Int) - (0 : Int))) (itB (rowB b)) (1 : Int) (3 : Int))) (31 : TypeId)]) else needs [okB m (rowB b), decide (m ≤ m), decide (pk m (itB (rowB b)) (0 : Int) (10 : Int) = (2 : Int)), decide ((0 : Nat) < m), okB m (rowB b), decide (m ≤ m), decide ((0 : Nat) < m), decide ((0 : Nat) < m)] (Res.out Ex.ret [AV.own (1 : Nat) (rl m (itB (rowB b)) (1 : Int) (3 : Int))] [AB.row false m (1 : Nat) (rowB b) (5 : TypeId), AB.row true (rl m (itB (rowB b)) (1 : Int) (3 : Int)) (8 : Nat) (row8 (rf m (itB (rowB b)) (1 : Int) (3 : Int))) (31 : TypeId)]) := by kernel_rfl

theorem treeRRd3 (pk : Nat → (Nat → Int) → Int → Int → Int) (rl : Nat → (Nat → Int) → Int → Int → Nat) (rf : Nat → (Nat → Int) → Int → Int → Nat → Nat → Int) (rp : Nat → (Nat → Int) → Int → Int → Int) (m : Nat) (b : Nat → Int) : execF Try.prog (gmRdJ pk rl rf rp 3) noLam 100 Try.f28 [.sl 0 1 0 0 m none] [.row false m 1 (rowB b) 5] (packK 1)
    = bif decide ((↑m : Int) > (2000 : Int)) then needs [decide ((2000 : Int) ≤ (↑m : Int)), decide ((↑m : Int) ≤ (↑m : Int)), okB m (rowB b), decide (Int.toNat ((2000 : Int) - (0 : Int)) ≤ m), decide (pk (Int.toNat ((2000 : Int) - (0 : Int))) (itB (rowB b)) (0 : Int) (10 : Int) = (3 : Int)), decide ((0 : Nat) < m), okB m (rowB b), decide (Int.toNat ((2000 : Int) - (0 : Int)) ≤ m), decide ((0 : Nat) < m), decide ((0 : Nat) < m)] (Res.out Ex.ret [AV.own (1 : Nat) (rl (Int.toNat ((2000 : Int) - (0 : Int))) (itB (rowB b)) (1 : Int) (4 : Int))] [AB.row false m (1 : Nat) (rowB b) (5 : TypeId), AB.row true (rl (Int.toNat ((2000 : Int) - (0 : Int))) (itB (rowB b)) (1 : Int) (4 : Int)) (8 : Nat) (row8 (rf (Int.toNat ((2000 : Int) - (0 : Int))) (itB (rowB b)) (1 : Int) (4 : Int))) (31 : TypeId)]) else needs [okB m (rowB b), decide (m ≤ m), decide (pk m (itB (rowB b)) (0 : Int) (10 : Int) = (3 : Int)), decide ((0 : Nat) < m), okB m (rowB b), decide (m ≤ m), decide ((0 : Nat) < m), decide ((0 : Nat) < m)] (Res.out Ex.ret [AV.own (1 : Nat) (rl m (itB (rowB b)) (1 : Int) (4 : Int))] [AB.row false m (1 : Nat) (rowB b) (5 : TypeId), AB.row true (rl m (itB (rowB b)) (1 : Int) (4 : Int)) (8 : Nat) (row8 (rf m (itB (rowB b)) (1 : Int) (4 : Int))) (31 : TypeId)]) := by kernel_rfl

theorem treeRRd4 (pk : Nat → (Nat → Int) → Int → Int → Int) (rl : Nat → (Nat → Int) → Int → Int → Nat) (rf : Nat → (Nat → Int) → Int → Int → Nat → Nat → Int) (rp : Nat → (Nat → Int) → Int → Int → Int) (m : Nat) (b : Nat → Int) : execF Try.prog (gmRdJ pk rl rf rp 4) noLam 100 Try.f28 [.sl 0 1 0 0 m none] [.row false m 1 (rowB b) 5] (packK 1)
    = bif decide ((↑m : Int) > (2000 : Int)) then needs [decide ((2000 : Int) ≤ (↑m : Int)), decide ((↑m : Int) ≤ (↑m : Int)), okB m (rowB b), decide (Int.toNat ((2000 : Int) - (0 : Int)) ≤ m), decide (pk (Int.toNat ((2000 : Int) - (0 : Int))) (itB (rowB b)) (0 : Int) (10 : Int) = (4 : Int)), decide ((0 : Nat) < m), okB m (rowB b), decide (Int.toNat ((2000 : Int) - (0 : Int)) ≤ m), decide ((0 : Nat) < m), decide ((0 : Nat) < m)] (Res.out Ex.ret [AV.own (1 : Nat) (rl (Int.toNat ((2000 : Int) - (0 : Int))) (itB (rowB b)) (1 : Int) (6 : Int))] [AB.row false m (1 : Nat) (rowB b) (5 : TypeId), AB.row true (rl (Int.toNat ((2000 : Int) - (0 : Int))) (itB (rowB b)) (1 : Int) (6 : Int)) (8 : Nat) (row8 (rf (Int.toNat ((2000 : Int) - (0 : Int))) (itB (rowB b)) (1 : Int) (6 : Int))) (31 : TypeId)]) else needs [okB m (rowB b), decide (m ≤ m), decide (pk m (itB (rowB b)) (0 : Int) (10 : Int) = (4 : Int)), decide ((0 : Nat) < m), okB m (rowB b), decide (m ≤ m), decide ((0 : Nat) < m), decide ((0 : Nat) < m)] (Res.out Ex.ret [AV.own (1 : Nat) (rl m (itB (rowB b)) (1 : Int) (6 : Int))] [AB.row false m (1 : Nat) (rowB b) (5 : TypeId), AB.row true (rl m (itB (rowB b)) (1 : Int) (6 : Int)) (8 : Nat) (row8 (rf m (itB (rowB b)) (1 : Int) (6 : Int))) (31 : TypeId)]) := by kernel_rfl

theorem treeRRd5 (pk : Nat → (Nat → Int) → Int → Int → Int) (rl : Nat → (Nat → Int) → Int → Int → Nat) (rf : Nat → (Nat → Int) → Int → Int → Nat → Nat → Int) (rp : Nat → (Nat → Int) → Int → Int → Int) (m : Nat) (b : Nat → Int) : execF Try.prog (gmRdJ pk rl rf rp 5) noLam 100 Try.f28 [.sl 0 1 0 0 m none] [.row false m 1 (rowB b) 5] (packK 1)
    = bif decide ((↑m : Int) > (2000 : Int)) then needs [decide ((2000 : Int) ≤ (↑m : Int)), decide ((↑m : Int) ≤ (↑m : Int)), okB m (rowB b), decide (Int.toNat ((2000 : Int) - (0 : Int)) ≤ m), decide (pk (Int.toNat ((2000 : Int) - (0 : Int))) (itB (rowB b)) (0 : Int) (10 : Int) = (5 : Int)), decide ((0 : Nat) < m), okB m (rowB b), decide (Int.toNat ((2000 : Int) - (0 : Int)) ≤ m), decide ((0 : Nat) < m), decide ((0 : Nat) < m)] (Res.out Ex.ret [AV.own (1 : Nat) (rl (Int.toNat ((2000 : Int) - (0 : Int))) (itB (rowB b)) (1 : Int) (8 : Int))] [AB.row false m (1 : Nat) (rowB b) (5 : TypeId), AB.row true (rl (Int.toNat ((2000 : Int) - (0 : Int))) (itB (rowB b)) (1 : Int) (8 : Int)) (8 : Nat) (row8 (rf (Int.toNat ((2000 : Int) - (0 : Int))) (itB (rowB b)) (1 : Int) (8 : Int))) (31 : TypeId)]) else needs [okB m (rowB b), decide (m ≤ m), decide (pk m (itB (rowB b)) (0 : Int) (10 : Int) = (5 : Int)), decide ((0 : Nat) < m), okB m (rowB b), decide (m ≤ m), decide ((0 : Nat) < m), decide ((0 : Nat) < m)] (Res.out Ex.ret [AV.own (1 : Nat) (rl m (itB (rowB b)) (1 : Int) (8 : Int))] [AB.row false m (1 : Nat) (rowB b) (5 : TypeId), AB.row true (rl m (itB (rowB b)) (1 : Int) (8 : Int)) (8 : Nat) (row8 (rf m (itB (rowB b)) (1 : Int) (8 : Int))) (31 : TypeId)]) := by kernel_rfl

theorem treeRRd6 (pk : Nat → (Nat → Int) → Int → Int → Int) (rl : Nat → (Nat → Int) → Int → Int → Nat) (rf : Nat → (Nat → Int) → Int → Int → Nat → Nat → Int) (rp : Nat → (Nat → Int) → Int → Int → Int) (m : Nat) (b : Nat → Int) : execF Try.prog (gmRdJ pk rl rf rp 6) noLam 100 Try.f28 [.sl 0 1 0 0 m none] [.row false m 1 (rowB b) 5] (packK 1)
    = bif decide ((↑m : Int) > (2000 : Int)) then needs [decide ((2000 : Int) ≤ (↑m : Int)), decide ((↑m : Int) ≤ (↑m : Int)), okB m (rowB b), decide (Int.toNat ((2000 : Int) - (0 : Int)) ≤ m), decide (pk (Int.toNat ((2000 : Int) - (0 : Int))) (itB (rowB b)) (0 : Int) (10 : Int) = (6 : Int)), decide ((0 : Nat) < m), okB m (rowB b), decide (Int.toNat ((2000 : Int) - (0 : Int)) ≤ m), decide ((0 : Nat) < m), decide ((0 : Nat) < m)] (Res.out Ex.ret [AV.own (1 : Nat) (rl (Int.toNat ((2000 : Int) - (0 : Int))) (itB (rowB b)) (1 : Int) (2 : Int))] [AB.row false m (1 : Nat) (rowB b) (5 : TypeId), AB.row true (rl (Int.toNat ((2000 : Int) - (0 : Int))) (itB (rowB b)) (1 : Int) (2 : Int)) (8 : Nat) (row8 (rf (Int.toNat ((2000 : Int) - (0 : Int))) (itB (rowB b)) (1 : Int) (2 : Int))) (31 : TypeId)]) else needs [okB m (rowB b), decide (m ≤ m), decide (pk m (itB (rowB b)) (0 : Int) (10 : Int) = (6 : Int)), decide ((0 : Nat) < m), okB m (rowB b), decide (m ≤ m), decide ((0 : Nat) < m), decide ((0 : Nat) < m)] (Res.out Ex.ret [AV.own (1 : Nat) (rl m (itB (rowB b)) (1 : Int) (2 : Int))] [AB.row false m (1 : Nat) (rowB b) (5 : TypeId), AB.row true (rl m (itB (rowB b)) (1 : Int) (2 : Int)) (8 : Nat) (row8 (rf m (itB (rowB b)) (1 : Int) (2 : Int))) (31 : TypeId)]) := by kernel_rfl

theorem treeRRd7 (pk : Nat → (Nat → Int) → Int → Int → Int) (rl : Nat → (Nat → Int) → Int → Int → Nat) (rf : Nat → (Nat → Int) → Int → Int → Nat → Nat → Int) (rp : Nat → (Nat → Int) → Int → Int → Int) (m : Nat) (b : Nat → Int) : execF Try.prog (gmRdJ pk rl rf rp 7) noLam 100 Try.f28 [.sl 0 1 0 0 m none] [.row false m 1 (rowB b) 5] (packK 1)
    = bif decide ((↑m : Int) > (2000 : Int)) then needs [decide ((2000 : Int) ≤ (↑m : Int)), decide ((↑m : Int) ≤ (↑m : Int)), okB m (rowB b), decide (Int.toNat ((2000 : Int) - (0 : Int)) ≤ m), decide (pk (Int.toNat ((2000 : Int) - (0 : Int))) (itB (rowB b)) (0 : Int) (10 : Int) = (7 : Int)), decide ((0 : Nat) < m), okB m (rowB b), decide (Int.toNat ((2000 : Int) - (0 : Int)) ≤ m), decide ((0 : Nat) < m), decide ((0 : Nat) < m)] (Res.out Ex.ret [AV.own (1 : Nat) (rl (Int.toNat ((2000 : Int) - (0 : Int))) (itB (rowB b)) (1 : Int) (3 : Int))] [AB.row false m (1 : Nat) (rowB b) (5 : TypeId), AB.row true (rl (Int.toNat ((2000 : Int) - (0 : Int))) (itB (rowB b)) (1 : Int) (3 : Int)) (8 : Nat) (row8 (rf (Int.toNat ((2000 : Int) - (0 : Int))) (itB (rowB b)) (1 : Int) (3 : Int))) (31 : TypeId)]) else needs [okB m (rowB b), decide (m ≤ m), decide (pk m (itB (rowB b)) (0 : Int) (10 : Int) = (7 : Int)), decide ((0 : Nat) < m), okB m (rowB b), decide (m ≤ m), decide ((0 : Nat) < m), decide ((0 : Nat) < m)] (Res.out Ex.ret [AV.own (1 : Nat) (rl m (itB (rowB b)) (1 : Int) (3 : Int))] [AB.row false m (1 : Nat) (rowB b) (5 : TypeId), AB.row true (rl m (itB (rowB b)) (1 : Int) (3 : Int)) (8 : Nat) (row8 (rf m (itB (rowB b)) (1 : Int) (3 : Int))) (31 : TypeId)]) := by kernel_rfl

theorem treeRRd8 (pk : Nat → (Nat → Int) → Int → Int → Int) (rl : Nat → (Nat → Int) → Int → Int → Nat) (rf : Nat → (Nat → Int) → Int → Int → Nat → Nat → Int) (rp : Nat → (Nat → Int) → Int → Int → Int) (m : Nat) (b : Nat → Int) : execF Try.prog (gmRdJ pk rl rf rp 8) noLam 100 Try.f28 [.sl 0 1 0 0 m none] [.row false m 1 (rowB b) 5] (packK 1)
    = bif decide ((↑m : Int) > (2000 : Int)) then needs [decide ((2000 : Int) ≤ (↑m : Int)), decide ((↑m : Int) ≤ (↑m : Int)), okB m (rowB b), decide (Int.toNat ((2000 : Int) - (0 : Int)) ≤ m), decide (pk (Int.toNat ((2000 : Int) - (0 : Int))) (itB (rowB b)) (0 : Int) (10 : Int) = (8 : Int)), decide ((0 : Nat) < m), okB m (rowB b), decide (Int.toNat ((2000 : Int) - (0 : Int)) ≤ m), decide ((0 : Nat) < m), decide ((0 : Nat) < m)] (Res.out Ex.ret [AV.own (1 : Nat) (rl (Int.toNat ((2000 : Int) - (0 : Int))) (itB (rowB b)) (1 : Int) (4 : Int))] [AB.row false m (1 : Nat) (rowB b) (5 : TypeId), AB.row true (rl (Int.toNat ((2000 : Int) - (0 : Int))) (itB (rowB b)) (1 : Int) (4 : Int)) (8 : Nat) (row8 (rf (Int.toNat ((2000 : Int) - (0 : Int))) (itB (rowB b)) (1 : Int) (4 : Int))) (31 : TypeId)]) else needs [okB m (rowB b), decide (m ≤ m), decide (pk m (itB (rowB b)) (0 : Int) (10 : Int) = (8 : Int)), decide ((0 : Nat) < m), okB m (rowB b), decide (m ≤ m), decide ((0 : Nat) < m), decide ((0 : Nat) < m)] (Res.out Ex.ret [AV.own (1 : Nat) (rl m (itB (rowB b)) (1 : Int) (4 : Int))] [AB.row false m (1 : Nat) (rowB b) (5 : TypeId), AB.row true (rl m (itB (rowB b)) (1 : Int) (4 : Int)) (8 : Nat) (row8 (rf m (itB (rowB b)) (1 : Int) (4 : Int))) (31 : TypeId)]) := by kernel_rfl

theorem treeRRd9 (pk : Nat → (Nat → Int) → Int → Int → Int) (rl : Nat → (Nat → Int) → Int → Int → Nat) (rf : Nat → (Nat → Int) → Int → Int → Nat → Nat → Int) (rp : Nat → (Nat → Int) → Int → Int → Int) (m : Nat) (b : Nat → Int) : execF Try.prog (gmRdJ pk rl rf rp 9) noLam 100 Try.f28 [.sl 0 1 0 0 m none] [.row false m 1 (rowB b) 5] (packK 1)
    = bif decide ((↑m : Int) > (2000 : Int)) then needs [decide ((2000 : Int) ≤ (↑m : Int)), decide ((↑m : Int) ≤ (↑m : Int)), okB m (rowB b), decide (Int.toNat ((2000 : Int) - (0 : Int)) ≤ m), decide (pk (Int.toNat ((2000 : Int) - (0 : Int))) (itB (rowB b)) (0 : Int) (10 : Int) = (9 : Int)), decide ((0 : Nat) < m), okB m (rowB b), decide (Int.toNat ((2000 : Int) - (0 : Int)) ≤ m), decide ((0 : Nat) < m), decide ((0 : Nat) < m)] (Res.out Ex.ret [AV.own (1 : Nat) (rl (Int.toNat ((2000 : Int) - (0 : Int))) (itB (rowB b)) (1 : Int) (12 : Int))] [AB.row false m (1 : Nat) (rowB b) (5 : TypeId), AB.row true (rl (Int.toNat ((2000 : Int) - (0 : Int))) (itB (rowB b)) (1 : Int) (12 : Int)) (8 : Nat) (row8 (rf (Int.toNat ((2000 : Int) - (0 : Int))) (itB (rowB b)) (1 : Int) (12 : Int))) (31 : TypeId)]) else needs [okB m (rowB b), decide (m ≤ m), decide (pk m (itB (rowB b)) (0 : Int) (10 : Int) = (9 : Int)), decide ((0 : Nat) < m), okB m (rowB b), decide (m ≤ m), decide ((0 : Nat) < m), decide ((0 : Nat) < m)] (Res.out Ex.ret [AV.own (1 : Nat) (rl m (itB (rowB b)) (1 : Int) (12 : Int))] [AB.row false m (1 : Nat) (rowB b) (5 : TypeId), AB.row true (rl m (itB (rowB b)) (1 : Int) (12 : Int)) (8 : Nat) (row8 (rf m (itB (rowB b)) (1 : Int) (12 : Int))) (31 : TypeId)]) := by kernel_rfl

theorem treeRRdN (q : Option Addr) (c : Nat) (g : Nat → List Value) : execF Try.prog gmPk0 noLam 100 Try.f28 [.v (.slice q 0 c)] [.row false 0 1 g 5] (packK 1)
    = Res.out Ex.ret [AV.own (1 : Nat) (2 : Nat)] [AB.row false (0 : Nat) (1 : Nat) g (5 : TypeId), AB.row true (2 : Nat) (8 : Nat) (fun q ↦ [Value.int IntKind.i64 (bif Nat.blt q (1 : Nat) then (1 : Int) else (0 : Int)), Value.int IntKind.i64 (bif Nat.blt q (1 : Nat) then (0 : Int) else (0 : Int)), Value.int IntKind.i64 (bif Nat.blt q (1 : Nat) then (0 : Int) else (0 : Int)), Value.int IntKind.i64 (bif Nat.blt q (1 : Nat) then (0 : Int) else (0 : Int)), Value.int IntKind.i64 (bif Nat.blt q (1 : Nat) then (0 : Int) else (0 : Int)), Value.int IntKind.i64 (bif Nat.blt q (1 : Nat) then (0 : Int) else (0 : Int)), Value.int IntKind.i64 (bif Nat.blt q (1 : Nat) then (0 : Int) else (0 : Int)), Value.int IntKind.i64 (bif Nat.blt q (1 : Nat) then (0 : Int) else (0 : Int))]) (31 : Nat)] := by kernel_rfl

end Go.Proofs.Ytmdcafhnjihckaa

/- DrawRowDesign: a list of points, whatever the bytes are. Conditions: bytes, at most 2^21. -/
namespace Go.Proofs.Ytmdcafhnjihckaa
open Go.RowKit
set_option maxRecDepth 100000

/-- Where the reader is after some points, and these. -/
noncomputable def rwP (l : Nat) (b : Nat → Int) (p : Int) : Nat → Int
  | 0 => p
  | i + 1 => cyP l b (rwP l b p i)
noncomputable def rwG (l : Nat) (b : Nat → Int) (p : Int) : Nat → Nat → Int := fun j => cyF l b (rwP l b p j)
theorem rwP_in (l : Nat) (b : Nat → Int) (p : Int) : ∀ i : Nat, p ≤ rwP l b p i ∧ rwP l b p i ≤ p + 12 * (i : Int)
  | 0 => by show p ≤ p ∧ p ≤ p + 12 * ((0 : Nat) : Int); omega
  | i + 1 => by
    have ih := rwP_in l b p i
    have := cyP_in l b (rwP l b p i)
    show p ≤ cyP l b (rwP l b p i) ∧ cyP l b (rwP l b p i) ≤ p + 12 * ((i + 1 : Nat) : Int)
    omega
theorem gmRw_ok : GamOk Try.prog (gmRw pkV cyF cyP) := ext_ok (ext_ok g0_ok ok_pick) ok_cyc
theorem rw_row (i : Nat) (o : Nat → Nat → Int) (G : Nat → Nat → Int) (ho : ∀ j, j < i → o j = G j) (x : Nat → Int) (hx : ∀ k, k < 8 → x k = G i k) (j : Nat) (hj : j < i + 1) : [i64 (bif Nat.blt j i then o j 0 else x 0), i64 (bif Nat.blt j i then o j 1 else x 1), i64 (bif Nat.blt j i then o j 2 else x 2), i64 (bif Nat.blt j i then o j 3 else x 3), i64 (bif Nat.blt j i then o j 4 else x 4), i64 (bif Nat.blt j i then o j 5 else x 5), i64 (bif Nat.blt j i then o j 6 else x 6), i64 (bif Nat.blt j i then o j 7 else x 7)] = row8 G j := by
  by_cases h : j < i
  · rw [blt_yes h]
    simp only [cond_true, ho j h]
  · have : j = i := by omega
    subst this
    rw [blt_no]
    simp only [cond_false, hx 0 (by omega), hx 1 (by omega), hx 2 (by omega), hx 3 (by omega), hx 4 (by omega), hx 5 (by omega), hx 6 (by omega), hx 7 (by omega)]
theorem sumRw (l : Nat) (c : Option Nat) (p : Int) (m : Nat) (b : Nat → Int) (tr tb : TypeId) (N : Nat) (hN : N ≤ 24) (hb : okB m (rowB b) = true) (hl : l ≤ m) (h0 : 0 ≤ p) (h1 : p ≤ 2 ^ 28) (hm : 0 < m) :
    SumOk Try.prog 2 (.block 0 (.loop (loopAt 0 fRw))) (atS 26 (lvRw .normal) 2 (stRw N 0) (hpRw l c p m b tr tb 0 fun _ _ => 0) (fun K => K .normal (mkT 0 26 [(0, .ptr 0 0 0 0), (5, .own 2 N)]) (hpRw l c (rwP l b p N) m b tr tb N (rwG l b p)))) := by
  refine for_at gmRw_ok (n := 100) (m := 2) (lv := lvRw) (fun i => stRw N i) (fun i => hpRw l c (rwP l b p i) m b tr tb i (bif Nat.beq i 0 then (fun _ _ => 0) else rwG l b p)) (fun _ => True) N (fun _ => noLam) (lv3_ris rfl rfl rfl) (Nat.le_refl _) trivial fun K Q hk i _ hi => ⟨noLam_ok _ _ _, ?_⟩
  have ho : ∀ j, j < i → (bif Nat.beq i 0 then (fun _ _ => (0 : Int)) else rwG l b p) j = rwG l b p j := by
    intro j hj
    cases i with
    | zero => exact absurd hj (Nat.not_lt_zero _)
    | succ i => rfl
  rw [rndRw]
  have hp := rwP_in l b p i
  refine good_cond (fun c1 => ?_) fun c1 => ?_
  · have c1 := of_decide_eq_true c1
    refine good_needs ?_ (good_out ⟨i + 1, ⟨rfl, by omega, trivial⟩, ?_, ?_⟩)
    · simp only [ob_cons, ob_nil, and_true, decide_eq_true_eq, Nat.ble_eq, hb, true_and]
      omega
    · rw [wr_in (x := (i : Int) + 1) (by omega)]
      rfl
    · refine .cons (ABeq.refl _) (.cons (ABeq.refl _) (.cons (ABeq.row fun q hq => ?_) .nil))
      exact rw_row i _ (rwG l b p) ho (cyF l b (rwP l b p i)) (fun _ _ => rfl) q hq
  · have c1 := of_decide_eq_false c1
    have : i = N := by omega
    subst this
    refine good_out ⟨hpRw l c (rwP l b p i) m b tr tb i (rwG l b p), .cons (ABeq.refl _) (.cons (ABeq.refl _) (.cons (ABeq.row fun j hj => row8_congr fun k _ => by rw [ho j hj]) .nil)), ?_⟩
    rw [if_pos rfl]
    exact hk
/-- How long the row is; its points. -/
noncomputable def rwN (l : Nat) (b : Nat → Int) (p n : Int) : Nat := if pkV l b (rwP l b p n.toNat) 30 = 0 then n.toNat + 1 else n.toNat
noncomputable def rwH (l : Nat) (b : Nat → Int) (p n : Int) : Nat → Nat → Int := fun j k => bif Nat.blt j n.toNat then rwG l b p j k else 0
noncomputable def rwE (l : Nat) (b : Nat → Int) (p n : Int) : Int := rwP l b p n.toNat + 1
theorem rwN_le (l : Nat) (b : Nat → Int) (p : Int) {n : Int} (h : n ≤ 24) : rwN l b p n ≤ 25 := by
  unfold rwN
  split <;> omega
theorem ok_rw : SpecOk Try.prog 135 (specK [] (FrwO rwN rwH rwE)) := by
  refine specK_ok gmRw_ok Try.func135 rfl fun avs H hr hF ho => ?_
  unfold FrwO at hF
  split at hF
  · rename_i n l c p tr m g tb
    cases hF
    simp only [ob_cons, decide_eq_true_eq] at ho
    obtain ⟨h1, h2, h3, h4, h5, h6, _⟩ := ho
    have h6 := inR_iff.1 h6
    obtain ⟨n, rfl⟩ := Int.eq_ofNat_of_zero_le h6.1
    have hb := okB_it h1
    have hp := rwP_in l (itB g) p n
    refine ⟨hpRd l c p m (itB g) tr tb, lamRw l c m (itB g) tr tb n p (rwP l (itB g) p n) (rwG l (itB g) p), 100, rd_sim h1, lam1 (by kernel_rfl) (sumRw l c p m (itB g) tr tb n (by omega) hb h2 h3 (by omega) h5), ?_⟩
    show GoodQ (execF Try.prog (gmRw pkV cyF cyP) (lamRw l c m (itB g) tr tb n p (rwP l (itB g) p n) (rwG l (itB g) p)) 100 fRw [.ptr 0 0 0 0, .v (i64 (n : Nat))] (hpRd l c p m (itB g) tr tb) (packK 2)) _
    rw [treeRw]
    simp only [itB_row]
    have eH : ∀ j, j < n → row8 (rwG l (itB g) p) j = row8 (rwH l (itB g) p n) j := fun j hj => row8_congr fun k _ => by
      unfold rwH
      rw [Int.toNat_natCast, blt_yes hj]
      rfl
    refine good_needs ?_ (good_cond (fun q => ?_) fun q => ?_)
    · simp only [ob_cons, ob_nil, and_true, decide_eq_true_eq, hb, true_and]
      exact ⟨chk_of ⟨rfl, .cons (ABeq.refl _) (.cons (ABeq.refl _) (.cons (ABeq.row fun j hj => absurd hj (Nat.not_lt_zero _)) .nil))⟩, h2, by omega, by omega, h5⟩
    · have eN : rwN l (itB g) p n = n + 1 := by unfold rwN; rw [Int.toNat_natCast, if_pos (beq_iff_eq.1 q)]
      refine good_needs (by simp only [ob_cons, ob_nil, and_true, Nat.ble_eq]; omega) (good_out ⟨by rw [eN], .cons (ABeq.refl _) (.cons (ABeq.row fun j hj => (okB_get h1 hj).1.symm) ?_)⟩)
      show Hsim _ [.row true (rwN l (itB g) p n) 8 (row8 (rwH l (itB g) p n)) 31]
      rw [eN]
      exact .cons (ABeq.row fun j hj => rfl) .nil
    · have eN : rwN l (itB g) p n = n := by unfold rwN; rw [Int.toNat_natCast, if_neg (beq_eq_false_iff_ne.1 q)]
      refine good_out ⟨by rw [eN], .cons (ABeq.refl _) (.cons (ABeq.row fun j hj => (okB_get h1 hj).1.symm) ?_)⟩
      show Hsim _ [.row true (rwN l (itB g) p n) 8 (row8 (rwH l (itB g) p n)) 31]
      rw [eN]
      exact .cons (ABeq.row eH) .nil
  · cases hF

def lnT (q : Int) : Int := if q = 0 then 1 else if q = 1 then 2 else if q = 2 then 3 else if q = 3 then 4 else if q = 4 then 6 else if q = 5 then 8 else if q = 6 then 2 else if q = 7 then 3 else if q = 8 then 4 else 12
def rzF : Nat → Nat → Int := fun j k => bif Nat.blt j 1 then (match k with | 0 => 1 | _ => 0) else 0
/-- A row, drawn from bytes: how long, its points. -/
noncomputable def bRdN (m : Nat) (b : Nat → Int) : Nat := if m = 0 then 2 else rwN (lnB m) b 1 (lnT (pkV (lnB m) b 0 10))
noncomputable def bRdF (m : Nat) (b : Nat → Int) : Nat → Nat → Int := if m = 0 then rzF else rwH (lnB m) b 1 (lnT (pkV (lnB m) b 0 10))
theorem lnT_in (q : Int) : 0 ≤ lnT q ∧ lnT q ≤ 24 := by
  unfold lnT
  repeat' split
  all_goals omega
theorem bRd_len (m : Nat) (b : Nat → Int) : bRdN m b ≤ 25 := by
  unfold bRdN
  split
  · omega
  · exact rwN_le _ _ _ (lnT_in _).2
def frC (n : Nat) (h : Nat → Nat → Int) : FR := { val := .own 0 n, new := [.row true n 8 (row8 h) 31] }
theorem gmRdJ_ok (q : Int) : GamOk Try.prog (gmRdJ pkV rwN rwH rwE q) := ext_ok (ext_ok g0_ok (ok_pickJ _ _)) ok_rw
theorem ok_drRd : SpecOk Try.prog 28 (specR md_co (FdrO fun m b => frC (bRdN m b) (bRdF m b))) := by
  refine draw_ok Try.func28 rfl (fun m b h0 hm hb => ⟨_, gmRdJ_ok (pkV (lnB m) b 0 10), ?_⟩) fun q c g b => ⟨_, gmPk0_ok, ?_⟩
  · have e : bRdN m b = rwN (lnB m) b 1 (lnT (pkV (lnB m) b 0 10)) := by unfold bRdN; rw [if_neg (by omega)]
    have e' : bRdF m b = rwH (lnB m) b 1 (lnT (pkV (lnB m) b 0 10)) := by unfold bRdF; rw [if_neg (by omega)]
    have q0 := pkV_nn (lnB m) b 0 10
    have q1 := pkV_lt (lnB m) b 0 (n := 10) (by omega)
    rw [e, e']
    generalize hq : pkV (lnB m) b 0 10 = q at q0 q1 ⊢
    rcases (by omega : q = 0 ∨ q = 1 ∨ q = 2 ∨ q = 3 ∨ q = 4 ∨ q = 5 ∨ q = 6 ∨ q = 7 ∨ q = 8 ∨ q = 9) with rfl | rfl | rfl | rfl | rfl | rfl | rfl | rfl | rfl | rfl
    all_goals first | rw [treeRRd0, itB_row] | rw [treeRRd1, itB_row] | rw [treeRRd2, itB_row] | rw [treeRRd3, itB_row] | rw [treeRRd4, itB_row] | rw [treeRRd5, itB_row] | rw [treeRRd6, itB_row] | rw [treeRRd7, itB_row] | rw [treeRRd8, itB_row] | rw [treeRRd9, itB_row]
    all_goals
      refine good_ln (fun e1 hc => ?_) fun e1 hc => ?_
      · rw [e1] at hq ⊢
        rw [show Int.toNat ((2000 : Int) - 0) = 2000 from rfl]
        exact ⟨by simp only [ob_cons, ob_nil, and_true, decide_eq_true_eq, hb, true_and]; omega, good_out ⟨_, rfl, rfl, Hsim.refl _⟩⟩
      · rw [e1] at hq ⊢
        exact ⟨by simp only [ob_cons, ob_nil, and_true, decide_eq_true_eq, hb, true_and]; omega, good_out ⟨_, rfl, rfl, Hsim.refl _⟩⟩
  · rw [treeRRdN]
    exact good_out ⟨_, rfl, rfl, .cons (ABeq.refl _) (.cons (ABeq.row fun j hj => rfl) .nil)⟩

end Go.Proofs.Ytmdcafhnjihckaa

/- laws.sameCycs. Conditions: two lists of points. -/
namespace Go.Proofs.Ytmdcafhnjihckaa
open Go.RowKit
set_option maxRecDepth 100000

def md_eqCS : List Md := [.rd 8 31, .rd 8 31]
def FeqP (eq : List Cy → List Cy → Bool) : List SA → Option FR
  | [.row m g, .row n g2] => some { val := .v (.bool (eq (listC (it8 g) m) (listC (it8 g2) n))), obl := [all8 m g, all8 n g2, decide (m ≤ 2 ^ 38)] }
  | _ => none
def eqC (A B : List Cy) : Bool := decide (A = B)
theorem eqC_me (A : List Cy) : eqC A A = true := decide_eq_true rfl
def badP (f h : Nat → Nat → Int) (i : Nat) : Bool := !decide (cyOf (f i) = cyOf (h i))
theorem eqC_list (f h : Nat → Nat → Int) (m : Nat) : eqC (listC f m) (listC h m) = noneTo (badP f h) m := by
  rw [Bool.eq_iff_iff, noneTo_iff, eqC, decide_eq_true_eq]
  refine ⟨fun e i hi => ?_, fun e => ?_⟩
  · have h1 := listC_get f hi
    rw [e, listC_get h hi, Option.some.injEq] at h1
    simp [badP, h1]
  · exact List.map_congr_left fun i hi => by
      have := e i (by simpa using hi)
      simpa [badP] using this
theorem eqC_len {A B : List Cy} (h : A.length ≠ B.length) : eqC A B = false := decide_eq_false fun e => h (by rw [e])
abbrev lvSc : Ex → List Nat := lv3 [0, 1, 5] [] [4]
abbrev hpSc (m : Nat) (f h : Nat → Nat → Int) : List AB := [.row false m 8 (row8 f) 31, .row false m 8 (row8 h) 31]
theorem rndSc (m : Nat) (f h : Nat → Nat → Int) (i : Nat) : execC Try.prog g0 100 noLam (loopAt 0 Try.f33) (mkT 0 26 ((lvSc .normal).zip [.sl 0 8 0 0 m none, .sl 1 8 0 0 m none, .v (i64 i)])) (hpSc m f h) (leafV 26 lvSc 2)
    = bif decide ((↑i : Int) < (↑m : Int)) then needs [decide ((↑i : Int) < (↑m : Int)), decide ((0 : Nat) + Int.toNat (↑i : Int) < m), decide ((↑i : Int) < (↑m : Int)), decide ((0 : Nat) + Int.toNat (↑i : Int) < m)] (bif !(f ((0 : Nat) + Int.toNat (↑i : Int)) (0 : Nat) == h ((0 : Nat) + Int.toNat (↑i : Int)) (0 : Nat) && (f ((0 : Nat) + Int.toNat (↑i : Int)) (1 : Nat) == h ((0 : Nat) + Int.toNat (↑i : Int)) (1 : Nat) && (f ((0 : Nat) + Int.toNat (↑i : Int)) (2 : Nat) == h ((0 : Nat) + Int.toNat (↑i : Int)) (2 : Nat) && (f ((0 : Nat) + Int.toNat (↑i : Int)) (3 : Nat) == h ((0 : Nat) + Int.toNat (↑i : Int)) (3 : Nat) && (f ((0 : Nat) + Int.toNat (↑i : Int)) (4 : Nat) == h ((0 : Nat) + Int.toNat (↑i : Int)) (4 : Nat) && (f ((0 : Nat) + Int.toNat (↑i : Int)) (5 : Nat) == h ((0 : Nat) + Int.toNat (↑i : Int)) (5 : Nat) && (f ((0 : Nat) + Int.toNat (↑i : Int)) (6 : Nat) == h ((0 : Nat) + Int.toNat (↑i : Int)) (6 : Nat) && (f ((0 : Nat) + Int.toNat (↑i : Int)) (7 : Nat) == h ((0 : Nat) + Int.toNat (↑i : Int)) (7 : Nat) && true))))))) && true) then Res.out Ex.ret [AV.v (Value.bool false)] [AB.row false m (8 : Nat) (row8 f) (31 : TypeId), AB.row false m (8 : Nat) (row8 h) (31 : TypeId)] else Res.out Ex.normal [AV.sl (0 : Nat) (8 : Nat) (0 : Nat) (0 : Nat) m none, AV.sl (1 : Nat) (8 : Nat) (0 : Nat) (0 : Nat) m none, AV.v (Value.int IntKind.i64 (IntKind.wrap IntKind.i64 ((↑i : Int) + (1 : Int))))] [AB.row false m (8 : Nat) (row8 f) (31 : TypeId), AB.row false m (8 : Nat) (row8 h) (31 : TypeId)]) else Res.out (Ex.exit (0 : Nat)) [] [AB.row false m (8 : Nat) (row8 f) (31 : TypeId), AB.row false m (8 : Nat) (row8 h) (31 : TypeId)] := by kernel_rfl

noncomputable abbrev lamSc (m : Nat) (f h : Nat → Nat → Int) (c : Bool) : Nat → Option Sum := oneL 0 (atS 26 (lvSc .normal) 2 [.sl 0 8 0 0 m none, .sl 1 8 0 0 m none, .v (i64 (0 : Nat))] (hpSc m f h) (fun K => cond c (K .normal (mkT 0 26 []) (hpSc m f h)) (K .ret (mkT 0 26 [(4, .v (.bool false))]) (hpSc m f h))))
theorem treeSc (m n : Nat) (f h : Nat → Nat → Int) (c : Bool) : execF Try.prog g0 (lamSc m f h c) 100 Try.f33 [.sl 0 8 0 0 m none, .sl 1 8 0 0 n none] [.row false m 8 (row8 f) 31, .row false n 8 (row8 h) 31] (packK 2)
    = bif (↑m : Int) != (↑n : Int) then Res.out Ex.ret [AV.v (Value.bool false)] [AB.row false m (8 : Nat) (row8 f) (31 : TypeId), AB.row false n (8 : Nat) (row8 h) (31 : TypeId)] else needs [chk ([AV.sl (0 : Nat) (8 : Nat) (0 : Nat) (0 : Nat) m none, AV.sl (1 : Nat) (8 : Nat) (0 : Nat) (0 : Nat) n none, AV.v (Value.int IntKind.i64 (0 : Int))] = [AV.sl (0 : Nat) (8 : Nat) (0 : Nat) (0 : Nat) m none, AV.sl (1 : Nat) (8 : Nat) (0 : Nat) (0 : Nat) m none, AV.v (Value.int IntKind.i64 (0 : Int))] ∧ Hsim [AB.row false m (8 : Nat) (row8 f) (31 : TypeId), AB.row false n (8 : Nat) (row8 h) (31 : TypeId)] (hpSc m f h))] (bif c then Res.out Ex.ret [AV.v (Value.bool true)] [AB.row false m (8 : Nat) (row8 f) (31 : TypeId), AB.row false m (8 : Nat) (row8 h) (31 : TypeId)] else Res.out Ex.ret [AV.v (Value.bool false)] [AB.row false m (8 : Nat) (row8 f) (31 : TypeId), AB.row false m (8 : Nat) (row8 h) (31 : TypeId)]) := by kernel_rfl

theorem sumSc (m : Nat) (f h : Nat → Nat → Int) (hm : m ≤ 2 ^ 40) :
    SumOk Try.prog 2 (.block 0 (.loop (loopAt 0 Try.f33))) (atS 26 (lvSc .normal) 2 [.sl 0 8 0 0 m none, .sl 1 8 0 0 m none, .v (i64 (0 : Nat))] (hpSc m f h) (fun K => cond (noneTo (badP f h) m) (K .normal (mkT 0 26 []) (hpSc m f h)) (K .ret (mkT 0 26 [(4, .v (.bool false))]) (hpSc m f h)))) := by
  refine for_at g0_ok (n := 100) (m := 2) (lv := lvSc) (fun i => [.sl 0 8 0 0 m none, .sl 1 8 0 0 m none, .v (i64 (i : Nat))]) (fun _ => hpSc m f h) (fun i => noneTo (badP f h) i = true) m (fun _ => noLam) (lv3_ris rfl rfl rfl) (Nat.le_refl _) rfl fun K Q hk i hi him => ⟨noLam_ok _ _ _, ?_⟩
  rw [rndSc]
  refine good_cond (fun c1 => ?_) fun c1 => ?_
  · have c1 := of_decide_eq_true c1
    have c1' : i < m := by omega
    rw [Int.toNat_natCast, Nat.zero_add, wr_in (x := (i : Int) + 1) (by omega)]
    refine good_needs (by simp only [ob_cons, ob_nil, and_true, decide_eq_true_eq]; omega) (good_cond (fun q => ?_) fun q => ?_)
    · have hb : badP f h i = true := by
        unfold badP
        rw [Bool.not_eq_true', decide_eq_false_iff_not]
        intro e
        simp only [cyOf, Cy.mk.injEq] at e
        obtain ⟨e0, e1, e2, e3, e4, e5, e6, e7⟩ := e
        simp [e0, e1, e2, e3, e4, e5, e6, e7] at q
      refine good_out ⟨_, Hsim.refl _, ?_⟩
      rw [noneTo_no c1' hb] at hk
      exact hk
    · have hb : badP f h i = false := by
        unfold badP
        rw [Bool.not_eq_false', decide_eq_true_eq]
        simp at q
        simp [cyOf, q]
      exact good_out ⟨i + 1, ⟨rfl, c1', noneTo_succ hi hb⟩, rfl, Hsim.refl _⟩
  · have c1 := of_decide_eq_false c1
    have : i = m := by omega
    subst this
    refine good_out ⟨_, Hsim.refl _, ?_⟩
    rw [if_pos rfl]
    rw [hi] at hk
    exact hk
theorem ok_sameC : SpecOk Try.prog 33 (specR md_eqCS (FeqP eqC)) := by
  refine specR_hr g0_ok Try.func33 rfl fun sas fr hF ho => ?_
  unfold FeqP at hF
  split at hF
  · rename_i m g n g2
    cases hF
    simp only [ob_cons] at ho
    obtain ⟨h1, h2, h3, _⟩ := ho
    have hm := of_decide_eq_true h3
    refine ⟨[.row false m 8 (row8 (it8 g)) 31, .row false n 8 (row8 (it8 g2)) 31], lamSc m (it8 g) (it8 g2) (noneTo (badP (it8 g) (it8 g2)) m), 100, .cons (ABeq.row fun j hj => all8_get h1 j hj) (.cons (ABeq.row fun j hj => all8_get h2 j hj) .nil), lam1 (by kernel_rfl) (sumSc m (it8 g) (it8 g2) (by omega)), ?_⟩
    show GoodQ (execF Try.prog g0 (lamSc m (it8 g) (it8 g2) (noneTo (badP (it8 g) (it8 g2)) m)) 100 Try.f33 [.sl 0 8 0 0 m none, .sl 1 8 0 0 n none] [.row false m 8 (row8 (it8 g)) 31, .row false n 8 (row8 (it8 g2)) 31] (packK 2)) _
    rw [treeSc]
    refine good_cond (fun q => ?_) fun q => ?_
    · have hne : m ≠ n := fun e => by
        subst e
        simp at q
      exact good_out ⟨_, rfl, by rw [eqC_len (by rw [listC_length, listC_length]; exact hne)], .cons (ABeq.row fun j hj => (all8_get h1 j hj).symm) (.cons (ABeq.row fun j hj => (all8_get h2 j hj).symm) .nil)⟩
    · have e : m = n := by
        have q2 : (m : Int) = n := by simpa using q
        omega
      subst e
      refine good_needs (by rw [ob_cons]; exact ⟨chk_of ⟨rfl, Hsim.refl _⟩, rfl⟩) (good_cond (fun q => ?_) fun q => ?_)
      · exact good_out ⟨_, rfl, by rw [eqC_list, q], .cons (ABeq.row fun j hj => (all8_get h1 j hj).symm) (.cons (ABeq.row fun j hj => (all8_get h2 j hj).symm) .nil)⟩
      · exact good_out ⟨_, rfl, by rw [eqC_list, q], .cons (ABeq.row fun j hj => (all8_get h1 j hj).symm) (.cons (ABeq.row fun j hj => (all8_get h2 j hj).symm) .nil)⟩
  · cases hF

end Go.Proofs.Ytmdcafhnjihckaa

/- laws.sameWheels. Conditions: two lists of wheels. -/
namespace Go.Proofs.Ytmdcafhnjihckaa
open Go.RowKit
set_option maxRecDepth 100000

abbrev lvSw : Ex → List Nat := lv3 [0, 1, 5] [] [4]
abbrev hpSw (m : Nat) (f h : Nat → Nat → Int) : List AB := [.row false m 9 (row9 f) 46, .row false m 9 (row9 h) 46]
theorem rndSw (m : Nat) (f h : Nat → Nat → Int) (i : Nat) : execC Try.prog g0 100 noLam (loopAt 0 Try.f17) (mkT 0 26 ((lvSw .normal).zip [.sl 0 9 0 0 m none, .sl 1 9 0 0 m none, .v (i64 i)])) (hpSw m f h) (leafV 26 lvSw 2)
    = bif decide ((↑i : Int) < (↑m : Int)) then needs [decide ((↑i : Int) < (↑m : Int)), decide ((0 : Nat) + Int.toNat (↑i : Int) < m), decide ((↑i : Int) < (↑m : Int)), decide ((0 : Nat) + Int.toNat (↑i : Int) < m)] (bif !(f ((0 : Nat) + Int.toNat (↑i : Int)) (0 : Nat) == h ((0 : Nat) + Int.toNat (↑i : Int)) (0 : Nat) && (f ((0 : Nat) + Int.toNat (↑i : Int)) (1 : Nat) == h ((0 : Nat) + Int.toNat (↑i : Int)) (1 : Nat) && (f ((0 : Nat) + Int.toNat (↑i : Int)) (2 : Nat) == h ((0 : Nat) + Int.toNat (↑i : Int)) (2 : Nat) && (f ((0 : Nat) + Int.toNat (↑i : Int)) (3 : Nat) == h ((0 : Nat) + Int.toNat (↑i : Int)) (3 : Nat) && (f ((0 : Nat) + Int.toNat (↑i : Int)) (4 : Nat) == h ((0 : Nat) + Int.toNat (↑i : Int)) (4 : Nat) && (f ((0 : Nat) + Int.toNat (↑i : Int)) (5 : Nat) == h ((0 : Nat) + Int.toNat (↑i : Int)) (5 : Nat) && (f ((0 : Nat) + Int.toNat (↑i : Int)) (6 : Nat) == h ((0 : Nat) + Int.toNat (↑i : Int)) (6 : Nat) && (f ((0 : Nat) + Int.toNat (↑i : Int)) (7 : Nat) == h ((0 : Nat) + Int.toNat (↑i : Int)) (7 : Nat) && (f ((0 : Nat) + Int.toNat (↑i : Int)) (8 : Nat) == h ((0 : Nat) + Int.toNat (↑i : Int)) (8 : Nat) && true))))))) && true && true)) then Res.out Ex.ret [AV.v (Value.bool false)] [AB.row false m (9 : Nat) (row9 f) (46 : TypeId), AB.row false m (9 : Nat) (row9 h) (46 : TypeId)] else Res.out Ex.normal [AV.sl (0 : Nat) (9 : Nat) (0 : Nat) (0 : Nat) m none, AV.sl (1 : Nat) (9 : Nat) (0 : Nat) (0 : Nat) m none, AV.v (Value.int IntKind.i64 (IntKind.wrap IntKind.i64 ((↑i : Int) + (1 : Int))))] [AB.row false m (9 : Nat) (row9 f) (46 : TypeId), AB.row false m (9 : Nat) (row9 h) (46 : TypeId)]) else Res.out (Ex.exit (0 : Nat)) [] [AB.row false m (9 : Nat) (row9 f) (46 : TypeId), AB.row false m (9 : Nat) (row9 h) (46 : TypeId)] := by kernel_rfl

noncomputable abbrev lamSw (m : Nat) (f h : Nat → Nat → Int) (c : Bool) : Nat → Option Sum := oneL 0 (atS 26 (lvSw .normal) 2 [.sl 0 9 0 0 m none, .sl 1 9 0 0 m none, .v (i64 (0 : Nat))] (hpSw m f h) (fun K => cond c (K .normal (mkT 0 26 []) (hpSw m f h)) (K .ret (mkT 0 26 [(4, .v (.bool false))]) (hpSw m f h))))
theorem treeSw (m n : Nat) (f h : Nat → Nat → Int) (c : Bool) : execF Try.prog g0 (lamSw m f h c) 100 Try.f17 [.sl 0 9 0 0 m none, .sl 1 9 0 0 n none] [.row false m 9 (row9 f) 46, .row false n 9 (row9 h) 46] (packK 2)
    = bif (↑m : Int) != (↑n : Int) then Res.out Ex.ret [AV.v (Value.bool false)] [AB.row false m (9 : Nat) (row9 f) (46 : TypeId), AB.row false n (9 : Nat) (row9 h) (46 : TypeId)] else needs [chk ([AV.sl (0 : Nat) (9 : Nat) (0 : Nat) (0 : Nat) m none, AV.sl (1 : Nat) (9 : Nat) (0 : Nat) (0 : Nat) n none, AV.v (Value.int IntKind.i64 (0 : Int))] = [AV.sl (0 : Nat) (9 : Nat) (0 : Nat) (0 : Nat) m none, AV.sl (1 : Nat) (9 : Nat) (0 : Nat) (0 : Nat) m none, AV.v (Value.int IntKind.i64 (0 : Int))] ∧ Hsim [AB.row false m (9 : Nat) (row9 f) (46 : TypeId), AB.row false n (9 : Nat) (row9 h) (46 : TypeId)] (hpSw m f h))] (bif c then Res.out Ex.ret [AV.v (Value.bool true)] [AB.row false m (9 : Nat) (row9 f) (46 : TypeId), AB.row false m (9 : Nat) (row9 h) (46 : TypeId)] else Res.out Ex.ret [AV.v (Value.bool false)] [AB.row false m (9 : Nat) (row9 f) (46 : TypeId), AB.row false m (9 : Nat) (row9 h) (46 : TypeId)]) := by kernel_rfl

theorem sumSw (m : Nat) (f h : Nat → Nat → Int) (hm : m ≤ 2 ^ 40) :
    SumOk Try.prog 2 (.block 0 (.loop (loopAt 0 Try.f17))) (atS 26 (lvSw .normal) 2 [.sl 0 9 0 0 m none, .sl 1 9 0 0 m none, .v (i64 (0 : Nat))] (hpSw m f h) (fun K => cond (noneTo (badE f h) m) (K .normal (mkT 0 26 []) (hpSw m f h)) (K .ret (mkT 0 26 [(4, .v (.bool false))]) (hpSw m f h)))) := by
  refine for_at g0_ok (n := 100) (m := 2) (lv := lvSw) (fun i => [.sl 0 9 0 0 m none, .sl 1 9 0 0 m none, .v (i64 (i : Nat))]) (fun _ => hpSw m f h) (fun i => noneTo (badE f h) i = true) m (fun _ => noLam) (lv3_ris rfl rfl rfl) (Nat.le_refl _) rfl fun K Q hk i hi him => ⟨noLam_ok _ _ _, ?_⟩
  rw [rndSw]
  refine good_cond (fun c1 => ?_) fun c1 => ?_
  · have c1 := of_decide_eq_true c1
    have c1' : i < m := by omega
    rw [Int.toNat_natCast, Nat.zero_add, wr_in (x := (i : Int) + 1) (by omega)]
    refine good_needs (by simp only [ob_cons, ob_nil, and_true, decide_eq_true_eq]; omega) (good_cond (fun q => ?_) fun q => ?_)
    · have hb : badE f h i = true := by
        unfold badE
        rw [Bool.not_eq_true', decide_eq_false_iff_not]
        intro e
        simp only [whOf, Wh.mk.injEq, Cy.mk.injEq] at e
        obtain ⟨e0, e1, e2, e3, e4, e5, e6, e7, e8⟩ := e
        simp [e0, e1, e2, e3, e4, e5, e6, e7, e8] at q
      refine good_out ⟨_, Hsim.refl _, ?_⟩
      rw [noneTo_no c1' hb] at hk
      exact hk
    · have hb : badE f h i = false := by
        unfold badE
        rw [Bool.not_eq_false', decide_eq_true_eq]
        simp at q
        simp [whOf, q]
      exact good_out ⟨i + 1, ⟨rfl, c1', noneTo_succ hi hb⟩, rfl, Hsim.refl _⟩
  · have c1 := of_decide_eq_false c1
    have : i = m := by omega
    subst this
    refine good_out ⟨_, Hsim.refl _, ?_⟩
    rw [if_pos rfl]
    rw [hi] at hk
    exact hk
theorem ok_sameW : SpecOk Try.prog 17 (specR md_eqWS (FeqB eqL)) := by
  refine specR_hr g0_ok Try.func17 rfl fun sas fr hF ho => ?_
  unfold FeqB at hF
  split at hF
  · rename_i m g n g2
    cases hF
    simp only [ob_cons] at ho
    obtain ⟨h1, h2, h3, _⟩ := ho
    have hm := of_decide_eq_true h3
    refine ⟨[.row false m 9 (row9 (itW g)) 46, .row false n 9 (row9 (itW g2)) 46], lamSw m (itW g) (itW g2) (noneTo (badE (itW g) (itW g2)) m), 100, .cons (ABeq.row fun j hj => allW_get h1 j hj) (.cons (ABeq.row fun j hj => allW_get h2 j hj) .nil), lam1 (by kernel_rfl) (sumSw m (itW g) (itW g2) (by omega)), ?_⟩
    show GoodQ (execF Try.prog g0 (lamSw m (itW g) (itW g2) (noneTo (badE (itW g) (itW g2)) m)) 100 Try.f17 [.sl 0 9 0 0 m none, .sl 1 9 0 0 n none] [.row false m 9 (row9 (itW g)) 46, .row false n 9 (row9 (itW g2)) 46] (packK 2)) _
    rw [treeSw]
    refine good_cond (fun q => ?_) fun q => ?_
    · have hne : m ≠ n := fun e => by
        subst e
        simp at q
      exact good_out ⟨_, rfl, by rw [eqL_len (by rw [listW_length, listW_length]; exact hne)], .cons (ABeq.row fun j hj => (allW_get h1 j hj).symm) (.cons (ABeq.row fun j hj => (allW_get h2 j hj).symm) .nil)⟩
    · have e : m = n := by
        have q2 : (m : Int) = n := by simpa using q
        omega
      subst e
      refine good_needs (by rw [ob_cons]; exact ⟨chk_of ⟨rfl, Hsim.refl _⟩, rfl⟩) (good_cond (fun q => ?_) fun q => ?_)
      · exact good_out ⟨_, rfl, by rw [eqL_list, q], .cons (ABeq.row fun j hj => (allW_get h1 j hj).symm) (.cons (ABeq.row fun j hj => (allW_get h2 j hj).symm) .nil)⟩
      · exact good_out ⟨_, rfl, by rw [eqL_list, q], .cons (ABeq.row fun j hj => (allW_get h1 j hj).symm) (.cons (ABeq.row fun j hj => (allW_get h2 j hj).symm) .nil)⟩
  · cases hF

end Go.Proofs.Ytmdcafhnjihckaa

/- FnRowDesign: its tree. Conditions: bytes. -/
namespace Go.Proofs.Ytmdcafhnjihckaa
open Go.RowKit
set_option maxRecDepth 100000

def gmLRd (dn : Nat → (Nat → Int) → Nat) (df : Nat → (Nat → Int) → Nat → Nat → Int) (yes : (Nat → Nat → Int) → Nat → Bool) (tl : (Nat → Nat → Int) → Nat → List Wh) (eq : List Wh → List Wh → Bool) (rk : (Nat → Nat → Int) → Nat → Int → Bool) (rt : (Nat → Nat → Int) → Nat → Int → List Cy) (sl : (Nat → Nat → Int) → Nat → Int → Nat) (sh : (Nat → Nat → Int) → Int → Nat → Nat → Int) (sq : (Nat → Nat → Int) → Nat → Int → Bool) (eqc : List Cy → List Cy → Bool) : Gam :=
  ext (ext (ext (ext (ext (ext (ext g0 28 (specR md_co (FdrO fun m b => frC (dn m b) (df m b)))) 29 (specU md_c8 (UrdO yes tl))) 30 (specR md_c8 (FrdS yes tl))) 17 (specR md_eqWS (FeqB eq))) 31 (specG md_wv (UroO rk rt))) 32 (specR md_cv (FsdO sl sh sq))) 33 (specR md_eqCS (FeqP eqc))
theorem lawRd (dn : Nat → (Nat → Int) → Nat) (df : Nat → (Nat → Int) → Nat → Nat → Int) (yes : (Nat → Nat → Int) → Nat → Bool) (tl : (Nat → Nat → Int) → Nat → List Wh) (eq : List Wh → List Wh → Bool) (rk : (Nat → Nat → Int) → Nat → Int → Bool) (rt : (Nat → Nat → Int) → Nat → Int → List Cy) (sl : (Nat → Nat → Int) → Nat → Int → Nat) (sh : (Nat → Nat → Int) → Int → Nat → Nat → Int) (sq : (Nat → Nat → Int) → Nat → Int → Bool) (eqc : List Cy → List Cy → Bool) (m : Nat) (b : Nat → Int) : execF Try.prog (gmLRd dn df yes tl eq rk rt sl sh sq eqc) noLam 100 Try.f6 [.sl 0 1 0 0 m none] [.row false m 1 (rowB b) 5] (packK 1)
    = bif decide ((↑m : Int) > (1048576 : Int)) then Res.out Ex.ret [AV.v (Value.bool true)] [AB.row false m (1 : Nat) (rowB b) (5 : TypeId)] else needs [Nat.ble ((0 : Nat) + m) m, okB m fun q ↦ rowB b ((0 : Nat) + q), decide (m ≤ (2097152 : Nat)), Nat.ble (dn m (itB fun q ↦ rowB b ((0 : Nat) + q))) (dn m (itB fun q ↦ rowB b ((0 : Nat) + q))), all8 (dn m (itB fun q ↦ rowB b ((0 : Nat) + q))) (row8 (df m (itB fun q ↦ rowB b ((0 : Nat) + q)))), decide (dn m (itB fun q ↦ rowB b ((0 : Nat) + q)) ≤ (274877906944 : Nat)), Nat.ble (dn m (itB fun q ↦ rowB b ((0 : Nat) + q))) (dn m (itB fun q ↦ rowB b ((0 : Nat) + q))), all8 (dn m (itB fun q ↦ rowB b ((0 : Nat) + q))) (row8 (df m (itB fun q ↦ rowB b ((0 : Nat) + q)))), decide (dn m (itB fun q ↦ rowB b ((0 : Nat) + q)) ≤ (274877906944 : Nat))] (bif !yes (it8 (row8 (df m (itB fun q ↦ rowB b ((0 : Nat) + q))))) (dn m (itB fun q ↦ rowB b ((0 : Nat) + q))) == yes (it8 (row8 (df m (itB fun q ↦ rowB b ((0 : Nat) + q))))) (dn m (itB fun q ↦ rowB b ((0 : Nat) + q))) then bif yes (it8 (row8 (df m (itB fun q ↦ rowB b ((0 : Nat) + q))))) (dn m (itB fun q ↦ rowB b ((0 : Nat) + q))) == yes (it8 (row8 (df m (itB fun q ↦ rowB b ((0 : Nat) + q))))) (dn m (itB fun q ↦ rowB b ((0 : Nat) + q))) then needs [Nat.ble ((0 : Nat) + List.length (tl (it8 (row8 (df m (itB fun q ↦ rowB b ((0 : Nat) + q))))) (dn m (itB fun q ↦ rowB b ((0 : Nat) + q))))) (List.length (tl (it8 (row8 (df m (itB fun q ↦ rowB b ((0 : Nat) + q))))) (dn m (itB fun q ↦ rowB b ((0 : Nat) + q))))), Nat.ble (List.length (tl (it8 (row8 (df m (itB fun q ↦ rowB b ((0 : Nat) + q))))) (dn m (itB fun q ↦ rowB b ((0 : Nat) + q))))) (List.length (tl (it8 (row8 (df m (itB fun q ↦ rowB b ((0 : Nat) + q))))) (dn m (itB fun q ↦ rowB b ((0 : Nat) + q))))), allW (List.length (tl (it8 (row8 (df m (itB fun q ↦ rowB b ((0 : Nat) + q))))) (dn m (itB fun q ↦ rowB b ((0 : Nat) + q))))) fun q ↦ row9 (wfun (tl (it8 (row8 (df m (itB fun q ↦ rowB b ((0 : Nat) + q))))) (dn m (itB fun q ↦ rowB b ((0 : Nat) + q))))) ((0 : Nat) + q), allW (List.length (tl (it8 (row8 (df m (itB fun q ↦ rowB b ((0 : Nat) + q))))) (dn m (itB fun q ↦ rowB b ((0 : Nat) + q))))) (row9 (wfun (tl (it8 (row8 (df m (itB fun q ↦ rowB b ((0 : Nat) + q))))) (dn m (itB fun q ↦ rowB b ((0 : Nat) + q)))))), decide (List.length (tl (it8 (row8 (df m (itB fun q ↦ rowB b ((0 : Nat) + q))))) (dn m (itB fun q ↦ rowB b ((0 : Nat) + q)))) ≤ (274877906944 : Nat))] (Res.out Ex.ret [AV.v (Value.bool (eq (listW (itW fun q ↦ row9 (wfun (tl (it8 (row8 (df m (itB fun q ↦ rowB b ((0 : Nat) + q))))) (dn m (itB fun q ↦ rowB b ((0 : Nat) + q))))) ((0 : Nat) + q)) (List.length (tl (it8 (row8 (df m (itB fun q ↦ rowB b ((0 : Nat) + q))))) (dn m (itB fun q ↦ rowB b ((0 : Nat) + q)))))) (listW (itW (row9 (wfun (tl (it8 (row8 (df m (itB fun q ↦ rowB b ((0 : Nat) + q))))) (dn m (itB fun q ↦ rowB b ((0 : Nat) + q))))))) (List.length (tl (it8 (row8 (df m (itB fun q ↦ rowB b ((0 : Nat) + q))))) (dn m (itB fun q ↦ rowB b ((0 : Nat) + q))))))))] [AB.row false m (1 : Nat) (rowB b) (5 : TypeId)]) else Res.out Ex.ret [AV.v (Value.bool false)] [AB.row false m (1 : Nat) (rowB b) (5 : TypeId)] else needs [Nat.ble ((0 : Nat) + List.length (tl (it8 (row8 (df m (itB fun q ↦ rowB b ((0 : Nat) + q))))) (dn m (itB fun q ↦ rowB b ((0 : Nat) + q))))) (List.length (tl (it8 (row8 (df m (itB fun q ↦ rowB b ((0 : Nat) + q))))) (dn m (itB fun q ↦ rowB b ((0 : Nat) + q))))), Nat.ble (List.length (tl (it8 (row8 (df m (itB fun q ↦ rowB b ((0 : Nat) + q))))) (dn m (itB fun q ↦ rowB b ((0 : Nat) + q))))) (List.length (tl (it8 (row8 (df m (itB fun q ↦ rowB b ((0 : Nat) + q))))) (dn m (itB fun q ↦ rowB b ((0 : Nat) + q))))), allW (List.length (tl (it8 (row8 (df m (itB fun q ↦ rowB b ((0 : Nat) + q))))) (dn m (itB fun q ↦ rowB b ((0 : Nat) + q))))) fun q ↦ row9 (wfun (tl (it8 (row8 (df m (itB fun q ↦ rowB b ((0 : Nat) + q))))) (dn m (itB fun q ↦ rowB b ((0 : Nat) + q))))) ((0 : Nat) + q), allW (List.length (tl (it8 (row8 (df m (itB fun q ↦ rowB b ((0 : Nat) + q))))) (dn m (itB fun q ↦ rowB b ((0 : Nat) + q))))) (row9 (wfun (tl (it8 (row8 (df m (itB fun q ↦ rowB b ((0 : Nat) + q))))) (dn m (itB fun q ↦ rowB b ((0 : Nat) + q)))))), decide (List.length (tl (it8 (row8 (df m (itB fun q ↦ rowB b ((0 : Nat) + q))))) (dn m (itB fun q ↦ rowB b ((0 : Nat) + q)))) ≤ (274877906944 : Nat))] (bif !eq (listW (itW fun q ↦ row9 (wfun (tl (it8 (row8 (df m (itB fun q ↦ rowB b ((0 : Nat) + q))))) (dn m (itB fun q ↦ rowB b ((0 : Nat) + q))))) ((0 : Nat) + q)) (List.length (tl (it8 (row8 (df m (itB fun q ↦ rowB b ((0 : Nat) + q))))) (dn m (itB fun q ↦ rowB b ((0 : Nat) + q)))))) (listW (itW (row9 (wfun (tl (it8 (row8 (df m (itB fun q ↦ rowB b ((0 : Nat) + q))))) (dn m (itB fun q ↦ rowB b ((0 : Nat) + q))))))) (List.length (tl (it8 (row8 (df m (itB fun q ↦ rowB b ((0 : Nat) + q))))) (dn m (itB fun q ↦ rowB b ((0 : Nat) + q)))))) then bif yes (it8 (row8 (df m (itB fun q ↦ rowB b ((0 : Nat) + q))))) (dn m (itB fun q ↦ rowB b ((0 : Nat) + q))) == yes (it8 (row8 (df m (itB fun q ↦ rowB b ((0 : Nat) + q))))) (dn m (itB fun q ↦ rowB b ((0 : Nat) + q))) then needs [Nat.ble ((0 : Nat) + List.length (tl (it8 (row8 (df m (itB fun q ↦ rowB b ((0 : Nat) + q))))) (dn m (itB fun q ↦ rowB b ((0 : Nat) + q))))) (List.length (tl (it8 (row8 (df m (itB fun q ↦ rowB b ((0 : Nat) + q))))) (dn m (itB fun q ↦ rowB b ((0 : Nat) + q))))), Nat.ble (List.length (tl (it8 (row8 (df m (itB fun q ↦ rowB b ((0 : Nat) + q))))) (dn m (itB fun q ↦ rowB b ((0 : Nat) + q))))) (List.length (tl (it8 (row8 (df m (itB fun q ↦ rowB b ((0 : Nat) + q))))) (dn m (itB fun q ↦ rowB b ((0 : Nat) + q))))), allW (List.length (tl (it8 (row8 (df m (itB fun q ↦ rowB b ((0 : Nat) + q))))) (dn m (itB fun q ↦ rowB b ((0 : Nat) + q))))) fun q ↦ row9 (wfun (tl (it8 (row8 (df m (itB fun q ↦ rowB b ((0 : Nat) + q))))) (dn m (itB fun q ↦ rowB b ((0 : Nat) + q))))) ((0 : Nat) + q), allW (List.length (tl (it8 (row8 (df m (itB fun q ↦ rowB b ((0 : Nat) + q))))) (dn m (itB fun q ↦ rowB b ((0 : Nat) + q))))) (row9 (wfun (tl (it8 (row8 (df m (itB fun q ↦ rowB b ((0 : Nat) + q))))) (dn m (itB fun q ↦ rowB b ((0 : Nat) + q)))))), decide (List.length (tl (it8 (row8 (df m (itB fun q ↦ rowB b ((0 : Nat) + q))))) (dn m (itB fun q ↦ rowB b ((0 : Nat) + q)))) ≤ (274877906944 : Nat))] (Res.out Ex.ret [AV.v (Value.bool (eq (listW (itW fun q ↦ row9 (wfun (tl (it8 (row8 (df m (itB fun q ↦ rowB b ((0 : Nat) + q))))) (dn m (itB fun q ↦ rowB b ((0 : Nat) + q))))) ((0 : Nat) + q)) (List.length (tl (it8 (row8 (df m (itB fun q ↦ rowB b ((0 : Nat) + q))))) (dn m (itB fun q ↦ rowB b ((0 : Nat) + q)))))) (listW (itW (row9 (wfun (tl (it8 (row8 (df m (itB fun q ↦ rowB b ((0 : Nat) + q))))) (dn m (itB fun q ↦ rowB b ((0 : Nat) + q))))))) (List.length (tl (it8 (row8 (df m (itB fun q ↦ rowB b ((0 : Nat) + q))))) (dn m (itB fun q ↦ rowB b ((0 : Nat) + q))))))))] [AB.row false m (1 : Nat) (rowB b) (5 : TypeId)]) else Res.out Ex.ret [AV.v (Value.bool false)] [AB.row false m (1 : Nat) (rowB b) (5 : TypeId)] else bif !yes (it8 (row8 (df m (itB fun q ↦ rowB b ((0 : Nat) + q))))) (dn m (itB fun q ↦ rowB b ((0 : Nat) + q))) then bif yes (it8 (row8 (df m (itB fun q ↦ rowB b ((0 : Nat) + q))))) (dn m (itB fun q ↦ rowB b ((0 : Nat) + q))) == yes (it8 (row8 (df m (itB fun q ↦ rowB b ((0 : Nat) + q))))) (dn m (itB fun q ↦ rowB b ((0 : Nat) + q))) then needs [Nat.ble ((0 : Nat) + List.length (tl (it8 (row8 (df m (itB fun q ↦ rowB b ((0 : Nat) + q))))) (dn m (itB fun q ↦ rowB b ((0 : Nat) + q))))) (List.length (tl (it8 (row8 (df m (itB fun q ↦ rowB b ((0 : Nat) + q))))) (dn m (itB fun q ↦ rowB b ((0 : Nat) + q))))), Nat.ble (List.length (tl (it8 (row8 (df m (itB fun q ↦ rowB b ((0 : Nat) + q))))) (dn m (itB fun q ↦ rowB b ((0 : Nat) + q))))) (List.length (tl (it8 (row8 (df m (itB fun q ↦ rowB b ((0 : Nat) + q))))) (dn m (itB fun q ↦ rowB b ((0 : Nat) + q))))), allW (List.length (tl (it8 (row8 (df m (itB fun q ↦ rowB b ((0 : Nat) + q))))) (dn m (itB fun q ↦ rowB b ((0 : Nat) + q))))) fun q ↦ row9 (wfun (tl (it8 (row8 (df m (itB fun q ↦ rowB b ((0 : Nat) + q))))) (dn m (itB fun q ↦ rowB b ((0 : Nat) + q))))) ((0 : Nat) + q), allW (List.length (tl (it8 (row8 (df m (itB fun q ↦ rowB b ((0 : Nat) + q))))) (dn m (itB fun q ↦ rowB b ((0 : Nat) + q))))) (row9 (wfun (tl (it8 (row8 (df m (itB fun q ↦ rowB b ((0 : Nat) + q))))) (dn m (itB fun q ↦ rowB b ((0 : Nat) + q)))))), decide (List.length (tl (it8 (row8 (df m (itB fun q ↦ rowB b ((0 : Nat) + q))))) (dn m (itB fun q ↦ rowB b ((0 : Nat) + q)))) ≤ (274877906944 : Nat))] (Res.out Ex.ret [AV.v (Value.bool (eq (listW (itW fun q ↦ row9 (wfun (tl (it8 (row8 (df m (itB fun q ↦ rowB b ((0 : Nat) + q))))) (dn m (itB fun q ↦ rowB b ((0 : Nat) + q))))) ((0 : Nat) + q)) (List.length (tl (it8 (row8 (df m (itB fun q ↦ rowB b ((0 : Nat) + q))))) (dn m (itB fun q ↦ rowB b ((0 : Nat) + q)))))) (listW (itW (row9 (wfun (tl (it8 (row8 (df m (itB fun q ↦ rowB b ((0 : Nat) + q))))) (dn m (itB fun q ↦ rowB b ((0 : Nat) + q))))))) (List.length (tl (it8 (row8 (df m (itB fun q ↦ rowB b ((0 : Nat) + q))))) (dn m (itB fun q ↦ rowB b ((0 : Nat) + q))))))))] [AB.row false m (1 : Nat) (rowB b) (5 : TypeId)]) else Res.out Ex.ret [AV.v (Value.bool false)] [AB.row false m (1 : Nat) (rowB b) (5 : TypeId)] else needs [Nat.ble ((0 : Nat) + List.length (tl (it8 (row8 (df m (itB fun q ↦ rowB b ((0 : Nat) + q))))) (dn m (itB fun q ↦ rowB b ((0 : Nat) + q))))) (List.length (tl (it8 (row8 (df m (itB fun q ↦ rowB b ((0 : Nat) + q))))) (dn m (itB fun q ↦ rowB b ((0 : Nat) + q))))), allW (List.length (tl (it8 (row8 (df m (itB fun q ↦ rowB b ((0 : Nat) + q))))) (dn m (itB fun q ↦ rowB b ((0 : Nat) + q))))) fun q ↦ row9 (wfun (tl (it8 (row8 (df m (itB fun q ↦ rowB b ((0 : Nat) + q))))) (dn m (itB fun q ↦ rowB b ((0 : Nat) + q))))) ((0 : Nat) + q), decide (List.length (tl (it8 (row8 (df m (itB fun q ↦ rowB b ((0 : Nat) + q))))) (dn m (itB fun q ↦ rowB b ((0 : Nat) + q)))) ≤ (274877906944 : Nat)), Nat.ble (dn m (itB fun q ↦ rowB b ((0 : Nat) + q))) (dn m (itB fun q ↦ rowB b ((0 : Nat) + q))), all8 (dn m (itB fun q ↦ rowB b ((0 : Nat) + q))) (row8 (df m (itB fun q ↦ rowB b ((0 : Nat) + q)))), decide (dn m (itB fun q ↦ rowB b ((0 : Nat) + q)) ≤ (274877906944 : Nat))] (bif !rk (itW fun q ↦ row9 (wfun (tl (it8 (row8 (df m (itB fun q ↦ rowB b ((0 : Nat) + q))))) (dn m (itB fun q ↦ rowB b ((0 : Nat) + q))))) ((0 : Nat) + q)) (List.length (tl (it8 (row8 (df m (itB fun q ↦ rowB b ((0 : Nat) + q))))) (dn m (itB fun q ↦ rowB b ((0 : Nat) + q))))) (↑(dn m (itB fun q ↦ rowB b ((0 : Nat) + q))) : Int) then Res.out Ex.ret [AV.v (Value.bool true)] [AB.row false m (1 : Nat) (rowB b) (5 : TypeId)] else bif !sq (it8 (row8 (df m (itB fun q ↦ rowB b ((0 : Nat) + q))))) (dn m (itB fun q ↦ rowB b ((0 : Nat) + q))) (↑(dn m (itB fun q ↦ rowB b ((0 : Nat) + q))) : Int) then Res.out Ex.ret [AV.v (Value.bool true)] [AB.row false m (1 : Nat) (rowB b) (5 : TypeId)] else needs [Nat.ble ((0 : Nat) + List.length (rt (itW fun q ↦ row9 (wfun (tl (it8 (row8 (df m (itB fun q ↦ rowB b ((0 : Nat) + q))))) (dn m (itB fun q ↦ rowB b ((0 : Nat) + q))))) ((0 : Nat) + q)) (List.length (tl (it8 (row8 (df m (itB fun q ↦ rowB b ((0 : Nat) + q))))) (dn m (itB fun q ↦ rowB b ((0 : Nat) + q))))) (↑(dn m (itB fun q ↦ rowB b ((0 : Nat) + q))) : Int))) (List.length (rt (itW fun q ↦ row9 (wfun (tl (it8 (row8 (df m (itB fun q ↦ rowB b ((0 : Nat) + q))))) (dn m (itB fun q ↦ rowB b ((0 : Nat) + q))))) ((0 : Nat) + q)) (List.length (tl (it8 (row8 (df m (itB fun q ↦ rowB b ((0 : Nat) + q))))) (dn m (itB fun q ↦ rowB b ((0 : Nat) + q))))) (↑(dn m (itB fun q ↦ rowB b ((0 : Nat) + q))) : Int))), Nat.ble (sl (it8 (row8 (df m (itB fun q ↦ rowB b ((0 : Nat) + q))))) (dn m (itB fun q ↦ rowB b ((0 : Nat) + q))) (↑(dn m (itB fun q ↦ rowB b ((0 : Nat) + q))) : Int)) (sl (it8 (row8 (df m (itB fun q ↦ rowB b ((0 : Nat) + q))))) (dn m (itB fun q ↦ rowB b ((0 : Nat) + q))) (↑(dn m (itB fun q ↦ rowB b ((0 : Nat) + q))) : Int)), all8 (List.length (rt (itW fun q ↦ row9 (wfun (tl (it8 (row8 (df m (itB fun q ↦ rowB b ((0 : Nat) + q))))) (dn m (itB fun q ↦ rowB b ((0 : Nat) + q))))) ((0 : Nat) + q)) (List.length (tl (it8 (row8 (df m (itB fun q ↦ rowB b ((0 : Nat) + q))))) (dn m (itB fun q ↦ rowB b ((0 : Nat) + q))))) (↑(dn m (itB fun q ↦ rowB b ((0 : Nat) + q))) : Int))) fun q ↦ row8 (cfun (rt (itW fun q ↦ row9 (wfun (tl (it8 (row8 (df m (itB fun q ↦ rowB b ((0 : Nat) + q))))) (dn m (itB fun q ↦ rowB b ((0 : Nat) + q))))) ((0 : Nat) + q)) (List.length (tl (it8 (row8 (df m (itB fun q ↦ rowB b ((0 : Nat) + q))))) (dn m (itB fun q ↦ rowB b ((0 : Nat) + q))))) (↑(dn m (itB fun q ↦ rowB b ((0 : Nat) + q))) : Int))) ((0 : Nat) + q), all8 (sl (it8 (row8 (df m (itB fun q ↦ rowB b ((0 : Nat) + q))))) (dn m (itB fun q ↦ rowB b ((0 : Nat) + q))) (↑(dn m (itB fun q ↦ rowB b ((0 : Nat) + q))) : Int)) (row8 (sh (it8 (row8 (df m (itB fun q ↦ rowB b ((0 : Nat) + q))))) (↑(dn m (itB fun q ↦ rowB b ((0 : Nat) + q))) : Int))), decide (List.length (rt (itW fun q ↦ row9 (wfun (tl (it8 (row8 (df m (itB fun q ↦ rowB b ((0 : Nat) + q))))) (dn m (itB fun q ↦ rowB b ((0 : Nat) + q))))) ((0 : Nat) + q)) (List.length (tl (it8 (row8 (df m (itB fun q ↦ rowB b ((0 : Nat) + q))))) (dn m (itB fun q ↦ rowB b ((0 : Nat) + q))))) (↑(dn m (itB fun q ↦ rowB b ((0 : Nat) + q))) : Int)) ≤ (274877906944 : Nat))] (Res.out Ex.ret [AV.v (Value.bool (eqc (listC (it8 fun q ↦ row8 (cfun (rt (itW fun q ↦ row9 (wfun (tl (it8 (row8 (df m (itB fun q ↦ rowB b ((0 : Nat) + q))))) (dn m (itB fun q ↦ rowB b ((0 : Nat) + q))))) ((0 : Nat) + q)) (List.length (tl (it8 (row8 (df m (itB fun q ↦ rowB b ((0 : Nat) + q))))) (dn m (itB fun q ↦ rowB b ((0 : Nat) + q))))) (↑(dn m (itB fun q ↦ rowB b ((0 : Nat) + q))) : Int))) ((0 : Nat) + q)) (List.length (rt (itW fun q ↦ row9 (wfun (tl (it8 (row8 (df m (itB fun q ↦ rowB b ((0 : Nat) + q))))) (dn m (itB fun q ↦ rowB b ((0 : Nat) + q))))) ((0 : Nat) + q)) (List.length (tl (it8 (row8 (df m (itB fun q ↦ rowB b ((0 : Nat) + q))))) (dn m (itB fun q ↦ rowB b ((0 : Nat) + q))))) (↑(dn m (itB fun q ↦ rowB b ((0 : Nat) + q))) : Int)))) (listC (it8 (row8 (sh (it8 (row8 (df m (itB fun q ↦ rowB b ((0 : Nat) + q))))) (↑(dn m (itB fun q ↦ rowB b ((0 : Nat) + q))) : Int)))) (sl (it8 (row8 (df m (itB fun q ↦ rowB b ((0 : Nat) + q))))) (dn m (itB fun q ↦ rowB b ((0 : Nat) + q))) (↑(dn m (itB fun q ↦ rowB b ((0 : Nat) + q))) : Int)))))] [AB.row false m (1 : Nat) (rowB b) (5 : TypeId)])))) := by kernel_rfl

theorem gmLRd_ok : GamOk Try.prog (gmLRd bRdN bRdF yRd tRd eqL roK roT sdN sdF sdK eqC) := ext_ok (ext_ok (ext_ok (ext_ok (ext_ok (ext_ok (ext_ok g0_ok ok_drRd) ok_Urd) ok_rdS) ok_sameW) ok_Uro) ok_sd) ok_sameC

end Go.Proofs.Ytmdcafhnjihckaa

/- FnRowDesign returns true, whatever the bytes are. Conditions: bytes. -/
namespace Go.Proofs.Ytmdcafhnjihckaa
open Go.RowKit
set_option maxRecDepth 100000

theorem tRd_le (f : Nat → Nat → Int) (m : Nat) : (tRd f m).length ≤ 12 := by
  rw [tRd]
  cases rdP f m with
  | false => exact Nat.zero_le _
  | true =>
    show (tidyL (rwW f m)).length ≤ 12
    cases h : okT (rwW f m) with
    | true => exact tidyL_len h
    | false => rw [tidyL_no h]; exact Nat.zero_le _
theorem yRd_row (f : Nat → Nat → Int) (m : Nat) : yRd (it8 (row8 f)) m = yRd f m := by
  unfold yRd rdP rwW
  rw [toK_row, trF_row]
theorem tRd_row (f : Nat → Nat → Int) (m : Nat) : tRd (it8 (row8 f)) m = tRd f m := by
  unfold tRd rdP rwW
  rw [toK_row, trF_row]
theorem roF_row9 (f : Nat → Nat → Int) (m : Nat) (x : Int) : roF (itW (row9 f)) m x = roF f m x := by
  funext j
  unfold roF
  rw [daV_row]
theorem roK_row9 (f : Nat → Nat → Int) (m : Nat) (x : Int) : roK (itW (row9 f)) m x = roK f m x := by
  unfold roK rwB
  simp only [daOk_row, listW_itW]
theorem roT_row9 (f : Nat → Nat → Int) (m : Nat) (x : Int) : roT (itW (row9 f)) m x = roT f m x := by
  unfold roT
  rw [roK_row9, roF_row9]
theorem yes_drd (m : Nat) (b : Nat → Int) (_ : m ≤ 9223372036854775807) (hb : okB m (rowB b) = true) : ∃ Γ n Λ, GamOk Try.prog Γ ∧ (∀ cc, (Try.f6).body = some cc → LamOk Try.prog 1 Λ cc) ∧ GoodQ (execF Try.prog Γ Λ n Try.f6 [.sl 0 1 0 0 m none] [.row false m 1 (rowB b) 5] (packK 1)) SaysYes := by
  refine ⟨_, 100, noLam, gmLRd_ok, noLam' _, ?_⟩
  rw [lawRd]
  refine good_cond (fun _ => good_out rfl) fun c => ?_
  have c := of_decide_eq_false c
  have hl := bRd_len m b
  simp only [Nat.zero_add, itB_row]
  generalize bRdN m b = n at hl ⊢
  generalize bRdF m b = f
  have b21 : decide (m ≤ 2097152) = true := decide_eq_true (by omega)
  have bn : decide (n ≤ 274877906944) = true := decide_eq_true (by omega)
  have hL := tRd_le f n
  have law := law_row (f := f) (n := n)
  simp only [hb, b21, bn, ble_me, all8_row, allW_row, yRd_row, tRd_row, needs_t, needs_nil, beq_self_eq_true, Bool.not_true, cond_false, cond_true]
  generalize tRd f n = L at hL law ⊢
  have bL : decide (L.length ≤ 274877906944) = true := decide_eq_true (by omega)
  simp only [bL, listW_me, eqL_me, needs_t, needs_nil, Bool.not_true, cond_false]
  refine good_cond (fun _ => good_out rfl) fun hy => ?_
  rw [Bool.not_eq_false'] at hy
  refine good_cond (fun _ => good_out rfl) fun hr => ?_
  rw [Bool.not_eq_false', show roK (itW fun q => row9 (wfun L) q) L.length n = roK (wfun L) L.length n from roK_row9 _ _ _] at hr
  refine good_cond (fun _ => good_out rfl) fun hs => ?_
  rw [Bool.not_eq_false'] at hs
  have hs : sdK f n n = true := hs
  rw [show roT (itW fun q => row9 (wfun L) q) L.length n = roT (wfun L) L.length n from roT_row9 _ _ _]
  have e := law hy hr hs
  have hlen := roT_len (wfun L) L.length n
  generalize roT (wfun L) L.length n = T at e hlen
  refine good_needs (by simp only [ob_cons, ob_nil, and_true, decide_eq_true_eq]; omega) (say ?_)
  rw [show listC (it8 fun q => row8 (cfun T) q) T.length = T from listC_me T, e]
  exact decide_eq_true rfl

end Go.Proofs.Ytmdcafhnjihckaa

/- Designs of rows go through the row: FnRowDesign returns true, whatever the bytes are, and they read as before. No conditions. -/
namespace Go.Proofs.Ytmdcafhnjihckaa
open Go.ChangeShapes Go.WideShapes Go.ChangeAt Go.RowKit

set_option maxRecDepth 100000 in
theorem drd_lifted (os : Os) (started : os.Started) (H : Type) (enc : TypeId × Value → H) :
    ReturnsInHanded {} Try.checked os 6 .any (Rows.fnRowDesignSpec.pre6 enc Try.prog Try.f6 Rows.fnRowDesignRow.domain false) (Rows.fnRowDesignSpec.post enc Try.prog Try.f6 false true false false) := by
  refine returnsInHanded_of_change (C := Try.checked) own started (by kernel_rfl) Try.func6
    (ChangeSpec.witness6 (enc := enc) (C := Try.checked) false ⟨#[], #[.slice none 0 0], []⟩ 8 (by kernel_rfl) (by kernel_rfl) (by kernel_rfl) (by kernel_rfl)) ?_
  intro W base args ds gs before hval hW _ _
  exact contractB (spec := Rows.fnRowDesignSpec) Try.func6 rfl rfl rfl (fun _ _ => rfl) (fun m b hm hb => yes_drd m b hm hb) H enc W base args ds gs before hval hW

set_option maxRecDepth 100000 in
theorem drd_f1 : Rows.fnRowDesignRow.wf (OpenSpec.ofChange Rows.fnRowDesignSpec) = true := by kernel_rfl
set_option maxRecDepth 100000 in
theorem drd_f2 : (Rows.fnRowDesignRow.inPlace == Try.prog.inPlace 6) = true := by kernel_rfl
set_option maxRecDepth 100000 in
theorem drd_f3 : (Rows.fnRowDesignRow.unfollowed == Try.prog.unfollowed 6) = true := by kernel_rfl
set_option maxRecDepth 100000 in
theorem drd_f4 : (Rows.fnRowDesignRow.recurses == Try.prog.recurses 6) = true := by kernel_rfl
set_option maxRecDepth 100000 in
theorem drd_f5 : (Rows.fnRowDesignRow.named == Try.prog.varsNamed 6) = true := by kernel_rfl
set_option maxRecDepth 100000 in
theorem drd_f6 : Try.prog.funcNamed Rows.fnRowDesignRow.func = some 6 := by kernel_rfl
theorem drd_f7 : (Rows.fnRowDesignRow.lifted == Try.prog.liftsFinal) = true := jfG
theorem drd_f8 : (Try.prog.make == some Rows.fnRowDesignRow.make) = true := jfH
theorem drd_f9 : (Rows.fnRowDesignRow.plainKeys == Try.prog.plainKeys) = true := jfI
set_option maxRecDepth 100000 in
theorem drd_joined : joinedFacts Try.prog 6 Try.f6 Rows.fnRowDesignSpec Rows.fnRowDesignRow = true := by
  unfold joinedFacts
  rw [jfA, jfB, jfC, jfD, jfE, jfF, drd_f1, drd_f2, drd_f3, drd_f4, drd_f5, drd_f7, drd_f8, drd_f9]
  kernel_rfl

theorem drd_holds : Rows.FnRowDesignSaid :=
  OpenClaim.holds_of_wide 6 Try.f6 rfl rfl rfl rfl rfl rfl rfl ⟨rfl, rfl, rfl, rfl, rfl⟩ rfl rfl rfl rfl rfl drd_f6 Try.func6 drd_joined
    (of_decide_eq_true (by kernel_rfl)) (by unfold Func.isWrapper; first | (rw [if_pos (by decide +kernel)]; kernel_rfl) | (rw [if_neg (by decide +kernel)]; exact ⟨rfl, rfl⟩))
    (fun os started H enc _ => drd_lifted os started H enc)
#print axioms drd_holds
end Go.Proofs.Ytmdcafhnjihckaa
