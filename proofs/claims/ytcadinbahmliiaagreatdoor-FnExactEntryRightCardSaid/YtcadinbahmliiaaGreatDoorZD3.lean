/- 'changed', for each change that the program makes: its words. Conditions: a list of wheels. -/
import Derived.Test.YtcadinbahmliiaaGreatDoorZD0
import Derived.Test.YtcadinbahmliiaaGreatDoorZD1
import Derived.Test.YtcadinbahmliiaaGreatDoorZD2
/- IndexFunc on wheels, for the three questions that the program asks, and the program's DesignValid. Conditions: a list of wheels. -/
namespace Go.Proofs.YtcadinbahmliiaaGreatDoor
open Go.RowKit
set_option maxRecDepth 100000

theorem treeCVI (a : Nat → Int) : execF Tryz.prog gm_small noLam 100 Tryz.f153 ([cyv a].map .v) [] valK
    = Res.out Ex.ret [AV.v (Value.bool (smallF (w8 a) (-1000000 : Int) (1000000 : Int)))] [] := by kernel_rfl

theorem ok_cvI : SpecOk Tryz.prog 153 (specV f_cv) := by
  refine mkV (n := 100) gm_small_ok Tryz.func153 rfl fun vs v ob hF ho => ?_
  unfold f_cv at hF
  split at hF
  · rename_i a0 a1 a2 a3 a4 a5 a6 a7
    cases hF
    show Good (execF Tryz.prog gm_small noLam 100 Tryz.f153 ([cyv (v8 a0 a1 a2 a3 a4 a5 a6 a7)].map .v) [] valK) _
    rw [treeCVI]
    exact gives_of rfl
  · cases hF

noncomputable abbrev fIFW : Func := Tryz.f165
abbrev lvIF : Ex → List Nat := lv3 [0, 1, 7, 8] [] [4]
abbrev fnIa : AV := .fn 166 [.ptr 1 0 0 0]
abbrev hpIa (m : Nat) (f : Nat → Nat → Int) (t t2 : TypeId) (x : Nat → Int) : List AB := [.row false m 9 (row9 f) t, .cells [.v (i64 (x 0)), .v (i64 (x 1)), .v (i64 (x 2)), .v (i64 (x 3)), .v (i64 (x 4)), .v (i64 (x 5)), .v (i64 (x 6)), .v (i64 (x 7)), .v (i64 (x 8))] t2]
theorem rndIa (m : Nat) (f : Nat → Nat → Int) (t t2 : TypeId) (x : Nat → Int) (i : Nat) : execC Tryz.prog g0 100 noLam (loopAt 0 fIFW) (mkT 0 19 ((lvIF .normal).zip [.own 0 m, fnIa, .v (i64 m), .v (i64 i)])) (hpIa m f t t2 x) (leafV 19 lvIF 2)
    = bif decide ((↑i : Int) < (↑m : Int)) then needs [decide ((↑i : Int) < (↑m : Int)), decide (Int.toNat (↑i : Int) < m)] (bif f (Int.toNat (↑i : Int)) (0 : Nat) == x (0 : Nat) then Res.out Ex.ret [AV.v (Value.int IntKind.i64 (↑i : Int))] [AB.row false m (9 : Nat) (row9 f) t, AB.cells [AV.v (Value.int IntKind.i64 (x (0 : Nat))), AV.v (Value.int IntKind.i64 (x (1 : Nat))), AV.v (Value.int IntKind.i64 (x (2 : Nat))), AV.v (Value.int IntKind.i64 (x (3 : Nat))), AV.v (Value.int IntKind.i64 (x (4 : Nat))), AV.v (Value.int IntKind.i64 (x (5 : Nat))), AV.v (Value.int IntKind.i64 (x (6 : Nat))), AV.v (Value.int IntKind.i64 (x (7 : Nat))), AV.v (Value.int IntKind.i64 (x (8 : Nat)))] t2] else Res.out Ex.normal [AV.own (0 : Nat) m, AV.fn (166 : FuncId) [AV.ptr (1 : Nat) (0 : Nat) (0 : Nat) (0 : Nat)], AV.v (Value.int IntKind.i64 (↑m : Int)), AV.v (Value.int IntKind.i64 (IntKind.wrap IntKind.i64 ((↑i : Int) + (1 : Int))))] [AB.row false m (9 : Nat) (row9 f) t, AB.cells [AV.v (Value.int IntKind.i64 (x (0 : Nat))), AV.v (Value.int IntKind.i64 (x (1 : Nat))), AV.v (Value.int IntKind.i64 (x (2 : Nat))), AV.v (Value.int IntKind.i64 (x (3 : Nat))), AV.v (Value.int IntKind.i64 (x (4 : Nat))), AV.v (Value.int IntKind.i64 (x (5 : Nat))), AV.v (Value.int IntKind.i64 (x (6 : Nat))), AV.v (Value.int IntKind.i64 (x (7 : Nat))), AV.v (Value.int IntKind.i64 (x (8 : Nat)))] t2]) else Res.out (Ex.exit (0 : Nat)) [] [AB.row false m (9 : Nat) (row9 f) t, AB.cells [AV.v (Value.int IntKind.i64 (x (0 : Nat))), AV.v (Value.int IntKind.i64 (x (1 : Nat))), AV.v (Value.int IntKind.i64 (x (2 : Nat))), AV.v (Value.int IntKind.i64 (x (3 : Nat))), AV.v (Value.int IntKind.i64 (x (4 : Nat))), AV.v (Value.int IntKind.i64 (x (5 : Nat))), AV.v (Value.int IntKind.i64 (x (6 : Nat))), AV.v (Value.int IntKind.i64 (x (7 : Nat))), AV.v (Value.int IntKind.i64 (x (8 : Nat)))] t2] := by kernel_rfl

noncomputable abbrev lamIa (m : Nat) (f : Nat → Nat → Int) (t t2 : TypeId) (x : Nat → Int) (bad : Nat → Bool) : Nat → Option Sum := oneL 0 (atS 19 (lvIF .normal) 2 [.own 0 m, fnIa, .v (i64 m), .v (i64 (0 : Nat))] (hpIa m f t t2 x) (fun K => cond (noneTo bad m) (K .normal (mkT 0 19 []) (hpIa m f t t2 x)) (K .ret (mkT 0 19 [(4, .v (i64 (fstAt bad m)))]) (hpIa m f t t2 x))))
theorem treeIa (m : Nat) (f : Nat → Nat → Int) (t t2 : TypeId) (x : Nat → Int) (bad : Nat → Bool) : execF Tryz.prog g0 (lamIa m f t t2 x bad) 100 fIFW [.own 0 m, fnIa] (hpIa m f t t2 x) (packK 2)
    = needs [chk ([AV.own (0 : Nat) m, AV.fn (166 : FuncId) [AV.ptr (1 : Nat) (0 : Nat) (0 : Nat) (0 : Nat)], AV.v (Value.int IntKind.i64 (↑m : Int)), AV.v (Value.int IntKind.i64 (0 : Int))] = [AV.own (0 : Nat) m, fnIa, AV.v (Value.int IntKind.i64 (↑m : Int)), AV.v (Value.int IntKind.i64 (0 : Int))] ∧ Hsim [AB.row false m (9 : Nat) (row9 f) t, AB.cells [AV.v (Value.int IntKind.i64 (x (0 : Nat))), AV.v (Value.int IntKind.i64 (x (1 : Nat))), AV.v (Value.int IntKind.i64 (x (2 : Nat))), AV.v (Value.int IntKind.i64 (x (3 : Nat))), AV.v (Value.int IntKind.i64 (x (4 : Nat))), AV.v (Value.int IntKind.i64 (x (5 : Nat))), AV.v (Value.int IntKind.i64 (x (6 : Nat))), AV.v (Value.int IntKind.i64 (x (7 : Nat))), AV.v (Value.int IntKind.i64 (x (8 : Nat)))] t2] (hpIa m f t t2 x))] (bif noneTo bad m then Res.out Ex.ret [AV.v (Value.int IntKind.i64 (-1 : Int))] [AB.row false m (9 : Nat) (row9 f) t, AB.cells [AV.v (Value.int IntKind.i64 (x (0 : Nat))), AV.v (Value.int IntKind.i64 (x (1 : Nat))), AV.v (Value.int IntKind.i64 (x (2 : Nat))), AV.v (Value.int IntKind.i64 (x (3 : Nat))), AV.v (Value.int IntKind.i64 (x (4 : Nat))), AV.v (Value.int IntKind.i64 (x (5 : Nat))), AV.v (Value.int IntKind.i64 (x (6 : Nat))), AV.v (Value.int IntKind.i64 (x (7 : Nat))), AV.v (Value.int IntKind.i64 (x (8 : Nat)))] t2] else Res.out Ex.ret [AV.v (Value.int IntKind.i64 (fstAt bad m))] [AB.row false m (9 : Nat) (row9 f) t, AB.cells [AV.v (Value.int IntKind.i64 (x (0 : Nat))), AV.v (Value.int IntKind.i64 (x (1 : Nat))), AV.v (Value.int IntKind.i64 (x (2 : Nat))), AV.v (Value.int IntKind.i64 (x (3 : Nat))), AV.v (Value.int IntKind.i64 (x (4 : Nat))), AV.v (Value.int IntKind.i64 (x (5 : Nat))), AV.v (Value.int IntKind.i64 (x (6 : Nat))), AV.v (Value.int IntKind.i64 (x (7 : Nat))), AV.v (Value.int IntKind.i64 (x (8 : Nat)))] t2]) := by kernel_rfl

abbrev fnIb : AV := .v (.func (.func 151) ⟨[]⟩ ⟨[]⟩)
abbrev fnIc : AV := .v (.func (.func 168) ⟨[]⟩ ⟨[]⟩)
def gmIb (ok : (Nat → Int) → Bool) : Gam := ext gm_within 153 (specV (fOkc ok))
abbrev hpIb (m : Nat) (f : Nat → Nat → Int) (t : TypeId) : List AB := [.row false m 9 (row9 f) t]
theorem rndIb (ok : (Nat → Int) → Bool) (m : Nat) (f : Nat → Nat → Int) (t : TypeId) (i : Nat) : execC Tryz.prog (gmIb ok) 100 noLam (loopAt 0 fIFW) (mkT 0 19 ((lvIF .normal).zip [.sl 0 9 0 0 m none, fnIb, .v (i64 m), .v (i64 i)])) (hpIb m f t) (leafV 19 lvIF 1)
    = bif decide ((↑i : Int) < (↑m : Int)) then needs [decide ((↑i : Int) < (↑m : Int)), decide ((0 : Nat) + Int.toNat (↑i : Int) < m)] (bif !inR (f ((0 : Nat) + Int.toNat (↑i : Int)) (0 : Nat)) (-1000 : Int) (1000 : Int) then Res.out Ex.ret [AV.v (Value.int IntKind.i64 (↑i : Int))] [AB.row false m (9 : Nat) (row9 f) t] else bif !ok (v8 (f ((0 : Nat) + Int.toNat (↑i : Int)) (1 : Nat)) (f ((0 : Nat) + Int.toNat (↑i : Int)) (2 : Nat)) (f ((0 : Nat) + Int.toNat (↑i : Int)) (3 : Nat)) (f ((0 : Nat) + Int.toNat (↑i : Int)) (4 : Nat)) (f ((0 : Nat) + Int.toNat (↑i : Int)) (5 : Nat)) (f ((0 : Nat) + Int.toNat (↑i : Int)) (6 : Nat)) (f ((0 : Nat) + Int.toNat (↑i : Int)) (7 : Nat)) (f ((0 : Nat) + Int.toNat (↑i : Int)) (8 : Nat))) then Res.out Ex.ret [AV.v (Value.int IntKind.i64 (↑i : Int))] [AB.row false m (9 : Nat) (row9 f) t] else Res.out Ex.normal [AV.sl (0 : Nat) (9 : Nat) (0 : Nat) (0 : Nat) m none, AV.v (Value.func (Fn.func (151 : FuncId)) (Array.mk []) (Array.mk [])), AV.v (Value.int IntKind.i64 (↑m : Int)), AV.v (Value.int IntKind.i64 (IntKind.wrap IntKind.i64 ((↑i : Int) + (1 : Int))))] [AB.row false m (9 : Nat) (row9 f) t]) else Res.out (Ex.exit (0 : Nat)) [] [AB.row false m (9 : Nat) (row9 f) t] := by kernel_rfl

theorem rndIc (m : Nat) (f : Nat → Nat → Int) (t : TypeId) (i : Nat) : execC Tryz.prog g0 100 noLam (loopAt 0 fIFW) (mkT 0 19 ((lvIF .normal).zip [.sl 0 9 0 0 m none, fnIc, .v (i64 m), .v (i64 i)])) (hpIb m f t) (leafV 19 lvIF 1)
    = bif decide ((↑i : Int) < (↑m : Int)) then needs [decide ((↑i : Int) < (↑m : Int)), decide ((0 : Nat) + Int.toNat (↑i : Int) < m)] (bif f ((0 : Nat) + Int.toNat (↑i : Int)) (1 : Nat) == (0 : Int) && (f ((0 : Nat) + Int.toNat (↑i : Int)) (2 : Nat) == (0 : Int) && (f ((0 : Nat) + Int.toNat (↑i : Int)) (3 : Nat) == (0 : Int) && (f ((0 : Nat) + Int.toNat (↑i : Int)) (4 : Nat) == (0 : Int) && (f ((0 : Nat) + Int.toNat (↑i : Int)) (5 : Nat) == (0 : Int) && (f ((0 : Nat) + Int.toNat (↑i : Int)) (6 : Nat) == (0 : Int) && (f ((0 : Nat) + Int.toNat (↑i : Int)) (7 : Nat) == (0 : Int) && (f ((0 : Nat) + Int.toNat (↑i : Int)) (8 : Nat) == (0 : Int) && true))))))) && true then Res.out Ex.ret [AV.v (Value.int IntKind.i64 (↑i : Int))] [AB.row false m (9 : Nat) (row9 f) t] else Res.out Ex.normal [AV.sl (0 : Nat) (9 : Nat) (0 : Nat) (0 : Nat) m none, AV.v (Value.func (Fn.func (168 : FuncId)) (Array.mk []) (Array.mk [])), AV.v (Value.int IntKind.i64 (↑m : Int)), AV.v (Value.int IntKind.i64 (IntKind.wrap IntKind.i64 ((↑i : Int) + (1 : Int))))] [AB.row false m (9 : Nat) (row9 f) t]) else Res.out (Ex.exit (0 : Nat)) [] [AB.row false m (9 : Nat) (row9 f) t] := by kernel_rfl

noncomputable abbrev lamIb (fn : AV) (m : Nat) (f : Nat → Nat → Int) (t : TypeId) (bad : Nat → Bool) : Nat → Option Sum := oneL 0 (atS 19 (lvIF .normal) 1 [.sl 0 9 0 0 m none, fn, .v (i64 m), .v (i64 (0 : Nat))] (hpIb m f t) (fun K => cond (noneTo bad m) (K .normal (mkT 0 19 []) (hpIb m f t)) (K .ret (mkT 0 19 [(4, .v (i64 (fstAt bad m)))]) (hpIb m f t))))
theorem treeIb (ok : (Nat → Int) → Bool) (m : Nat) (f : Nat → Nat → Int) (t : TypeId) (bad : Nat → Bool) : execF Tryz.prog (gmIb ok) (lamIb fnIb m f t bad) 100 fIFW [.sl 0 9 0 0 m none, fnIb] (hpIb m f t) (packK 1)
    = needs [chk ([AV.sl (0 : Nat) (9 : Nat) (0 : Nat) (0 : Nat) m none, AV.v (Value.func (Fn.func (151 : FuncId)) (Array.mk []) (Array.mk [])), AV.v (Value.int IntKind.i64 (↑m : Int)), AV.v (Value.int IntKind.i64 (0 : Int))] = [AV.sl (0 : Nat) (9 : Nat) (0 : Nat) (0 : Nat) m none, fnIb, AV.v (Value.int IntKind.i64 (↑m : Int)), AV.v (Value.int IntKind.i64 (0 : Int))] ∧ Hsim [AB.row false m (9 : Nat) (row9 f) t] (hpIb m f t))] (bif noneTo bad m then Res.out Ex.ret [AV.v (Value.int IntKind.i64 (-1 : Int))] [AB.row false m (9 : Nat) (row9 f) t] else Res.out Ex.ret [AV.v (Value.int IntKind.i64 (fstAt bad m))] [AB.row false m (9 : Nat) (row9 f) t]) := by kernel_rfl

theorem treeIc (m : Nat) (f : Nat → Nat → Int) (t : TypeId) (bad : Nat → Bool) : execF Tryz.prog g0 (lamIb fnIc m f t bad) 100 fIFW [.sl 0 9 0 0 m none, fnIc] (hpIb m f t) (packK 1)
    = needs [chk ([AV.sl (0 : Nat) (9 : Nat) (0 : Nat) (0 : Nat) m none, AV.v (Value.func (Fn.func (168 : FuncId)) (Array.mk []) (Array.mk [])), AV.v (Value.int IntKind.i64 (↑m : Int)), AV.v (Value.int IntKind.i64 (0 : Int))] = [AV.sl (0 : Nat) (9 : Nat) (0 : Nat) (0 : Nat) m none, fnIc, AV.v (Value.int IntKind.i64 (↑m : Int)), AV.v (Value.int IntKind.i64 (0 : Int))] ∧ Hsim [AB.row false m (9 : Nat) (row9 f) t] (hpIb m f t))] (bif noneTo bad m then Res.out Ex.ret [AV.v (Value.int IntKind.i64 (-1 : Int))] [AB.row false m (9 : Nat) (row9 f) t] else Res.out Ex.ret [AV.v (Value.int IntKind.i64 (fstAt bad m))] [AB.row false m (9 : Nat) (row9 f) t]) := by kernel_rfl

def FifO (o : List Wh → Nat → Bool) (id : Nat) : List SA → Option FR
  | [.row m g, .v (.func (.func f) ⟨[]⟩ ⟨[]⟩)] => some { val := .v (i64 (fstAt (o (listW (itW g) m)) m)), obl := [Nat.beq f id, allW m g, decide (m ≤ 2 ^ 38)] }
  | _ => none
def md_if : List Md := [.rd 9 75, .val]
theorem treeDVI (o : List Wh → Nat → Bool) (m : Nat) (f : Nat → Nat → Int) (t : TypeId) : execF Tryz.prog (ext g0 165 (specR md_if (FifO o 151))) noLam 100 Tryz.f113 [.sl 0 9 0 0 m none] [.row false m 9 (row9 f) t] (packK 1)
    = bif decide ((↑m : Int) ≤ (12 : Int)) then needs [Nat.ble ((0 : Nat) + m) m, allW m fun q ↦ row9 f ((0 : Nat) + q), decide (m ≤ (274877906944 : Nat))] (Res.out Ex.ret [AV.v (Value.bool !decide (fstAt (o (listW (itW fun q ↦ row9 f ((0 : Nat) + q)) m)) m ≥ (0 : Int)))] [AB.row false m (9 : Nat) (row9 f) t]) else Res.out Ex.ret [AV.v (Value.bool false)] [AB.row false m (9 : Nat) (row9 f) t] := by kernel_rfl

def badIa (f : Nat → Nat → Int) (x : Int) (i : Nat) : Bool := f i 0 == x
theorem sumIa (m : Nat) (f : Nat → Nat → Int) (t t2 : TypeId) (x : Nat → Int) (hm : m ≤ 2 ^ 40) :
    SumOk Tryz.prog 2 (.block 0 (.loop (loopAt 0 fIFW))) (atS 19 (lvIF .normal) 2 [.own 0 m, fnIa, .v (i64 m), .v (i64 (0 : Nat))] (hpIa m f t t2 x) (fun K => cond (noneTo (badIa f (x 0)) m) (K .normal (mkT 0 19 []) (hpIa m f t t2 x)) (K .ret (mkT 0 19 [(4, .v (i64 (fstAt (badIa f (x 0)) m)))]) (hpIa m f t t2 x)))) := by
  refine for_at g0_ok (n := 100) (m := 2) (lv := lvIF) (fun i => [.own 0 m, fnIa, .v (i64 m), .v (i64 (i : Nat))]) (fun _ => hpIa m f t t2 x) (fun i => noneTo (badIa f (x 0)) i = true) m (fun _ => noLam) (lv3_ris rfl rfl rfl) (Nat.le_refl _) rfl fun K Q hk i hi him => ⟨noLam_ok _ _ _, ?_⟩
  rw [rndIa]
  refine good_cond (fun c1 => ?_) fun c1 => ?_
  · have c1 := of_decide_eq_true c1
    have c1' : i < m := by omega
    rw [Int.toNat_natCast, wr_in (x := (i : Int) + 1) (by omega)]
    refine good_needs (by simp only [ob_cons, ob_nil, and_true, decide_eq_true_eq]; omega) ?_
    refine good_cond (fun q => ?_) fun q => ?_
    · refine good_out ⟨_, Hsim.refl _, ?_⟩
      rw [noneTo_no c1' q, fstAt_at hi c1' q] at hk
      exact hk
    · exact good_out ⟨i + 1, ⟨rfl, c1', noneTo_succ hi q⟩, rfl, Hsim.refl _⟩
  · have c1 := of_decide_eq_false c1
    have : i = m := by omega
    subst this
    refine good_out ⟨_, Hsim.refl _, ?_⟩
    rw [if_pos rfl]
    rw [hi] at hk
    exact hk

def badIb (ok : (Nat → Int) → Bool) (f : Nat → Nat → Int) (i : Nat) : Bool := bif !inR (f i 0) (-1000) 1000 then true else !ok (v8 (f i 1) (f i 2) (f i 3) (f i 4) (f i 5) (f i 6) (f i 7) (f i 8))
theorem sumIb {ok : (Nat → Int) → Bool} (hΓ : GamOk Tryz.prog (gmIb ok)) (m : Nat) (f : Nat → Nat → Int) (t : TypeId) (hm : m ≤ 2 ^ 40) :
    SumOk Tryz.prog 1 (.block 0 (.loop (loopAt 0 fIFW))) (atS 19 (lvIF .normal) 1 [.sl 0 9 0 0 m none, fnIb, .v (i64 m), .v (i64 (0 : Nat))] (hpIb m f t) (fun K => cond (noneTo (badIb ok f) m) (K .normal (mkT 0 19 []) (hpIb m f t)) (K .ret (mkT 0 19 [(4, .v (i64 (fstAt (badIb ok f) m)))]) (hpIb m f t)))) := by
  refine for_at hΓ (n := 100) (m := 1) (lv := lvIF) (fun i => [.sl 0 9 0 0 m none, fnIb, .v (i64 m), .v (i64 (i : Nat))]) (fun _ => hpIb m f t) (fun i => noneTo (badIb ok f) i = true) m (fun _ => noLam) (lv3_ris rfl rfl rfl) (Nat.le_refl _) rfl fun K Q hk i hi him => ⟨noLam_ok _ _ _, ?_⟩
  rw [rndIb]
  refine good_cond (fun c1 => ?_) fun c1 => ?_
  · have c1 := of_decide_eq_true c1
    have c1' : i < m := by omega
    rw [Int.toNat_natCast, Nat.zero_add, wr_in (x := (i : Int) + 1) (by omega)]
    refine good_needs (by simp only [ob_cons, ob_nil, and_true, decide_eq_true_eq]; omega) ?_
    refine good_cond (fun q => ?_) fun q => ?_
    · have q' : badIb ok f i = true := by unfold badIb; rw [q]; rfl
      refine good_out ⟨_, Hsim.refl _, ?_⟩
      rw [noneTo_no c1' q', fstAt_at hi c1' q'] at hk
      exact hk
    · refine good_cond (fun q2 => ?_) fun q2 => ?_
      · have q' : badIb ok f i = true := by unfold badIb; rw [q]; exact q2
        refine good_out ⟨_, Hsim.refl _, ?_⟩
        rw [noneTo_no c1' q', fstAt_at hi c1' q'] at hk
        exact hk
      · have q' : badIb ok f i = false := by unfold badIb; rw [q]; exact q2
        exact good_out ⟨i + 1, ⟨rfl, c1', noneTo_succ hi q'⟩, rfl, Hsim.refl _⟩
  · have c1 := of_decide_eq_false c1
    have : i = m := by omega
    subst this
    refine good_out ⟨_, Hsim.refl _, ?_⟩
    rw [if_pos rfl]
    rw [hi] at hk
    exact hk

def badIc (f : Nat → Nat → Int) (i : Nat) : Bool := isZ8 (f i)
theorem sumIc (m : Nat) (f : Nat → Nat → Int) (t : TypeId) (hm : m ≤ 2 ^ 40) :
    SumOk Tryz.prog 1 (.block 0 (.loop (loopAt 0 fIFW))) (atS 19 (lvIF .normal) 1 [.sl 0 9 0 0 m none, fnIc, .v (i64 m), .v (i64 (0 : Nat))] (hpIb m f t) (fun K => cond (noneTo (badIc f) m) (K .normal (mkT 0 19 []) (hpIb m f t)) (K .ret (mkT 0 19 [(4, .v (i64 (fstAt (badIc f) m)))]) (hpIb m f t)))) := by
  refine for_at g0_ok (n := 100) (m := 1) (lv := lvIF) (fun i => [.sl 0 9 0 0 m none, fnIc, .v (i64 m), .v (i64 (i : Nat))]) (fun _ => hpIb m f t) (fun i => noneTo (badIc f) i = true) m (fun _ => noLam) (lv3_ris rfl rfl rfl) (Nat.le_refl _) rfl fun K Q hk i hi him => ⟨noLam_ok _ _ _, ?_⟩
  rw [rndIc]
  refine good_cond (fun c1 => ?_) fun c1 => ?_
  · have c1 := of_decide_eq_true c1
    have c1' : i < m := by omega
    rw [Int.toNat_natCast, Nat.zero_add, wr_in (x := (i : Int) + 1) (by omega)]
    refine good_needs (by simp only [ob_cons, ob_nil, and_true, decide_eq_true_eq]; omega) ?_
    refine good_cond (fun q => ?_) fun q => ?_
    · refine good_out ⟨_, Hsim.refl _, ?_⟩
      rw [noneTo_no c1' q, fstAt_at hi c1' q] at hk
      exact hk
    · exact good_out ⟨i + 1, ⟨rfl, c1', noneTo_succ hi q⟩, rfl, Hsim.refl _⟩
  · have c1 := of_decide_eq_false c1
    have : i = m := by omega
    subst this
    refine good_out ⟨_, Hsim.refl _, ?_⟩
    rw [if_pos rfl]
    rw [hi] at hk
    exact hk

/-- Of the wheels' speeds, the place of the first that is this one. -/
def F_ifa : List AV → List AB → Option HR
  | [.own 0 m, .fn 166 [.ptr 1 0 0 0]], [.row false n 9 g t, .cells [.v (.int .i64 x0), .v (.int .i64 x1), .v (.int .i64 x2), .v (.int .i64 x3), .v (.int .i64 x4), .v (.int .i64 x5), .v (.int .i64 x6), .v (.int .i64 x7), .v (.int .i64 x8)] t2] => some { val := .v (i64 (fstAt (badIa (itW g) x0) m)), out := [.row false n 9 g t, .cells [.v (.int .i64 x0), .v (.int .i64 x1), .v (.int .i64 x2), .v (.int .i64 x3), .v (.int .i64 x4), .v (.int .i64 x5), .v (.int .i64 x6), .v (.int .i64 x7), .v (.int .i64 x8)] t2], obl := [Nat.beq n m, allW m g, decide (m ≤ 2 ^ 38)] }
  | _, _ => none
def v9 (s x1 x2 x3 x4 x5 x6 x7 x8 : Int) : Nat → Int := whN ⟨s, ⟨x1, x2, x3, x4, x5, x6, x7, x8⟩⟩
theorem ok_ifa : SpecOk Tryz.prog 165 (specH [true] F_ifa) := by
  refine specH_ok g0_ok Tryz.func165 rfl fun avs H hr hF ho => ?_
  unfold F_ifa at hF
  split at hF
  · rename_i m n g t x0 x1 x2 x3 x4 x5 x6 x7 x8 t2
    cases hF
    simp only [ob_cons] at ho
    obtain ⟨h0, h1, h2, _⟩ := ho
    have h0 := Nat.eq_of_beq_eq_true h0
    subst h0
    have hm := of_decide_eq_true h2
    refine ⟨hpIa n (itW g) t t2 (v9 x0 x1 x2 x3 x4 x5 x6 x7 x8), lamIa n (itW g) t t2 (v9 x0 x1 x2 x3 x4 x5 x6 x7 x8) (badIa (itW g) x0), 100, .cons (ABeq.row fun j hj => allW_get h1 j hj) (.cons rfl .nil), lam1 (by kernel_rfl) (sumIa n (itW g) t t2 (v9 x0 x1 x2 x3 x4 x5 x6 x7 x8) (by omega)), ?_⟩
    show GoodQ (execF Tryz.prog g0 (lamIa n (itW g) t t2 (v9 x0 x1 x2 x3 x4 x5 x6 x7 x8) (badIa (itW g) x0)) 100 fIFW [.own 0 n, fnIa] (hpIa n (itW g) t t2 (v9 x0 x1 x2 x3 x4 x5 x6 x7 x8)) (packK 2)) _
    rw [treeIa]
    refine good_needs (by rw [ob_cons]; exact ⟨chk_of ⟨rfl, Hsim.refl _⟩, rfl⟩) (good_cond (fun q => ?_) fun q => ?_)
    · exact good_out ⟨by rw [fstAt_no q], .cons (ABeq.row fun j hj => (allW_get h1 j hj).symm) (.cons rfl .nil)⟩
    · exact good_out ⟨rfl, .cons (ABeq.row fun j hj => (allW_get h1 j hj).symm) (.cons rfl .nil)⟩
  · cases hF

def badLb (L : List Wh) : Nat → Bool := badIb (fun v => cyOk (cyOf v)) (wfun L)
def badLc (L : List Wh) : Nat → Bool := badIc (wfun L)
theorem wfun_list (f : Nat → Nat → Int) {m j : Nat} (hj : j < m) : ∀ k, k < 9 → wfun (listW f m) j k = f j k := fun k hk => by
  simp only [wfun, listW_get f hj]
  exact whN_of (f j) k hk
theorem badLb_eq (f : Nat → Nat → Int) {m j : Nat} (hj : j < m) : badIb (fun v => cyOk (cyOf v)) f j = badLb (listW f m) j := by
  simp only [badLb, badIb, wfun_list f hj 0 (by omega), wfun_list f hj 1 (by omega), wfun_list f hj 2 (by omega), wfun_list f hj 3 (by omega), wfun_list f hj 4 (by omega), wfun_list f hj 5 (by omega), wfun_list f hj 6 (by omega), wfun_list f hj 7 (by omega), wfun_list f hj 8 (by omega)]
theorem badLc_eq (f : Nat → Nat → Int) {m j : Nat} (hj : j < m) : badIc f j = badLc (listW f m) j := by
  simp only [badLc, badIc, isZ8, wfun_list f hj 1 (by omega), wfun_list f hj 2 (by omega), wfun_list f hj 3 (by omega), wfun_list f hj 4 (by omega), wfun_list f hj 5 (by omega), wfun_list f hj 6 (by omega), wfun_list f hj 7 (by omega), wfun_list f hj 8 (by omega)]
theorem gmIb_ok : GamOk Tryz.prog (gmIb (fun v => cyOk (cyOf v))) := by
  unfold gmIb
  rw [fOkc_eq]
  exact ext_ok gm_within_ok ok_cvI

theorem ok_ifb : SpecOk Tryz.prog 165 (specR md_if (FifO badLb 151)) := by
  refine specR_hr gmIb_ok Tryz.func165 rfl fun sas fr hF ho => ?_
  unfold FifO at hF
  split at hF
  · rename_i m g fi
    cases hF
    simp only [ob_cons] at ho
    obtain ⟨h0, h1, h2, _⟩ := ho
    have h0 := Nat.eq_of_beq_eq_true h0
    subst h0
    have hm := of_decide_eq_true h2
    have eb : noneTo (badLb (listW (itW g) m)) m = noneTo (badIb (fun v => cyOk (cyOf v)) (itW g)) m := noneTo_congr fun j hj => (badLb_eq (itW g) hj).symm
    have ef : fstAt (badLb (listW (itW g) m)) m = fstAt (badIb (fun v => cyOk (cyOf v)) (itW g)) m := fstAt_congr fun j hj => (badLb_eq (itW g) hj).symm
    refine ⟨hpIb m (itW g) 75, lamIb fnIb m (itW g) 75 (badIb (fun v => cyOk (cyOf v)) (itW g)), 100, .cons (ABeq.row fun j hj => allW_get h1 j hj) .nil, lam1 (by kernel_rfl) (sumIb gmIb_ok m (itW g) 75 (by omega)), ?_⟩
    show GoodQ (execF Tryz.prog (gmIb fun v => cyOk (cyOf v)) (lamIb fnIb m (itW g) 75 (badIb (fun v => cyOk (cyOf v)) (itW g))) 100 fIFW [.sl 0 9 0 0 m none, fnIb] (hpIb m (itW g) 75) (packK 1)) _
    rw [treeIb, ef]
    refine good_needs (by rw [ob_cons]; exact ⟨chk_of ⟨rfl, Hsim.refl _⟩, rfl⟩) (good_cond (fun q => ?_) fun q => ?_)
    · exact good_out ⟨_, rfl, by rw [fstAt_no q], .cons (ABeq.row fun j hj => (allW_get h1 j hj).symm) .nil⟩
    · exact good_out ⟨_, rfl, rfl, .cons (ABeq.row fun j hj => (allW_get h1 j hj).symm) .nil⟩
  · cases hF

theorem ok_ifc : SpecOk Tryz.prog 165 (specR md_if (FifO badLc 168)) := by
  refine specR_hr g0_ok Tryz.func165 rfl fun sas fr hF ho => ?_
  unfold FifO at hF
  split at hF
  · rename_i m g fi
    cases hF
    simp only [ob_cons] at ho
    obtain ⟨h0, h1, h2, _⟩ := ho
    have h0 := Nat.eq_of_beq_eq_true h0
    subst h0
    have hm := of_decide_eq_true h2
    have eb : noneTo (badLc (listW (itW g) m)) m = noneTo (badIc (itW g)) m := noneTo_congr fun j hj => (badLc_eq (itW g) hj).symm
    have ef : fstAt (badLc (listW (itW g) m)) m = fstAt (badIc (itW g)) m := fstAt_congr fun j hj => (badLc_eq (itW g) hj).symm
    refine ⟨hpIb m (itW g) 75, lamIb fnIc m (itW g) 75 (badIc (itW g)), 100, .cons (ABeq.row fun j hj => allW_get h1 j hj) .nil, lam1 (by kernel_rfl) (sumIc m (itW g) 75 (by omega)), ?_⟩
    show GoodQ (execF Tryz.prog g0 (lamIb fnIc m (itW g) 75 (badIc (itW g))) 100 fIFW [.sl 0 9 0 0 m none, fnIc] (hpIb m (itW g) 75) (packK 1)) _
    rw [treeIc, ef]
    refine good_needs (by rw [ob_cons]; exact ⟨chk_of ⟨rfl, Hsim.refl _⟩, rfl⟩) (good_cond (fun q => ?_) fun q => ?_)
    · exact good_out ⟨_, rfl, by rw [fstAt_no q], .cons (ABeq.row fun j hj => (allW_get h1 j hj).symm) .nil⟩
    · exact good_out ⟨_, rfl, rfl, .cons (ABeq.row fun j hj => (allW_get h1 j hj).symm) .nil⟩
  · cases hF

theorem badLb_ok (L : List Wh) : okD L = (decide (L.length ≤ 12) && noneTo (badLb L) L.length) := by
  have := okD_list (wfun L) L.length
  rw [listW_fun] at this
  rw [this]
  congr 1
  refine noneTo_congr fun j _ => ?_
  simp only [badDV, badLb, badIb]
  cases inR (wfun L j 0) (-1000) 1000 <;> simp
theorem ok_dvI : SpecOk Tryz.prog 113 (specR md_ws F_dv) := by
  refine specR_hr (ext_ok g0_ok ok_ifb) Tryz.func113 rfl fun sas fr hF ho => ?_
  unfold F_dv at hF
  split at hF
  · rename_i m g
    cases hF
    simp only [ob_cons] at ho
    obtain ⟨h1, h2, _⟩ := ho
    have hm := of_decide_eq_true h2
    refine ⟨[.row false m 9 (row9 (itW g)) 75], noLam, 100, .cons (ABeq.row fun j hj => allW_get h1 j hj) .nil, noLam' _, ?_⟩
    show GoodQ (execF Tryz.prog (ext g0 165 (specR md_if (FifO badLb 151))) noLam 100 Tryz.f113 [.sl 0 9 0 0 m none] [.row false m 9 (row9 (itW g)) 75] (packK 1)) _
    rw [treeDVI]
    have e := badLb_ok (listW (itW g) m)
    rw [listW_length] at e
    have fin : ∀ b, okD (listW (itW g) m) = b → GoodQ (.out .ret [.v (.bool b)] [.row false m 9 (row9 (itW g)) 75]) (GivR (abP md_ws [.row m g] []) { val := .v (.bool (okD (listW (itW g) m))), obl := [allW m g, decide (m ≤ 2 ^ 39)] }) := fun b hb =>
      good_out ⟨_, rfl, by rw [hb], .cons (ABeq.row fun j hj => (allW_get h1 j hj).symm) .nil⟩
    have z : (fun q => row9 (itW g) (0 + q)) = row9 (itW g) := by funext q; rw [Nat.zero_add]
    rw [z, listW_itW, fstAt_ge, Bool.not_not]
    refine good_cond (fun c => ?_) fun c => ?_
    · have c' := of_decide_eq_true c
      have c2 : m ≤ 12 := by omega
      refine good_needs (by simp only [ob_cons, ob_nil, and_true]; exact ⟨by rw [Nat.zero_add]; simp, allW_row _ _, decide_eq_true (by omega)⟩) (fin _ (e.trans (by rw [decide_eq_true c2]; rfl)))
    · have c' := of_decide_eq_false c
      have c2 : ¬ m ≤ 12 := by omega
      exact fin _ (e.trans (by rw [decide_eq_false c2]; rfl))
  · cases hF

end Go.Proofs.YtcadinbahmliiaaGreatDoor

/- DeleteFunc on wheels: those whose radius is nothing are left out. Conditions: a list of wheels. -/
namespace Go.Proofs.YtcadinbahmliiaaGreatDoor
open Go.RowKit
set_option maxRecDepth 100000

abbrev fnId : AV := .fn 168 []
noncomputable abbrev fDF : Func := Tryz.f167
abbrev lvDF : Ex → List Nat := lv3 [0, 1, 5, 6] [0, 5] [4]
abbrev hpDF (m : Nat) (h : Nat → Nat → Int) (t : TypeId) : List AB := [.row true m 9 (row9 h) t]
abbrev stDF (m k j : Nat) : List AV := [.own 0 m, fnId, .v (i64 k), .v (i64 j)]
theorem rndDF (m : Nat) (h : Nat → Nat → Int) (t : TypeId) (k j : Nat) : execC Tryz.prog g0 100 noLam (loopAt 0 fDF) (mkT 0 42 ((lvDF .normal).zip (stDF m k j))) (hpDF m h t) (leafV 42 lvDF 1)
    = bif decide ((↑j : Int) < (↑m : Int)) then needs [decide ((↑j : Int) < (↑m : Int)), decide (Int.toNat (↑j : Int) < m)] (bif !(h (Int.toNat (↑j : Int)) (1 : Nat) == (0 : Int) && (h (Int.toNat (↑j : Int)) (2 : Nat) == (0 : Int) && (h (Int.toNat (↑j : Int)) (3 : Nat) == (0 : Int) && (h (Int.toNat (↑j : Int)) (4 : Nat) == (0 : Int) && (h (Int.toNat (↑j : Int)) (5 : Nat) == (0 : Int) && (h (Int.toNat (↑j : Int)) (6 : Nat) == (0 : Int) && (h (Int.toNat (↑j : Int)) (7 : Nat) == (0 : Int) && (h (Int.toNat (↑j : Int)) (8 : Nat) == (0 : Int) && true))))))) && true) then needs [decide ((↑k : Int) < (↑m : Int)), decide (Int.toNat (↑k : Int) < m)] (Res.out Ex.normal [AV.own (0 : Nat) m, AV.fn (168 : FuncId) [], AV.v (Value.int IntKind.i64 (IntKind.wrap IntKind.i64 ((↑k : Int) + (1 : Int)))), AV.v (Value.int IntKind.i64 (IntKind.wrap IntKind.i64 ((↑j : Int) + (1 : Int))))] [AB.row true m (9 : Nat) (fun q ↦ [Value.int IntKind.i64 (bif Nat.beq q (Int.toNat (↑k : Int)) then h (Int.toNat (↑j : Int)) (0 : Nat) else h q (0 : Nat)), Value.int IntKind.i64 (bif Nat.beq q (Int.toNat (↑k : Int)) then h (Int.toNat (↑j : Int)) (1 : Nat) else h q (1 : Nat)), Value.int IntKind.i64 (bif Nat.beq q (Int.toNat (↑k : Int)) then h (Int.toNat (↑j : Int)) (2 : Nat) else h q (2 : Nat)), Value.int IntKind.i64 (bif Nat.beq q (Int.toNat (↑k : Int)) then h (Int.toNat (↑j : Int)) (3 : Nat) else h q (3 : Nat)), Value.int IntKind.i64 (bif Nat.beq q (Int.toNat (↑k : Int)) then h (Int.toNat (↑j : Int)) (4 : Nat) else h q (4 : Nat)), Value.int IntKind.i64 (bif Nat.beq q (Int.toNat (↑k : Int)) then h (Int.toNat (↑j : Int)) (5 : Nat) else h q (5 : Nat)), Value.int IntKind.i64 (bif Nat.beq q (Int.toNat (↑k : Int)) then h (Int.toNat (↑j : Int)) (6 : Nat) else h q (6 : Nat)), Value.int IntKind.i64 (bif Nat.beq q (Int.toNat (↑k : Int)) then h (Int.toNat (↑j : Int)) (7 : Nat) else h q (7 : Nat)), Value.int IntKind.i64 (bif Nat.beq q (Int.toNat (↑k : Int)) then h (Int.toNat (↑j : Int)) (8 : Nat) else h q (8 : Nat))]) t]) else Res.out Ex.normal [AV.own (0 : Nat) m, AV.fn (168 : FuncId) [], AV.v (Value.int IntKind.i64 (↑k : Int)), AV.v (Value.int IntKind.i64 (IntKind.wrap IntKind.i64 ((↑j : Int) + (1 : Int))))] [AB.row true m (9 : Nat) (row9 h) t]) else Res.out (Ex.exit (0 : Nat)) [AV.own (0 : Nat) m, AV.v (Value.int IntKind.i64 (↑k : Int))] [AB.row true m (9 : Nat) (row9 h) t] := by kernel_rfl

def gmDF (o : List Wh → Nat → Bool) : Gam := ext g0 165 (specR md_if (FifO o 168))
noncomputable abbrev lamDF (m k0 j0 : Nat) (h : Nat → Nat → Int) (t : TypeId) (k : Nat) (h2 : Nat → Nat → Int) : Nat → Option Sum := oneL 0 (atS 42 (lvDF .normal) 1 (stDF m k0 j0) (hpDF m h t) (fun K => K .normal (mkT 0 42 [(0, .own 0 m), (5, .v (i64 k))]) (hpDF m h2 t)))
theorem treeDF (o : List Wh → Nat → Bool) (m k0 j0 : Nat) (h : Nat → Nat → Int) (t : TypeId) (k : Nat) (h2 : Nat → Nat → Int) : execF Tryz.prog (gmDF o) (lamDF m k0 j0 h t k h2) 100 fDF [.own 0 m, fnId] (hpDF m h t) (packK 1)
    = needs [Nat.ble m m, allW m (row9 h), decide (m ≤ (274877906944 : Nat))] (bif fstAt (o (listW (itW (row9 h)) m)) m == (-1 : Int) then Res.out Ex.ret [AV.own (0 : Nat) m] [AB.row true m (9 : Nat) (row9 h) t] else needs [chk ([AV.own (0 : Nat) m, AV.fn (168 : FuncId) [], AV.v (Value.int IntKind.i64 (fstAt (o (listW (itW (row9 h)) m)) m)), AV.v (Value.int IntKind.i64 (IntKind.wrap IntKind.i64 (fstAt (o (listW (itW (row9 h)) m)) m + (1 : Int))))] = stDF m k0 j0 ∧ Hsim [AB.row true m (9 : Nat) (row9 h) t] (hpDF m h t)), decide ((↑k : Int) ≤ (↑m : Int)), decide ((↑m : Int) ≤ (↑m : Int)), decide ((↑m : Int) ≤ (↑m : Int)), Nat.ble m m, Nat.ble (Int.toNat (↑k : Int) + Int.toNat ((↑m : Int) - (↑k : Int))) m, decide ((↑k : Int) ≤ (↑m : Int)), decide ((↑m : Int) ≤ (↑m : Int)), Nat.ble m m] (Res.out Ex.ret [AV.sl (0 : Nat) (9 : Nat) (0 : Nat) (0 : Nat) (Int.toNat ((↑k : Int) - (0 : Int))) none] [AB.row true m (9 : Nat) (fun q ↦ [Value.int IntKind.i64 (bif Nat.ble (Int.toNat (↑k : Int)) q && Nat.blt q (Int.toNat (↑k : Int) + Int.toNat ((↑m : Int) - (↑k : Int))) then (0 : Int) else h2 q (0 : Nat)), Value.int IntKind.i64 (bif Nat.ble (Int.toNat (↑k : Int)) q && Nat.blt q (Int.toNat (↑k : Int) + Int.toNat ((↑m : Int) - (↑k : Int))) then (0 : Int) else h2 q (1 : Nat)), Value.int IntKind.i64 (bif Nat.ble (Int.toNat (↑k : Int)) q && Nat.blt q (Int.toNat (↑k : Int) + Int.toNat ((↑m : Int) - (↑k : Int))) then (0 : Int) else h2 q (2 : Nat)), Value.int IntKind.i64 (bif Nat.ble (Int.toNat (↑k : Int)) q && Nat.blt q (Int.toNat (↑k : Int) + Int.toNat ((↑m : Int) - (↑k : Int))) then (0 : Int) else h2 q (3 : Nat)), Value.int IntKind.i64 (bif Nat.ble (Int.toNat (↑k : Int)) q && Nat.blt q (Int.toNat (↑k : Int) + Int.toNat ((↑m : Int) - (↑k : Int))) then (0 : Int) else h2 q (4 : Nat)), Value.int IntKind.i64 (bif Nat.ble (Int.toNat (↑k : Int)) q && Nat.blt q (Int.toNat (↑k : Int) + Int.toNat ((↑m : Int) - (↑k : Int))) then (0 : Int) else h2 q (5 : Nat)), Value.int IntKind.i64 (bif Nat.ble (Int.toNat (↑k : Int)) q && Nat.blt q (Int.toNat (↑k : Int) + Int.toNat ((↑m : Int) - (↑k : Int))) then (0 : Int) else h2 q (6 : Nat)), Value.int IntKind.i64 (bif Nat.ble (Int.toNat (↑k : Int)) q && Nat.blt q (Int.toNat (↑k : Int) + Int.toNat ((↑m : Int) - (↑k : Int))) then (0 : Int) else h2 q (7 : Nat)), Value.int IntKind.i64 (bif Nat.ble (Int.toNat (↑k : Int)) q && Nat.blt q (Int.toNat (↑k : Int) + Int.toNat ((↑m : Int) - (↑k : Int))) then (0 : Int) else h2 q (8 : Nat))]) t])) := by kernel_rfl

theorem beq_ne {a b : Nat} (h : a ≠ b) : Nat.beq a b = false := by
  cases hb : Nat.beq a b with
  | false => rfl
  | true => exact (h (Nat.eq_of_beq_eq_true hb)).elim
abbrev kDF (f : Nat → Nat → Int) (j : Nat) : Nat := (nonZ (listW f j)).length
abbrev hDF (f : Nat → Nat → Int) (m j : Nat) : Nat → Nat → Int := wfun (delR f m j)
theorem isZ8_congr {f g : Nat → Int} (h : ∀ k, k < 9 → f k = g k) : isZ8 f = isZ8 g := by
  simp only [isZ8, h 1 (by omega), h 2 (by omega), h 3 (by omega), h 4 (by omega), h 5 (by omega), h 6 (by omega), h 7 (by omega), h 8 (by omega)]
theorem sumDF (m j0 : Nat) (f : Nat → Nat → Int) (t : TypeId) (hm : m ≤ 2 ^ 38) (hj : j0 ≤ m) :
    SumOk Tryz.prog 1 (.block 0 (.loop (loopAt 0 fDF))) (atS 42 (lvDF .normal) 1 (stDF m (kDF f j0) j0) (hpDF m (hDF f m j0) t) (fun K => K .normal (mkT 0 42 [(0, .own 0 m), (5, .v (i64 (kDF f m)))]) (hpDF m (hDF f m m) t))) := by
  refine for_at g0_ok (n := 100) (m := 1) (lv := lvDF) (fun i => stDF m (kDF f (j0 + i)) (j0 + i)) (fun i => hpDF m (hDF f m (j0 + i)) t) (fun _ => True) (m - j0) (fun _ => noLam) (lv3_ris rfl rfl rfl) (Nat.le_refl _) trivial fun K Q hk i hi him => ⟨noLam_ok _ _ _, ?_⟩
  have hl : kDF f (j0 + i) ≤ j0 + i := nonZ_le f (j0 + i)
  rw [rndDF]
  refine good_cond (fun c1 => ?_) fun c1 => ?_
  · have c1 := of_decide_eq_true c1
    have c1' : j0 + i < m := by omega
    have e1 : IntKind.wrap IntKind.i64 (((j0 + i : Nat) : Int) + 1) = ((j0 + (i + 1) : Nat) : Int) := by rw [wr_in (by omega)]; omega
    have e2 : IntKind.wrap IntKind.i64 (((kDF f (j0 + i) : Nat) : Int) + 1) = ((kDF f (j0 + i) + 1 : Nat) : Int) := by rw [wr_in (by omega)]; omega
    have hz : isZ8 (hDF f m (j0 + i) (j0 + i)) = isZ8 (f (j0 + i)) := isZ8_congr (delR_get f (Nat.le_refl _) c1')
    simp only [Int.toNat_natCast]
    rw [e1, e2]
    refine good_needs (by simp only [ob_cons, ob_nil, and_true, decide_eq_true_eq]; omega) ?_
    show GoodQ (cond (!(isZ8 (hDF f m (j0 + i) (j0 + i)))) _ _) _
    rw [hz]
    cases q : isZ8 (f (j0 + i)) with
    | true =>
      have q2 := delR_yes (m := m) q
      have q3 := nonZ_yes q
      refine good_out ⟨i + 1, ⟨rfl, by omega, trivial⟩, ?_, ?_⟩
      · show _ = stDF m (nonZ (listW f (j0 + i + 1))).length (j0 + (i + 1))
        rw [q3]
      · show Hsim _ (hpDF m (wfun (delR f m (j0 + i + 1))) t)
        rw [q2]
        exact Hsim.refl _
    | false =>
      have q2 := delR_no c1' q
      have q3 := nonZ_no q
      refine good_needs (by simp only [ob_cons, ob_nil, and_true, decide_eq_true_eq]; omega) (good_out ⟨i + 1, ⟨rfl, by omega, trivial⟩, ?_, ?_⟩)
      · show _ = stDF m (nonZ (listW f (j0 + i + 1))).length (j0 + (i + 1))
        rw [q3, List.length_append]
        rfl
      · show Hsim _ (hpDF m (wfun (delR f m (j0 + i + 1))) t)
        rw [q2]
        refine .cons (ABeq.row fun q hq => ?_) .nil
        show row9 (fun q k => bif Nat.beq q (kDF f (j0 + i)) then hDF f m (j0 + i) (j0 + i) k else hDF f m (j0 + i) q k) q = _
        refine row9_congr fun k hk => ?_
        rw [wfun_set _ _ _ _ (by rw [delR_length f (by omega)]; show kDF f (j0 + i) < m; omega)]
        by_cases e : q = kDF f (j0 + i)
        · rw [e, if_pos rfl, show Nat.beq (kDF f (j0 + i)) (kDF f (j0 + i)) = true from Nat.beq_refl _, cond_true, whN_of (f (j0 + i)) k hk]
          exact delR_get f (Nat.le_refl _) c1' k hk
        · rw [if_neg e, beq_ne e, cond_false]
  · have c1 := of_decide_eq_false c1
    have : j0 + i = m := by omega
    rw [this]
    have hi' : i = m - j0 := by omega
    refine good_out ⟨_, Hsim.refl _, ?_⟩
    rw [if_pos rfl]
    exact hk

/-- Those that are left out are cleared at the end. -/
def F_del : List AV → List AB → Option HR
  | [.own 0 m, .fn fi []], [.row true n 9 g t] => some { val := .sl 0 9 0 0 (nonZ (listW (itW g) m)).length none, out := [.row true m 9 (row9 (wfun (nonZ (listW (itW g) m)))) t], obl := [Nat.beq fi 168, Nat.beq n m, allW m g, decide (m ≤ 2 ^ 38)] }
  | _, _ => none
theorem gmDF_ok : GamOk Tryz.prog (gmDF badLc) := ext_ok g0_ok ok_ifc
theorem ok_del : SpecOk Tryz.prog 167 (specH [] F_del) := by
  refine specH_wk gmDF_ok Tryz.func167 rfl fun avs H hr hF ho => ?_
  unfold F_del at hF
  split at hF
  · rename_i m fi n g t
    cases hF
    simp only [ob_cons] at ho
    obtain ⟨h3, h0, h1, h2, _⟩ := ho
    have h0 := Nat.eq_of_beq_eq_true h0
    have h3 := Nat.eq_of_beq_eq_true h3
    subst h0 h3
    have hm := of_decide_eq_true h2
    have hg : ∀ j, j < n → g j = row9 (itW g) j := fun j hj => allW_get h1 j hj
    generalize itW g = f at *
    have hL : listW (itW (row9 (wfun (listW f n)))) n = listW f n := by
      have := listW_fun (listW f n)
      rwa [listW_length] at this
    have eb : fstAt (badLc (listW f n)) n = fstAt (fun j => isZ8 (f j)) n := fstAt_congr fun j hj => (badLc_eq f hj).symm
    have key : ∀ j0, j0 ≤ n → delR f n j0 = listW f n → GoodQ (execF Tryz.prog (gmDF badLc) (lamDF n (kDF f j0) j0 (hDF f n j0) t (kDF f n) (hDF f n n)) 100 fDF [.own 0 n, fnId] (hpDF n (hDF f n j0) t) (packK 1)) (GivW { val := .sl 0 9 0 0 (nonZ (listW f n)).length none, out := [.row true n 9 (row9 (wfun (nonZ (listW f n)))) t], obl := [Nat.beq 168 168, Nat.beq n n, allW n g, decide (n ≤ 2 ^ 38)] }) →
        ∃ (H0 : List AB) (Λ : Nat → Option Sum) (n_1 : Nat), Hsim [.row true n 9 g t] H0 ∧ (∀ c, fDF.body = some c → LamOk Tryz.prog H0.length Λ c) ∧ GoodQ (execF Tryz.prog (gmDF badLc) Λ n_1 fDF [.own 0 n, fnId] H0 (packK H0.length)) (GivW { val := .sl 0 9 0 0 (nonZ (listW f n)).length none, out := [.row true n 9 (row9 (wfun (nonZ (listW f n)))) t], obl := [Nat.beq 168 168, Nat.beq n n, allW n g, decide (n ≤ 2 ^ 38)] }) := by
      intro j0 hj e hG
      refine ⟨_, _, 100, .cons (ABeq.row fun j hj => ?_) .nil, lam1 (by kernel_rfl) (sumDF n j0 f t hm hj), hG⟩
      rw [hg j hj]
      show row9 f j = row9 (wfun (delR f n j0)) j
      rw [e, row9_list f hj]
    have fin : nonZ (listW f n) = listW f n → GoodQ (.out .ret [.own 0 n] [.row true n 9 (row9 (wfun (listW f n))) t]) (GivW { val := .sl 0 9 0 0 (nonZ (listW f n)).length none, out := [.row true n 9 (row9 (wfun (nonZ (listW f n)))) t], obl := [Nat.beq 168 168, Nat.beq n n, allW n g, decide (n ≤ 2 ^ 38)] }) := fun e => by
      rw [e, listW_length]
      exact good_out ⟨_, rfl, fun M ν w v hR hv => own_sl rfl (Nat.le_refl _) hR hv, Hsim.refl _⟩
    rcases fstAt_cases (fun j => isZ8 (f j)) n with ⟨q1, q2⟩ | ⟨i0, q0, q1, q3, q4, q2⟩
    · have e0 : delR f n 0 = listW f n := rfl
      refine key 0 (Nat.zero_le _) e0 ?_
      show GoodQ (execF Tryz.prog (gmDF badLc) (lamDF n (kDF f 0) 0 (wfun (delR f n 0)) t (kDF f n) (hDF f n n)) 100 fDF [.own 0 n, fnId] (hpDF n (wfun (delR f n 0)) t) (packK 1)) _
      rw [e0, treeDF, hL, eb, q2]
      exact good_needs (by simp only [ob_cons, ob_nil, and_true, allW_row, decide_eq_true_eq]; exact ⟨by simp, trivial, hm⟩) (good_true rfl (fin (nonZ_none q1)))
    · obtain ⟨e0, e1⟩ := delR_start q0 q1 q3
      refine key (i0 + 1) (by omega) e0 ?_
      have ek : kDF f (i0 + 1) = i0 := e1
      have hk : kDF f n ≤ n := nonZ_le f n
      show GoodQ (execF Tryz.prog (gmDF badLc) (lamDF n (kDF f (i0 + 1)) (i0 + 1) (wfun (delR f n (i0 + 1))) t (kDF f n) (hDF f n n)) 100 fDF [.own 0 n, fnId] (hpDF n (wfun (delR f n (i0 + 1))) t) (packK 1)) _
      rw [e0, ek, treeDF, hL, eb, q2]
      refine good_needs (by simp only [ob_cons, ob_nil, and_true, allW_row, decide_eq_true_eq]; exact ⟨by simp, trivial, hm⟩) (good_false (by simp) ?_)
      rw [wr_in (x := (i0 : Int) + 1) (by omega)]
      simp only [Int.toNat_natCast, Int.sub_zero]
      rw [show Int.toNat ((n : Int) - (kDF f n : Nat)) = n - kDF f n by omega, show kDF f n + (n - kDF f n) = n by omega]
      refine good_needs ?_ (good_out ⟨_, rfl, fun _ _ _ _ _ hv => hv, .cons (ABeq.row fun q hq => ?_) .nil⟩)
      · simp only [ob_cons, ob_nil, and_true, decide_eq_true_eq, Nat.ble_eq]
        refine ⟨chk_of ⟨rfl, Hsim.refl _⟩, ?_⟩
        omega
      · show row9 (fun q k => bif Nat.ble (kDF f n) q && Nat.blt q n then 0 else hDF f n n q k) q = _
        refine row9_congr fun k hk9 => ?_
        have b1 : Nat.blt q n = true := by rw [Nat.blt_eq]; exact hq
        rw [b1, Bool.and_true]
        by_cases hlt : q < kDF f n
        · have b2 : Nat.ble (kDF f n) q = false := by
            cases hb : Nat.ble (kDF f n) q with
            | false => rfl
            | true => rw [Nat.ble_eq] at hb; omega
          rw [b2, cond_false]
          simp only [wfun, delR, List.getElem?_append_left hlt]
        · have b2 : Nat.ble (kDF f n) q = true := by rw [Nat.ble_eq]; omega
          rw [b2, cond_true, wfun_out (show (nonZ (listW f n)).length ≤ q from Nat.le_of_not_lt hlt)]
  · cases hF

end Go.Proofs.YtcadinbahmliiaaGreatDoor

/- The sort of wheels by their speeds. Conditions: at most twelve. -/
namespace Go.Proofs.YtcadinbahmliiaaGreatDoor
open Go.RowKit
set_option maxRecDepth 100000

noncomputable abbrev fIS : Func := Tryz.f218
theorem treeCmp (a b : Int) : execF Tryz.prog g0 noLam 100 Tryz.f171 ([i64 a, i64 b].map .v) [] valK
    = bif a != a then bif b != b then Res.out Ex.ret [AV.v (Value.int IntKind.i64 (0 : Int))] [] else Res.out Ex.ret [AV.v (Value.int IntKind.i64 (-1 : Int))] [] else bif b != b then Res.out Ex.ret [AV.v (Value.int IntKind.i64 (1 : Int))] [] else bif decide (a < b) then Res.out Ex.ret [AV.v (Value.int IntKind.i64 (-1 : Int))] [] else bif decide (a > b) then Res.out Ex.ret [AV.v (Value.int IntKind.i64 (1 : Int))] [] else Res.out Ex.ret [AV.v (Value.int IntKind.i64 (0 : Int))] [] := by kernel_rfl

def cmpI (a b : Int) : Int := bif decide (a < b) then -1 else bif decide (a > b) then 1 else 0
def f_cmp : List Value → Option (Value × List Bool)
  | [.int .i64 a, .int .i64 b] => some (.int .i64 (cmpI a b), [])
  | _ => none
theorem ok_cmp : SpecOk Tryz.prog 171 (specV f_cmp) := by
  refine mkV (n := 100) g0_ok Tryz.func171 rfl fun vs v ob hF ho => ?_
  unfold f_cmp at hF
  split at hF
  · rename_i a b
    cases hF
    show Good (execF Tryz.prog g0 noLam 100 Tryz.f171 ([i64 a, i64 b].map .v) [] valK) _
    rw [treeCmp]
    refine gives_of ?_
    have e1 : (a != a) = false := by simp
    have e2 : (b != b) = false := by simp
    rw [e1, e2, cond_false, cond_false]
    show outV (cond (decide (a < b)) (rv (.int .i64 (-1))) (cond (decide (a > b)) (rv (.int .i64 1)) (rv (.int .i64 0)))) = _
    simp only [outV_cond, outV_rv, cond_some, cond_int, cmpI]
  · cases hF
def gmCmp : Gam := ext g0 171 (specV f_cmp)
theorem gmCmp_ok : GamOk Tryz.prog gmCmp := ext_ok g0_ok ok_cmp

def fC3 (c : Int → Int → Int) : List Value → Option (Value × List Bool)
  | [.agg ⟨[.int .i64 a, .int .i64 _, .int .i64 _, .int .i64 _, .int .i64 _, .int .i64 _, .int .i64 _, .int .i64 _, .int .i64 _]⟩, .agg ⟨[.int .i64 b, .int .i64 _, .int .i64 _, .int .i64 _, .int .i64 _, .int .i64 _, .int .i64 _, .int .i64 _, .int .i64 _]⟩] => some (.int .i64 (c a b), [])
  | _ => none
theorem ok_c3 : SpecOk Tryz.prog 170 (specV (fC3 cmpI)) := by
  refine mkV (n := 100) gmCmp_ok Tryz.func170 rfl fun vs v ob hF ho => ?_
  unfold fC3 at hF
  split at hF
  · cases hF
    exact one (by kernel_rfl)
  · cases hF

def gmIS (c : Int → Int → Int) : Gam := ext g0 170 (specV (fC3 c))
abbrev fnS : AV := .fn 170 []
abbrev lvI2 : Ex → List Nat := lv3 [0, 1, 2, 3, 8, 9] [0, 1, 2, 3, 8] []
abbrev lvI0 : Ex → List Nat := lv3 [0, 1, 2, 3, 8] [] []
abbrev slS (m : Nat) : AV := .sl 0 9 0 0 m none
abbrev stI2 (m i j : Nat) : List AV := [slS m, .v (i64 0), .v (i64 m), fnS, .v (i64 i), .v (i64 j)]
abbrev stI0 (m i : Nat) : List AV := [slS m, .v (i64 0), .v (i64 m), fnS, .v (i64 i)]
theorem rndI2 (c : Int → Int → Int) (m n : Nat) (h : Nat → Nat → Int) (t : TypeId) (i j : Nat) : execC Tryz.prog (gmIS c) 100 noLam (loopAt 2 fIS) (mkT 0 53 ((lvI2 .normal).zip (stI2 m i j))) (hpDF n h t) (leafV 53 lvI2 1)
    = bif decide ((↑j : Int) > (0 : Int)) then needs [decide ((↑j : Int) < (↑m : Int)), decide ((0 : Nat) + Int.toNat (↑j : Int) < n), decide ((0 : Int) ≤ IntKind.wrap IntKind.i64 ((↑j : Int) - (1 : Int))), decide (IntKind.wrap IntKind.i64 ((↑j : Int) - (1 : Int)) < (↑m : Int)), decide ((0 : Nat) + Int.toNat (IntKind.wrap IntKind.i64 ((↑j : Int) - (1 : Int))) < n)] (bif decide (c (h ((0 : Nat) + Int.toNat (↑j : Int)) (0 : Nat)) (h ((0 : Nat) + Int.toNat (IntKind.wrap IntKind.i64 ((↑j : Int) - (1 : Int)))) (0 : Nat)) < (0 : Int)) then needs [decide ((0 : Int) ≤ IntKind.wrap IntKind.i64 ((↑j : Int) - (1 : Int))), decide (IntKind.wrap IntKind.i64 ((↑j : Int) - (1 : Int)) < (↑m : Int)), decide ((0 : Nat) + Int.toNat (IntKind.wrap IntKind.i64 ((↑j : Int) - (1 : Int))) < n), decide ((↑j : Int) < (↑m : Int)), decide ((0 : Nat) + Int.toNat (↑j : Int) < n), decide ((↑j : Int) < (↑m : Int)), decide ((0 : Nat) + Int.toNat (↑j : Int) < n), decide ((0 : Int) ≤ IntKind.wrap IntKind.i64 ((↑j : Int) - (1 : Int))), decide (IntKind.wrap IntKind.i64 ((↑j : Int) - (1 : Int)) < (↑m : Int)), decide ((0 : Nat) + Int.toNat (IntKind.wrap IntKind.i64 ((↑j : Int) - (1 : Int))) < n)] (Res.out Ex.normal [AV.sl (0 : Nat) (9 : Nat) (0 : Nat) (0 : Nat) m none, AV.v (Value.int IntKind.i64 (0 : Int)), AV.v (Value.int IntKind.i64 (↑m : Int)), AV.fn (170 : FuncId) [], AV.v (Value.int IntKind.i64 (↑i : Int)), AV.v (Value.int IntKind.i64 (IntKind.wrap IntKind.i64 ((↑j : Int) - (1 : Int))))] [AB.row true n (9 : Nat) (fun q ↦ [Value.int IntKind.i64 (bif Nat.beq q ((0 : Nat) + Int.toNat (IntKind.wrap IntKind.i64 ((↑j : Int) - (1 : Int)))) then h ((0 : Nat) + Int.toNat (↑j : Int)) (0 : Nat) else bif Nat.beq q ((0 : Nat) + Int.toNat (↑j : Int)) then h ((0 : Nat) + Int.toNat (IntKind.wrap IntKind.i64 ((↑j : Int) - (1 : Int)))) (0 : Nat) else h q (0 : Nat)), Value.int IntKind.i64 (bif Nat.beq q ((0 : Nat) + Int.toNat (IntKind.wrap IntKind.i64 ((↑j : Int) - (1 : Int)))) then h ((0 : Nat) + Int.toNat (↑j : Int)) (1 : Nat) else bif Nat.beq q ((0 : Nat) + Int.toNat (↑j : Int)) then h ((0 : Nat) + Int.toNat (IntKind.wrap IntKind.i64 ((↑j : Int) - (1 : Int)))) (1 : Nat) else h q (1 : Nat)), Value.int IntKind.i64 (bif Nat.beq q ((0 : Nat) + Int.toNat (IntKind.wrap IntKind.i64 ((↑j : Int) - (1 : Int)))) then h ((0 : Nat) + Int.toNat (↑j : Int)) (2 : Nat) else bif Nat.beq q ((0 : Nat) + Int.toNat (↑j : Int)) then h ((0 : Nat) + Int.toNat (IntKind.wrap IntKind.i64 ((↑j : Int) - (1 : Int)))) (2 : Nat) else h q (2 : Nat)), Value.int IntKind.i64 (bif Nat.beq q ((0 : Nat) + Int.toNat (IntKind.wrap IntKind.i64 ((↑j : Int) - (1 : Int)))) then h ((0 : Nat) + Int.toNat (↑j : Int)) (3 : Nat) else bif Nat.beq q ((0 : Nat) + Int.toNat (↑j : Int)) then h ((0 : Nat) + Int.toNat (IntKind.wrap IntKind.i64 ((↑j : Int) - (1 : Int)))) (3 : Nat) else h q (3 : Nat)), Value.int IntKind.i64 (bif Nat.beq q ((0 : Nat) + Int.toNat (IntKind.wrap IntKind.i64 ((↑j : Int) - (1 : Int)))) then h ((0 : Nat) + Int.toNat (↑j : Int)) (4 : Nat) else bif Nat.beq q ((0 : Nat) + Int.toNat (↑j : Int)) then h ((0 : Nat) + Int.toNat (IntKind.wrap IntKind.i64 ((↑j : Int) - (1 : Int)))) (4 : Nat) else h q (4 : Nat)), Value.int IntKind.i64 (bif Nat.beq q ((0 : Nat) + Int.toNat (IntKind.wrap IntKind.i64 ((↑j : Int) - (1 : Int)))) then h ((0 : Nat) + Int.toNat (↑j : Int)) (5 : Nat) else bif Nat.beq q ((0 : Nat) + Int.toNat (↑j : Int)) then h ((0 : Nat) + Int.toNat (IntKind.wrap IntKind.i64 ((↑j : Int) - (1 : Int)))) (5 : Nat) else h q (5 : Nat)), Value.int IntKind.i64 (bif Nat.beq q ((0 : Nat) + Int.toNat (IntKind.wrap IntKind.i64 ((↑j : Int) - (1 : Int)))) then h ((0 : Nat) + Int.toNat (↑j : Int)) (6 : Nat) else bif Nat.beq q ((0 : Nat) + Int.toNat (↑j : Int)) then h ((0 : Nat) + Int.toNat (IntKind.wrap IntKind.i64 ((↑j : Int) - (1 : Int)))) (6 : Nat) else h q (6 : Nat)), Value.int IntKind.i64 (bif Nat.beq q ((0 : Nat) + Int.toNat (IntKind.wrap IntKind.i64 ((↑j : Int) - (1 : Int)))) then h ((0 : Nat) + Int.toNat (↑j : Int)) (7 : Nat) else bif Nat.beq q ((0 : Nat) + Int.toNat (↑j : Int)) then h ((0 : Nat) + Int.toNat (IntKind.wrap IntKind.i64 ((↑j : Int) - (1 : Int)))) (7 : Nat) else h q (7 : Nat)), Value.int IntKind.i64 (bif Nat.beq q ((0 : Nat) + Int.toNat (IntKind.wrap IntKind.i64 ((↑j : Int) - (1 : Int)))) then h ((0 : Nat) + Int.toNat (↑j : Int)) (8 : Nat) else bif Nat.beq q ((0 : Nat) + Int.toNat (↑j : Int)) then h ((0 : Nat) + Int.toNat (IntKind.wrap IntKind.i64 ((↑j : Int) - (1 : Int)))) (8 : Nat) else h q (8 : Nat))]) t]) else Res.out (Ex.exit (2 : Nat)) [AV.sl (0 : Nat) (9 : Nat) (0 : Nat) (0 : Nat) m none, AV.v (Value.int IntKind.i64 (0 : Int)), AV.v (Value.int IntKind.i64 (↑m : Int)), AV.fn (170 : FuncId) [], AV.v (Value.int IntKind.i64 (↑i : Int))] [AB.row true n (9 : Nat) (row9 h) t]) else Res.out (Ex.exit (2 : Nat)) [AV.sl (0 : Nat) (9 : Nat) (0 : Nat) (0 : Nat) m none, AV.v (Value.int IntKind.i64 (0 : Int)), AV.v (Value.int IntKind.i64 (↑m : Int)), AV.fn (170 : FuncId) [], AV.v (Value.int IntKind.i64 (↑i : Int))] [AB.row true n (9 : Nat) (row9 h) t] := by kernel_rfl

noncomputable abbrev lamI2 (m n i : Nat) (h : Nat → Nat → Int) (t : TypeId) (h2 : Nat → Nat → Int) : Nat → Option Sum := oneL 2 (atS 53 (lvI2 .normal) 1 (stI2 m i i) (hpDF n h t) (fun K => K .normal (mkT 0 53 ([0, 1, 2, 3, 8].zip (stI0 m i))) (hpDF n h2 t)))
theorem rndI0 (c : Int → Int → Int) (m n : Nat) (h : Nat → Nat → Int) (t : TypeId) (i : Nat) (h2 : Nat → Nat → Int) : execC Tryz.prog (gmIS c) 100 (lamI2 m n i h t h2) (loopAt 0 fIS) (mkT 0 53 ((lvI0 .normal).zip (stI0 m i))) (hpDF n h t) (leafV 53 lvI0 1)
    = bif decide ((↑i : Int) < (↑m : Int)) then needs [chk ([AV.sl (0 : Nat) (9 : Nat) (0 : Nat) (0 : Nat) m none, AV.v (Value.int IntKind.i64 (0 : Int)), AV.v (Value.int IntKind.i64 (↑m : Int)), AV.fn (170 : FuncId) [], AV.v (Value.int IntKind.i64 (↑i : Int)), AV.v (Value.int IntKind.i64 (↑i : Int))] = stI2 m i i ∧ Hsim [AB.row true n (9 : Nat) (row9 h) t] (hpDF n h t))] (Res.out Ex.normal [AV.sl (0 : Nat) (9 : Nat) (0 : Nat) (0 : Nat) m none, AV.v (Value.int IntKind.i64 (0 : Int)), AV.v (Value.int IntKind.i64 (↑m : Int)), AV.fn (170 : FuncId) [], AV.v (Value.int IntKind.i64 (IntKind.wrap IntKind.i64 ((↑i : Int) + (1 : Int))))] [AB.row true n (9 : Nat) (row9 h2) t]) else Res.out (Ex.exit (0 : Nat)) [] [AB.row true n (9 : Nat) (row9 h) t] := by kernel_rfl

noncomputable abbrev lamI0 (m n : Nat) (h : Nat → Nat → Int) (t : TypeId) (h2 : Nat → Nat → Int) : Nat → Option Sum := oneL 0 (atS 53 (lvI0 .normal) 1 (stI0 m 1) (hpDF n h t) (fun K => K .normal (mkT 0 53 []) (hpDF n h2 t)))
theorem treeIS (m n : Nat) (h : Nat → Nat → Int) (t : TypeId) (h2 : Nat → Nat → Int) : execF Tryz.prog g0 (lamI0 m n h t h2) 100 fIS [slS m, .v (i64 0), .v (i64 m), fnS] (hpDF n h t) (packK 1)
    = needs [chk ([AV.sl (0 : Nat) (9 : Nat) (0 : Nat) (0 : Nat) m none, AV.v (Value.int IntKind.i64 (0 : Int)), AV.v (Value.int IntKind.i64 (↑m : Int)), AV.fn (170 : FuncId) [], AV.v (Value.int IntKind.i64 (1 : Int))] = stI0 m (1 : Nat) ∧ Hsim [AB.row true n (9 : Nat) (row9 h) t] (hpDF n h t))] (Res.out Ex.ret [AV.tup []] [AB.row true n (9 : Nat) (row9 h2) t]) := by kernel_rfl

def errS : Sum := fun _ _ _ => .err
theorem rndI0n (c : Int → Int → Int) (m n : Nat) (h : Nat → Nat → Int) (t : TypeId) (i : Nat) : execC Tryz.prog (gmIS c) 100 (oneL 2 errS) (loopAt 0 fIS) (mkT 0 53 ((lvI0 .normal).zip (stI0 m i))) (hpDF n h t) (leafV 53 lvI0 1)
    = bif decide ((↑i : Int) < (↑m : Int)) then Res.err else Res.out (Ex.exit (0 : Nat)) [] [AB.row true n (9 : Nat) (row9 h) t] := by kernel_rfl

theorem errS_ok {P : Program} {m0 : Nat} {b : Code} : SumOk P m0 b errS := by
  intro M w0 ν0 hM hm0 T H K Q a w ν hS
  exact hS.elim
def FisO (o : List Wh → List Wh) : List AV → List AB → Option HR
  | [.sl 0 9 0 0 m none, .v (.int .i64 0), .v (.int .i64 b), .fn fi []], [.row true n 9 g t] => some { val := .tup [], out := [.row true m 9 (row9 (wfun (o (listW (itW g) m)))) t], obl := [Nat.beq fi 170, decide (b = m), Nat.ble m n, allW n g, decide (m ≤ 2 ^ 38)] }
  | _, _ => none

theorem lamC {P : Program} {m0 id : Nat} {S : Sum} {c cc : Code} (h : codeAt id cc = [.block id (.loop c)]) (hS : SumOk P m0 (.block id (.loop c)) S) : LamOk P m0 (oneL id S) cc := by
  intro j S' hj b hb
  unfold oneL at hj
  cases hjb : Nat.beq j id with
  | false => rw [hjb] at hj; cases hj
  | true =>
    rw [hjb] at hj
    cases hj
    rw [Nat.eq_of_beq_eq_true hjb] at hb
    rw [h] at hb
    simp at hb
    subst hb
    exact hS

theorem cmpI_lt (a b : Int) : decide (cmpI a b < 0) = decide (a < b) := by
  unfold cmpI
  by_cases h : a < b
  · rw [decide_eq_true h]; rfl
  · by_cases h2 : a > b
    · rw [decide_eq_false h, decide_eq_true h2]; rfl
    · rw [decide_eq_false h, decide_eq_false h2]; rfl
theorem wfun_spd (L : List Wh) (j : Nat) : wfun L j 0 = spd L j := by
  unfold wfun spd
  cases L[j]? <;> rfl
theorem gmIS_ok : GamOk Tryz.prog (gmIS cmpI) := ext_ok g0_ok ok_c3
theorem sumI2 (m i : Nat) (L0 : List Wh) (t : TypeId) (hm : m ≤ 2 ^ 38) (hi : i < m) (hL : L0.length = m) :
    SumOk Tryz.prog 1 (.block 2 (.loop (loopAt 2 fIS))) (atS 53 (lvI2 .normal) 1 (stI2 m i i) (hpDF m (wfun L0) t) (fun K => K .normal (mkT 0 53 ([0, 1, 2, 3, 8].zip (stI0 m i))) (hpDF m (wfun (sinkL i L0)) t))) := by
  refine loop_at gmIS_ok (n := 100) (m := 1) (m0 := 1) (lv := lvI2) (σ := List Wh × Nat) (fun s => stI2 m i s.2) (fun s => hpDF m (wfun s.1) t) (fun s => s.1.length = m ∧ s.2 ≤ i ∧ sinkL s.2 s.1 = sinkL i L0) (fun s => s.2) (L0, i) (fun _ => noLam) (lv3_ris rfl rfl rfl) (Nat.le_refl _) ⟨hL, Nat.le_refl _, rfl⟩ fun K Q hk s hs => ⟨noLam_ok _ _ _, ?_⟩
  obtain ⟨L, j⟩ := s
  obtain ⟨h1, h2, h3⟩ := hs
  simp only at h1 h2 h3
  have done : sinkL j L = L → GoodQ (.out (.exit 2) (stI0 m i) (hpDF m (wfun L) t)) (RoundV 53 2 lvI2 (fun s : List Wh × Nat => stI2 m i s.2) (fun s => hpDF m (wfun s.1) t) (fun s' => (s'.1.length = m ∧ s'.2 ≤ i ∧ sinkL s'.2 s'.1 = sinkL i L0) ∧ s'.2 < j) K Q) := fun e => by
    refine good_out ⟨_, Hsim.refl _, ?_⟩
    rw [if_pos rfl]
    rw [← h3, e] at hk
    exact hk
  show GoodQ (execC Tryz.prog (gmIS cmpI) 100 noLam (loopAt 2 fIS) (mkT 0 53 ((lvI2 .normal).zip (stI2 m i j))) (hpDF m (wfun L) t) (leafV 53 lvI2 1)) _
  rw [rndI2]
  refine good_cond (fun c1 => ?_) fun c1 => ?_
  · have c1 := of_decide_eq_true c1
    obtain ⟨j, rfl⟩ : ∃ q, j = q + 1 := ⟨j - 1, by omega⟩
    have e1 : IntKind.wrap IntKind.i64 (((j + 1 : Nat) : Int) - 1) = (j : Int) := by rw [wr_in (by omega)]; omega
    simp only [e1, Int.toNat_natCast, Nat.zero_add]
    refine good_needs (by simp only [ob_cons, ob_nil, and_true, decide_eq_true_eq]; omega) ?_
    rw [cmpI_lt, wfun_spd, wfun_spd]
    refine good_cond (fun c2 => ?_) fun c2 => ?_
    · have c2 := of_decide_eq_true c2
      have e2 : sinkL (j + 1) L = sinkL j (swpL L j) := by rw [sinkL, if_pos c2]
      refine good_needs (by simp only [ob_cons, ob_nil, and_true, decide_eq_true_eq]; omega) (good_out ⟨(swpL L j, j), ⟨⟨by rw [swpL_length]; exact h1, by show j ≤ i; omega, by rw [← h3, e2]⟩, Nat.lt_succ_self j⟩, rfl, .cons (ABeq.row fun q hq => ?_) .nil⟩)
      show row9 (fun q k => bif Nat.beq q j then wfun L (j + 1) k else bif Nat.beq q (j + 1) then wfun L j k else wfun L q k) q = row9 (wfun (swpL L j)) q
      refine row9_congr fun k hk => ?_
      rw [wfun_swp L j q (by omega)]
      by_cases q1 : q = j
      · rw [q1, if_pos rfl, show Nat.beq j j = true from Nat.beq_refl j, cond_true]
      · rw [if_neg q1, beq_ne q1, cond_false]
        by_cases q2 : q = j + 1
        · rw [q2, if_pos rfl, show Nat.beq (j + 1) (j + 1) = true from Nat.beq_refl _, cond_true]
        · rw [if_neg q2, beq_ne q2, cond_false]
    · have c2 := of_decide_eq_false c2
      exact done (by rw [sinkL, if_neg c2])
  · have c1 := of_decide_eq_false c1
    have : j = 0 := by omega
    subst this
    exact done rfl

theorem sortTo_length (L : List Wh) (n : Nat) : (sortTo L n).length = L.length := (sortTo_perm L n).length_eq
theorem sumI0 (m : Nat) (L : List Wh) (t : TypeId) (hm : m ≤ 2 ^ 38) (hL : L.length = m) :
    SumOk Tryz.prog 1 (.block 0 (.loop (loopAt 0 fIS))) (atS 53 (lvI0 .normal) 1 (stI0 m 1) (hpDF m (wfun L) t) (fun K => K .normal (mkT 0 53 []) (hpDF m (wfun (sortL L)) t))) := by
  refine for_at gmIS_ok (n := 100) (m := 1) (m0 := 1) (lv := lvI0) (fun i => stI0 m (i + 1)) (fun i => hpDF m (wfun (sortTo L (i + 1))) t) (fun _ => True) (m - 1) (fun i => bif Nat.blt (i + 1) m then lamI2 m m (i + 1) (wfun (sortTo L (i + 1))) t (wfun (sinkL (i + 1) (sortTo L (i + 1)))) else oneL 2 errS) (lv3_ris rfl rfl rfl) (Nat.le_refl _) trivial fun K Q hk i _ him => ?_
  by_cases hlt : i + 1 < m
  · have b : Nat.blt (i + 1) m = true := by rw [Nat.blt_eq]; exact hlt
    rw [b, cond_true]
    refine ⟨lamC (by kernel_rfl) (sumI2 m (i + 1) (sortTo L (i + 1)) t hm hlt (by rw [sortTo_length]; exact hL)), ?_⟩
    rw [rndI0]
    refine good_true (decide_eq_true (by omega)) (good_needs (by rw [ob_cons]; exact ⟨chk_of ⟨rfl, Hsim.refl _⟩, rfl⟩) ?_)
    rw [wr_in (x := ((i + 1 : Nat) : Int) + 1) (by omega)]
    exact good_out ⟨i + 1, ⟨rfl, by omega, trivial⟩, rfl, Hsim.refl _⟩
  · have b : Nat.blt (i + 1) m = false := by
      cases hb : Nat.blt (i + 1) m with
      | false => rfl
      | true => rw [Nat.blt_eq] at hb; omega
    rw [b, cond_false]
    refine ⟨lamC (c := loopAt 2 fIS) (by kernel_rfl) errS_ok, ?_⟩
    have hs : sortTo L (i + 1) = sortL L := by
      unfold sortL
      rw [hL]
      by_cases h0 : m = 0
      · have : i = 0 := by omega
        subst this h0
        rfl
      · rw [show i + 1 = m by omega]
    rw [hs, rndI0n]
    refine good_false (decide_eq_false (by omega)) (good_out ⟨_, Hsim.refl _, ?_⟩)
    rw [if_pos rfl]
    exact hk

def F_is : List AV → List AB → Option HR := FisO sortL
theorem ok_is : SpecOk Tryz.prog 218 (specH [] F_is) := by
  refine specH_ok g0_ok Tryz.func218 rfl fun avs H hr hF ho => ?_
  unfold F_is FisO at hF
  split at hF
  · rename_i m b fi n g t
    cases hF
    simp only [ob_cons] at ho
    obtain ⟨h0, h1, h2, h3, h4, _⟩ := ho
    have h0 := Nat.eq_of_beq_eq_true h0
    have h1 := of_decide_eq_true h1
    have h4 := of_decide_eq_true h4
    have h2 := Nat.le_of_ble_eq_true h2
    subst h0 h1
    have hL : (listW (itW g) m).length = m := listW_length _ _
    refine ⟨hpDF m (wfun (listW (itW g) m)) t, lamI0 m m (wfun (listW (itW g) m)) t (wfun (sortL (listW (itW g) m))), 100, .cons (ABeq.cut h2 fun j hj => ?_) .nil, lam1 (by kernel_rfl) (sumI0 m (listW (itW g) m) t h4 hL), ?_⟩
    · rw [row9_list _ hj]
      exact allW_get h3 j (by omega)
    · show GoodQ (execF Tryz.prog g0 (lamI0 m m (wfun (listW (itW g) m)) t (wfun (sortL (listW (itW g) m)))) 100 fIS [slS m, .v (i64 0), .v (i64 m), fnS] (hpDF m (wfun (listW (itW g) m)) t) (packK 1)) _
      rw [treeIS]
      exact good_needs (by rw [ob_cons]; exact ⟨chk_of ⟨rfl, Hsim.refl _⟩, rfl⟩) (good_out ⟨rfl, Hsim.refl _⟩)
  · cases hF

end Go.Proofs.YtcadinbahmliiaaGreatDoor

/- SortFunc on wheels, and Clip. Conditions: at most twelve. -/
namespace Go.Proofs.YtcadinbahmliiaaGreatDoor
open Go.RowKit
set_option maxRecDepth 100000

noncomputable abbrev fSF : Func := Tryz.f169
def gmSF (o : List Wh → List Wh) : Gam := ext g0 218 (specH [] (FisO o))
theorem treeSFm (o : List Wh → List Wh) (n : Nat) (g : Nat → List Value) (t : TypeId) : ∀ m, m ≤ 12 → execF Tryz.prog (gmSF o) noLam 100 fSF [slS m, fnS] [.row true n 9 g t] (packK 1) = needs [Nat.ble m n, allW n g] (.out .ret [.tup []] [.row true m 9 (row9 (wfun (o (listW (itW g) m)))) t])
  | 0, _ => by kernel_rfl
  | 1, _ => by kernel_rfl
  | 2, _ => by kernel_rfl
  | 3, _ => by kernel_rfl
  | 4, _ => by kernel_rfl
  | 5, _ => by kernel_rfl
  | 6, _ => by kernel_rfl
  | 7, _ => by kernel_rfl
  | 8, _ => by kernel_rfl
  | 9, _ => by kernel_rfl
  | 10, _ => by kernel_rfl
  | 11, _ => by kernel_rfl
  | 12, _ => by kernel_rfl
  | n + 13, h => absurd h (by omega)
def FsfO (o : List Wh → List Wh) : List AV → List AB → Option HR
  | [.sl 0 9 0 0 m none, .fn fi []], [.row true n 9 g t] => some { val := .tup [], out := [.row true m 9 (row9 (wfun (o (listW (itW g) m)))) t], obl := [Nat.beq fi 170, Nat.ble m n, allW n g, decide (m ≤ 12)] }
  | _, _ => none
theorem ok_sort : SpecOk Tryz.prog 169 (specH [] (FsfO sortL)) := by
  refine specH_ok (ext_ok g0_ok ok_is) Tryz.func169 rfl fun avs H hr hF ho => ?_
  unfold FsfO at hF
  split at hF
  · rename_i m fi n g t
    cases hF
    simp only [ob_cons] at ho
    obtain ⟨h0, h1, h2, h3, _⟩ := ho
    have h0 := Nat.eq_of_beq_eq_true h0
    have h3 := of_decide_eq_true h3
    subst h0
    refine ⟨[.row true n 9 g t], noLam, 100, Hsim.refl _, noLam' _, ?_⟩
    show GoodQ (execF Tryz.prog (gmSF sortL) noLam 100 fSF [slS m, fnS] [.row true n 9 g t] (packK 1)) _
    rw [treeSFm _ _ _ _ m h3]
    exact good_needs (by simp only [ob_cons, ob_nil, and_true]; exact ⟨h1, h2⟩) (good_out ⟨rfl, Hsim.refl _⟩)
  · cases hF

end Go.Proofs.YtcadinbahmliiaaGreatDoor

/- tidied: the program's tidy design. Conditions: a list of wheels. -/
namespace Go.Proofs.YtcadinbahmliiaaGreatDoor
open Go.RowKit
set_option maxRecDepth 100000

def FifaO (o : (Nat → Nat → Int) → Int → Nat → Int) : List AV → List AB → Option HR
  | [.own 0 m, .fn 166 [.ptr 1 0 0 0]], [.row false n 9 g t, .cells [.v (.int .i64 x0), .v (.int .i64 x1), .v (.int .i64 x2), .v (.int .i64 x3), .v (.int .i64 x4), .v (.int .i64 x5), .v (.int .i64 x6), .v (.int .i64 x7), .v (.int .i64 x8)] t2] => some { val := .v (i64 (o (itW g) x0 m)), out := [.row false n 9 g t, .cells [.v (.int .i64 x0), .v (.int .i64 x1), .v (.int .i64 x2), .v (.int .i64 x3), .v (.int .i64 x4), .v (.int .i64 x5), .v (.int .i64 x6), .v (.int .i64 x7), .v (.int .i64 x8)] t2], obl := [Nat.beq n m, allW m g, decide (m ≤ 2 ^ 38)] }
  | _, _ => none
def fAdd2 (ad : (Nat → Int) → (Nat → Int) → Nat → Int) : List Value → Option (Value × List Bool)
  | [.agg ⟨[.int .i64 a0, .int .i64 a1, .int .i64 a2, .int .i64 a3, .int .i64 a4, .int .i64 a5, .int .i64 a6, .int .i64 a7]⟩, .agg ⟨[.int .i64 b0, .int .i64 b1, .int .i64 b2, .int .i64 b3, .int .i64 b4, .int .i64 b5, .int .i64 b6, .int .i64 b7]⟩] => some (cyv (ad (v8 a0 a1 a2 a3 a4 a5 a6 a7) (v8 b0 b1 b2 b3 b4 b5 b6 b7)), [])
  | _ => none
def gmTI (o : (Nat → Nat → Int) → Int → Nat → Int) (ok : (Nat → Int) → Bool) (ad : (Nat → Int) → (Nat → Int) → Nat → Int) : Gam := ext (ext (ext g0 153 (specV (fOkc ok))) 154 (specV (fAdd2 ad))) 165 (specH [true] (FifaO o))
abbrev lvTI : Ex → List Nat := lv3 [4, 9, 10, 11] [4] [2, 3]
abbrev hpTI (m : Nat) (f : Nat → Nat → Int) (t : TypeId) (n : Nat) (h : Nat → Nat → Int) : List AB := [.row false m 9 (row9 f) t, .row true n 9 (row9 h) 75]
abbrev stTI (m n i : Nat) : List AV := [.own 1 n, .sl 0 9 0 0 m none, .v (i64 m), .v (i64 i)]
theorem rndTI (o : (Nat → Nat → Int) → Int → Nat → Int) (ok : (Nat → Int) → Bool) (ad : (Nat → Int) → (Nat → Int) → Nat → Int) (m : Nat) (f : Nat → Nat → Int) (t : TypeId) (n : Nat) (h : Nat → Nat → Int) (i : Nat) : execC Tryz.prog (gmTI o ok ad) 100 noLam (loopAt 0 Tryz.f128) (mkT 0 57 ((lvTI .normal).zip (stTI m n i))) (hpTI m f t n h) (leafV 57 lvTI 1)
    = bif decide ((↑i : Int) < (↑m : Int)) then needs [decide ((↑i : Int) < (↑m : Int)), decide ((0 : Nat) + Int.toNat (↑i : Int) < m), Nat.beq n n, allW n (row9 h), decide (n ≤ (274877906944 : Nat))] (bif decide (o (itW (row9 h)) (f ((0 : Nat) + Int.toNat (↑i : Int)) (0 : Nat)) n < (0 : Int)) then needs [Nat.ble n n, Nat.ble (n + (1 : Nat)) (549755813888 : Nat), decide ((↑n : Int) < (↑(n + (1 : Nat)) : Int)), decide (Int.toNat (↑n : Int) < n + (1 : Nat)), decide ((↑n : Int) < (↑(n + (1 : Nat)) : Int)), decide (Int.toNat (↑n : Int) < n + (1 : Nat)), decide ((↑n : Int) < (↑(n + (1 : Nat)) : Int)), decide (Int.toNat (↑n : Int) < n + (1 : Nat))] (bif !ok (v8 (bif Nat.beq (Int.toNat (↑n : Int)) (Int.toNat (↑n : Int)) then ad (v8 (bif Nat.blt (Int.toNat (↑n : Int)) n then h (Int.toNat (↑n : Int)) (1 : Nat) else (0 : Int)) (bif Nat.blt (Int.toNat (↑n : Int)) n then h (Int.toNat (↑n : Int)) (2 : Nat) else (0 : Int)) (bif Nat.blt (Int.toNat (↑n : Int)) n then h (Int.toNat (↑n : Int)) (3 : Nat) else (0 : Int)) (bif Nat.blt (Int.toNat (↑n : Int)) n then h (Int.toNat (↑n : Int)) (4 : Nat) else (0 : Int)) (bif Nat.blt (Int.toNat (↑n : Int)) n then h (Int.toNat (↑n : Int)) (5 : Nat) else (0 : Int)) (bif Nat.blt (Int.toNat (↑n : Int)) n then h (Int.toNat (↑n : Int)) (6 : Nat) else (0 : Int)) (bif Nat.blt (Int.toNat (↑n : Int)) n then h (Int.toNat (↑n : Int)) (7 : Nat) else (0 : Int)) (bif Nat.blt (Int.toNat (↑n : Int)) n then h (Int.toNat (↑n : Int)) (8 : Nat) else (0 : Int))) (v8 (f ((0 : Nat) + Int.toNat (↑i : Int)) (1 : Nat)) (f ((0 : Nat) + Int.toNat (↑i : Int)) (2 : Nat)) (f ((0 : Nat) + Int.toNat (↑i : Int)) (3 : Nat)) (f ((0 : Nat) + Int.toNat (↑i : Int)) (4 : Nat)) (f ((0 : Nat) + Int.toNat (↑i : Int)) (5 : Nat)) (f ((0 : Nat) + Int.toNat (↑i : Int)) (6 : Nat)) (f ((0 : Nat) + Int.toNat (↑i : Int)) (7 : Nat)) (f ((0 : Nat) + Int.toNat (↑i : Int)) (8 : Nat))) (0 : Nat) else bif Nat.blt (Int.toNat (↑n : Int)) n then h (Int.toNat (↑n : Int)) (1 : Nat) else (0 : Int)) (bif Nat.beq (Int.toNat (↑n : Int)) (Int.toNat (↑n : Int)) then ad (v8 (bif Nat.blt (Int.toNat (↑n : Int)) n then h (Int.toNat (↑n : Int)) (1 : Nat) else (0 : Int)) (bif Nat.blt (Int.toNat (↑n : Int)) n then h (Int.toNat (↑n : Int)) (2 : Nat) else (0 : Int)) (bif Nat.blt (Int.toNat (↑n : Int)) n then h (Int.toNat (↑n : Int)) (3 : Nat) else (0 : Int)) (bif Nat.blt (Int.toNat (↑n : Int)) n then h (Int.toNat (↑n : Int)) (4 : Nat) else (0 : Int)) (bif Nat.blt (Int.toNat (↑n : Int)) n then h (Int.toNat (↑n : Int)) (5 : Nat) else (0 : Int)) (bif Nat.blt (Int.toNat (↑n : Int)) n then h (Int.toNat (↑n : Int)) (6 : Nat) else (0 : Int)) (bif Nat.blt (Int.toNat (↑n : Int)) n then h (Int.toNat (↑n : Int)) (7 : Nat) else (0 : Int)) (bif Nat.blt (Int.toNat (↑n : Int)) n then h (Int.toNat (↑n : Int)) (8 : Nat) else (0 : Int))) (v8 (f ((0 : Nat) + Int.toNat (↑i : Int)) (1 : Nat)) (f ((0 : Nat) + Int.toNat (↑i : Int)) (2 : Nat)) (f ((0 : Nat) + Int.toNat (↑i : Int)) (3 : Nat)) (f ((0 : Nat) + Int.toNat (↑i : Int)) (4 : Nat)) (f ((0 : Nat) + Int.toNat (↑i : Int)) (5 : Nat)) (f ((0 : Nat) + Int.toNat (↑i : Int)) (6 : Nat)) (f ((0 : Nat) + Int.toNat (↑i : Int)) (7 : Nat)) (f ((0 : Nat) + Int.toNat (↑i : Int)) (8 : Nat))) (1 : Nat) else bif Nat.blt (Int.toNat (↑n : Int)) n then h (Int.toNat (↑n : Int)) (2 : Nat) else (0 : Int)) (bif Nat.beq (Int.toNat (↑n : Int)) (Int.toNat (↑n : Int)) then ad (v8 (bif Nat.blt (Int.toNat (↑n : Int)) n then h (Int.toNat (↑n : Int)) (1 : Nat) else (0 : Int)) (bif Nat.blt (Int.toNat (↑n : Int)) n then h (Int.toNat (↑n : Int)) (2 : Nat) else (0 : Int)) (bif Nat.blt (Int.toNat (↑n : Int)) n then h (Int.toNat (↑n : Int)) (3 : Nat) else (0 : Int)) (bif Nat.blt (Int.toNat (↑n : Int)) n then h (Int.toNat (↑n : Int)) (4 : Nat) else (0 : Int)) (bif Nat.blt (Int.toNat (↑n : Int)) n then h (Int.toNat (↑n : Int)) (5 : Nat) else (0 : Int)) (bif Nat.blt (Int.toNat (↑n : Int)) n then h (Int.toNat (↑n : Int)) (6 : Nat) else (0 : Int)) (bif Nat.blt (Int.toNat (↑n : Int)) n then h (Int.toNat (↑n : Int)) (7 : Nat) else (0 : Int)) (bif Nat.blt (Int.toNat (↑n : Int)) n then h (Int.toNat (↑n : Int)) (8 : Nat) else (0 : Int))) (v8 (f ((0 : Nat) + Int.toNat (↑i : Int)) (1 : Nat)) (f ((0 : Nat) + Int.toNat (↑i : Int)) (2 : Nat)) (f ((0 : Nat) + Int.toNat (↑i : Int)) (3 : Nat)) (f ((0 : Nat) + Int.toNat (↑i : Int)) (4 : Nat)) (f ((0 : Nat) + Int.toNat (↑i : Int)) (5 : Nat)) (f ((0 : Nat) + Int.toNat (↑i : Int)) (6 : Nat)) (f ((0 : Nat) + Int.toNat (↑i : Int)) (7 : Nat)) (f ((0 : Nat) + Int.toNat (↑i : Int)) (8 : Nat))) (2 : Nat) else bif Nat.blt (Int.toNat (↑n : Int)) n then h (Int.toNat (↑n : Int)) (3 : Nat) else (0 : Int)) (bif Nat.beq (Int.toNat (↑n : Int)) (Int.toNat (↑n : Int)) then ad (v8 (bif Nat.blt (Int.toNat (↑n : Int)) n then h (Int.toNat (↑n : Int)) (1 : Nat) else (0 : Int)) (bif Nat.blt (Int.toNat (↑n : Int)) n then h (Int.toNat (↑n : Int)) (2 : Nat) else (0 : Int)) (bif Nat.blt (Int.toNat (↑n : Int)) n then h (Int.toNat (↑n : Int)) (3 : Nat) else (0 : Int)) (bif Nat.blt (Int.toNat (↑n : Int)) n then h (Int.toNat (↑n : Int)) (4 : Nat) else (0 : Int)) (bif Nat.blt (Int.toNat (↑n : Int)) n then h (Int.toNat (↑n : Int)) (5 : Nat) else (0 : Int)) (bif Nat.blt (Int.toNat (↑n : Int)) n then h (Int.toNat (↑n : Int)) (6 : Nat) else (0 : Int)) (bif Nat.blt (Int.toNat (↑n : Int)) n then h (Int.toNat (↑n : Int)) (7 : Nat) else (0 : Int)) (bif Nat.blt (Int.toNat (↑n : Int)) n then h (Int.toNat (↑n : Int)) (8 : Nat) else (0 : Int))) (v8 (f ((0 : Nat) + Int.toNat (↑i : Int)) (1 : Nat)) (f ((0 : Nat) + Int.toNat (↑i : Int)) (2 : Nat)) (f ((0 : Nat) + Int.toNat (↑i : Int)) (3 : Nat)) (f ((0 : Nat) + Int.toNat (↑i : Int)) (4 : Nat)) (f ((0 : Nat) + Int.toNat (↑i : Int)) (5 : Nat)) (f ((0 : Nat) + Int.toNat (↑i : Int)) (6 : Nat)) (f ((0 : Nat) + Int.toNat (↑i : Int)) (7 : Nat)) (f ((0 : Nat) + Int.toNat (↑i : Int)) (8 : Nat))) (3 : Nat) else bif Nat.blt (Int.toNat (↑n : Int)) n then h (Int.toNat (↑n : Int)) (4 : Nat) else (0 : Int)) (bif Nat.beq (Int.toNat (↑n : Int)) (Int.toNat (↑n : Int)) then ad (v8 (bif Nat.blt (Int.toNat (↑n : Int)) n then h (Int.toNat (↑n : Int)) (1 : Nat) else (0 : Int)) (bif Nat.blt (Int.toNat (↑n : Int)) n then h (Int.toNat (↑n : Int)) (2 : Nat) else (0 : Int)) (bif Nat.blt (Int.toNat (↑n : Int)) n then h (Int.toNat (↑n : Int)) (3 : Nat) else (0 : Int)) (bif Nat.blt (Int.toNat (↑n : Int)) n then h (Int.toNat (↑n : Int)) (4 : Nat) else (0 : Int)) (bif Nat.blt (Int.toNat (↑n : Int)) n then h (Int.toNat (↑n : Int)) (5 : Nat) else (0 : Int)) (bif Nat.blt (Int.toNat (↑n : Int)) n then h (Int.toNat (↑n : Int)) (6 : Nat) else (0 : Int)) (bif Nat.blt (Int.toNat (↑n : Int)) n then h (Int.toNat (↑n : Int)) (7 : Nat) else (0 : Int)) (bif Nat.blt (Int.toNat (↑n : Int)) n then h (Int.toNat (↑n : Int)) (8 : Nat) else (0 : Int))) (v8 (f ((0 : Nat) + Int.toNat (↑i : Int)) (1 : Nat)) (f ((0 : Nat) + Int.toNat (↑i : Int)) (2 : Nat)) (f ((0 : Nat) + Int.toNat (↑i : Int)) (3 : Nat)) (f ((0 : Nat) + Int.toNat (↑i : Int)) (4 : Nat)) (f ((0 : Nat) + Int.toNat (↑i : Int)) (5 : Nat)) (f ((0 : Nat) + Int.toNat (↑i : Int)) (6 : Nat)) (f ((0 : Nat) + Int.toNat (↑i : Int)) (7 : Nat)) (f ((0 : Nat) + Int.toNat (↑i : Int)) (8 : Nat))) (4 : Nat) else bif Nat.blt (Int.toNat (↑n : Int)) n then h (Int.toNat (↑n : Int)) (5 : Nat) else (0 : Int)) (bif Nat.beq (Int.toNat (↑n : Int)) (Int.toNat (↑n : Int)) then ad (v8 (bif Nat.blt (Int.toNat (↑n : Int)) n then h (Int.toNat (↑n : Int)) (1 : Nat) else (0 : Int)) (bif Nat.blt (Int.toNat (↑n : Int)) n then h (Int.toNat (↑n : Int)) (2 : Nat) else (0 : Int)) (bif Nat.blt (Int.toNat (↑n : Int)) n then h (Int.toNat (↑n : Int)) (3 : Nat) else (0 : Int)) (bif Nat.blt (Int.toNat (↑n : Int)) n then h (Int.toNat (↑n : Int)) (4 : Nat) else (0 : Int)) (bif Nat.blt (Int.toNat (↑n : Int)) n then h (Int.toNat (↑n : Int)) (5 : Nat) else (0 : Int)) (bif Nat.blt (Int.toNat (↑n : Int)) n then h (Int.toNat (↑n : Int)) (6 : Nat) else (0 : Int)) (bif Nat.blt (Int.toNat (↑n : Int)) n then h (Int.toNat (↑n : Int)) (7 : Nat) else (0 : Int)) (bif Nat.blt (Int.toNat (↑n : Int)) n then h (Int.toNat (↑n : Int)) (8 : Nat) else (0 : Int))) (v8 (f ((0 : Nat) + Int.toNat (↑i : Int)) (1 : Nat)) (f ((0 : Nat) + Int.toNat (↑i : Int)) (2 : Nat)) (f ((0 : Nat) + Int.toNat (↑i : Int)) (3 : Nat)) (f ((0 : Nat) + Int.toNat (↑i : Int)) (4 : Nat)) (f ((0 : Nat) + Int.toNat (↑i : Int)) (5 : Nat)) (f ((0 : Nat) + Int.toNat (↑i : Int)) (6 : Nat)) (f ((0 : Nat) + Int.toNat (↑i : Int)) (7 : Nat)) (f ((0 : Nat) + Int.toNat (↑i : Int)) (8 : Nat))) (5 : Nat) else bif Nat.blt (Int.toNat (↑n : Int)) n then h (Int.toNat (↑n : Int)) (6 : Nat) else (0 : Int)) (bif Nat.beq (Int.toNat (↑n : Int)) (Int.toNat (↑n : Int)) then ad (v8 (bif Nat.blt (Int.toNat (↑n : Int)) n then h (Int.toNat (↑n : Int)) (1 : Nat) else (0 : Int)) (bif Nat.blt (Int.toNat (↑n : Int)) n then h (Int.toNat (↑n : Int)) (2 : Nat) else (0 : Int)) (bif Nat.blt (Int.toNat (↑n : Int)) n then h (Int.toNat (↑n : Int)) (3 : Nat) else (0 : Int)) (bif Nat.blt (Int.toNat (↑n : Int)) n then h (Int.toNat (↑n : Int)) (4 : Nat) else (0 : Int)) (bif Nat.blt (Int.toNat (↑n : Int)) n then h (Int.toNat (↑n : Int)) (5 : Nat) else (0 : Int)) (bif Nat.blt (Int.toNat (↑n : Int)) n then h (Int.toNat (↑n : Int)) (6 : Nat) else (0 : Int)) (bif Nat.blt (Int.toNat (↑n : Int)) n then h (Int.toNat (↑n : Int)) (7 : Nat) else (0 : Int)) (bif Nat.blt (Int.toNat (↑n : Int)) n then h (Int.toNat (↑n : Int)) (8 : Nat) else (0 : Int))) (v8 (f ((0 : Nat) + Int.toNat (↑i : Int)) (1 : Nat)) (f ((0 : Nat) + Int.toNat (↑i : Int)) (2 : Nat)) (f ((0 : Nat) + Int.toNat (↑i : Int)) (3 : Nat)) (f ((0 : Nat) + Int.toNat (↑i : Int)) (4 : Nat)) (f ((0 : Nat) + Int.toNat (↑i : Int)) (5 : Nat)) (f ((0 : Nat) + Int.toNat (↑i : Int)) (6 : Nat)) (f ((0 : Nat) + Int.toNat (↑i : Int)) (7 : Nat)) (f ((0 : Nat) + Int.toNat (↑i : Int)) (8 : Nat))) (6 : Nat) else bif Nat.blt (Int.toNat (↑n : Int)) n then h (Int.toNat (↑n : Int)) (7 : Nat) else (0 : Int)) (bif Nat.beq (Int.toNat (↑n : Int)) (Int.toNat (↑n : Int)) then ad (v8 (bif Nat.blt (Int.toNat (↑n : Int)) n then h (Int.toNat (↑n : Int)) (1 : Nat) else (0 : Int)) (bif Nat.blt (Int.toNat (↑n : Int)) n then h (Int.toNat (↑n : Int)) (2 : Nat) else (0 : Int)) (bif Nat.blt (Int.toNat (↑n : Int)) n then h (Int.toNat (↑n : Int)) (3 : Nat) else (0 : Int)) (bif Nat.blt (Int.toNat (↑n : Int)) n then h (Int.toNat (↑n : Int)) (4 : Nat) else (0 : Int)) (bif Nat.blt (Int.toNat (↑n : Int)) n then h (Int.toNat (↑n : Int)) (5 : Nat) else (0 : Int)) (bif Nat.blt (Int.toNat (↑n : Int)) n then h (Int.toNat (↑n : Int)) (6 : Nat) else (0 : Int)) (bif Nat.blt (Int.toNat (↑n : Int)) n then h (Int.toNat (↑n : Int)) (7 : Nat) else (0 : Int)) (bif Nat.blt (Int.toNat (↑n : Int)) n then h (Int.toNat (↑n : Int)) (8 : Nat) else (0 : Int))) (v8 (f ((0 : Nat) + Int.toNat (↑i : Int)) (1 : Nat)) (f ((0 : Nat) + Int.toNat (↑i : Int)) (2 : Nat)) (f ((0 : Nat) + Int.toNat (↑i : Int)) (3 : Nat)) (f ((0 : Nat) + Int.toNat (↑i : Int)) (4 : Nat)) (f ((0 : Nat) + Int.toNat (↑i : Int)) (5 : Nat)) (f ((0 : Nat) + Int.toNat (↑i : Int)) (6 : Nat)) (f ((0 : Nat) + Int.toNat (↑i : Int)) (7 : Nat)) (f ((0 : Nat) + Int.toNat (↑i : Int)) (8 : Nat))) (7 : Nat) else bif Nat.blt (Int.toNat (↑n : Int)) n then h (Int.toNat (↑n : Int)) (8 : Nat) else (0 : Int))) then Res.out Ex.ret [AV.v (Value.slice none (0 : Nat) (0 : Nat)), AV.v (Value.bool false)] [AB.row false m (9 : Nat) (row9 f) t] else Res.out Ex.normal [AV.own (1 : Nat) (n + (1 : Nat)), AV.sl (0 : Nat) (9 : Nat) (0 : Nat) (0 : Nat) m none, AV.v (Value.int IntKind.i64 (↑m : Int)), AV.v (Value.int IntKind.i64 (IntKind.wrap IntKind.i64 ((↑i : Int) + (1 : Int))))] [AB.row false m (9 : Nat) (row9 f) t, AB.row true (n + (1 : Nat)) (9 : Nat) (fun q ↦ [Value.int IntKind.i64 (bif Nat.beq q (Int.toNat (↑n : Int)) then bif Nat.blt (Int.toNat (↑n : Int)) n then h (Int.toNat (↑n : Int)) (0 : Nat) else f ((0 : Nat) + Int.toNat (↑i : Int)) (0 : Nat) else bif Nat.blt q n then h q (0 : Nat) else f ((0 : Nat) + Int.toNat (↑i : Int)) (0 : Nat)), Value.int IntKind.i64 (bif Nat.beq q (Int.toNat (↑n : Int)) then ad (v8 (bif Nat.blt (Int.toNat (↑n : Int)) n then h (Int.toNat (↑n : Int)) (1 : Nat) else (0 : Int)) (bif Nat.blt (Int.toNat (↑n : Int)) n then h (Int.toNat (↑n : Int)) (2 : Nat) else (0 : Int)) (bif Nat.blt (Int.toNat (↑n : Int)) n then h (Int.toNat (↑n : Int)) (3 : Nat) else (0 : Int)) (bif Nat.blt (Int.toNat (↑n : Int)) n then h (Int.toNat (↑n : Int)) (4 : Nat) else (0 : Int)) (bif Nat.blt (Int.toNat (↑n : Int)) n then h (Int.toNat (↑n : Int)) (5 : Nat) else (0 : Int)) (bif Nat.blt (Int.toNat (↑n : Int)) n then h (Int.toNat (↑n : Int)) (6 : Nat) else (0 : Int)) (bif Nat.blt (Int.toNat (↑n : Int)) n then h (Int.toNat (↑n : Int)) (7 : Nat) else (0 : Int)) (bif Nat.blt (Int.toNat (↑n : Int)) n then h (Int.toNat (↑n : Int)) (8 : Nat) else (0 : Int))) (v8 (f ((0 : Nat) + Int.toNat (↑i : Int)) (1 : Nat)) (f ((0 : Nat) + Int.toNat (↑i : Int)) (2 : Nat)) (f ((0 : Nat) + Int.toNat (↑i : Int)) (3 : Nat)) (f ((0 : Nat) + Int.toNat (↑i : Int)) (4 : Nat)) (f ((0 : Nat) + Int.toNat (↑i : Int)) (5 : Nat)) (f ((0 : Nat) + Int.toNat (↑i : Int)) (6 : Nat)) (f ((0 : Nat) + Int.toNat (↑i : Int)) (7 : Nat)) (f ((0 : Nat) + Int.toNat (↑i : Int)) (8 : Nat))) (0 : Nat) else bif Nat.blt q n then h q (1 : Nat) else (0 : Int)), Value.int IntKind.i64 (bif Nat.beq q (Int.toNat (↑n : Int)) then ad (v8 (bif Nat.blt (Int.toNat (↑n : Int)) n then h (Int.toNat (↑n : Int)) (1 : Nat) else (0 : Int)) (bif Nat.blt (Int.toNat (↑n : Int)) n then h (Int.toNat (↑n : Int)) (2 : Nat) else (0 : Int)) (bif Nat.blt (Int.toNat (↑n : Int)) n then h (Int.toNat (↑n : Int)) (3 : Nat) else (0 : Int)) (bif Nat.blt (Int.toNat (↑n : Int)) n then h (Int.toNat (↑n : Int)) (4 : Nat) else (0 : Int)) (bif Nat.blt (Int.toNat (↑n : Int)) n then h (Int.toNat (↑n : Int)) (5 : Nat) else (0 : Int)) (bif Nat.blt (Int.toNat (↑n : Int)) n then h (Int.toNat (↑n : Int)) (6 : Nat) else (0 : Int)) (bif Nat.blt (Int.toNat (↑n : Int)) n then h (Int.toNat (↑n : Int)) (7 : Nat) else (0 : Int)) (bif Nat.blt (Int.toNat (↑n : Int)) n then h (Int.toNat (↑n : Int)) (8 : Nat) else (0 : Int))) (v8 (f ((0 : Nat) + Int.toNat (↑i : Int)) (1 : Nat)) (f ((0 : Nat) + Int.toNat (↑i : Int)) (2 : Nat)) (f ((0 : Nat) + Int.toNat (↑i : Int)) (3 : Nat)) (f ((0 : Nat) + Int.toNat (↑i : Int)) (4 : Nat)) (f ((0 : Nat) + Int.toNat (↑i : Int)) (5 : Nat)) (f ((0 : Nat) + Int.toNat (↑i : Int)) (6 : Nat)) (f ((0 : Nat) + Int.toNat (↑i : Int)) (7 : Nat)) (f ((0 : Nat) + Int.toNat (↑i : Int)) (8 : Nat))) (1 : Nat) else bif Nat.blt q n then h q (2 : Nat) else (0 : Int)), Value.int IntKind.i64 (bif Nat.beq q (Int.toNat (↑n : Int)) then ad (v8 (bif Nat.blt (Int.toNat (↑n : Int)) n then h (Int.toNat (↑n : Int)) (1 : Nat) else (0 : Int)) (bif Nat.blt (Int.toNat (↑n : Int)) n then h (Int.toNat (↑n : Int)) (2 : Nat) else (0 : Int)) (bif Nat.blt (Int.toNat (↑n : Int)) n then h (Int.toNat (↑n : Int)) (3 : Nat) else (0 : Int)) (bif Nat.blt (Int.toNat (↑n : Int)) n then h (Int.toNat (↑n : Int)) (4 : Nat) else (0 : Int)) (bif Nat.blt (Int.toNat (↑n : Int)) n then h (Int.toNat (↑n : Int)) (5 : Nat) else (0 : Int)) (bif Nat.blt (Int.toNat (↑n : Int)) n then h (Int.toNat (↑n : Int)) (6 : Nat) else (0 : Int)) (bif Nat.blt (Int.toNat (↑n : Int)) n then h (Int.toNat (↑n : Int)) (7 : Nat) else (0 : Int)) (bif Nat.blt (Int.toNat (↑n : Int)) n then h (Int.toNat (↑n : Int)) (8 : Nat) else (0 : Int))) (v8 (f ((0 : Nat) + Int.toNat (↑i : Int)) (1 : Nat)) (f ((0 : Nat) + Int.toNat (↑i : Int)) (2 : Nat)) (f ((0 : Nat) + Int.toNat (↑i : Int)) (3 : Nat)) (f ((0 : Nat) + Int.toNat (↑i : Int)) (4 : Nat)) (f ((0 : Nat) + Int.toNat (↑i : Int)) (5 : Nat)) (f ((0 : Nat) + Int.toNat (↑i : Int)) (6 : Nat)) (f ((0 : Nat) + Int.toNat (↑i : Int)) (7 : Nat)) (f ((0 : Nat) + Int.toNat (↑i : Int)) (8 : Nat))) (2 : Nat) else bif Nat.blt q n then h q (3 : Nat) else (0 : Int)), Value.int IntKind.i64 (bif Nat.beq q (Int.toNat (↑n : Int)) then ad (v8 (bif Nat.blt (Int.toNat (↑n : Int)) n then h (Int.toNat (↑n : Int)) (1 : Nat) else (0 : Int)) (bif Nat.blt (Int.toNat (↑n : Int)) n then h (Int.toNat (↑n : Int)) (2 : Nat) else (0 : Int)) (bif Nat.blt (Int.toNat (↑n : Int)) n then h (Int.toNat (↑n : Int)) (3 : Nat) else (0 : Int)) (bif Nat.blt (Int.toNat (↑n : Int)) n then h (Int.toNat (↑n : Int)) (4 : Nat) else (0 : Int)) (bif Nat.blt (Int.toNat (↑n : Int)) n then h (Int.toNat (↑n : Int)) (5 : Nat) else (0 : Int)) (bif Nat.blt (Int.toNat (↑n : Int)) n then h (Int.toNat (↑n : Int)) (6 : Nat) else (0 : Int)) (bif Nat.blt (Int.toNat (↑n : Int)) n then h (Int.toNat (↑n : Int)) (7 : Nat) else (0 : Int)) (bif Nat.blt (Int.toNat (↑n : Int)) n then h (Int.toNat (↑n : Int)) (8 : Nat) else (0 : Int))) (v8 (f ((0 : Nat) + Int.toNat (↑i : Int)) (1 : Nat)) (f ((0 : Nat) + Int.toNat (↑i : Int)) (2 : Nat)) (f ((0 : Nat) + Int.toNat (↑i : Int)) (3 : Nat)) (f ((0 : Nat) + Int.toNat (↑i : Int)) (4 : Nat)) (f ((0 : Nat) + Int.toNat (↑i : Int)) (5 : Nat)) (f ((0 : Nat) + Int.toNat (↑i : Int)) (6 : Nat)) (f ((0 : Nat) + Int.toNat (↑i : Int)) (7 : Nat)) (f ((0 : Nat) + Int.toNat (↑i : Int)) (8 : Nat))) (3 : Nat) else bif Nat.blt q n then h q (4 : Nat) else (0 : Int)), Value.int IntKind.i64 (bif Nat.beq q (Int.toNat (↑n : Int)) then ad (v8 (bif Nat.blt (Int.toNat (↑n : Int)) n then h (Int.toNat (↑n : Int)) (1 : Nat) else (0 : Int)) (bif Nat.blt (Int.toNat (↑n : Int)) n then h (Int.toNat (↑n : Int)) (2 : Nat) else (0 : Int)) (bif Nat.blt (Int.toNat (↑n : Int)) n then h (Int.toNat (↑n : Int)) (3 : Nat) else (0 : Int)) (bif Nat.blt (Int.toNat (↑n : Int)) n then h (Int.toNat (↑n : Int)) (4 : Nat) else (0 : Int)) (bif Nat.blt (Int.toNat (↑n : Int)) n then h (Int.toNat (↑n : Int)) (5 : Nat) else (0 : Int)) (bif Nat.blt (Int.toNat (↑n : Int)) n then h (Int.toNat (↑n : Int)) (6 : Nat) else (0 : Int)) (bif Nat.blt (Int.toNat (↑n : Int)) n then h (Int.toNat (↑n : Int)) (7 : Nat) else (0 : Int)) (bif Nat.blt (Int.toNat (↑n : Int)) n then h (Int.toNat (↑n : Int)) (8 : Nat) else (0 : Int))) (v8 (f ((0 : Nat) + Int.toNat (↑i : Int)) (1 : Nat)) (f ((0 : Nat) + Int.toNat (↑i : Int)) (2 : Nat)) (f ((0 : Nat) + Int.toNat (↑i : Int)) (3 : Nat)) (f ((0 : Nat) + Int.toNat (↑i : Int)) (4 : Nat)) (f ((0 : Nat) + Int.toNat (↑i : Int)) (5 : Nat)) (f ((0 : Nat) + Int.toNat (↑i : Int)) (6 : Nat)) (f ((0 : Nat) + Int.toNat (↑i : Int)) (7 : Nat)) (f ((0 : Nat) + Int.toNat (↑i : Int)) (8 : Nat))) (4 : Nat) else bif Nat.blt q n then h q (5 : Nat) else (0 : Int)), Value.int IntKind.i64 (bif Nat.beq q (Int.toNat (↑n : Int)) then ad (v8 (bif Nat.blt (Int.toNat (↑n : Int)) n then h (Int.toNat (↑n : Int)) (1 : Nat) else (0 : Int)) (bif Nat.blt (Int.toNat (↑n : Int)) n then h (Int.toNat (↑n : Int)) (2 : Nat) else (0 : Int)) (bif Nat.blt (Int.toNat (↑n : Int)) n then h (Int.toNat (↑n : Int)) (3 : Nat) else (0 : Int)) (bif Nat.blt (Int.toNat (↑n : Int)) n then h (Int.toNat (↑n : Int)) (4 : Nat) else (0 : Int)) (bif Nat.blt (Int.toNat (↑n : Int)) n then h (Int.toNat (↑n : Int)) (5 : Nat) else (0 : Int)) (bif Nat.blt (Int.toNat (↑n : Int)) n then h (Int.toNat (↑n : Int)) (6 : Nat) else (0 : Int)) (bif Nat.blt (Int.toNat (↑n : Int)) n then h (Int.toNat (↑n : Int)) (7 : Nat) else (0 : Int)) (bif Nat.blt (Int.toNat (↑n : Int)) n then h (Int.toNat (↑n : Int)) (8 : Nat) else (0 : Int))) (v8 (f ((0 : Nat) + Int.toNat (↑i : Int)) (1 : Nat)) (f ((0 : Nat) + Int.toNat (↑i : Int)) (2 : Nat)) (f ((0 : Nat) + Int.toNat (↑i : Int)) (3 : Nat)) (f ((0 : Nat) + Int.toNat (↑i : Int)) (4 : Nat)) (f ((0 : Nat) + Int.toNat (↑i : Int)) (5 : Nat)) (f ((0 : Nat) + Int.toNat (↑i : Int)) (6 : Nat)) (f ((0 : Nat) + Int.toNat (↑i : Int)) (7 : Nat)) (f ((0 : Nat) + Int.toNat (↑i : Int)) (8 : Nat))) (5 : Nat) else bif Nat.blt q n then h q (6 : Nat) else (0 : Int)), Value.int IntKind.i64 (bif Nat.beq q (Int.toNat (↑n : Int)) then ad (v8 (bif Nat.blt (Int.toNat (↑n : Int)) n then h (Int.toNat (↑n : Int)) (1 : Nat) else (0 : Int)) (bif Nat.blt (Int.toNat (↑n : Int)) n then h (Int.toNat (↑n : Int)) (2 : Nat) else (0 : Int)) (bif Nat.blt (Int.toNat (↑n : Int)) n then h (Int.toNat (↑n : Int)) (3 : Nat) else (0 : Int)) (bif Nat.blt (Int.toNat (↑n : Int)) n then h (Int.toNat (↑n : Int)) (4 : Nat) else (0 : Int)) (bif Nat.blt (Int.toNat (↑n : Int)) n then h (Int.toNat (↑n : Int)) (5 : Nat) else (0 : Int)) (bif Nat.blt (Int.toNat (↑n : Int)) n then h (Int.toNat (↑n : Int)) (6 : Nat) else (0 : Int)) (bif Nat.blt (Int.toNat (↑n : Int)) n then h (Int.toNat (↑n : Int)) (7 : Nat) else (0 : Int)) (bif Nat.blt (Int.toNat (↑n : Int)) n then h (Int.toNat (↑n : Int)) (8 : Nat) else (0 : Int))) (v8 (f ((0 : Nat) + Int.toNat (↑i : Int)) (1 : Nat)) (f ((0 : Nat) + Int.toNat (↑i : Int)) (2 : Nat)) (f ((0 : Nat) + Int.toNat (↑i : Int)) (3 : Nat)) (f ((0 : Nat) + Int.toNat (↑i : Int)) (4 : Nat)) (f ((0 : Nat) + Int.toNat (↑i : Int)) (5 : Nat)) (f ((0 : Nat) + Int.toNat (↑i : Int)) (6 : Nat)) (f ((0 : Nat) + Int.toNat (↑i : Int)) (7 : Nat)) (f ((0 : Nat) + Int.toNat (↑i : Int)) (8 : Nat))) (6 : Nat) else bif Nat.blt q n then h q (7 : Nat) else (0 : Int)), Value.int IntKind.i64 (bif Nat.beq q (Int.toNat (↑n : Int)) then ad (v8 (bif Nat.blt (Int.toNat (↑n : Int)) n then h (Int.toNat (↑n : Int)) (1 : Nat) else (0 : Int)) (bif Nat.blt (Int.toNat (↑n : Int)) n then h (Int.toNat (↑n : Int)) (2 : Nat) else (0 : Int)) (bif Nat.blt (Int.toNat (↑n : Int)) n then h (Int.toNat (↑n : Int)) (3 : Nat) else (0 : Int)) (bif Nat.blt (Int.toNat (↑n : Int)) n then h (Int.toNat (↑n : Int)) (4 : Nat) else (0 : Int)) (bif Nat.blt (Int.toNat (↑n : Int)) n then h (Int.toNat (↑n : Int)) (5 : Nat) else (0 : Int)) (bif Nat.blt (Int.toNat (↑n : Int)) n then h (Int.toNat (↑n : Int)) (6 : Nat) else (0 : Int)) (bif Nat.blt (Int.toNat (↑n : Int)) n then h (Int.toNat (↑n : Int)) (7 : Nat) else (0 : Int)) (bif Nat.blt (Int.toNat (↑n : Int)) n then h (Int.toNat (↑n : Int)) (8 : Nat) else (0 : Int))) (v8 (f ((0 : Nat) + Int.toNat (↑i : Int)) (1 : Nat)) (f ((0 : Nat) + Int.toNat (↑i : Int)) (2 : Nat)) (f ((0 : Nat) + Int.toNat (↑i : Int)) (3 : Nat)) (f ((0 : Nat) + Int.toNat (↑i : Int)) (4 : Nat)) (f ((0 : Nat) + Int.toNat (↑i : Int)) (5 : Nat)) (f ((0 : Nat) + Int.toNat (↑i : Int)) (6 : Nat)) (f ((0 : Nat) + Int.toNat (↑i : Int)) (7 : Nat)) (f ((0 : Nat) + Int.toNat (↑i : Int)) (8 : Nat))) (7 : Nat) else bif Nat.blt q n then h q (8 : Nat) else (0 : Int))]) (75 : Nat)]) else needs [decide ((0 : Int) ≤ o (itW (row9 h)) (f ((0 : Nat) + Int.toNat (↑i : Int)) (0 : Nat)) n), decide (o (itW (row9 h)) (f ((0 : Nat) + Int.toNat (↑i : Int)) (0 : Nat)) n < (↑n : Int)), decide (Int.toNat (o (itW (row9 h)) (f ((0 : Nat) + Int.toNat (↑i : Int)) (0 : Nat)) n) < n), decide ((0 : Int) ≤ o (itW (row9 h)) (f ((0 : Nat) + Int.toNat (↑i : Int)) (0 : Nat)) n), decide (o (itW (row9 h)) (f ((0 : Nat) + Int.toNat (↑i : Int)) (0 : Nat)) n < (↑n : Int)), decide (Int.toNat (o (itW (row9 h)) (f ((0 : Nat) + Int.toNat (↑i : Int)) (0 : Nat)) n) < n), decide ((0 : Int) ≤ o (itW (row9 h)) (f ((0 : Nat) + Int.toNat (↑i : Int)) (0 : Nat)) n), decide (o (itW (row9 h)) (f ((0 : Nat) + Int.toNat (↑i : Int)) (0 : Nat)) n < (↑n : Int)), decide (Int.toNat (o (itW (row9 h)) (f ((0 : Nat) + Int.toNat (↑i : Int)) (0 : Nat)) n) < n)] (bif !ok (v8 (bif Nat.beq (Int.toNat (o (itW (row9 h)) (f ((0 : Nat) + Int.toNat (↑i : Int)) (0 : Nat)) n)) (Int.toNat (o (itW (row9 h)) (f ((0 : Nat) + Int.toNat (↑i : Int)) (0 : Nat)) n)) then ad (v8 (h (Int.toNat (o (itW (row9 h)) (f ((0 : Nat) + Int.toNat (↑i : Int)) (0 : Nat)) n)) (1 : Nat)) (h (Int.toNat (o (itW (row9 h)) (f ((0 : Nat) + Int.toNat (↑i : Int)) (0 : Nat)) n)) (2 : Nat)) (h (Int.toNat (o (itW (row9 h)) (f ((0 : Nat) + Int.toNat (↑i : Int)) (0 : Nat)) n)) (3 : Nat)) (h (Int.toNat (o (itW (row9 h)) (f ((0 : Nat) + Int.toNat (↑i : Int)) (0 : Nat)) n)) (4 : Nat)) (h (Int.toNat (o (itW (row9 h)) (f ((0 : Nat) + Int.toNat (↑i : Int)) (0 : Nat)) n)) (5 : Nat)) (h (Int.toNat (o (itW (row9 h)) (f ((0 : Nat) + Int.toNat (↑i : Int)) (0 : Nat)) n)) (6 : Nat)) (h (Int.toNat (o (itW (row9 h)) (f ((0 : Nat) + Int.toNat (↑i : Int)) (0 : Nat)) n)) (7 : Nat)) (h (Int.toNat (o (itW (row9 h)) (f ((0 : Nat) + Int.toNat (↑i : Int)) (0 : Nat)) n)) (8 : Nat))) (v8 (f ((0 : Nat) + Int.toNat (↑i : Int)) (1 : Nat)) (f ((0 : Nat) + Int.toNat (↑i : Int)) (2 : Nat)) (f ((0 : Nat) + Int.toNat (↑i : Int)) (3 : Nat)) (f ((0 : Nat) + Int.toNat (↑i : Int)) (4 : Nat)) (f ((0 : Nat) + Int.toNat (↑i : Int)) (5 : Nat)) (f ((0 : Nat) + Int.toNat (↑i : Int)) (6 : Nat)) (f ((0 : Nat) + Int.toNat (↑i : Int)) (7 : Nat)) (f ((0 : Nat) + Int.toNat (↑i : Int)) (8 : Nat))) (0 : Nat) else h (Int.toNat (o (itW (row9 h)) (f ((0 : Nat) + Int.toNat (↑i : Int)) (0 : Nat)) n)) (1 : Nat)) (bif Nat.beq (Int.toNat (o (itW (row9 h)) (f ((0 : Nat) + Int.toNat (↑i : Int)) (0 : Nat)) n)) (Int.toNat (o (itW (row9 h)) (f ((0 : Nat) + Int.toNat (↑i : Int)) (0 : Nat)) n)) then ad (v8 (h (Int.toNat (o (itW (row9 h)) (f ((0 : Nat) + Int.toNat (↑i : Int)) (0 : Nat)) n)) (1 : Nat)) (h (Int.toNat (o (itW (row9 h)) (f ((0 : Nat) + Int.toNat (↑i : Int)) (0 : Nat)) n)) (2 : Nat)) (h (Int.toNat (o (itW (row9 h)) (f ((0 : Nat) + Int.toNat (↑i : Int)) (0 : Nat)) n)) (3 : Nat)) (h (Int.toNat (o (itW (row9 h)) (f ((0 : Nat) + Int.toNat (↑i : Int)) (0 : Nat)) n)) (4 : Nat)) (h (Int.toNat (o (itW (row9 h)) (f ((0 : Nat) + Int.toNat (↑i : Int)) (0 : Nat)) n)) (5 : Nat)) (h (Int.toNat (o (itW (row9 h)) (f ((0 : Nat) + Int.toNat (↑i : Int)) (0 : Nat)) n)) (6 : Nat)) (h (Int.toNat (o (itW (row9 h)) (f ((0 : Nat) + Int.toNat (↑i : Int)) (0 : Nat)) n)) (7 : Nat)) (h (Int.toNat (o (itW (row9 h)) (f ((0 : Nat) + Int.toNat (↑i : Int)) (0 : Nat)) n)) (8 : Nat))) (v8 (f ((0 : Nat) + Int.toNat (↑i : Int)) (1 : Nat)) (f ((0 : Nat) + Int.toNat (↑i : Int)) (2 : Nat)) (f ((0 : Nat) + Int.toNat (↑i : Int)) (3 : Nat)) (f ((0 : Nat) + Int.toNat (↑i : Int)) (4 : Nat)) (f ((0 : Nat) + Int.toNat (↑i : Int)) (5 : Nat)) (f ((0 : Nat) + Int.toNat (↑i : Int)) (6 : Nat)) (f ((0 : Nat) + Int.toNat (↑i : Int)) (7 : Nat)) (f ((0 : Nat) + Int.toNat (↑i : Int)) (8 : Nat))) (1 : Nat) else h (Int.toNat (o (itW (row9 h)) (f ((0 : Nat) + Int.toNat (↑i : Int)) (0 : Nat)) n)) (2 : Nat)) (bif Nat.beq (Int.toNat (o (itW (row9 h)) (f ((0 : Nat) + Int.toNat (↑i : Int)) (0 : Nat)) n)) (Int.toNat (o (itW (row9 h)) (f ((0 : Nat) + Int.toNat (↑i : Int)) (0 : Nat)) n)) then ad (v8 (h (Int.toNat (o (itW (row9 h)) (f ((0 : Nat) + Int.toNat (↑i : Int)) (0 : Nat)) n)) (1 : Nat)) (h (Int.toNat (o (itW (row9 h)) (f ((0 : Nat) + Int.toNat (↑i : Int)) (0 : Nat)) n)) (2 : Nat)) (h (Int.toNat (o (itW (row9 h)) (f ((0 : Nat) + Int.toNat (↑i : Int)) (0 : Nat)) n)) (3 : Nat)) (h (Int.toNat (o (itW (row9 h)) (f ((0 : Nat) + Int.toNat (↑i : Int)) (0 : Nat)) n)) (4 : Nat)) (h (Int.toNat (o (itW (row9 h)) (f ((0 : Nat) + Int.toNat (↑i : Int)) (0 : Nat)) n)) (5 : Nat)) (h (Int.toNat (o (itW (row9 h)) (f ((0 : Nat) + Int.toNat (↑i : Int)) (0 : Nat)) n)) (6 : Nat)) (h (Int.toNat (o (itW (row9 h)) (f ((0 : Nat) + Int.toNat (↑i : Int)) (0 : Nat)) n)) (7 : Nat)) (h (Int.toNat (o (itW (row9 h)) (f ((0 : Nat) + Int.toNat (↑i : Int)) (0 : Nat)) n)) (8 : Nat))) (v8 (f ((0 : Nat) + Int.toNat (↑i : Int)) (1 : Nat)) (f ((0 : Nat) + Int.toNat (↑i : Int)) (2 : Nat)) (f ((0 : Nat) + Int.toNat (↑i : Int)) (3 : Nat)) (f ((0 : Nat) + Int.toNat (↑i : Int)) (4 : Nat)) (f ((0 : Nat) + Int.toNat (↑i : Int)) (5 : Nat)) (f ((0 : Nat) + Int.toNat (↑i : Int)) (6 : Nat)) (f ((0 : Nat) + Int.toNat (↑i : Int)) (7 : Nat)) (f ((0 : Nat) + Int.toNat (↑i : Int)) (8 : Nat))) (2 : Nat) else h (Int.toNat (o (itW (row9 h)) (f ((0 : Nat) + Int.toNat (↑i : Int)) (0 : Nat)) n)) (3 : Nat)) (bif Nat.beq (Int.toNat (o (itW (row9 h)) (f ((0 : Nat) + Int.toNat (↑i : Int)) (0 : Nat)) n)) (Int.toNat (o (itW (row9 h)) (f ((0 : Nat) + Int.toNat (↑i : Int)) (0 : Nat)) n)) then ad (v8 (h (Int.toNat (o (itW (row9 h)) (f ((0 : Nat) + Int.toNat (↑i : Int)) (0 : Nat)) n)) (1 : Nat)) (h (Int.toNat (o (itW (row9 h)) (f ((0 : Nat) + Int.toNat (↑i : Int)) (0 : Nat)) n)) (2 : Nat)) (h (Int.toNat (o (itW (row9 h)) (f ((0 : Nat) + Int.toNat (↑i : Int)) (0 : Nat)) n)) (3 : Nat)) (h (Int.toNat (o (itW (row9 h)) (f ((0 : Nat) + Int.toNat (↑i : Int)) (0 : Nat)) n)) (4 : Nat)) (h (Int.toNat (o (itW (row9 h)) (f ((0 : Nat) + Int.toNat (↑i : Int)) (0 : Nat)) n)) (5 : Nat)) (h (Int.toNat (o (itW (row9 h)) (f ((0 : Nat) + Int.toNat (↑i : Int)) (0 : Nat)) n)) (6 : Nat)) (h (Int.toNat (o (itW (row9 h)) (f ((0 : Nat) + Int.toNat (↑i : Int)) (0 : Nat)) n)) (7 : Nat)) (h (Int.toNat (o (itW (row9 h)) (f ((0 : Nat) + Int.toNat (↑i : Int)) (0 : Nat)) n)) (8 : Nat))) (v8 (f ((0 : Nat) + Int.toNat (↑i : Int)) (1 : Nat)) (f ((0 : Nat) + Int.toNat (↑i : Int)) (2 : Nat)) (f ((0 : Nat) + Int.toNat (↑i : Int)) (3 : Nat)) (f ((0 : Nat) + Int.toNat (↑i : Int)) (4 : Nat)) (f ((0 : Nat) + Int.toNat (↑i : Int)) (5 : Nat)) (f ((0 : Nat) + Int.toNat (↑i : Int)) (6 : Nat)) (f ((0 : Nat) + Int.toNat (↑i : Int)) (7 : Nat)) (f ((0 : Nat) + Int.toNat (↑i : Int)) (8 : Nat))) (3 : Nat) else h (Int.toNat (o (itW (row9 h)) (f ((0 : Nat) + Int.toNat (↑i : Int)) (0 : Nat)) n)) (4 : Nat)) (bif Nat.beq (Int.toNat (o (itW (row9 h)) (f ((0 : Nat) + Int.toNat (↑i : Int)) (0 : Nat)) n)) (Int.toNat (o (itW (row9 h)) (f ((0 : Nat) + Int.toNat (↑i : Int)) (0 : Nat)) n)) then ad (v8 (h (Int.toNat (o (itW (row9 h)) (f ((0 : Nat) + Int.toNat (↑i : Int)) (0 : Nat)) n)) (1 : Nat)) (h (Int.toNat (o (itW (row9 h)) (f ((0 : Nat) + Int.toNat (↑i : Int)) (0 : Nat)) n)) (2 : Nat)) (h (Int.toNat (o (itW (row9 h)) (f ((0 : Nat) + Int.toNat (↑i : Int)) (0 : Nat)) n)) (3 : Nat)) (h (Int.toNat (o (itW (row9 h)) (f ((0 : Nat) + Int.toNat (↑i : Int)) (0 : Nat)) n)) (4 : Nat)) (h (Int.toNat (o (itW (row9 h)) (f ((0 : Nat) + Int.toNat (↑i : Int)) (0 : Nat)) n)) (5 : Nat)) (h (Int.toNat (o (itW (row9 h)) (f ((0 : Nat) + Int.toNat (↑i : Int)) (0 : Nat)) n)) (6 : Nat)) (h (Int.toNat (o (itW (row9 h)) (f ((0 : Nat) + Int.toNat (↑i : Int)) (0 : Nat)) n)) (7 : Nat)) (h (Int.toNat (o (itW (row9 h)) (f ((0 : Nat) + Int.toNat (↑i : Int)) (0 : Nat)) n)) (8 : Nat))) (v8 (f ((0 : Nat) + Int.toNat (↑i : Int)) (1 : Nat)) (f ((0 : Nat) + Int.toNat (↑i : Int)) (2 : Nat)) (f ((0 : Nat) + Int.toNat (↑i : Int)) (3 : Nat)) (f ((0 : Nat) + Int.toNat (↑i : Int)) (4 : Nat)) (f ((0 : Nat) + Int.toNat (↑i : Int)) (5 : Nat)) (f ((0 : Nat) + Int.toNat (↑i : Int)) (6 : Nat)) (f ((0 : Nat) + Int.toNat (↑i : Int)) (7 : Nat)) (f ((0 : Nat) + Int.toNat (↑i : Int)) (8 : Nat))) (4 : Nat) else h (Int.toNat (o (itW (row9 h)) (f ((0 : Nat) + Int.toNat (↑i : Int)) (0 : Nat)) n)) (5 : Nat)) (bif Nat.beq (Int.toNat (o (itW (row9 h)) (f ((0 : Nat) + Int.toNat (↑i : Int)) (0 : Nat)) n)) (Int.toNat (o (itW (row9 h)) (f ((0 : Nat) + Int.toNat (↑i : Int)) (0 : Nat)) n)) then ad (v8 (h (Int.toNat (o (itW (row9 h)) (f ((0 : Nat) + Int.toNat (↑i : Int)) (0 : Nat)) n)) (1 : Nat)) (h (Int.toNat (o (itW (row9 h)) (f ((0 : Nat) + Int.toNat (↑i : Int)) (0 : Nat)) n)) (2 : Nat)) (h (Int.toNat (o (itW (row9 h)) (f ((0 : Nat) + Int.toNat (↑i : Int)) (0 : Nat)) n)) (3 : Nat)) (h (Int.toNat (o (itW (row9 h)) (f ((0 : Nat) + Int.toNat (↑i : Int)) (0 : Nat)) n)) (4 : Nat)) (h (Int.toNat (o (itW (row9 h)) (f ((0 : Nat) + Int.toNat (↑i : Int)) (0 : Nat)) n)) (5 : Nat)) (h (Int.toNat (o (itW (row9 h)) (f ((0 : Nat) + Int.toNat (↑i : Int)) (0 : Nat)) n)) (6 : Nat)) (h (Int.toNat (o (itW (row9 h)) (f ((0 : Nat) + Int.toNat (↑i : Int)) (0 : Nat)) n)) (7 : Nat)) (h (Int.toNat (o (itW (row9 h)) (f ((0 : Nat) + Int.toNat (↑i : Int)) (0 : Nat)) n)) (8 : Nat))) (v8 (f ((0 : Nat) + Int.toNat (↑i : Int)) (1 : Nat)) (f ((0 : Nat) + Int.toNat (↑i : Int)) (2 : Nat)) (f ((0 : Nat) + Int.toNat (↑i : Int)) (3 : Nat)) (f ((0 : Nat) + Int.toNat (↑i : Int)) (4 : Nat)) (f ((0 : Nat) + Int.toNat (↑i : Int)) (5 : Nat)) (f ((0 : Nat) + Int.toNat (↑i : Int)) (6 : Nat)) (f ((0 : Nat) + Int.toNat (↑i : Int)) (7 : Nat)) (f ((0 : Nat) + Int.toNat (↑i : Int)) (8 : Nat))) (5 : Nat) else h (Int.toNat (o (itW (row9 h)) (f ((0 : Nat) + Int.toNat (↑i : Int)) (0 : Nat)) n)) (6 : Nat)) (bif Nat.beq (Int.toNat (o (itW (row9 h)) (f ((0 : Nat) + Int.toNat (↑i : Int)) (0 : Nat)) n)) (Int.toNat (o (itW (row9 h)) (f ((0 : Nat) + Int.toNat (↑i : Int)) (0 : Nat)) n)) then ad (v8 (h (Int.toNat (o (itW (row9 h)) (f ((0 : Nat) + Int.toNat (↑i : Int)) (0 : Nat)) n)) (1 : Nat)) (h (Int.toNat (o (itW (row9 h)) (f ((0 : Nat) + Int.toNat (↑i : Int)) (0 : Nat)) n)) (2 : Nat)) (h (Int.toNat (o (itW (row9 h)) (f ((0 : Nat) + Int.toNat (↑i : Int)) (0 : Nat)) n)) (3 : Nat)) (h (Int.toNat (o (itW (row9 h)) (f ((0 : Nat) + Int.toNat (↑i : Int)) (0 : Nat)) n)) (4 : Nat)) (h (Int.toNat (o (itW (row9 h)) (f ((0 : Nat) + Int.toNat (↑i : Int)) (0 : Nat)) n)) (5 : Nat)) (h (Int.toNat (o (itW (row9 h)) (f ((0 : Nat) + Int.toNat (↑i : Int)) (0 : Nat)) n)) (6 : Nat)) (h (Int.toNat (o (itW (row9 h)) (f ((0 : Nat) + Int.toNat (↑i : Int)) (0 : Nat)) n)) (7 : Nat)) (h (Int.toNat (o (itW (row9 h)) (f ((0 : Nat) + Int.toNat (↑i : Int)) (0 : Nat)) n)) (8 : Nat))) (v8 (f ((0 : Nat) + Int.toNat (↑i : Int)) (1 : Nat)) (f ((0 : Nat) + Int.toNat (↑i : Int)) (2 : Nat)) (f ((0 : Nat) + Int.toNat (↑i : Int)) (3 : Nat)) (f ((0 : Nat) + Int.toNat (↑i : Int)) (4 : Nat)) (f ((0 : Nat) + Int.toNat (↑i : Int)) (5 : Nat)) (f ((0 : Nat) + Int.toNat (↑i : Int)) (6 : Nat)) (f ((0 : Nat) + Int.toNat (↑i : Int)) (7 : Nat)) (f ((0 : Nat) + Int.toNat (↑i : Int)) (8 : Nat))) (6 : Nat) else h (Int.toNat (o (itW (row9 h)) (f ((0 : Nat) + Int.toNat (↑i : Int)) (0 : Nat)) n)) (7 : Nat)) (bif Nat.beq (Int.toNat (o (itW (row9 h)) (f ((0 : Nat) + Int.toNat (↑i : Int)) (0 : Nat)) n)) (Int.toNat (o (itW (row9 h)) (f ((0 : Nat) + Int.toNat (↑i : Int)) (0 : Nat)) n)) then ad (v8 (h (Int.toNat (o (itW (row9 h)) (f ((0 : Nat) + Int.toNat (↑i : Int)) (0 : Nat)) n)) (1 : Nat)) (h (Int.toNat (o (itW (row9 h)) (f ((0 : Nat) + Int.toNat (↑i : Int)) (0 : Nat)) n)) (2 : Nat)) (h (Int.toNat (o (itW (row9 h)) (f ((0 : Nat) + Int.toNat (↑i : Int)) (0 : Nat)) n)) (3 : Nat)) (h (Int.toNat (o (itW (row9 h)) (f ((0 : Nat) + Int.toNat (↑i : Int)) (0 : Nat)) n)) (4 : Nat)) (h (Int.toNat (o (itW (row9 h)) (f ((0 : Nat) + Int.toNat (↑i : Int)) (0 : Nat)) n)) (5 : Nat)) (h (Int.toNat (o (itW (row9 h)) (f ((0 : Nat) + Int.toNat (↑i : Int)) (0 : Nat)) n)) (6 : Nat)) (h (Int.toNat (o (itW (row9 h)) (f ((0 : Nat) + Int.toNat (↑i : Int)) (0 : Nat)) n)) (7 : Nat)) (h (Int.toNat (o (itW (row9 h)) (f ((0 : Nat) + Int.toNat (↑i : Int)) (0 : Nat)) n)) (8 : Nat))) (v8 (f ((0 : Nat) + Int.toNat (↑i : Int)) (1 : Nat)) (f ((0 : Nat) + Int.toNat (↑i : Int)) (2 : Nat)) (f ((0 : Nat) + Int.toNat (↑i : Int)) (3 : Nat)) (f ((0 : Nat) + Int.toNat (↑i : Int)) (4 : Nat)) (f ((0 : Nat) + Int.toNat (↑i : Int)) (5 : Nat)) (f ((0 : Nat) + Int.toNat (↑i : Int)) (6 : Nat)) (f ((0 : Nat) + Int.toNat (↑i : Int)) (7 : Nat)) (f ((0 : Nat) + Int.toNat (↑i : Int)) (8 : Nat))) (7 : Nat) else h (Int.toNat (o (itW (row9 h)) (f ((0 : Nat) + Int.toNat (↑i : Int)) (0 : Nat)) n)) (8 : Nat))) then Res.out Ex.ret [AV.v (Value.slice none (0 : Nat) (0 : Nat)), AV.v (Value.bool false)] [AB.row false m (9 : Nat) (row9 f) t] else Res.out Ex.normal [AV.own (1 : Nat) n, AV.sl (0 : Nat) (9 : Nat) (0 : Nat) (0 : Nat) m none, AV.v (Value.int IntKind.i64 (↑m : Int)), AV.v (Value.int IntKind.i64 (IntKind.wrap IntKind.i64 ((↑i : Int) + (1 : Int))))] [AB.row false m (9 : Nat) (row9 f) t, AB.row true n (9 : Nat) (fun q ↦ [Value.int IntKind.i64 (bif Nat.beq q (Int.toNat (o (itW (row9 h)) (f ((0 : Nat) + Int.toNat (↑i : Int)) (0 : Nat)) n)) then h (Int.toNat (o (itW (row9 h)) (f ((0 : Nat) + Int.toNat (↑i : Int)) (0 : Nat)) n)) (0 : Nat) else h q (0 : Nat)), Value.int IntKind.i64 (bif Nat.beq q (Int.toNat (o (itW (row9 h)) (f ((0 : Nat) + Int.toNat (↑i : Int)) (0 : Nat)) n)) then ad (v8 (h (Int.toNat (o (itW (row9 h)) (f ((0 : Nat) + Int.toNat (↑i : Int)) (0 : Nat)) n)) (1 : Nat)) (h (Int.toNat (o (itW (row9 h)) (f ((0 : Nat) + Int.toNat (↑i : Int)) (0 : Nat)) n)) (2 : Nat)) (h (Int.toNat (o (itW (row9 h)) (f ((0 : Nat) + Int.toNat (↑i : Int)) (0 : Nat)) n)) (3 : Nat)) (h (Int.toNat (o (itW (row9 h)) (f ((0 : Nat) + Int.toNat (↑i : Int)) (0 : Nat)) n)) (4 : Nat)) (h (Int.toNat (o (itW (row9 h)) (f ((0 : Nat) + Int.toNat (↑i : Int)) (0 : Nat)) n)) (5 : Nat)) (h (Int.toNat (o (itW (row9 h)) (f ((0 : Nat) + Int.toNat (↑i : Int)) (0 : Nat)) n)) (6 : Nat)) (h (Int.toNat (o (itW (row9 h)) (f ((0 : Nat) + Int.toNat (↑i : Int)) (0 : Nat)) n)) (7 : Nat)) (h (Int.toNat (o (itW (row9 h)) (f ((0 : Nat) + Int.toNat (↑i : Int)) (0 : Nat)) n)) (8 : Nat))) (v8 (f ((0 : Nat) + Int.toNat (↑i : Int)) (1 : Nat)) (f ((0 : Nat) + Int.toNat (↑i : Int)) (2 : Nat)) (f ((0 : Nat) + Int.toNat (↑i : Int)) (3 : Nat)) (f ((0 : Nat) + Int.toNat (↑i : Int)) (4 : Nat)) (f ((0 : Nat) + Int.toNat (↑i : Int)) (5 : Nat)) (f ((0 : Nat) + Int.toNat (↑i : Int)) (6 : Nat)) (f ((0 : Nat) + Int.toNat (↑i : Int)) (7 : Nat)) (f ((0 : Nat) + Int.toNat (↑i : Int)) (8 : Nat))) (0 : Nat) else h q (1 : Nat)), Value.int IntKind.i64 (bif Nat.beq q (Int.toNat (o (itW (row9 h)) (f ((0 : Nat) + Int.toNat (↑i : Int)) (0 : Nat)) n)) then ad (v8 (h (Int.toNat (o (itW (row9 h)) (f ((0 : Nat) + Int.toNat (↑i : Int)) (0 : Nat)) n)) (1 : Nat)) (h (Int.toNat (o (itW (row9 h)) (f ((0 : Nat) + Int.toNat (↑i : Int)) (0 : Nat)) n)) (2 : Nat)) (h (Int.toNat (o (itW (row9 h)) (f ((0 : Nat) + Int.toNat (↑i : Int)) (0 : Nat)) n)) (3 : Nat)) (h (Int.toNat (o (itW (row9 h)) (f ((0 : Nat) + Int.toNat (↑i : Int)) (0 : Nat)) n)) (4 : Nat)) (h (Int.toNat (o (itW (row9 h)) (f ((0 : Nat) + Int.toNat (↑i : Int)) (0 : Nat)) n)) (5 : Nat)) (h (Int.toNat (o (itW (row9 h)) (f ((0 : Nat) + Int.toNat (↑i : Int)) (0 : Nat)) n)) (6 : Nat)) (h (Int.toNat (o (itW (row9 h)) (f ((0 : Nat) + Int.toNat (↑i : Int)) (0 : Nat)) n)) (7 : Nat)) (h (Int.toNat (o (itW (row9 h)) (f ((0 : Nat) + Int.toNat (↑i : Int)) (0 : Nat)) n)) (8 : Nat))) (v8 (f ((0 : Nat) + Int.toNat (↑i : Int)) (1 : Nat)) (f ((0 : Nat) + Int.toNat (↑i : Int)) (2 : Nat)) (f ((0 : Nat) + Int.toNat (↑i : Int)) (3 : Nat)) (f ((0 : Nat) + Int.toNat (↑i : Int)) (4 : Nat)) (f ((0 : Nat) + Int.toNat (↑i : Int)) (5 : Nat)) (f ((0 : Nat) + Int.toNat (↑i : Int)) (6 : Nat)) (f ((0 : Nat) + Int.toNat (↑i : Int)) (7 : Nat)) (f ((0 : Nat) + Int.toNat (↑i : Int)) (8 : Nat))) (1 : Nat) else h q (2 : Nat)), Value.int IntKind.i64 (bif Nat.beq q (Int.toNat (o (itW (row9 h)) (f ((0 : Nat) + Int.toNat (↑i : Int)) (0 : Nat)) n)) then ad (v8 (h (Int.toNat (o (itW (row9 h)) (f ((0 : Nat) + Int.toNat (↑i : Int)) (0 : Nat)) n)) (1 : Nat)) (h (Int.toNat (o (itW (row9 h)) (f ((0 : Nat) + Int.toNat (↑i : Int)) (0 : Nat)) n)) (2 : Nat)) (h (Int.toNat (o (itW (row9 h)) (f ((0 : Nat) + Int.toNat (↑i : Int)) (0 : Nat)) n)) (3 : Nat)) (h (Int.toNat (o (itW (row9 h)) (f ((0 : Nat) + Int.toNat (↑i : Int)) (0 : Nat)) n)) (4 : Nat)) (h (Int.toNat (o (itW (row9 h)) (f ((0 : Nat) + Int.toNat (↑i : Int)) (0 : Nat)) n)) (5 : Nat)) (h (Int.toNat (o (itW (row9 h)) (f ((0 : Nat) + Int.toNat (↑i : Int)) (0 : Nat)) n)) (6 : Nat)) (h (Int.toNat (o (itW (row9 h)) (f ((0 : Nat) + Int.toNat (↑i : Int)) (0 : Nat)) n)) (7 : Nat)) (h (Int.toNat (o (itW (row9 h)) (f ((0 : Nat) + Int.toNat (↑i : Int)) (0 : Nat)) n)) (8 : Nat))) (v8 (f ((0 : Nat) + Int.toNat (↑i : Int)) (1 : Nat)) (f ((0 : Nat) + Int.toNat (↑i : Int)) (2 : Nat)) (f ((0 : Nat) + Int.toNat (↑i : Int)) (3 : Nat)) (f ((0 : Nat) + Int.toNat (↑i : Int)) (4 : Nat)) (f ((0 : Nat) + Int.toNat (↑i : Int)) (5 : Nat)) (f ((0 : Nat) + Int.toNat (↑i : Int)) (6 : Nat)) (f ((0 : Nat) + Int.toNat (↑i : Int)) (7 : Nat)) (f ((0 : Nat) + Int.toNat (↑i : Int)) (8 : Nat))) (2 : Nat) else h q (3 : Nat)), Value.int IntKind.i64 (bif Nat.beq q (Int.toNat (o (itW (row9 h)) (f ((0 : Nat) + Int.toNat (↑i : Int)) (0 : Nat)) n)) then ad (v8 (h (Int.toNat (o (itW (row9 h)) (f ((0 : Nat) + Int.toNat (↑i : Int)) (0 : Nat)) n)) (1 : Nat)) (h (Int.toNat (o (itW (row9 h)) (f ((0 : Nat) + Int.toNat (↑i : Int)) (0 : Nat)) n)) (2 : Nat)) (h (Int.toNat (o (itW (row9 h)) (f ((0 : Nat) + Int.toNat (↑i : Int)) (0 : Nat)) n)) (3 : Nat)) (h (Int.toNat (o (itW (row9 h)) (f ((0 : Nat) + Int.toNat (↑i : Int)) (0 : Nat)) n)) (4 : Nat)) (h (Int.toNat (o (itW (row9 h)) (f ((0 : Nat) + Int.toNat (↑i : Int)) (0 : Nat)) n)) (5 : Nat)) (h (Int.toNat (o (itW (row9 h)) (f ((0 : Nat) + Int.toNat (↑i : Int)) (0 : Nat)) n)) (6 : Nat)) (h (Int.toNat (o (itW (row9 h)) (f ((0 : Nat) + Int.toNat (↑i : Int)) (0 : Nat)) n)) (7 : Nat)) (h (Int.toNat (o (itW (row9 h)) (f ((0 : Nat) + Int.toNat (↑i : Int)) (0 : Nat)) n)) (8 : Nat))) (v8 (f ((0 : Nat) + Int.toNat (↑i : Int)) (1 : Nat)) (f ((0 : Nat) + Int.toNat (↑i : Int)) (2 : Nat)) (f ((0 : Nat) + Int.toNat (↑i : Int)) (3 : Nat)) (f ((0 : Nat) + Int.toNat (↑i : Int)) (4 : Nat)) (f ((0 : Nat) + Int.toNat (↑i : Int)) (5 : Nat)) (f ((0 : Nat) + Int.toNat (↑i : Int)) (6 : Nat)) (f ((0 : Nat) + Int.toNat (↑i : Int)) (7 : Nat)) (f ((0 : Nat) + Int.toNat (↑i : Int)) (8 : Nat))) (3 : Nat) else h q (4 : Nat)), Value.int IntKind.i64 (bif Nat.beq q (Int.toNat (o (itW (row9 h)) (f ((0 : Nat) + Int.toNat (↑i : Int)) (0 : Nat)) n)) then ad (v8 (h (Int.toNat (o (itW (row9 h)) (f ((0 : Nat) + Int.toNat (↑i : Int)) (0 : Nat)) n)) (1 : Nat)) (h (Int.toNat (o (itW (row9 h)) (f ((0 : Nat) + Int.toNat (↑i : Int)) (0 : Nat)) n)) (2 : Nat)) (h (Int.toNat (o (itW (row9 h)) (f ((0 : Nat) + Int.toNat (↑i : Int)) (0 : Nat)) n)) (3 : Nat)) (h (Int.toNat (o (itW (row9 h)) (f ((0 : Nat) + Int.toNat (↑i : Int)) (0 : Nat)) n)) (4 : Nat)) (h (Int.toNat (o (itW (row9 h)) (f ((0 : Nat) + Int.toNat (↑i : Int)) (0 : Nat)) n)) (5 : Nat)) (h (Int.toNat (o (itW (row9 h)) (f ((0 : Nat) + Int.toNat (↑i : Int)) (0 : Nat)) n)) (6 : Nat)) (h (Int.toNat (o (itW (row9 h)) (f ((0 : Nat) + Int.toNat (↑i : Int)) (0 : Nat)) n)) (7 : Nat)) (h (Int.toNat (o (itW (row9 h)) (f ((0 : Nat) + Int.toNat (↑i : Int)) (0 : Nat)) n)) (8 : Nat))) (v8 (f ((0 : Nat) + Int.toNat (↑i : Int)) (1 : Nat)) (f ((0 : Nat) + Int.toNat (↑i : Int)) (2 : Nat)) (f ((0 : Nat) + Int.toNat (↑i : Int)) (3 : Nat)) (f ((0 : Nat) + Int.toNat (↑i : Int)) (4 : Nat)) (f ((0 : Nat) + Int.toNat (↑i : Int)) (5 : Nat)) (f ((0 : Nat) + Int.toNat (↑i : Int)) (6 : Nat)) (f ((0 : Nat) + Int.toNat (↑i : Int)) (7 : Nat)) (f ((0 : Nat) + Int.toNat (↑i : Int)) (8 : Nat))) (4 : Nat) else h q (5 : Nat)), Value.int IntKind.i64 (bif Nat.beq q (Int.toNat (o (itW (row9 h)) (f ((0 : Nat) + Int.toNat (↑i : Int)) (0 : Nat)) n)) then ad (v8 (h (Int.toNat (o (itW (row9 h)) (f ((0 : Nat) + Int.toNat (↑i : Int)) (0 : Nat)) n)) (1 : Nat)) (h (Int.toNat (o (itW (row9 h)) (f ((0 : Nat) + Int.toNat (↑i : Int)) (0 : Nat)) n)) (2 : Nat)) (h (Int.toNat (o (itW (row9 h)) (f ((0 : Nat) + Int.toNat (↑i : Int)) (0 : Nat)) n)) (3 : Nat)) (h (Int.toNat (o (itW (row9 h)) (f ((0 : Nat) + Int.toNat (↑i : Int)) (0 : Nat)) n)) (4 : Nat)) (h (Int.toNat (o (itW (row9 h)) (f ((0 : Nat) + Int.toNat (↑i : Int)) (0 : Nat)) n)) (5 : Nat)) (h (Int.toNat (o (itW (row9 h)) (f ((0 : Nat) + Int.toNat (↑i : Int)) (0 : Nat)) n)) (6 : Nat)) (h (Int.toNat (o (itW (row9 h)) (f ((0 : Nat) + Int.toNat (↑i : Int)) (0 : Nat)) n)) (7 : Nat)) (h (Int.toNat (o (itW (row9 h)) (f ((0 : Nat) + Int.toNat (↑i : Int)) (0 : Nat)) n)) (8 : Nat))) (v8 (f ((0 : Nat) + Int.toNat (↑i : Int)) (1 : Nat)) (f ((0 : Nat) + Int.toNat (↑i : Int)) (2 : Nat)) (f ((0 : Nat) + Int.toNat (↑i : Int)) (3 : Nat)) (f ((0 : Nat) + Int.toNat (↑i : Int)) (4 : Nat)) (f ((0 : Nat) + Int.toNat (↑i : Int)) (5 : Nat)) (f ((0 : Nat) + Int.toNat (↑i : Int)) (6 : Nat)) (f ((0 : Nat) + Int.toNat (↑i : Int)) (7 : Nat)) (f ((0 : Nat) + Int.toNat (↑i : Int)) (8 : Nat))) (5 : Nat) else h q (6 : Nat)), Value.int IntKind.i64 (bif Nat.beq q (Int.toNat (o (itW (row9 h)) (f ((0 : Nat) + Int.toNat (↑i : Int)) (0 : Nat)) n)) then ad (v8 (h (Int.toNat (o (itW (row9 h)) (f ((0 : Nat) + Int.toNat (↑i : Int)) (0 : Nat)) n)) (1 : Nat)) (h (Int.toNat (o (itW (row9 h)) (f ((0 : Nat) + Int.toNat (↑i : Int)) (0 : Nat)) n)) (2 : Nat)) (h (Int.toNat (o (itW (row9 h)) (f ((0 : Nat) + Int.toNat (↑i : Int)) (0 : Nat)) n)) (3 : Nat)) (h (Int.toNat (o (itW (row9 h)) (f ((0 : Nat) + Int.toNat (↑i : Int)) (0 : Nat)) n)) (4 : Nat)) (h (Int.toNat (o (itW (row9 h)) (f ((0 : Nat) + Int.toNat (↑i : Int)) (0 : Nat)) n)) (5 : Nat)) (h (Int.toNat (o (itW (row9 h)) (f ((0 : Nat) + Int.toNat (↑i : Int)) (0 : Nat)) n)) (6 : Nat)) (h (Int.toNat (o (itW (row9 h)) (f ((0 : Nat) + Int.toNat (↑i : Int)) (0 : Nat)) n)) (7 : Nat)) (h (Int.toNat (o (itW (row9 h)) (f ((0 : Nat) + Int.toNat (↑i : Int)) (0 : Nat)) n)) (8 : Nat))) (v8 (f ((0 : Nat) + Int.toNat (↑i : Int)) (1 : Nat)) (f ((0 : Nat) + Int.toNat (↑i : Int)) (2 : Nat)) (f ((0 : Nat) + Int.toNat (↑i : Int)) (3 : Nat)) (f ((0 : Nat) + Int.toNat (↑i : Int)) (4 : Nat)) (f ((0 : Nat) + Int.toNat (↑i : Int)) (5 : Nat)) (f ((0 : Nat) + Int.toNat (↑i : Int)) (6 : Nat)) (f ((0 : Nat) + Int.toNat (↑i : Int)) (7 : Nat)) (f ((0 : Nat) + Int.toNat (↑i : Int)) (8 : Nat))) (6 : Nat) else h q (7 : Nat)), Value.int IntKind.i64 (bif Nat.beq q (Int.toNat (o (itW (row9 h)) (f ((0 : Nat) + Int.toNat (↑i : Int)) (0 : Nat)) n)) then ad (v8 (h (Int.toNat (o (itW (row9 h)) (f ((0 : Nat) + Int.toNat (↑i : Int)) (0 : Nat)) n)) (1 : Nat)) (h (Int.toNat (o (itW (row9 h)) (f ((0 : Nat) + Int.toNat (↑i : Int)) (0 : Nat)) n)) (2 : Nat)) (h (Int.toNat (o (itW (row9 h)) (f ((0 : Nat) + Int.toNat (↑i : Int)) (0 : Nat)) n)) (3 : Nat)) (h (Int.toNat (o (itW (row9 h)) (f ((0 : Nat) + Int.toNat (↑i : Int)) (0 : Nat)) n)) (4 : Nat)) (h (Int.toNat (o (itW (row9 h)) (f ((0 : Nat) + Int.toNat (↑i : Int)) (0 : Nat)) n)) (5 : Nat)) (h (Int.toNat (o (itW (row9 h)) (f ((0 : Nat) + Int.toNat (↑i : Int)) (0 : Nat)) n)) (6 : Nat)) (h (Int.toNat (o (itW (row9 h)) (f ((0 : Nat) + Int.toNat (↑i : Int)) (0 : Nat)) n)) (7 : Nat)) (h (Int.toNat (o (itW (row9 h)) (f ((0 : Nat) + Int.toNat (↑i : Int)) (0 : Nat)) n)) (8 : Nat))) (v8 (f ((0 : Nat) + Int.toNat (↑i : Int)) (1 : Nat)) (f ((0 : Nat) + Int.toNat (↑i : Int)) (2 : Nat)) (f ((0 : Nat) + Int.toNat (↑i : Int)) (3 : Nat)) (f ((0 : Nat) + Int.toNat (↑i : Int)) (4 : Nat)) (f ((0 : Nat) + Int.toNat (↑i : Int)) (5 : Nat)) (f ((0 : Nat) + Int.toNat (↑i : Int)) (6 : Nat)) (f ((0 : Nat) + Int.toNat (↑i : Int)) (7 : Nat)) (f ((0 : Nat) + Int.toNat (↑i : Int)) (8 : Nat))) (7 : Nat) else h q (8 : Nat))]) (75 : TypeId)])) else Res.out (Ex.exit (0 : Nat)) [AV.own (1 : Nat) n] [AB.row false m (9 : Nat) (row9 f) t, AB.row true n (9 : Nat) (row9 h) (75 : TypeId)] := by kernel_rfl

noncomputable abbrev lamTI (m : Nat) (f : Nat → Nat → Int) (t : TypeId) (c : Bool) (n : Nat) (h : Nat → Nat → Int) : Nat → Option Sum := oneL 0 (atS 57 (lvTI .normal) 1 (stTI m 0 0) (hpTI m f t 0 (wfun [])) (fun K => cond c (K .normal (mkT 0 57 [(4, .own 1 n)]) (hpTI m f t n h)) (K .ret (mkT 0 57 [(2, .v (.slice none 0 0)), (3, .v (.bool false))]) [.row false m 9 (row9 f) t])))
def FdelO (nz : List Wh → List Wh) : List AV → List AB → Option HR
  | [.own 0 m, .fn fi []], [.row true n 9 g t] => some { val := .sl 0 9 0 0 (nz (listW (itW g) m)).length none, out := [.row true m 9 (row9 (wfun (nz (listW (itW g) m)))) t], obl := [Nat.beq fi 168, Nat.beq n m, allW m g, decide (m ≤ 2 ^ 38)] }
  | _, _ => none
def FdvO (ok : List Wh → Bool) : List SA → Option FR
  | [.row m g] => some { val := .v (.bool (ok (listW (itW g) m))), obl := [allW m g, decide (m ≤ 2 ^ 39)] }
  | _ => none
def gmTm (nz srt : List Wh → List Wh) (okd : List Wh → Bool) : Gam := ext (ext (ext g0 113 (specR md_ws (FdvO okd))) 167 (specH [] (FdelO nz))) 169 (specH [] (FsfO srt))
theorem treeTI (nz srt : List Wh → List Wh) (okd : List Wh → Bool) (m : Nat) (f : Nat → Nat → Int) (t : TypeId) (c : Bool) (n : Nat) (h : Nat → Nat → Int) : execF Tryz.prog (gmTm nz srt okd) (lamTI m f t c n h) 100 Tryz.f128 [.sl 0 9 0 0 m none] [.row false m 9 (row9 f) t] (packK 1)
    = needs [chk ([AV.own (1 : Nat) (0 : Nat), AV.sl (0 : Nat) (9 : Nat) (0 : Nat) (0 : Nat) m none, AV.v (Value.int IntKind.i64 (↑m : Int)), AV.v (Value.int IntKind.i64 (0 : Int))] = stTI m (0 : Nat) (0 : Nat) ∧ Hsim [AB.row false m (9 : Nat) (row9 f) t, AB.row true (0 : Nat) (9 : Nat) (fun _ ↦ []) (75 : Nat)] (hpTI m f t (0 : Nat) (wfun [])))] (bif c then needs [Nat.beq n n, allW n (row9 h), decide (n ≤ (274877906944 : Nat)), Nat.ble ((0 : Nat) + List.length (nz (listW (itW (row9 h)) n))) n, allW (List.length (nz (listW (itW (row9 h)) n))) fun q ↦ row9 (wfun (nz (listW (itW (row9 h)) n))) ((0 : Nat) + q), decide (List.length (nz (listW (itW (row9 h)) n)) ≤ (549755813888 : Nat))] (bif !okd (listW (itW fun q ↦ row9 (wfun (nz (listW (itW (row9 h)) n))) ((0 : Nat) + q)) (List.length (nz (listW (itW (row9 h)) n)))) then Res.out Ex.ret [AV.tup [AV.v (Value.slice none (0 : Nat) (0 : Nat)), AV.v (Value.bool false)]] [AB.row false m (9 : Nat) (row9 f) t] else needs [Nat.ble (List.length (nz (listW (itW (row9 h)) n))) n, allW n (row9 (wfun (nz (listW (itW (row9 h)) n)))), decide (List.length (nz (listW (itW (row9 h)) n)) ≤ (12 : Nat)), decide ((↑(List.length (nz (listW (itW (row9 h)) n))) : Int) ≤ (↑(List.length (nz (listW (itW (row9 h)) n))) : Int)), decide ((↑(List.length (nz (listW (itW (row9 h)) n))) : Int) ≤ (↑(List.length (nz (listW (itW (row9 h)) n))) : Int))] (Res.out Ex.ret [AV.tup [AV.sl (1 : Nat) (9 : Nat) (0 : Nat) (0 : Nat) (Int.toNat ((↑(List.length (nz (listW (itW (row9 h)) n))) : Int) - (0 : Int))) (some (Int.toNat ((↑(List.length (nz (listW (itW (row9 h)) n))) : Int) - (0 : Int)))), AV.v (Value.bool true)]] [AB.row false m (9 : Nat) (row9 f) t, AB.row true (List.length (nz (listW (itW (row9 h)) n))) (9 : Nat) (row9 (wfun (srt (listW (itW (row9 (wfun (nz (listW (itW (row9 h)) n))))) (List.length (nz (listW (itW (row9 h)) n))))))) (75 : TypeId)])) else Res.out Ex.ret [AV.tup [AV.v (Value.slice none (0 : Nat) (0 : Nat)), AV.v (Value.bool false)]] [AB.row false m (9 : Nat) (row9 f) t]) := by kernel_rfl


theorem badIa_row (h : Nat → Nat → Int) (x : Int) : badIa (itW (row9 h)) x = badIa h x := rfl
theorem FifaO_eq : FifaO (fun f x m => fstAt (badIa f x) m) = F_ifa := by
  funext l H
  rfl
theorem fAdd2_eq : fAdd2 plusF = f_plus := by
  funext l
  rfl
theorem gmTI_ok : GamOk Tryz.prog (gmTI (fun f x m => fstAt (badIa f x) m) (fun v => cyOk (cyOf v)) plusF) := by
  unfold gmTI
  rw [FifaO_eq, fAdd2_eq, fOkc_eq]
  exact ext_ok (ext_ok (ext_ok g0_ok ok_cvI) ok_plus) ok_ifa
theorem blt_no (n : Nat) : Nat.blt n n = false := by
  cases hb : Nat.blt n n with
  | false => rfl
  | true => rw [Nat.blt_eq] at hb; omega
theorem blt_yes {a b : Nat} (h : a < b) : Nat.blt a b = true := by rw [Nat.blt_eq]; exact h
theorem insA_le (acc : List Wh) (x : Wh) : (insA acc x).length ≤ acc.length + 1 := by
  induction acc with
  | nil => simp [insA]
  | cons y l ih =>
    unfold insA
    split
    · simp
    · simp only [List.length_cons]
      omega
theorem runA_len : ∀ {xs acc A : List Wh}, runT insA acc xs = some A → A.length ≤ acc.length + xs.length
  | [], acc, A, h => by
    simp only [runT, Option.some.injEq] at h
    subst h
    simp
  | x :: xs, acc, A, h => by
    simp only [runT] at h
    split at h
    · have := runA_len h
      have h2 := insA_le acc x
      simp only [List.length_cons]
      omega
    · cases h
/-- The radii are numbers of 64 bits. -/
def inW (L : List Wh) : Prop := ∀ w ∈ L, cyIn w.r
def accA (f : Nat → Nat → Int) (i : Nat) : List Wh := (runT insA [] (listW f i)).getD []
theorem accA_of {f : Nat → Nat → Int} {i : Nat} {A : List Wh} (h : runT insA [] (listW f i) = some A) : accA f i = A := by
  rw [accA, h]
  rfl
theorem new_row {A : List Wh} {f : Nat → Int} {b : Nat → Int} (hb : ∀ k, k < 8 → b k = (cyAdd cyZ (whOf f).r).f k) (q : Nat) (hq : q < A.length + 1) : [i64 (bif Nat.beq q A.length then f 0 else bif Nat.blt q A.length then wfun A q 0 else f 0), i64 (bif Nat.beq q A.length then b 0 else bif Nat.blt q A.length then wfun A q 1 else 0), i64 (bif Nat.beq q A.length then b 1 else bif Nat.blt q A.length then wfun A q 2 else 0), i64 (bif Nat.beq q A.length then b 2 else bif Nat.blt q A.length then wfun A q 3 else 0), i64 (bif Nat.beq q A.length then b 3 else bif Nat.blt q A.length then wfun A q 4 else 0), i64 (bif Nat.beq q A.length then b 4 else bif Nat.blt q A.length then wfun A q 5 else 0), i64 (bif Nat.beq q A.length then b 5 else bif Nat.blt q A.length then wfun A q 6 else 0), i64 (bif Nat.beq q A.length then b 6 else bif Nat.blt q A.length then wfun A q 7 else 0), i64 (bif Nat.beq q A.length then b 7 else bif Nat.blt q A.length then wfun A q 8 else 0)] = row9 (wfun (A ++ [⟨f 0, cyAdd cyZ (whOf f).r⟩])) q := by
  by_cases e : q = A.length
  · subst e
    have e1 : wfun (A ++ [⟨f 0, cyAdd cyZ (whOf f).r⟩]) A.length = whN ⟨f 0, cyAdd cyZ (whOf f).r⟩ := by
      rw [wfun_get (by simp)]
      simp
    simp only [show Nat.beq A.length A.length = true from Nat.beq_refl _, cond_true, hb 0 (by omega), hb 1 (by omega), hb 2 (by omega), hb 3 (by omega), hb 4 (by omega), hb 5 (by omega), hb 6 (by omega), hb 7 (by omega), row9, e1]
    rfl
  · have hlt : q < A.length := by omega
    have e1 : wfun (A ++ [⟨f 0, cyAdd cyZ (whOf f).r⟩]) q = wfun A q := by
      funext k
      simp only [wfun, List.getElem?_append_left hlt]
    simp only [beq_ne e, blt_yes hlt, cond_true, cond_false, row9, e1]
theorem old_row {A : List Wh} {s : Int} {r : Cy} {b : Nat → Int} {i : Nat} (hi : i < A.length) (hs : A[i].s = s) (hb : ∀ k, k < 8 → b k = r.f k) (q : Nat) : [i64 (bif Nat.beq q i then wfun A i 0 else wfun A q 0), i64 (bif Nat.beq q i then b 0 else wfun A q 1), i64 (bif Nat.beq q i then b 1 else wfun A q 2), i64 (bif Nat.beq q i then b 2 else wfun A q 3), i64 (bif Nat.beq q i then b 3 else wfun A q 4), i64 (bif Nat.beq q i then b 4 else wfun A q 5), i64 (bif Nat.beq q i then b 5 else wfun A q 6), i64 (bif Nat.beq q i then b 6 else wfun A q 7), i64 (bif Nat.beq q i then b 7 else wfun A q 8)] = row9 (wfun (A.set i ⟨s, r⟩)) q := by
  by_cases e : q = i
  · subst e
    have e0 : wfun A q 0 = s := by rw [wfun_get hi, ← hs]; rfl
    simp only [e0, show Nat.beq q q = true from Nat.beq_refl _, cond_true, hb 0 (by omega), hb 1 (by omega), hb 2 (by omega), hb 3 (by omega), hb 4 (by omega), hb 5 (by omega), hb 6 (by omega), hb 7 (by omega), row9, wfun_set A q _ q hi, if_pos]
    rfl
  · simp only [beq_ne e, cond_false, row9, wfun_set A i _ q hi, if_neg e]
theorem sumTI (m : Nat) (f : Nat → Nat → Int) (t : TypeId) (hm : m ≤ 2 ^ 38) (hin : inW (listW f m)) :
    SumOk Tryz.prog 1 (.block 0 (.loop (loopAt 0 Tryz.f128))) (atS 57 (lvTI .normal) 1 (stTI m 0 0) (hpTI m f t 0 (wfun [])) (fun K => cond (runT insA [] (listW f m)).isSome (K .normal (mkT 0 57 [(4, .own 1 (accA f m).length)]) (hpTI m f t (accA f m).length (wfun (accA f m)))) (K .ret (mkT 0 57 [(2, .v (.slice none 0 0)), (3, .v (.bool false))]) [.row false m 9 (row9 f) t]))) := by
  refine for_at gmTI_ok (n := 100) (m := 1) (lv := lvTI) (fun i => stTI m (accA f i).length i) (fun i => hpTI m f t (accA f i).length (wfun (accA f i))) (fun i => (runT insA [] (listW f i)).isSome = true) m (fun _ => noLam) (lv3_ris rfl rfl rfl) (Nat.le_refl _) rfl fun K Q hk i hi him => ⟨noLam_ok _ _ _, ?_⟩
  obtain ⟨A, hA⟩ := Option.isSome_iff_exists.1 hi
  have eA := accA_of hA
  have hl : A.length ≤ i := by
    have := runA_len hA
    rw [listW_length] at this
    simpa using this
  have hs : runT insA [] (listW f (i + 1)) = if cyOk (sumR A (whOf (f i))) = true then some (insA A (whOf (f i))) else none := by
    rw [listW_succ, runT_snoc, hA]
  rw [rndTI, eA]
  refine good_cond (fun c1 => ?_) fun c1 => ?_
  · have c1 := of_decide_eq_true c1
    have c1' : i < m := by omega
    have hw : cyIn (whOf (f i)).r := hin _ (List.mem_of_getElem? (listW_get f c1'))
    have bad : ∀ (r : Cy), sumR A (whOf (f i)) = r → cyOk r = false → GoodQ (.out .ret [.v (.slice none 0 0), .v (.bool false)] [.row false m 9 (row9 f) t]) (RoundV 57 0 lvTI (fun i => stTI m (accA f i).length i) (fun i => hpTI m f t (accA f i).length (wfun (accA f i))) (fun s' => s' = i + 1 ∧ i < m ∧ (runT insA [] (listW f (i + 1))).isSome = true) K Q) := fun r e1 e2 => by
      rw [e1, e2] at hs
      obtain ⟨ys, e⟩ := listW_split f (show i + 1 ≤ m by omega)
      have hn : runT insA [] (listW f m) = none := by rw [e]; exact runT_none _ _ _ _ (by simpa using hs)
      rw [hn] at hk
      exact good_out ⟨_, Hsim.refl _, hk⟩
    simp only [Int.toNat_natCast, Nat.zero_add, badIa_row]
    rw [wr_in (x := (i : Int) + 1) (by omega)]
    refine good_needs (by simp only [ob_cons, ob_nil, and_true, decide_eq_true_eq, allW_row, true_and, beq_me]; omega) ?_
    rcases fstAt_cases (badIa (wfun A) (f i 0)) A.length with ⟨q1, q2⟩ | ⟨i0, q0, q1, q3, q4, q2⟩
    · have hno : ∀ x ∈ A, x.s ≠ (whOf (f i)).s := by
        intro x hx
        obtain ⟨j, hj, rfl⟩ := List.mem_iff_getElem.1 hx
        have := noneTo_get (bad := badIa (wfun A) (f i 0)) q1 hj
        simp only [badIa, wfun_get hj, beq_eq_false_iff_ne] at this
        exact this
      have eS : sumR A (whOf (f i)) = cyAdd cyZ (whOf (f i)).r := by rw [sumR_new hno, cyAdd_zero hw]
      have eI := insA_new hno
      rw [q2]
      refine good_true rfl ?_
      simp only [beq_me, blt_no, cond_true, cond_false]
      refine good_needs (by simp only [ob_cons, ob_nil, and_true, decide_eq_true_eq, Nat.ble_eq]; omega) (good_cond (fun q => ?_) fun q => ?_)
      · refine bad _ eS ?_
        have q' : (!(cyOk (cyAdd cyZ (whOf (f i)).r))) = true := q
        simpa using q'
      · have q0' : (!(cyOk (cyAdd cyZ (whOf (f i)).r))) = false := q
        have q' : cyOk (cyAdd cyZ (whOf (f i)).r) = true := by simpa using q0'
        rw [eS, if_pos q', eI] at hs
        refine good_out ⟨i + 1, ⟨rfl, c1', by rw [hs]; rfl⟩, ?_, ?_⟩
        · show _ = stTI m (accA f (i + 1)).length (i + 1)
          rw [accA_of hs, List.length_append]
          rfl
        · show Hsim _ (hpTI m f t (accA f (i + 1)).length (wfun (accA f (i + 1))))
          rw [accA_of hs, List.length_append]
          refine .cons (ABeq.refl _) (.cons (ABeq.row fun q hq => ?_) .nil)
          exact new_row (fun k hk => by rcases (by omega : k = 0 ∨ k = 1 ∨ k = 2 ∨ k = 3 ∨ k = 4 ∨ k = 5 ∨ k = 6 ∨ k = 7) with rfl | rfl | rfl | rfl | rfl | rfl | rfl | rfl <;> rfl) q hq
    · have hs0 : A[i0].s = (whOf (f i)).s := by
        have := q3
        simp only [badIa, wfun_get q0, beq_iff_eq] at this
        exact this
      have hno : ∀ j (hj : j < i0), (A[j]'(by omega)).s ≠ (whOf (f i)).s := by
        intro j hj
        have := noneTo_get (bad := badIa (wfun A) (f i 0)) q1 hj
        simp only [badIa, wfun_get (show j < A.length by omega), beq_eq_false_iff_ne] at this
        exact this
      have eS := sumR_at q0 hs0 hno
      have eI := insA_at q0 hs0 hno
      rw [q2]
      refine good_false (by simp) ?_
      simp only [Int.toNat_natCast, beq_me, cond_true]
      refine good_needs (by simp only [ob_cons, ob_nil, and_true, decide_eq_true_eq]; omega) (good_cond (fun q => ?_) fun q => ?_)
      · refine bad _ eS ?_
        simp only [wfun_get q0] at q
        have q' : (!(cyOk (cyAdd A[i0].r (whOf (f i)).r))) = true := q
        simpa using q'
      · simp only [wfun_get q0] at q
        have q0' : (!(cyOk (cyAdd A[i0].r (whOf (f i)).r))) = false := q
        have q' : cyOk (cyAdd A[i0].r (whOf (f i)).r) = true := by simpa using q0'
        rw [eS, if_pos q', eI] at hs
        refine good_out ⟨i + 1, ⟨rfl, c1', by rw [hs]; rfl⟩, ?_, ?_⟩
        · show _ = stTI m (accA f (i + 1)).length (i + 1)
          rw [accA_of hs, List.length_set]
          rfl
        · show Hsim _ (hpTI m f t (accA f (i + 1)).length (wfun (accA f (i + 1))))
          rw [accA_of hs, List.length_set]
          refine .cons (ABeq.refl _) (.cons (ABeq.row fun q hq => ?_) .nil)
          refine old_row q0 hs0 (fun k hk => ?_) q
          rw [wfun_get q0]
          rcases (by omega : k = 0 ∨ k = 1 ∨ k = 2 ∨ k = 3 ∨ k = 4 ∨ k = 5 ∨ k = 6 ∨ k = 7) with rfl | rfl | rfl | rfl | rfl | rfl | rfl | rfl <;> rfl
  · have c1 := of_decide_eq_false c1
    have : i = m := by omega
    subst this
    refine good_out ⟨_, Hsim.refl _, ?_⟩
    rw [if_pos rfl]
    rw [hA, eA] at hk
    exact hk

theorem FdelO_eq : FdelO nonZ = F_del := by
  funext l H
  rfl
theorem FdvO_eq : FdvO okD = F_dv := by
  funext l
  rfl
theorem gmTm_ok : GamOk Tryz.prog (gmTm nonZ sortL okD) := by
  unfold gmTm
  rw [FdelO_eq, FdvO_eq]
  exact ext_ok (ext_ok (ext_ok g0_ok ok_dvI) ok_del) ok_sort
noncomputable def inWB (L : List Wh) : Bool := chk (inW L)
/-- The program's tidy design, where there is one; where there is none. -/
def okT (L : List Wh) : Bool := (tidyS L).isSome
abbrev valY (T : List Wh) : AV := .tup [.sl 0 9 0 0 T.length (some T.length), .v (.bool true)]
abbrev valN : AV := .tup [.v (.slice none 0 0), .v (.bool false)]
abbrev newY (T : List Wh) : List AB := [.row true T.length 9 (row9 (wfun T)) 75]
noncomputable def F_tiY : List SA → Option FR
  | [.row m g] => some { val := valY (tidyL (listW (itW g) m)), new := newY (tidyL (listW (itW g) m)), obl := [allW m g, decide (m ≤ 2 ^ 38), inWB (listW (itW g) m), okT (listW (itW g) m)] }
  | _ => none
noncomputable def F_tiN : List SA → Option FR
  | [.row m g] => some { val := valN, obl := [allW m g, decide (m ≤ 2 ^ 38), inWB (listW (itW g) m), !okT (listW (itW g) m)] }
  | _ => none
theorem listW_self (L : List Wh) (n : Nat) (h : L.length = n) : listW (itW (row9 (wfun L))) n = L := by
  subst h
  exact listW_fun L
theorem listW_self0 (L : List Wh) (n : Nat) (h : L.length = n) : listW (itW fun q => row9 (wfun L) (0 + q)) n = L := by
  have : (fun q => row9 (wfun L) (0 + q)) = row9 (wfun L) := by funext q; rw [Nat.zero_add]
  rw [this]
  exact listW_self L n h
theorem sortL_length (L : List Wh) : (sortL L).length = L.length := (sortL_perm L).length_eq
/-- What the program's run comes to. -/
theorem ti_run (m : Nat) (f : Nat → Nat → Int) (t : TypeId) (hm : m ≤ 2 ^ 38) (hin : inW (listW f m)) (Q : Ex → List AV → List AB → Prop)
    (hY : okT (listW f m) = true → ∀ T, tidyL (listW f m) = T → Q .ret [.tup [.sl 1 9 0 0 T.length (some T.length), .v (.bool true)]] [.row false m 9 (row9 f) t, .row true T.length 9 (row9 (wfun T)) 75])
    (hN : okT (listW f m) = false → Q .ret [valN] [.row false m 9 (row9 f) t]) :
    GoodQ (execF Tryz.prog (gmTm nonZ sortL okD) (lamTI m f t (runT insA [] (listW f m)).isSome (accA f m).length (wfun (accA f m))) 100 Tryz.f128 [.sl 0 9 0 0 m none] [.row false m 9 (row9 f) t] (packK 1)) Q := by
  have hte := tidy_eq hin
  rw [treeTI]
  refine good_needs (by rw [ob_cons]; exact ⟨chk_of ⟨rfl, .cons (ABeq.refl _) (.cons (ABeq.row fun j hj => by omega) .nil)⟩, rfl⟩) ?_
  refine good_cond (fun q => ?_) fun q => ?_
  · obtain ⟨A, hA⟩ := Option.isSome_iff_exists.1 q
    have eA := accA_of hA
    have hl : A.length ≤ m := by
      have := runA_len hA
      rw [listW_length] at this
      simpa using this
    rw [hA] at hte
    simp only at hte
    have hz : (nonZ A).length ≤ A.length := List.length_filter_le _ _
    rw [eA, listW_self A _ rfl, listW_self0 (nonZ A) _ rfl, listW_self (nonZ A) _ rfl]
    refine good_needs (by simp only [ob_cons, ob_nil, and_true, decide_eq_true_eq, Nat.ble_eq, allW_row, true_and, beq_me, Nat.zero_add]; omega) (good_cond (fun q2 => ?_) fun q2 => ?_)
    · have q2 : dValid (nonZ A) = false := by
        have q2' : (!dValid (nonZ A)) = true := q2
        simpa using q2'
      rw [if_neg (by rw [q2]; simp)] at hte
      exact good_out (hN (by rw [okT, ← hte]; rfl))
    · have q2 : dValid (nonZ A) = true := by
        have q2' : (!dValid (nonZ A)) = false := q2
        simpa using q2'
      rw [if_pos q2] at hte
      have hlen : (nonZ A).length ≤ 12 := by
        have := q2
        rw [dValid, Bool.and_eq_true] at this
        exact of_decide_eq_true this.1
      have eT : tidyL (listW f m) = sortL (nonZ A) := by rw [tidyL, ← hte]; rfl
      have := hY (by rw [okT, ← hte]; rfl) _ eT
      rw [sortL_length] at this
      refine good_needs (by simp only [ob_cons, ob_nil, and_true, decide_eq_true_eq, Nat.ble_eq, allW_row, true_and]; omega) ?_
      simp only [Int.sub_zero, Int.toNat_natCast]
      exact good_out this
  · have hA : runT insA [] (listW f m) = none := by
      cases h : runT insA [] (listW f m) with
      | none => rfl
      | some A => rw [h] at q; cases q
    rw [hA] at hte
    exact good_out (hN (by rw [okT, ← hte]; rfl))

theorem tiLam (m : Nat) (f : Nat → Nat → Int) (t : TypeId) (hm : m ≤ 2 ^ 38) (hin : inW (listW f m)) : ∀ c, (Tryz.f128).body = some c → LamOk Tryz.prog 1 (lamTI m f t (runT insA [] (listW f m)).isSome (accA f m).length (wfun (accA f m))) c := lam1 (by kernel_rfl) (sumTI m f t hm hin)
theorem ok_tiY : SpecOk Tryz.prog 128 (specR md_ws F_tiY) := by
  refine specR_hr gmTm_ok Tryz.func128 rfl fun sas fr hF ho => ?_
  unfold F_tiY at hF
  split at hF
  · rename_i m g
    cases hF
    simp only [ob_cons] at ho
    obtain ⟨h1, h2, h3, h4, _⟩ := ho
    have hm := of_decide_eq_true h2
    have hin := of_chk h3
    refine ⟨[.row false m 9 (row9 (itW g)) 75], _, 100, .cons (ABeq.row fun j hj => allW_get h1 j hj) .nil, tiLam m (itW g) 75 hm hin, ti_run m (itW g) 75 hm hin _ (fun _ T hT => ?_) fun hN => by rw [hN] at h4; cases h4⟩
    subst hT
    exact ⟨_, rfl, rfl, .cons (ABeq.row fun j hj => (allW_get h1 j hj).symm) (Hsim.refl _)⟩
  · cases hF
theorem ok_tiN : SpecOk Tryz.prog 128 (specR md_ws F_tiN) := by
  refine specR_hr gmTm_ok Tryz.func128 rfl fun sas fr hF ho => ?_
  unfold F_tiN at hF
  split at hF
  · rename_i m g
    cases hF
    simp only [ob_cons] at ho
    obtain ⟨h1, h2, h3, h4, _⟩ := ho
    have hm := of_decide_eq_true h2
    have hin := of_chk h3
    refine ⟨[.row false m 9 (row9 (itW g)) 75], _, 100, .cons (ABeq.row fun j hj => allW_get h1 j hj) .nil, tiLam m (itW g) 75 hm hin, ti_run m (itW g) 75 hm hin _ (fun hY => by rw [hY] at h4; cases h4) fun _ => ?_⟩
    exact ⟨_, rfl, rfl, .cons (ABeq.row fun j hj => (allW_get h1 j hj).symm) .nil⟩
  · cases hF

end Go.Proofs.YtcadinbahmliiaaGreatDoor

/- l2Turned and l2Done, the reference's: their words. Conditions: at most 2^40 steps. -/
namespace Go.Proofs.YtcadinbahmliiaaGreatDoor
open Go.RowKit
set_option maxRecDepth 100000

def fStp (st : (Nat → Int) → Nat → Int) : List Value → Option (Value × List Bool)
  | [.agg ⟨[.int .i64 a0, .int .i64 a1, .int .i64 a2, .int .i64 a3, .int .i64 a4, .int .i64 a5, .int .i64 a6, .int .i64 a7]⟩] => some (cyv (st (v8 a0 a1 a2 a3 a4 a5 a6 a7)), [])
  | _ => none
def gmSt (st : (Nat → Int) → Nat → Int) : Gam := ext g0 186 (specV (fStp st))
abbrev cyC (a : Nat → Int) : List AV := [.v (i64 (a 0)), .v (i64 (a 1)), .v (i64 (a 2)), .v (i64 (a 3)), .v (i64 (a 4)), .v (i64 (a 5)), .v (i64 (a 6)), .v (i64 (a 7))]
abbrev lvTu : Ex → List Nat := lv3 [1, 2, 4, 5] [2, 4] [4]
abbrev hpTu (a : Nat → Int) : List AB := [.cells (cyC a) 73, .cells (cyC fun _ => 0) 73]
abbrev stTu (n : Int) (i : Nat) : List AV := [.v (i64 n), .ptr 0 0 0 0, .ptr 1 0 0 0, .v (i64 i)]
theorem rndTu (st : (Nat → Int) → Nat → Int) (a : Nat → Int) (n : Int) (i : Nat) : execC Tryz.prog (gmSt st) 100 noLam (loopAt 0 Tryz.f141) (mkT 0 14 ((lvTu .normal).zip (stTu n i))) (hpTu a) (leafV 14 lvTu 0)
    = bif decide ((↑i : Int) < n) then Res.out Ex.normal [AV.v (Value.int IntKind.i64 n), AV.ptr (0 : Nat) (0 : Nat) (0 : Nat) (0 : Nat), AV.ptr (1 : Nat) (0 : Nat) (0 : Nat) (0 : Nat), AV.v (Value.int IntKind.i64 (IntKind.wrap IntKind.i64 ((↑i : Int) + (1 : Int))))] [AB.cells [AV.v (Value.int IntKind.i64 (st (w8 a) (0 : Nat))), AV.v (Value.int IntKind.i64 (st (w8 a) (1 : Nat))), AV.v (Value.int IntKind.i64 (st (w8 a) (2 : Nat))), AV.v (Value.int IntKind.i64 (st (w8 a) (3 : Nat))), AV.v (Value.int IntKind.i64 (st (w8 a) (4 : Nat))), AV.v (Value.int IntKind.i64 (st (w8 a) (5 : Nat))), AV.v (Value.int IntKind.i64 (st (w8 a) (6 : Nat))), AV.v (Value.int IntKind.i64 (st (w8 a) (7 : Nat)))] (73 : TypeId), AB.cells [AV.v (Value.int IntKind.i64 (0 : Int)), AV.v (Value.int IntKind.i64 (0 : Int)), AV.v (Value.int IntKind.i64 (0 : Int)), AV.v (Value.int IntKind.i64 (0 : Int)), AV.v (Value.int IntKind.i64 (0 : Int)), AV.v (Value.int IntKind.i64 (0 : Int)), AV.v (Value.int IntKind.i64 (0 : Int)), AV.v (Value.int IntKind.i64 (0 : Int))] (73 : TypeId)] else Res.out (Ex.exit (0 : Nat)) [AV.ptr (0 : Nat) (0 : Nat) (0 : Nat) (0 : Nat), AV.ptr (1 : Nat) (0 : Nat) (0 : Nat) (0 : Nat)] [AB.cells [AV.v (Value.int IntKind.i64 (a (0 : Nat))), AV.v (Value.int IntKind.i64 (a (1 : Nat))), AV.v (Value.int IntKind.i64 (a (2 : Nat))), AV.v (Value.int IntKind.i64 (a (3 : Nat))), AV.v (Value.int IntKind.i64 (a (4 : Nat))), AV.v (Value.int IntKind.i64 (a (5 : Nat))), AV.v (Value.int IntKind.i64 (a (6 : Nat))), AV.v (Value.int IntKind.i64 (a (7 : Nat)))] (73 : TypeId), AB.cells [AV.v (Value.int IntKind.i64 (0 : Int)), AV.v (Value.int IntKind.i64 (0 : Int)), AV.v (Value.int IntKind.i64 (0 : Int)), AV.v (Value.int IntKind.i64 (0 : Int)), AV.v (Value.int IntKind.i64 (0 : Int)), AV.v (Value.int IntKind.i64 (0 : Int)), AV.v (Value.int IntKind.i64 (0 : Int)), AV.v (Value.int IntKind.i64 (0 : Int))] (73 : TypeId)] := by kernel_rfl

noncomputable abbrev lamTu (a : Nat → Int) (n : Int) (b : Nat → Int) : Nat → Option Sum := oneL 0 (atS 14 (lvTu .normal) 0 (stTu n 0) (hpTu a) (fun K => K .normal (mkT 0 14 [(2, .ptr 0 0 0 0), (4, .ptr 1 0 0 0)]) (hpTu b)))
theorem treeTu (st : (Nat → Int) → Nat → Int) (a : Nat → Int) (n : Int) (b : Nat → Int) : execF Tryz.prog (gmSt st) (lamTu a n b) 100 Tryz.f141 [.v (cyv a), .v (i64 n)] [] (packK 0)
    = needs [chk ([AV.v (Value.int IntKind.i64 n), AV.ptr (0 : Nat) (0 : Nat) (0 : Nat) (0 : Nat), AV.ptr (1 : Nat) (0 : Nat) (0 : Nat) (0 : Nat), AV.v (Value.int IntKind.i64 (0 : Int))] = stTu n (0 : Nat) ∧ Hsim [AB.cells [AV.v (Value.int IntKind.i64 (a (0 : Nat))), AV.v (Value.int IntKind.i64 (a (1 : Nat))), AV.v (Value.int IntKind.i64 (a (2 : Nat))), AV.v (Value.int IntKind.i64 (a (3 : Nat))), AV.v (Value.int IntKind.i64 (a (4 : Nat))), AV.v (Value.int IntKind.i64 (a (5 : Nat))), AV.v (Value.int IntKind.i64 (a (6 : Nat))), AV.v (Value.int IntKind.i64 (a (7 : Nat)))] (73 : Nat), AB.cells [AV.v (Value.int IntKind.i64 (0 : Int)), AV.v (Value.int IntKind.i64 (0 : Int)), AV.v (Value.int IntKind.i64 (0 : Int)), AV.v (Value.int IntKind.i64 (0 : Int)), AV.v (Value.int IntKind.i64 (0 : Int)), AV.v (Value.int IntKind.i64 (0 : Int)), AV.v (Value.int IntKind.i64 (0 : Int)), AV.v (Value.int IntKind.i64 (0 : Int))] (73 : Nat)] (hpTu a))] (Res.out Ex.ret [AV.agg [AV.v (Value.int IntKind.i64 (b (0 : Nat))), AV.v (Value.int IntKind.i64 (b (1 : Nat))), AV.v (Value.int IntKind.i64 (b (2 : Nat))), AV.v (Value.int IntKind.i64 (b (3 : Nat))), AV.v (Value.int IntKind.i64 (b (4 : Nat))), AV.v (Value.int IntKind.i64 (b (5 : Nat))), AV.v (Value.int IntKind.i64 (b (6 : Nat))), AV.v (Value.int IntKind.i64 (b (7 : Nat)))]] []) := by kernel_rfl

theorem treeDo (ok : (Nat → Int) → Bool) (a : Nat → Int) : execF Tryz.prog (ext g0 105 (specV (fOkc ok))) noLam 100 Tryz.f103 [.v (cyv a)] [] (packK 0)
    = bif !ok (w8 a) then Res.out Ex.ret [AV.tup [AV.agg [AV.v (Value.int IntKind.i64 (0 : Int)), AV.v (Value.int IntKind.i64 (0 : Int)), AV.v (Value.int IntKind.i64 (0 : Int)), AV.v (Value.int IntKind.i64 (0 : Int)), AV.v (Value.int IntKind.i64 (0 : Int)), AV.v (Value.int IntKind.i64 (0 : Int)), AV.v (Value.int IntKind.i64 (0 : Int)), AV.v (Value.int IntKind.i64 (0 : Int))], AV.v (Value.bool false)]] [] else Res.out Ex.ret [AV.tup [AV.agg [AV.v (Value.int IntKind.i64 (a (0 : Nat))), AV.v (Value.int IntKind.i64 (a (1 : Nat))), AV.v (Value.int IntKind.i64 (a (2 : Nat))), AV.v (Value.int IntKind.i64 (a (3 : Nat))), AV.v (Value.int IntKind.i64 (a (4 : Nat))), AV.v (Value.int IntKind.i64 (a (5 : Nat))), AV.v (Value.int IntKind.i64 (a (6 : Nat))), AV.v (Value.int IntKind.i64 (a (7 : Nat)))], AV.v (Value.bool true)]] [] := by kernel_rfl

theorem fStp_eq : fStp stepF = f_l2Step := by
  funext l
  rfl
theorem gmSt_ok : GamOk Tryz.prog (gmSt stepF) := by
  unfold gmSt
  rw [fStp_eq]
  exact ext_ok g0_ok ok_l2Step
theorem sumTu (a : Nat → Int) (n : Int) (hn : n ≤ 2 ^ 40) :
    SumOk Tryz.prog 0 (.block 0 (.loop (loopAt 0 Tryz.f141))) (atS 14 (lvTu .normal) 0 (stTu n 0) (hpTu a) (fun K => K .normal (mkT 0 14 [(2, .ptr 0 0 0 0), (4, .ptr 1 0 0 0)]) (hpTu (turnedF a n.toNat)))) := by
  refine for_at gmSt_ok (n := 100) (m := 0) (lv := lvTu) (fun i => stTu n i) (fun i => hpTu (turnedF a i)) (fun _ => True) n.toNat (fun _ => noLam) (lv3_ris rfl rfl rfl) (Nat.le_refl _) trivial fun K Q hk i hi him => ⟨noLam_ok _ _ _, ?_⟩
  rw [rndTu]
  refine good_cond (fun c1 => ?_) fun c1 => ?_
  · have c1 := of_decide_eq_true c1
    rw [wr_in (x := (i : Int) + 1) (by omega)]
    exact good_out ⟨i + 1, ⟨rfl, by omega, trivial⟩, rfl, Hsim.refl _⟩
  · have c1 := of_decide_eq_false c1
    have : i = n.toNat := by omega
    subst this
    refine good_out ⟨_, Hsim.refl _, ?_⟩
    rw [if_pos rfl]
    exact hk

def F_turned : List SA → Option FR
  | [.v (.agg ⟨[.int .i64 a0, .int .i64 a1, .int .i64 a2, .int .i64 a3, .int .i64 a4, .int .i64 a5, .int .i64 a6, .int .i64 a7]⟩), .v (.int .i64 n)] => some { val := .agg (cyC (turnedF (v8 a0 a1 a2 a3 a4 a5 a6 a7) n.toNat)), obl := [decide (n ≤ 2 ^ 40)] }
  | _ => none
theorem ok_turnedS : SpecOk Tryz.prog 141 (specR [.val, .val] F_turned) := by
  refine specR_hr gmSt_ok Tryz.func141 rfl fun sas fr hF ho => ?_
  unfold F_turned at hF
  split at hF
  · rename_i a0 a1 a2 a3 a4 a5 a6 a7 n
    cases hF
    simp only [ob_cons] at ho
    have hn := of_decide_eq_true ho.1
    refine ⟨[], lamTu (v8 a0 a1 a2 a3 a4 a5 a6 a7) n (turnedF (v8 a0 a1 a2 a3 a4 a5 a6 a7) n.toNat), 100, .nil, lam1 (by kernel_rfl) (sumTu (v8 a0 a1 a2 a3 a4 a5 a6 a7) n hn), ?_⟩
    show GoodQ (execF Tryz.prog (gmSt stepF) (lamTu (v8 a0 a1 a2 a3 a4 a5 a6 a7) n (turnedF (v8 a0 a1 a2 a3 a4 a5 a6 a7) n.toNat)) 100 Tryz.f141 [.v (cyv (v8 a0 a1 a2 a3 a4 a5 a6 a7)), .v (i64 n)] [] (packK 0)) _
    rw [treeTu]
    exact good_needs (by rw [ob_cons]; exact ⟨chk_of ⟨rfl, Hsim.refl _⟩, rfl⟩) (good_out ⟨_, rfl, rfl, .nil⟩)
  · cases hF

/-- The point, if it is a valid one. -/
def doneC (a : Nat → Int) : Nat → Int := bif cyOk (cyOf a) then a else fun _ => 0
def F_l2Done : List SA → Option FR
  | [.v (.agg ⟨[.int .i64 a0, .int .i64 a1, .int .i64 a2, .int .i64 a3, .int .i64 a4, .int .i64 a5, .int .i64 a6, .int .i64 a7]⟩)] => some { val := .tup [.agg (cyC (doneC (v8 a0 a1 a2 a3 a4 a5 a6 a7))), .v (.bool (cyOk (cyOf (v8 a0 a1 a2 a3 a4 a5 a6 a7))))] }
  | _ => none
theorem ok_l2Done : SpecOk Tryz.prog 103 (specR [.val] F_l2Done) := by
  have hg : GamOk Tryz.prog (ext g0 105 (specV (fOkc fun v => cyOk (cyOf v)))) := by
    rw [fOkc_eq]
    exact ext_ok g0_ok ok_cv
  refine specR_hr hg Tryz.func103 rfl fun sas fr hF ho => ?_
  unfold F_l2Done at hF
  split at hF
  · rename_i a0 a1 a2 a3 a4 a5 a6 a7
    cases hF
    refine ⟨[], noLam, 100, .nil, noLam' _, ?_⟩
    show GoodQ (execF Tryz.prog (ext g0 105 (specV (fOkc fun v => cyOk (cyOf v)))) noLam 100 Tryz.f103 [.v (cyv (v8 a0 a1 a2 a3 a4 a5 a6 a7))] [] (packK 0)) _
    rw [treeDo]
    refine good_cond (fun q => ?_) fun q => ?_
    · have q : cyOk (cyOf (v8 a0 a1 a2 a3 a4 a5 a6 a7)) = false := by
        have q' : (!cyOk (cyOf (v8 a0 a1 a2 a3 a4 a5 a6 a7))) = true := q
        simpa using q'
      refine good_out ⟨_, rfl, ?_, .nil⟩
      rw [doneC, q]
      rfl
    · have q : cyOk (cyOf (v8 a0 a1 a2 a3 a4 a5 a6 a7)) = true := by
        have q' : (!cyOk (cyOf (v8 a0 a1 a2 a3 a4 a5 a6 a7))) = false := q
        simpa using q'
      refine good_out ⟨_, rfl, ?_, .nil⟩
      rw [doneC, q]
      rfl
  · cases hF

end Go.Proofs.YtcadinbahmliiaaGreatDoor

/- root and turned of the program. Conditions: numbers of 64 bits. -/
namespace Go.Proofs.YtcadinbahmliiaaGreatDoor
open Go.RowKit
set_option maxRecDepth 100000

def rootP (t m : Nat) : Int := bif Nat.beq m t then 1 else 0
theorem rootT (n : Int) : execF Tryz.prog g0 noLam 100 Tryz.f188 [.v (.int .i64 n)] [] valK = needs [decide (0 ≤ n), decide (n < 24), decide (n.toNat < 24)] (.out .ret [.agg (cyC (redD (rootP n.toNat) 24 16))] []) := by kernel_rfl
def f_root : List Value → Option (Value × List Bool)
  | [.int .i64 n] => some (cyv (rootF n.toNat), [decide (0 ≤ n), decide (n ≤ (23 : Nat))])
  | _ => none
theorem root_eq : ∀ t, t < 24 → ∀ k, k < 8 → redD (rootP t) 24 16 k = rootF t k := by
  decide +kernel
theorem ok_root : SpecOk Tryz.prog 188 (specV f_root) := by
  refine mkV (n := 100) g0_ok Tryz.func188 rfl fun vs x ob hF ho => ?_
  unfold f_root at hF
  split at hF
  · rename_i n
    simp only [Option.some.injEq, Prod.mk.injEq] at hF
    obtain ⟨rfl, rfl⟩ := hF
    obtain ⟨h0, h1⟩ := obl2 ho
    have h0 := of_decide_eq_true h0
    have h1 := of_decide_eq_true h1
    show Good (execF Tryz.prog g0 noLam 100 Tryz.f188 [.v (.int .i64 n)] [] valK) _
    have c1 : decide (0 ≤ n) = true := decide_eq_true h0
    have c2 : decide (n < 24) = true := decide_eq_true (by omega)
    have c3 : decide (n.toNat < 24) = true := decide_eq_true (by omega)
    rw [rootT, c1, c2, c3, ← cyv_congr (root_eq n.toNat (by omega))]
    exact one rfl
  · cases hF

/-- Numbers of 64 bits. -/
def inB (a : Nat → Int) : Bool := smallF a (-9223372036854775808) 9223372036854775807
def gmTuI (md : Int → Int) (rt : Int → Nat → Int) (mul : (Nat → Int) → (Nat → Int) → Nat → Int) : Gam := ext (ext (ext g0 189 (specV (fun | [.int .i64 n] => some (.int .i64 (md n), [inR n (-9223372036854775808) 9223372036854775807]) | _ => none))) 188 (specV (fun | [.int .i64 n] => some (cyv (rt n), [decide (0 ≤ n), decide (n ≤ (23 : Nat))]) | _ => none))) 187 (specV (fAdd2 mul))
theorem treeTuI (md : Int → Int) (rt : Int → Nat → Int) (mul : (Nat → Int) → (Nat → Int) → Nat → Int) (a : Nat → Int) (n : Int) : execF Tryz.prog (gmTuI md rt mul) noLam 100 Tryz.f144 [.v (cyv a), .v (i64 n)] [] (packK 0)
    = needs [inR n (-9223372036854775808 : Int) (9223372036854775807 : Int), decide ((0 : Int) ≤ md n), decide (md n ≤ (23 : Int))] (Res.out Ex.ret [AV.agg [AV.v (Value.int IntKind.i64 (mul (w8 a) (w8 (rt (md n))) (0 : Nat))), AV.v (Value.int IntKind.i64 (mul (w8 a) (w8 (rt (md n))) (1 : Nat))), AV.v (Value.int IntKind.i64 (mul (w8 a) (w8 (rt (md n))) (2 : Nat))), AV.v (Value.int IntKind.i64 (mul (w8 a) (w8 (rt (md n))) (3 : Nat))), AV.v (Value.int IntKind.i64 (mul (w8 a) (w8 (rt (md n))) (4 : Nat))), AV.v (Value.int IntKind.i64 (mul (w8 a) (w8 (rt (md n))) (5 : Nat))), AV.v (Value.int IntKind.i64 (mul (w8 a) (w8 (rt (md n))) (6 : Nat))), AV.v (Value.int IntKind.i64 (mul (w8 a) (w8 (rt (md n))) (7 : Nat)))]] []) := by kernel_rfl

theorem gmTuI_ok : GamOk Tryz.prog (gmTuI (fun n => n % 24) (fun n => rootF n.toNat) mulF) := by
  have e1 : (fun | [.int .i64 n] => some (.int .i64 (n % 24), [inR n (-9223372036854775808) 9223372036854775807]) | _ => none) = f_turnOf := by funext l; rfl
  have e2 : (fun | [.int .i64 n] => some (cyv (rootF n.toNat), [decide (0 ≤ n), decide (n ≤ (23 : Nat))]) | _ => none) = f_root := by funext l; rfl
  have e3 : fAdd2 mulF = f_times := by funext l; rfl
  unfold gmTuI
  rw [e1, e2, e3]
  exact ext_ok (ext_ok (ext_ok g0_ok ok_turnOf) ok_root) ok_times
/-- Turned, by the program. -/
def FtuI (tu : (Nat → Int) → Int → Nat → Int) : List SA → Option FR
  | [.v (.agg ⟨[.int .i64 a0, .int .i64 a1, .int .i64 a2, .int .i64 a3, .int .i64 a4, .int .i64 a5, .int .i64 a6, .int .i64 a7]⟩), .v (.int .i64 n)] => some { val := .agg (cyC (tu (v8 a0 a1 a2 a3 a4 a5 a6 a7) n)), obl := [inB (v8 a0 a1 a2 a3 a4 a5 a6 a7), inR n (-9223372036854775808) 9223372036854775807] }
  | _ => none
abbrev tuF : (Nat → Int) → Int → Nat → Int := fun a n => turnedF a (n % 24).toNat
theorem ok_tuI : SpecOk Tryz.prog 144 (specR [.val, .val] (FtuI tuF)) := by
  refine specR_hr gmTuI_ok Tryz.func144 rfl fun sas fr hF ho => ?_
  unfold FtuI at hF
  split at hF
  · rename_i a0 a1 a2 a3 a4 a5 a6 a7 n
    cases hF
    simp only [ob_cons] at ho
    obtain ⟨h1, h2, _⟩ := ho
    generalize ha : v8 a0 a1 a2 a3 a4 a5 a6 a7 = a at *
    have hin := smallF_iff.1 h1
    refine ⟨[], noLam, 100, .nil, noLam' _, ?_⟩
    have hav : avC 0 [Md.val, Md.val] [SA.v (.agg ⟨[.int .i64 a0, .int .i64 a1, .int .i64 a2, .int .i64 a3, .int .i64 a4, .int .i64 a5, .int .i64 a6, .int .i64 a7]⟩), SA.v (.int .i64 n)] = [.v (cyv a), .v (i64 n)] := by
      rw [← ha]
      rfl
    rw [hav]
    show GoodQ (execF Tryz.prog (gmTuI (fun n => n % 24) (fun n => rootF n.toNat) mulF) noLam 100 Tryz.f144 [.v (cyv a), .v (i64 n)] [] (packK 0)) _
    rw [treeTuI]
    have e : ∀ k, k < 8 → mulF (w8 a) (w8 (rootF (n % 24).toNat)) k = turnedF a (n % 24).toNat k := by
      intro k hk
      have e1 : mulF (w8 a) (w8 (rootF (n % 24).toNat)) k = mulF a (rootF (n % 24).toNat) k := rfl
      rw [e1, mul_root hin _ k hk]
    simp only [e 0 (by omega), e 1 (by omega), e 2 (by omega), e 3 (by omega), e 4 (by omega), e 5 (by omega), e 6 (by omega), e 7 (by omega)]
    exact good_needs (by simp only [ob_cons, ob_nil, and_true, decide_eq_true_eq]; exact ⟨h2, by omega, by omega⟩) (good_out ⟨_, rfl, rfl, .nil⟩)
  · cases hF

end Go.Proofs.YtcadinbahmliiaaGreatDoor

/- The text of a tidy design, by both sides: trees. Conditions: a list of wheels. -/
namespace Go.Proofs.YtcadinbahmliiaaGreatDoor
open Go.RowKit
set_option maxRecDepth 100000

def fDecO (dc : Int → ByteArray) : List Value → Option (Value × List Bool)
  | [.int .i64 n] => some (.string (dc n), [decide (-9223372036854775808 ≤ n), decide (n ≤ 9223372036854775807)])
  | _ => none
def gmTx (dc : Int → ByteArray) (jn : List ByteArray → ByteArray → ByteArray) : Gam := ext (ext g0 86 (specV (fDecO dc))) 87 (specR [.rd 1 9, .val] (FjoO jn))
def tAt (ws : List ByteArray) (j : Nat) : ByteArray := ws.getD j ⟨#[]⟩
def rowS (ws : List ByteArray) : Nat → List Value := fun j => [.string (tAt ws j)]
abbrev lvTx : Ex → List Nat := lv3 [3, 15, 16, 17] [3] [2]
abbrev hpTx (m : Nat) (f : Nat → Nat → Int) (t : TypeId) (n : Nat) (ws : List ByteArray) : List AB := [.row false m 9 (row9 f) t, .row true n 1 (rowS ws) 9]
abbrev stTx (m n i : Nat) : List AV := [.own 1 n, .sl 0 9 0 0 m none, .v (i64 m), .v (i64 i)]

theorem rndTx (dc : Int → ByteArray) (jn : List ByteArray → ByteArray → ByteArray) (m : Nat) (f : Nat → Nat → Int) (t : TypeId) (n : Nat) (ws : List ByteArray) (i : Nat) : execC Tryz.prog (gmTx dc jn) 200 noLam (loopAt 0 Tryz.f47) (mkT 0 47 ((lvTx .normal).zip (stTx m n i))) (hpTx m f t n ws) (leafV 47 lvTx 1)
    = bif decide ((↑i : Int) < (↑m : Int)) then needs [decide ((↑i : Int) < (↑m : Int)), decide ((0 : Nat) + Int.toNat (↑i : Int) < m), decide ((-9223372036854775808 : Int) ≤ f ((0 : Nat) + Int.toNat (↑i : Int)) (1 : Nat)), decide (f ((0 : Nat) + Int.toNat (↑i : Int)) (1 : Nat) ≤ (9223372036854775807 : Int)), decide ((-9223372036854775808 : Int) ≤ f ((0 : Nat) + Int.toNat (↑i : Int)) (2 : Nat)), decide (f ((0 : Nat) + Int.toNat (↑i : Int)) (2 : Nat) ≤ (9223372036854775807 : Int)), decide ((-9223372036854775808 : Int) ≤ f ((0 : Nat) + Int.toNat (↑i : Int)) (3 : Nat)), decide (f ((0 : Nat) + Int.toNat (↑i : Int)) (3 : Nat) ≤ (9223372036854775807 : Int)), decide ((-9223372036854775808 : Int) ≤ f ((0 : Nat) + Int.toNat (↑i : Int)) (4 : Nat)), decide (f ((0 : Nat) + Int.toNat (↑i : Int)) (4 : Nat) ≤ (9223372036854775807 : Int)), decide ((-9223372036854775808 : Int) ≤ f ((0 : Nat) + Int.toNat (↑i : Int)) (5 : Nat)), decide (f ((0 : Nat) + Int.toNat (↑i : Int)) (5 : Nat) ≤ (9223372036854775807 : Int)), decide ((-9223372036854775808 : Int) ≤ f ((0 : Nat) + Int.toNat (↑i : Int)) (6 : Nat)), decide (f ((0 : Nat) + Int.toNat (↑i : Int)) (6 : Nat) ≤ (9223372036854775807 : Int)), decide ((-9223372036854775808 : Int) ≤ f ((0 : Nat) + Int.toNat (↑i : Int)) (7 : Nat)), decide (f ((0 : Nat) + Int.toNat (↑i : Int)) (7 : Nat) ≤ (9223372036854775807 : Int)), decide ((-9223372036854775808 : Int) ≤ f ((0 : Nat) + Int.toNat (↑i : Int)) (8 : Nat)), decide (f ((0 : Nat) + Int.toNat (↑i : Int)) (8 : Nat) ≤ (9223372036854775807 : Int)), decide ((-9223372036854775808 : Int) ≤ f ((0 : Nat) + Int.toNat (↑i : Int)) (0 : Nat)), decide (f ((0 : Nat) + Int.toNat (↑i : Int)) (0 : Nat) ≤ (9223372036854775807 : Int)), Nat.ble (ByteArray.size (dc (f ((0 : Nat) + Int.toNat (↑i : Int)) (0 : Nat))) + (1 : Nat)) (9223372036854775807 : Nat), Nat.ble (ByteArray.size (jn (strs (fun q ↦ [Value.string (bif Nat.blt q (7 : Nat) then bif Nat.blt q (6 : Nat) then bif Nat.blt q (5 : Nat) then bif Nat.blt q (4 : Nat) then bif Nat.blt q (3 : Nat) then bif Nat.blt q (2 : Nat) then bif Nat.blt q (1 : Nat) then bif Nat.blt q (0 : Nat) then ByteArray.mk (Array.mk []) else dc (f ((0 : Nat) + Int.toNat (↑i : Int)) (1 : Nat)) else dc (f ((0 : Nat) + Int.toNat (↑i : Int)) (2 : Nat)) else dc (f ((0 : Nat) + Int.toNat (↑i : Int)) (3 : Nat)) else dc (f ((0 : Nat) + Int.toNat (↑i : Int)) (4 : Nat)) else dc (f ((0 : Nat) + Int.toNat (↑i : Int)) (5 : Nat)) else dc (f ((0 : Nat) + Int.toNat (↑i : Int)) (6 : Nat)) else dc (f ((0 : Nat) + Int.toNat (↑i : Int)) (7 : Nat)) else dc (f ((0 : Nat) + Int.toNat (↑i : Int)) (8 : Nat)))]) (8 : Nat)) (ByteArray.mk (Array.mk [(44 : UInt8)])))) (140737488355328 : Nat), Nat.ble (ByteArray.size (catB (dc (f ((0 : Nat) + Int.toNat (↑i : Int)) (0 : Nat))) (ByteArray.mk (Array.mk [(58 : UInt8)]))) + ByteArray.size (jn (strs (fun q ↦ [Value.string (bif Nat.blt q (7 : Nat) then bif Nat.blt q (6 : Nat) then bif Nat.blt q (5 : Nat) then bif Nat.blt q (4 : Nat) then bif Nat.blt q (3 : Nat) then bif Nat.blt q (2 : Nat) then bif Nat.blt q (1 : Nat) then bif Nat.blt q (0 : Nat) then ByteArray.mk (Array.mk []) else dc (f ((0 : Nat) + Int.toNat (↑i : Int)) (1 : Nat)) else dc (f ((0 : Nat) + Int.toNat (↑i : Int)) (2 : Nat)) else dc (f ((0 : Nat) + Int.toNat (↑i : Int)) (3 : Nat)) else dc (f ((0 : Nat) + Int.toNat (↑i : Int)) (4 : Nat)) else dc (f ((0 : Nat) + Int.toNat (↑i : Int)) (5 : Nat)) else dc (f ((0 : Nat) + Int.toNat (↑i : Int)) (6 : Nat)) else dc (f ((0 : Nat) + Int.toNat (↑i : Int)) (7 : Nat)) else dc (f ((0 : Nat) + Int.toNat (↑i : Int)) (8 : Nat)))]) (8 : Nat)) (ByteArray.mk (Array.mk [(44 : UInt8)])))) (9223372036854775807 : Nat), Nat.ble n n, Nat.ble (n + (1 : Nat)) (549755813888 : Nat)] (Res.out Ex.normal [AV.own (1 : Nat) (n + (1 : Nat)), AV.sl (0 : Nat) (9 : Nat) (0 : Nat) (0 : Nat) m none, AV.v (Value.int IntKind.i64 (↑m : Int)), AV.v (Value.int IntKind.i64 (IntKind.wrap IntKind.i64 ((↑i : Int) + (1 : Int))))] [AB.row false m (9 : Nat) (row9 f) t, AB.row true (n + (1 : Nat)) (1 : Nat) (fun q ↦ [Value.string (bif Nat.blt q n then tAt ws q else catB (catB (dc (f ((0 : Nat) + Int.toNat (↑i : Int)) (0 : Nat))) (ByteArray.mk (Array.mk [(58 : UInt8)]))) (jn (strs (fun q ↦ [Value.string (bif Nat.blt q (7 : Nat) then bif Nat.blt q (6 : Nat) then bif Nat.blt q (5 : Nat) then bif Nat.blt q (4 : Nat) then bif Nat.blt q (3 : Nat) then bif Nat.blt q (2 : Nat) then bif Nat.blt q (1 : Nat) then bif Nat.blt q (0 : Nat) then ByteArray.mk (Array.mk []) else dc (f ((0 : Nat) + Int.toNat (↑i : Int)) (1 : Nat)) else dc (f ((0 : Nat) + Int.toNat (↑i : Int)) (2 : Nat)) else dc (f ((0 : Nat) + Int.toNat (↑i : Int)) (3 : Nat)) else dc (f ((0 : Nat) + Int.toNat (↑i : Int)) (4 : Nat)) else dc (f ((0 : Nat) + Int.toNat (↑i : Int)) (5 : Nat)) else dc (f ((0 : Nat) + Int.toNat (↑i : Int)) (6 : Nat)) else dc (f ((0 : Nat) + Int.toNat (↑i : Int)) (7 : Nat)) else dc (f ((0 : Nat) + Int.toNat (↑i : Int)) (8 : Nat)))]) (8 : Nat)) (ByteArray.mk (Array.mk [(44 : UInt8)]))))]) (9 : Nat)]) else Res.out (Ex.exit (0 : Nat)) [AV.own (1 : Nat) n] [AB.row false m (9 : Nat) (row9 f) t, AB.row true n (1 : Nat) (rowS ws) (9 : TypeId)] := by kernel_rfl

noncomputable abbrev lamTx (m : Nat) (f : Nat → Nat → Int) (t : TypeId) (ws : List ByteArray) : Nat → Option Sum := oneL 0 (atS 47 (lvTx .normal) 1 (stTx m 0 0) (hpTx m f t 0 []) (fun K => K .normal (mkT 0 47 [(3, .own 1 m)]) (hpTx m f t m ws)))
theorem treeTx (dc : Int → ByteArray) (jn : List ByteArray → ByteArray → ByteArray) (m : Nat) (f : Nat → Nat → Int) (t : TypeId) (ws : List ByteArray) : execF Tryz.prog (gmTx dc jn) (lamTx m f t ws) 200 Tryz.f47 [.sl 0 9 0 0 m none] [.row false m 9 (row9 f) t] (packK 1)
    = bif (↑m : Int) == (0 : Int) then Res.out Ex.ret [AV.v (Value.string (ByteArray.mk (Array.mk [(45 : UInt8)])))] [AB.row false m (9 : Nat) (row9 f) t] else needs [decide ((↑m : Int) ≤ (1099511627776 : Int)), chk ([AV.own (1 : Nat) (0 : Nat), AV.sl (0 : Nat) (9 : Nat) (0 : Nat) (0 : Nat) m none, AV.v (Value.int IntKind.i64 (↑m : Int)), AV.v (Value.int IntKind.i64 (0 : Int))] = stTx m (0 : Nat) (0 : Nat) ∧ Hsim [AB.row false m (9 : Nat) (row9 f) t, AB.row true (0 : Nat) (1 : Nat) (fun _ ↦ [Value.string (ByteArray.mk (Array.mk []))]) (9 : Nat)] (hpTx m f t (0 : Nat) [])), Nat.ble m m, allS m (rowS ws), Nat.ble m (1048576 : Nat), Nat.ble (ByteArray.size (jn (strs (rowS ws) m) (ByteArray.mk (Array.mk [(32 : UInt8)])))) (140737488355328 : Nat)] (Res.out Ex.ret [AV.v (Value.string (jn (strs (rowS ws) m) (ByteArray.mk (Array.mk [(32 : UInt8)]))))] [AB.row false m (9 : Nat) (row9 f) t]) := by kernel_rfl

theorem treeSw (dc : Int → ByteArray) (p : Int → Bool) (a0 a1 a2 a3 a4 a5 a6 a7 a8 : Int) : execF Tryz.prog (gmDec dc p) noLam 200 Tryz.f120 [.v (.agg ⟨[i64 a0, i64 a1, i64 a2, i64 a3, i64 a4, i64 a5, i64 a6, i64 a7, i64 a8]⟩)] [] valK
    = needs [p a0, Nat.ble (ByteArray.size (dc a0) + (1 : Nat)) (9223372036854775807 : Nat), p a1, Nat.ble (ByteArray.size (catB (dc a0) (ByteArray.mk (Array.mk [(58 : UInt8)]))) + ByteArray.size (dc a1)) (9223372036854775807 : Nat), Nat.ble (ByteArray.size (catB (catB (dc a0) (ByteArray.mk (Array.mk [(58 : UInt8)]))) (dc a1)) + (1 : Nat)) (9223372036854775807 : Nat), p a2, Nat.ble (ByteArray.size (catB (catB (catB (dc a0) (ByteArray.mk (Array.mk [(58 : UInt8)]))) (dc a1)) (ByteArray.mk (Array.mk [(44 : UInt8)]))) + ByteArray.size (dc a2)) (9223372036854775807 : Nat), Nat.ble (ByteArray.size (catB (catB (catB (catB (dc a0) (ByteArray.mk (Array.mk [(58 : UInt8)]))) (dc a1)) (ByteArray.mk (Array.mk [(44 : UInt8)]))) (dc a2)) + (1 : Nat)) (9223372036854775807 : Nat), p a3, Nat.ble (ByteArray.size (catB (catB (catB (catB (catB (dc a0) (ByteArray.mk (Array.mk [(58 : UInt8)]))) (dc a1)) (ByteArray.mk (Array.mk [(44 : UInt8)]))) (dc a2)) (ByteArray.mk (Array.mk [(44 : UInt8)]))) + ByteArray.size (dc a3)) (9223372036854775807 : Nat), Nat.ble (ByteArray.size (catB (catB (catB (catB (catB (catB (dc a0) (ByteArray.mk (Array.mk [(58 : UInt8)]))) (dc a1)) (ByteArray.mk (Array.mk [(44 : UInt8)]))) (dc a2)) (ByteArray.mk (Array.mk [(44 : UInt8)]))) (dc a3)) + (1 : Nat)) (9223372036854775807 : Nat), p a4, Nat.ble (ByteArray.size (catB (catB (catB (catB (catB (catB (catB (dc a0) (ByteArray.mk (Array.mk [(58 : UInt8)]))) (dc a1)) (ByteArray.mk (Array.mk [(44 : UInt8)]))) (dc a2)) (ByteArray.mk (Array.mk [(44 : UInt8)]))) (dc a3)) (ByteArray.mk (Array.mk [(44 : UInt8)]))) + ByteArray.size (dc a4)) (9223372036854775807 : Nat), Nat.ble (ByteArray.size (catB (catB (catB (catB (catB (catB (catB (catB (dc a0) (ByteArray.mk (Array.mk [(58 : UInt8)]))) (dc a1)) (ByteArray.mk (Array.mk [(44 : UInt8)]))) (dc a2)) (ByteArray.mk (Array.mk [(44 : UInt8)]))) (dc a3)) (ByteArray.mk (Array.mk [(44 : UInt8)]))) (dc a4)) + (1 : Nat)) (9223372036854775807 : Nat), p a5, Nat.ble (ByteArray.size (catB (catB (catB (catB (catB (catB (catB (catB (catB (dc a0) (ByteArray.mk (Array.mk [(58 : UInt8)]))) (dc a1)) (ByteArray.mk (Array.mk [(44 : UInt8)]))) (dc a2)) (ByteArray.mk (Array.mk [(44 : UInt8)]))) (dc a3)) (ByteArray.mk (Array.mk [(44 : UInt8)]))) (dc a4)) (ByteArray.mk (Array.mk [(44 : UInt8)]))) + ByteArray.size (dc a5)) (9223372036854775807 : Nat), Nat.ble (ByteArray.size (catB (catB (catB (catB (catB (catB (catB (catB (catB (catB (dc a0) (ByteArray.mk (Array.mk [(58 : UInt8)]))) (dc a1)) (ByteArray.mk (Array.mk [(44 : UInt8)]))) (dc a2)) (ByteArray.mk (Array.mk [(44 : UInt8)]))) (dc a3)) (ByteArray.mk (Array.mk [(44 : UInt8)]))) (dc a4)) (ByteArray.mk (Array.mk [(44 : UInt8)]))) (dc a5)) + (1 : Nat)) (9223372036854775807 : Nat), p a6, Nat.ble (ByteArray.size (catB (catB (catB (catB (catB (catB (catB (catB (catB (catB (catB (dc a0) (ByteArray.mk (Array.mk [(58 : UInt8)]))) (dc a1)) (ByteArray.mk (Array.mk [(44 : UInt8)]))) (dc a2)) (ByteArray.mk (Array.mk [(44 : UInt8)]))) (dc a3)) (ByteArray.mk (Array.mk [(44 : UInt8)]))) (dc a4)) (ByteArray.mk (Array.mk [(44 : UInt8)]))) (dc a5)) (ByteArray.mk (Array.mk [(44 : UInt8)]))) + ByteArray.size (dc a6)) (9223372036854775807 : Nat), Nat.ble (ByteArray.size (catB (catB (catB (catB (catB (catB (catB (catB (catB (catB (catB (catB (dc a0) (ByteArray.mk (Array.mk [(58 : UInt8)]))) (dc a1)) (ByteArray.mk (Array.mk [(44 : UInt8)]))) (dc a2)) (ByteArray.mk (Array.mk [(44 : UInt8)]))) (dc a3)) (ByteArray.mk (Array.mk [(44 : UInt8)]))) (dc a4)) (ByteArray.mk (Array.mk [(44 : UInt8)]))) (dc a5)) (ByteArray.mk (Array.mk [(44 : UInt8)]))) (dc a6)) + (1 : Nat)) (9223372036854775807 : Nat), p a7, Nat.ble (ByteArray.size (catB (catB (catB (catB (catB (catB (catB (catB (catB (catB (catB (catB (catB (dc a0) (ByteArray.mk (Array.mk [(58 : UInt8)]))) (dc a1)) (ByteArray.mk (Array.mk [(44 : UInt8)]))) (dc a2)) (ByteArray.mk (Array.mk [(44 : UInt8)]))) (dc a3)) (ByteArray.mk (Array.mk [(44 : UInt8)]))) (dc a4)) (ByteArray.mk (Array.mk [(44 : UInt8)]))) (dc a5)) (ByteArray.mk (Array.mk [(44 : UInt8)]))) (dc a6)) (ByteArray.mk (Array.mk [(44 : UInt8)]))) + ByteArray.size (dc a7)) (9223372036854775807 : Nat), Nat.ble (ByteArray.size (catB (catB (catB (catB (catB (catB (catB (catB (catB (catB (catB (catB (catB (catB (dc a0) (ByteArray.mk (Array.mk [(58 : UInt8)]))) (dc a1)) (ByteArray.mk (Array.mk [(44 : UInt8)]))) (dc a2)) (ByteArray.mk (Array.mk [(44 : UInt8)]))) (dc a3)) (ByteArray.mk (Array.mk [(44 : UInt8)]))) (dc a4)) (ByteArray.mk (Array.mk [(44 : UInt8)]))) (dc a5)) (ByteArray.mk (Array.mk [(44 : UInt8)]))) (dc a6)) (ByteArray.mk (Array.mk [(44 : UInt8)]))) (dc a7)) + (1 : Nat)) (9223372036854775807 : Nat), p a8, Nat.ble (ByteArray.size (catB (catB (catB (catB (catB (catB (catB (catB (catB (catB (catB (catB (catB (catB (catB (dc a0) (ByteArray.mk (Array.mk [(58 : UInt8)]))) (dc a1)) (ByteArray.mk (Array.mk [(44 : UInt8)]))) (dc a2)) (ByteArray.mk (Array.mk [(44 : UInt8)]))) (dc a3)) (ByteArray.mk (Array.mk [(44 : UInt8)]))) (dc a4)) (ByteArray.mk (Array.mk [(44 : UInt8)]))) (dc a5)) (ByteArray.mk (Array.mk [(44 : UInt8)]))) (dc a6)) (ByteArray.mk (Array.mk [(44 : UInt8)]))) (dc a7)) (ByteArray.mk (Array.mk [(44 : UInt8)]))) + ByteArray.size (dc a8)) (9223372036854775807 : Nat)] (Res.out Ex.ret [AV.v (Value.string (catB (catB (catB (catB (catB (catB (catB (catB (catB (catB (catB (catB (catB (catB (catB (catB (dc a0) (ByteArray.mk (Array.mk [(58 : UInt8)]))) (dc a1)) (ByteArray.mk (Array.mk [(44 : UInt8)]))) (dc a2)) (ByteArray.mk (Array.mk [(44 : UInt8)]))) (dc a3)) (ByteArray.mk (Array.mk [(44 : UInt8)]))) (dc a4)) (ByteArray.mk (Array.mk [(44 : UInt8)]))) (dc a5)) (ByteArray.mk (Array.mk [(44 : UInt8)]))) (dc a6)) (ByteArray.mk (Array.mk [(44 : UInt8)]))) (dc a7)) (ByteArray.mk (Array.mk [(44 : UInt8)]))) (dc a8)))] []) := by kernel_rfl

def fWtO (wt : Wh → ByteArray) (okw : Wh → Bool) : List Value → Option (Value × List Bool)
  | [.agg ⟨[.int .i64 a0, .int .i64 a1, .int .i64 a2, .int .i64 a3, .int .i64 a4, .int .i64 a5, .int .i64 a6, .int .i64 a7, .int .i64 a8]⟩] => some (.string (wt ⟨a0, ⟨a1, a2, a3, a4, a5, a6, a7, a8⟩⟩), [okw ⟨a0, ⟨a1, a2, a3, a4, a5, a6, a7, a8⟩⟩])
  | _ => none
def gmSx (wt : Wh → ByteArray) (okw : Wh → Bool) : Gam := ext g0 120 (specV (fWtO wt okw))
abbrev lvSx : Ex → List Nat := lv3 [0, 3, 4] [3] [2]
abbrev hpSx (m : Nat) (f : Nat → Nat → Int) (t : TypeId) : List AB := [.row false m 9 (row9 f) t]
abbrev stSx (m : Nat) (s : ByteArray) (i : Nat) : List AV := [.sl 0 9 0 0 m none, .v (.string s), .v (i64 i)]
theorem rndSx (wt : Wh → ByteArray) (okw : Wh → Bool) (m : Nat) (f : Nat → Nat → Int) (t : TypeId) (s : ByteArray) (i : Nat) : execC Tryz.prog (gmSx wt okw) 100 noLam (loopAt 0 Tryz.f79) (mkT 0 26 ((lvSx .normal).zip (stSx m s i))) (hpSx m f t) (leafV 26 lvSx 1)
    = bif decide ((↑i : Int) < (↑m : Int)) then bif decide ((↑i : Int) > (0 : Int)) then needs [Nat.ble (ByteArray.size s + (1 : Nat)) (9223372036854775807 : Nat), decide ((↑i : Int) < (↑m : Int)), decide ((0 : Nat) + Int.toNat (↑i : Int) < m), okw (Wh.mk (f ((0 : Nat) + Int.toNat (↑i : Int)) (0 : Nat)) (Cy.mk (f ((0 : Nat) + Int.toNat (↑i : Int)) (1 : Nat)) (f ((0 : Nat) + Int.toNat (↑i : Int)) (2 : Nat)) (f ((0 : Nat) + Int.toNat (↑i : Int)) (3 : Nat)) (f ((0 : Nat) + Int.toNat (↑i : Int)) (4 : Nat)) (f ((0 : Nat) + Int.toNat (↑i : Int)) (5 : Nat)) (f ((0 : Nat) + Int.toNat (↑i : Int)) (6 : Nat)) (f ((0 : Nat) + Int.toNat (↑i : Int)) (7 : Nat)) (f ((0 : Nat) + Int.toNat (↑i : Int)) (8 : Nat)))), Nat.ble (ByteArray.size (catB s (ByteArray.mk (Array.mk [(32 : UInt8)]))) + ByteArray.size (wt (Wh.mk (f ((0 : Nat) + Int.toNat (↑i : Int)) (0 : Nat)) (Cy.mk (f ((0 : Nat) + Int.toNat (↑i : Int)) (1 : Nat)) (f ((0 : Nat) + Int.toNat (↑i : Int)) (2 : Nat)) (f ((0 : Nat) + Int.toNat (↑i : Int)) (3 : Nat)) (f ((0 : Nat) + Int.toNat (↑i : Int)) (4 : Nat)) (f ((0 : Nat) + Int.toNat (↑i : Int)) (5 : Nat)) (f ((0 : Nat) + Int.toNat (↑i : Int)) (6 : Nat)) (f ((0 : Nat) + Int.toNat (↑i : Int)) (7 : Nat)) (f ((0 : Nat) + Int.toNat (↑i : Int)) (8 : Nat)))))) (9223372036854775807 : Nat)] (Res.out Ex.normal [AV.sl (0 : Nat) (9 : Nat) (0 : Nat) (0 : Nat) m none, AV.v (Value.string (catB (catB s (ByteArray.mk (Array.mk [(32 : UInt8)]))) (wt (Wh.mk (f ((0 : Nat) + Int.toNat (↑i : Int)) (0 : Nat)) (Cy.mk (f ((0 : Nat) + Int.toNat (↑i : Int)) (1 : Nat)) (f ((0 : Nat) + Int.toNat (↑i : Int)) (2 : Nat)) (f ((0 : Nat) + Int.toNat (↑i : Int)) (3 : Nat)) (f ((0 : Nat) + Int.toNat (↑i : Int)) (4 : Nat)) (f ((0 : Nat) + Int.toNat (↑i : Int)) (5 : Nat)) (f ((0 : Nat) + Int.toNat (↑i : Int)) (6 : Nat)) (f ((0 : Nat) + Int.toNat (↑i : Int)) (7 : Nat)) (f ((0 : Nat) + Int.toNat (↑i : Int)) (8 : Nat))))))), AV.v (Value.int IntKind.i64 (IntKind.wrap IntKind.i64 ((↑i : Int) + (1 : Int))))] [AB.row false m (9 : Nat) (row9 f) t]) else needs [decide ((↑i : Int) < (↑m : Int)), decide ((0 : Nat) + Int.toNat (↑i : Int) < m), okw (Wh.mk (f ((0 : Nat) + Int.toNat (↑i : Int)) (0 : Nat)) (Cy.mk (f ((0 : Nat) + Int.toNat (↑i : Int)) (1 : Nat)) (f ((0 : Nat) + Int.toNat (↑i : Int)) (2 : Nat)) (f ((0 : Nat) + Int.toNat (↑i : Int)) (3 : Nat)) (f ((0 : Nat) + Int.toNat (↑i : Int)) (4 : Nat)) (f ((0 : Nat) + Int.toNat (↑i : Int)) (5 : Nat)) (f ((0 : Nat) + Int.toNat (↑i : Int)) (6 : Nat)) (f ((0 : Nat) + Int.toNat (↑i : Int)) (7 : Nat)) (f ((0 : Nat) + Int.toNat (↑i : Int)) (8 : Nat)))), Nat.ble (ByteArray.size s + ByteArray.size (wt (Wh.mk (f ((0 : Nat) + Int.toNat (↑i : Int)) (0 : Nat)) (Cy.mk (f ((0 : Nat) + Int.toNat (↑i : Int)) (1 : Nat)) (f ((0 : Nat) + Int.toNat (↑i : Int)) (2 : Nat)) (f ((0 : Nat) + Int.toNat (↑i : Int)) (3 : Nat)) (f ((0 : Nat) + Int.toNat (↑i : Int)) (4 : Nat)) (f ((0 : Nat) + Int.toNat (↑i : Int)) (5 : Nat)) (f ((0 : Nat) + Int.toNat (↑i : Int)) (6 : Nat)) (f ((0 : Nat) + Int.toNat (↑i : Int)) (7 : Nat)) (f ((0 : Nat) + Int.toNat (↑i : Int)) (8 : Nat)))))) (9223372036854775807 : Nat)] (Res.out Ex.normal [AV.sl (0 : Nat) (9 : Nat) (0 : Nat) (0 : Nat) m none, AV.v (Value.string (catB s (wt (Wh.mk (f ((0 : Nat) + Int.toNat (↑i : Int)) (0 : Nat)) (Cy.mk (f ((0 : Nat) + Int.toNat (↑i : Int)) (1 : Nat)) (f ((0 : Nat) + Int.toNat (↑i : Int)) (2 : Nat)) (f ((0 : Nat) + Int.toNat (↑i : Int)) (3 : Nat)) (f ((0 : Nat) + Int.toNat (↑i : Int)) (4 : Nat)) (f ((0 : Nat) + Int.toNat (↑i : Int)) (5 : Nat)) (f ((0 : Nat) + Int.toNat (↑i : Int)) (6 : Nat)) (f ((0 : Nat) + Int.toNat (↑i : Int)) (7 : Nat)) (f ((0 : Nat) + Int.toNat (↑i : Int)) (8 : Nat))))))), AV.v (Value.int IntKind.i64 (IntKind.wrap IntKind.i64 ((↑i : Int) + (1 : Int))))] [AB.row false m (9 : Nat) (row9 f) t]) else Res.out (Ex.exit (0 : Nat)) [AV.v (Value.string s)] [AB.row false m (9 : Nat) (row9 f) t] := by kernel_rfl

noncomputable abbrev lamSx (m : Nat) (f : Nat → Nat → Int) (t : TypeId) (s : ByteArray) : Nat → Option Sum := oneL 0 (atS 26 (lvSx .normal) 1 (stSx m ⟨#[]⟩ 0) (hpSx m f t) (fun K => K .normal (mkT 0 26 [(3, .v (.string s))]) (hpSx m f t)))
theorem treeSx (wt : Wh → ByteArray) (okw : Wh → Bool) (m : Nat) (f : Nat → Nat → Int) (t : TypeId) (s : ByteArray) : execF Tryz.prog (gmSx wt okw) (lamSx m f t s) 100 Tryz.f79 [.sl 0 9 0 0 m none] [.row false m 9 (row9 f) t] (packK 1)
    = bif (↑m : Int) == (0 : Int) then Res.out Ex.ret [AV.v (Value.string (ByteArray.mk (Array.mk [(45 : UInt8)])))] [AB.row false m (9 : Nat) (row9 f) t] else needs [chk ([AV.sl (0 : Nat) (9 : Nat) (0 : Nat) (0 : Nat) m none, AV.v (Value.string (ByteArray.mk (Array.mk []))), AV.v (Value.int IntKind.i64 (0 : Int))] = stSx m (ByteArray.mk (Array.mk [])) (0 : Nat) ∧ Hsim [AB.row false m (9 : Nat) (row9 f) t] (hpSx m f t))] (Res.out Ex.ret [AV.v (Value.string s)] [AB.row false m (9 : Nat) (row9 f) t]) := by kernel_rfl

end Go.Proofs.YtcadinbahmliiaaGreatDoor

/- A text cut at a byte, and a number read, by the reference: trees. Conditions: a text. -/
namespace Go.Proofs.YtcadinbahmliiaaGreatDoor
open Go.RowKit
set_option maxRecDepth 100000

abbrev lvCt : Ex → List Nat := lv3 [0, 1, 5, 6, 7] [5] [4]
abbrev hpCt (n : Nat) (ws : List ByteArray) : List AB := [.row true n 1 (rowS ws) 9]
abbrev stCt (s : ByteArray) (c : Int) (n : Nat) (fr i : Int) : List AV := [.v (.string s), .v (.int .u8 c), .own 0 n, .v (i64 fr), .v (i64 i)]
theorem rndCt (s : ByteArray) (c : Int) (n : Nat) (ws : List ByteArray) (fr i : Int) : execC Tryz.prog g0 200 noLam (loopAt 0 Tryz.f68) (mkT 0 36 ((lvCt .normal).zip (stCt s c n fr i))) (hpCt n ws) (leafV 36 lvCt 0)
    = bif decide (i ≤ (↑(ByteArray.size s) : Int)) then bif i == (↑(ByteArray.size s) : Int) then needs [decide ((0 : Int) ≤ fr), decide (fr ≤ i), decide (i ≤ (↑(ByteArray.size s) : Int)), Nat.ble n n, Nat.ble (n + (1 : Nat)) (549755813888 : Nat)] (Res.out Ex.normal [AV.v (Value.string s), AV.v (Value.int IntKind.u8 c), AV.own (0 : Nat) (n + (1 : Nat)), AV.v (Value.int IntKind.i64 (IntKind.wrap IntKind.i64 (i + (1 : Int)))), AV.v (Value.int IntKind.i64 (IntKind.wrap IntKind.i64 (i + (1 : Int))))] [AB.row true (n + (1 : Nat)) (1 : Nat) (fun q ↦ [Value.string (bif Nat.blt q n then tAt ws q else ByteArray.extract s (Int.toNat fr) (Int.toNat i))]) (9 : Nat)]) else needs [decide ((0 : Int) ≤ i), decide (i < (↑(ByteArray.size s) : Int))] (bif byB s i == c then needs [decide ((0 : Int) ≤ fr), decide (fr ≤ i), decide (i ≤ (↑(ByteArray.size s) : Int)), Nat.ble n n, Nat.ble (n + (1 : Nat)) (549755813888 : Nat)] (Res.out Ex.normal [AV.v (Value.string s), AV.v (Value.int IntKind.u8 c), AV.own (0 : Nat) (n + (1 : Nat)), AV.v (Value.int IntKind.i64 (IntKind.wrap IntKind.i64 (i + (1 : Int)))), AV.v (Value.int IntKind.i64 (IntKind.wrap IntKind.i64 (i + (1 : Int))))] [AB.row true (n + (1 : Nat)) (1 : Nat) (fun q ↦ [Value.string (bif Nat.blt q n then tAt ws q else ByteArray.extract s (Int.toNat fr) (Int.toNat i))]) (9 : Nat)]) else Res.out Ex.normal [AV.v (Value.string s), AV.v (Value.int IntKind.u8 c), AV.own (0 : Nat) n, AV.v (Value.int IntKind.i64 fr), AV.v (Value.int IntKind.i64 (IntKind.wrap IntKind.i64 (i + (1 : Int))))] [AB.row true n (1 : Nat) (rowS ws) (9 : TypeId)]) else Res.out (Ex.exit (0 : Nat)) [AV.own (0 : Nat) n] [AB.row true n (1 : Nat) (rowS ws) (9 : TypeId)] := by kernel_rfl

noncomputable abbrev lamCt (s : ByteArray) (c : Int) (m : Nat) (ws : List ByteArray) : Nat → Option Sum := oneL 0 (atS 36 (lvCt .normal) 0 (stCt s c 0 0 0) (hpCt 0 []) (fun K => K .normal (mkT 0 36 [(5, .own 0 m)]) (hpCt m ws)))
theorem treeCt (s : ByteArray) (c : Int) (m : Nat) (ws : List ByteArray) : execF Tryz.prog g0 (lamCt s c m ws) 200 Tryz.f68 [.v (.string s), .v (.int .u8 c)] [] (packK 0)
    = needs [chk ([AV.v (Value.string s), AV.v (Value.int IntKind.u8 c), AV.own (0 : Nat) (0 : Nat), AV.v (Value.int IntKind.i64 (0 : Int)), AV.v (Value.int IntKind.i64 (0 : Int))] = stCt s c (0 : Nat) (0 : Int) (0 : Int) ∧ Hsim [AB.row true (0 : Nat) (1 : Nat) (fun _ ↦ []) (9 : Nat)] (hpCt (0 : Nat) []))] (Res.out Ex.ret [AV.own (0 : Nat) m] [AB.row true m (1 : Nat) (rowS ws) (9 : TypeId)]) := by kernel_rfl

abbrev lvNb : Ex → List Nat := lv3 [0, 3, 4, 5] [3, 4] [2]
abbrev stNb (s : ByteArray) (n g : Int) (i : Int) : List AV := [.v (.string s), .v (i64 n), .v (i64 g), .v (i64 i)]
theorem rndNb (s : ByteArray) (n g i : Int) : execC Tryz.prog g0 200 noLam (loopAt 0 Tryz.f69) (mkT 0 47 ((lvNb .normal).zip (stNb s n g i))) [] (leafV 47 lvNb 0)
    = bif decide (i < (↑(ByteArray.size s) : Int)) then bif decide (i < (9 : Int)) then bif i == (0 : Int) then needs [decide ((0 : Int) ≤ i), decide (i < (↑(ByteArray.size s) : Int))] (bif byB s i == (45 : Int) then Res.out Ex.normal [AV.v (Value.string s), AV.v (Value.int IntKind.i64 n), AV.v (Value.int IntKind.i64 (-1 : Int)), AV.v (Value.int IntKind.i64 (IntKind.wrap IntKind.i64 (i + (1 : Int))))] [] else needs [decide ((0 : Int) ≤ i), decide (i < (↑(ByteArray.size s) : Int))] (bif decide (byB s i ≥ (48 : Int)) then needs [decide ((0 : Int) ≤ i), decide (i < (↑(ByteArray.size s) : Int))] (bif decide (byB s i ≤ (57 : Int)) then needs [decide ((0 : Int) ≤ i), decide (i < (↑(ByteArray.size s) : Int))] (Res.out Ex.normal [AV.v (Value.string s), AV.v (Value.int IntKind.i64 (IntKind.wrap IntKind.i64 (IntKind.wrap IntKind.i64 ((10 : Int) * n) + IntKind.wrap IntKind.i64 (IntKind.wrap IntKind.u8 (byB s i - (48 : Int)))))), AV.v (Value.int IntKind.i64 g), AV.v (Value.int IntKind.i64 (IntKind.wrap IntKind.i64 (i + (1 : Int))))] []) else Res.out Ex.normal [AV.v (Value.string s), AV.v (Value.int IntKind.i64 n), AV.v (Value.int IntKind.i64 g), AV.v (Value.int IntKind.i64 (IntKind.wrap IntKind.i64 (i + (1 : Int))))] []) else Res.out Ex.normal [AV.v (Value.string s), AV.v (Value.int IntKind.i64 n), AV.v (Value.int IntKind.i64 g), AV.v (Value.int IntKind.i64 (IntKind.wrap IntKind.i64 (i + (1 : Int))))] [])) else needs [decide ((0 : Int) ≤ i), decide (i < (↑(ByteArray.size s) : Int))] (bif decide (byB s i ≥ (48 : Int)) then needs [decide ((0 : Int) ≤ i), decide (i < (↑(ByteArray.size s) : Int))] (bif decide (byB s i ≤ (57 : Int)) then needs [decide ((0 : Int) ≤ i), decide (i < (↑(ByteArray.size s) : Int))] (Res.out Ex.normal [AV.v (Value.string s), AV.v (Value.int IntKind.i64 (IntKind.wrap IntKind.i64 (IntKind.wrap IntKind.i64 ((10 : Int) * n) + IntKind.wrap IntKind.i64 (IntKind.wrap IntKind.u8 (byB s i - (48 : Int)))))), AV.v (Value.int IntKind.i64 g), AV.v (Value.int IntKind.i64 (IntKind.wrap IntKind.i64 (i + (1 : Int))))] []) else Res.out Ex.normal [AV.v (Value.string s), AV.v (Value.int IntKind.i64 n), AV.v (Value.int IntKind.i64 g), AV.v (Value.int IntKind.i64 (IntKind.wrap IntKind.i64 (i + (1 : Int))))] []) else Res.out Ex.normal [AV.v (Value.string s), AV.v (Value.int IntKind.i64 n), AV.v (Value.int IntKind.i64 g), AV.v (Value.int IntKind.i64 (IntKind.wrap IntKind.i64 (i + (1 : Int))))] []) else Res.out (Ex.exit (0 : Nat)) [AV.v (Value.int IntKind.i64 n), AV.v (Value.int IntKind.i64 g)] [] else Res.out (Ex.exit (0 : Nat)) [AV.v (Value.int IntKind.i64 n), AV.v (Value.int IntKind.i64 g)] [] := by kernel_rfl

noncomputable abbrev lamNb (s : ByteArray) (n g : Int) : Nat → Option Sum := oneL 0 (atS 47 (lvNb .normal) 0 (stNb s 0 1 0) [] (fun K => K .normal (mkT 0 47 [(3, .v (i64 n)), (4, .v (i64 g))]) []))
theorem treeNb (s : ByteArray) (n g : Int) : execF Tryz.prog g0 (lamNb s n g) 200 Tryz.f69 [.v (.string s)] [] (packK 0)
    = needs [chk ([AV.v (Value.string s), AV.v (Value.int IntKind.i64 (0 : Int)), AV.v (Value.int IntKind.i64 (1 : Int)), AV.v (Value.int IntKind.i64 (0 : Int))] = stNb s (0 : Int) (1 : Int) (0 : Int) ∧ Hsim [] [])] (Res.out Ex.ret [AV.v (Value.int IntKind.i64 (IntKind.wrap IntKind.i64 (g * n)))] []) := by kernel_rfl

end Go.Proofs.YtcadinbahmliiaaGreatDoor

/- 'changed', for each change that the program makes: trees. Conditions: a list of wheels. -/
namespace Go.Proofs.YtcadinbahmliiaaGreatDoor
open Go.RowKit
set_option maxRecDepth 100000

def gmC (_ : (Nat → Int) → Nat → Int) (tu : (Nat → Int) → Int → Nat → Int) : Gam := ext g0 144 (specR [.val, .val] (FtuI tu))
abbrev lvCh : Ex → List Nat := lv3 [1, 6, 15, 16, 17] [6] [4, 5]
def FtiYO (ti : List Wh → List Wh) (okt inw : List Wh → Bool) : List SA → Option FR
  | [.row m g] => some { val := valY (ti (listW (itW g) m)), new := newY (ti (listW (itW g) m)), obl := [allW m g, decide (m ≤ 2 ^ 38), inw (listW (itW g) m), okt (listW (itW g) m)] }
  | _ => none
def FtiNO (okt inw : List Wh → Bool) : List SA → Option FR
  | [.row m g] => some { val := valN, obl := [allW m g, decide (m ≤ 2 ^ 38), inw (listW (itW g) m), !okt (listW (itW g) m)] }
  | _ => none
def gmChY (okd : List Wh → Bool) (ti : List Wh → List Wh) (okt inw : List Wh → Bool) : Gam := ext (ext g0 113 (specR md_ws (FdvO okd))) 128 (specR md_ws (FtiYO ti okt inw))
def gmChN (okd : List Wh → Bool) (okt inw : List Wh → Bool) : Gam := ext (ext g0 113 (specR md_ws (FdvO okd))) 128 (specR md_ws (FtiNO okt inw))

abbrev fnTi : AV := .fn 85 []
abbrev hpCTi (m : Nat) (f : Nat → Nat → Int) (t : TypeId) (n : Nat) (h : Nat → Nat → Int) : List AB := [.row false m 9 (row9 f) t, .row true n 9 (row9 h) 75]
abbrev stCTi (m n i : Nat) : List AV := [fnTi, .own 1 n, .sl 0 9 0 0 m none, .v (i64 m), .v (i64 i)]
theorem rndCTi (mi : (Nat → Int) → Nat → Int) (tu : (Nat → Int) → Int → Nat → Int) (m : Nat) (f : Nat → Nat → Int) (t : TypeId) (n : Nat) (h : Nat → Nat → Int) (i : Nat) : execC Tryz.prog (gmC mi tu) 100 noLam (loopAt 0 Tryz.f84) (mkT 0 32 ((lvCh .normal).zip (stCTi m n i))) (hpCTi m f t n h) (leafV 32 lvCh 1)
    = bif decide ((↑i : Int) < (↑m : Int)) then needs [decide ((↑i : Int) < (↑m : Int)), decide ((0 : Nat) + Int.toNat (↑i : Int) < m), Nat.ble n n, Nat.ble (n + (1 : Nat)) (549755813888 : Nat)] (Res.out Ex.normal [AV.fn (85 : FuncId) [], AV.own (1 : Nat) (n + (1 : Nat)), AV.sl (0 : Nat) (9 : Nat) (0 : Nat) (0 : Nat) m none, AV.v (Value.int IntKind.i64 (↑m : Int)), AV.v (Value.int IntKind.i64 (IntKind.wrap IntKind.i64 ((↑i : Int) + (1 : Int))))] [AB.row false m (9 : Nat) (row9 f) t, AB.row true (n + (1 : Nat)) (9 : Nat) (fun q ↦ [Value.int IntKind.i64 (bif Nat.blt q n then h q (0 : Nat) else f ((0 : Nat) + Int.toNat (↑i : Int)) (0 : Nat)), Value.int IntKind.i64 (bif Nat.blt q n then h q (1 : Nat) else f ((0 : Nat) + Int.toNat (↑i : Int)) (1 : Nat)), Value.int IntKind.i64 (bif Nat.blt q n then h q (2 : Nat) else f ((0 : Nat) + Int.toNat (↑i : Int)) (2 : Nat)), Value.int IntKind.i64 (bif Nat.blt q n then h q (3 : Nat) else f ((0 : Nat) + Int.toNat (↑i : Int)) (3 : Nat)), Value.int IntKind.i64 (bif Nat.blt q n then h q (4 : Nat) else f ((0 : Nat) + Int.toNat (↑i : Int)) (4 : Nat)), Value.int IntKind.i64 (bif Nat.blt q n then h q (5 : Nat) else f ((0 : Nat) + Int.toNat (↑i : Int)) (5 : Nat)), Value.int IntKind.i64 (bif Nat.blt q n then h q (6 : Nat) else f ((0 : Nat) + Int.toNat (↑i : Int)) (6 : Nat)), Value.int IntKind.i64 (bif Nat.blt q n then h q (7 : Nat) else f ((0 : Nat) + Int.toNat (↑i : Int)) (7 : Nat)), Value.int IntKind.i64 (bif Nat.blt q n then h q (8 : Nat) else f ((0 : Nat) + Int.toNat (↑i : Int)) (8 : Nat))]) (75 : Nat)]) else Res.out (Ex.exit (0 : Nat)) [AV.own (1 : Nat) n] [AB.row false m (9 : Nat) (row9 f) t, AB.row true n (9 : Nat) (row9 h) (75 : TypeId)] := by kernel_rfl

noncomputable abbrev lamCTi (m : Nat) (f : Nat → Nat → Int) (t : TypeId) (n : Nat) (h : Nat → Nat → Int) : Nat → Option Sum := oneL 0 (atS 32 (lvCh .normal) 1 (stCTi m 0 0) (hpCTi m f t 0 (wfun [])) (fun K => K .normal (mkT 0 32 [(6, .own 1 n)]) (hpCTi m f t n h)))
theorem treeYTi (okd : List Wh → Bool) (ti : List Wh → List Wh) (okt inw : List Wh → Bool) (m : Nat) (f : Nat → Nat → Int) (t : TypeId) (n : Nat) (h : Nat → Nat → Int) : execF Tryz.prog (gmChY okd ti okt inw) (lamCTi m f t n h) 100 Tryz.f84 [.sl 0 9 0 0 m none, fnTi] [.row false m 9 (row9 f) t] (packK 1)
    = needs [Nat.ble ((0 : Nat) + m) m, allW m fun q ↦ row9 f ((0 : Nat) + q), decide (m ≤ (549755813888 : Nat))] (bif !okd (listW (itW fun q ↦ row9 f ((0 : Nat) + q)) m) then Res.out Ex.ret [AV.tup [AV.v (Value.slice none (0 : Nat) (0 : Nat)), AV.v (Value.bool false)]] [AB.row false m (9 : Nat) (row9 f) t] else needs [decide ((↑m : Int) ≤ (1099511627776 : Int)), chk ([AV.fn (85 : FuncId) [], AV.own (1 : Nat) (0 : Nat), AV.sl (0 : Nat) (9 : Nat) (0 : Nat) (0 : Nat) m none, AV.v (Value.int IntKind.i64 (↑m : Int)), AV.v (Value.int IntKind.i64 (0 : Int))] = stCTi m (0 : Nat) (0 : Nat) ∧ Hsim [AB.row false m (9 : Nat) (row9 f) t, AB.row true (0 : Nat) (9 : Nat) (fun _ ↦ [Value.int IntKind.i64 (0 : Int), Value.int IntKind.i64 (0 : Int), Value.int IntKind.i64 (0 : Int), Value.int IntKind.i64 (0 : Int), Value.int IntKind.i64 (0 : Int), Value.int IntKind.i64 (0 : Int), Value.int IntKind.i64 (0 : Int), Value.int IntKind.i64 (0 : Int), Value.int IntKind.i64 (0 : Int)]) (75 : Nat)] (hpCTi m f t (0 : Nat) (wfun []))), Nat.ble n n, allW n (row9 h), decide (n ≤ (274877906944 : Nat)), inw (listW (itW (row9 h)) n), okt (listW (itW (row9 h)) n)] (Res.out Ex.ret [AV.tup [AV.sl (1 : Nat) (9 : Nat) (0 : Nat) (0 : Nat) (List.length (ti (listW (itW (row9 h)) n))) (some (List.length (ti (listW (itW (row9 h)) n)))), AV.v (Value.bool true)]] [AB.row false m (9 : Nat) (row9 f) t, AB.row true (List.length (ti (listW (itW (row9 h)) n))) (9 : Nat) (row9 (wfun (ti (listW (itW (row9 h)) n)))) (75 : TypeId)])) := by kernel_rfl

theorem treeNTi (okd : List Wh → Bool) (okt inw : List Wh → Bool) (m : Nat) (f : Nat → Nat → Int) (t : TypeId) (n : Nat) (h : Nat → Nat → Int) : execF Tryz.prog (gmChN okd okt inw) (lamCTi m f t n h) 100 Tryz.f84 [.sl 0 9 0 0 m none, fnTi] [.row false m 9 (row9 f) t] (packK 1)
    = needs [Nat.ble ((0 : Nat) + m) m, allW m fun q ↦ row9 f ((0 : Nat) + q), decide (m ≤ (549755813888 : Nat))] (bif !okd (listW (itW fun q ↦ row9 f ((0 : Nat) + q)) m) then Res.out Ex.ret [AV.tup [AV.v (Value.slice none (0 : Nat) (0 : Nat)), AV.v (Value.bool false)]] [AB.row false m (9 : Nat) (row9 f) t] else needs [decide ((↑m : Int) ≤ (1099511627776 : Int)), chk ([AV.fn (85 : FuncId) [], AV.own (1 : Nat) (0 : Nat), AV.sl (0 : Nat) (9 : Nat) (0 : Nat) (0 : Nat) m none, AV.v (Value.int IntKind.i64 (↑m : Int)), AV.v (Value.int IntKind.i64 (0 : Int))] = stCTi m (0 : Nat) (0 : Nat) ∧ Hsim [AB.row false m (9 : Nat) (row9 f) t, AB.row true (0 : Nat) (9 : Nat) (fun _ ↦ [Value.int IntKind.i64 (0 : Int), Value.int IntKind.i64 (0 : Int), Value.int IntKind.i64 (0 : Int), Value.int IntKind.i64 (0 : Int), Value.int IntKind.i64 (0 : Int), Value.int IntKind.i64 (0 : Int), Value.int IntKind.i64 (0 : Int), Value.int IntKind.i64 (0 : Int), Value.int IntKind.i64 (0 : Int)]) (75 : Nat)] (hpCTi m f t (0 : Nat) (wfun []))), Nat.ble n n, allW n (row9 h), decide (n ≤ (274877906944 : Nat)), inw (listW (itW (row9 h)) n), !okt (listW (itW (row9 h)) n)] (Res.out Ex.ret [AV.tup [AV.v (Value.slice none (0 : Nat) (0 : Nat)), AV.v (Value.bool false)]] [AB.row false m (9 : Nat) (row9 f) t])) := by kernel_rfl

end Go.Proofs.YtcadinbahmliiaaGreatDoor

/- 'changed', for each change that the program makes: its words. Conditions: a list of wheels. -/
namespace Go.Proofs.YtcadinbahmliiaaGreatDoor
open Go.RowKit
set_option maxRecDepth 100000

theorem gmC_ok : GamOk Tryz.prog (gmC mirF tuF) := ext_ok g0_ok ok_tuI
theorem ch_row (L : List Wh) (w : Wh) (i : Nat) (hl : L.length = i) (q : Nat) (hq : q < i + 1) : [i64 (bif Nat.blt q i then wfun L q 0 else whN w 0), i64 (bif Nat.blt q i then wfun L q 1 else whN w 1), i64 (bif Nat.blt q i then wfun L q 2 else whN w 2), i64 (bif Nat.blt q i then wfun L q 3 else whN w 3), i64 (bif Nat.blt q i then wfun L q 4 else whN w 4), i64 (bif Nat.blt q i then wfun L q 5 else whN w 5), i64 (bif Nat.blt q i then wfun L q 6 else whN w 6), i64 (bif Nat.blt q i then wfun L q 7 else whN w 7), i64 (bif Nat.blt q i then wfun L q 8 else whN w 8)] = row9 (wfun (L ++ [w])) q := by
  subst hl
  exact row9_snoc L (whN w) q hq
theorem okD_mem {L : List Wh} (h : okD L = true) {w : Wh} (hw : w ∈ L) : (-1000 ≤ w.s ∧ w.s ≤ 1000) ∧ ∀ k, k < 8 → -1000000 ≤ w.r.f k ∧ w.r.f k ≤ 1000000 := by
  rw [okD, Bool.and_eq_true] at h
  have := List.all_eq_true.1 h.2 w hw
  rw [Bool.and_eq_true] at this
  exact ⟨inR_iff.1 this.1, smallF_iff.1 this.2⟩
theorem okD_len {L : List Wh} (h : okD L = true) : L.length ≤ 12 := by
  rw [okD, Bool.and_eq_true] at h
  exact of_decide_eq_true h.1
theorem valid_in {L : List Wh} (h : okD L = true) {w : Wh} (hw : w ∈ L) : cyIn w.r := fun k hk => by
  have := (okD_mem h hw).2 k hk
  omega
theorem valid_inB {L : List Wh} (h : okD L = true) {w : Wh} (hw : w ∈ L) : inB w.r.f = true := smallF_iff.2 (valid_in h hw)
theorem FtiYO_eq : FtiYO tidyL okT inWB = F_tiY := by
  funext l
  rfl
theorem FtiNO_eq : FtiNO okT inWB = F_tiN := by
  funext l
  rfl
theorem gmChY_ok : GamOk Tryz.prog (gmChY okD tidyL okT inWB) := by
  unfold gmChY
  rw [FdvO_eq, FtiYO_eq]
  exact ext_ok (ext_ok g0_ok ok_dvI) ok_tiY
theorem gmChN_ok : GamOk Tryz.prog (gmChN okD okT inWB) := by
  unfold gmChN
  rw [FdvO_eq, FtiNO_eq]
  exact ext_ok (ext_ok g0_ok ok_dvI) ok_tiN
theorem row0 (f : Nat → Nat → Int) : (fun q => row9 f (0 + q)) = row9 f := by
  funext q
  rw [Nat.zero_add]

theorem treeETi (okd : List Wh → Bool) (okt inw : List Wh → Bool) (m : Nat) (f : Nat → Nat → Int) (t : TypeId) : execF Tryz.prog (gmChN okd okt inw) (oneL 0 errS) 100 Tryz.f84 [.sl 0 9 0 0 m none, fnTi] [.row false m 9 (row9 f) t] (packK 1)
    = needs [Nat.ble ((0 : Nat) + m) m, allW m fun q ↦ row9 f ((0 : Nat) + q), decide (m ≤ (549755813888 : Nat))] (bif !okd (listW (itW fun q ↦ row9 f ((0 : Nat) + q)) m) then Res.out Ex.ret [AV.tup [AV.v (Value.slice none (0 : Nat) (0 : Nat)), AV.v (Value.bool false)]] [AB.row false m (9 : Nat) (row9 f) t] else needs [decide ((↑m : Int) ≤ (1099511627776 : Int))] Res.err) := by kernel_rfl

def chTi (w : Wh) : Wh := w
abbrev mpTi : List Wh → List Wh := fun L => L.map chTi
theorem inwTi {L : List Wh} (h : okD L = true) : inW (L.map chTi) := by
  intro w' hw'
  obtain ⟨w, hw, rfl⟩ := List.mem_map.1 hw'
  exact valid_in h hw
theorem sumCTi (m : Nat) (f : Nat → Nat → Int) (t : TypeId) (hm : m ≤ 2 ^ 38) (hok : ∀ w ∈ listW f m, inB w.r.f = true) :
    SumOk Tryz.prog 1 (.block 0 (.loop (loopAt 0 Tryz.f84))) (atS 32 (lvCh .normal) 1 (stCTi m 0 0) (hpCTi m f t 0 (wfun [])) (fun K => K .normal (mkT 0 32 [(6, .own 1 m)]) (hpCTi m f t m (wfun ((listW f m).map chTi))))) := by
  refine for_at gmC_ok (n := 100) (m := 1) (lv := lvCh) (fun i => stCTi m i i) (fun i => hpCTi m f t i (wfun ((listW f i).map chTi))) (fun _ => True) m (fun _ => noLam) (lv3_ris rfl rfl rfl) (Nat.le_refl _) trivial fun K Q hk i hi him => ⟨noLam_ok _ _ _, ?_⟩
  rw [rndCTi]
  refine good_cond (fun c1 => ?_) fun c1 => ?_
  · have c1 := of_decide_eq_true c1
    have c1' : i < m := by omega
    rw [Int.toNat_natCast, Nat.zero_add, wr_in (x := (i : Int) + 1) (by omega)]
    refine good_needs (by simp only [ob_cons, ob_nil, and_true, decide_eq_true_eq, Nat.ble_eq]; omega) (good_out ⟨i + 1, ⟨rfl, c1', trivial⟩, rfl, ?_⟩)
    show Hsim _ (hpCTi m f t (i + 1) (wfun ((listW f (i + 1)).map chTi)))
    rw [listW_succ, List.map_append]
    refine (.cons (ABeq.refl _) (.cons (ABeq.row fun q hq => ?_) .nil))
    exact ch_row _ (chTi (whOf (f i))) i (by rw [List.length_map, listW_length]) q hq
  · have c1 := of_decide_eq_false c1
    have : i = m := by omega
    subst this
    refine good_out ⟨_, Hsim.refl _, ?_⟩
    rw [if_pos rfl]
    exact hk

def FchYTi (okd : List Wh → Bool) (ti : List Wh → List Wh) (okt : List Wh → Bool) (mp : List Wh → List Wh) : List AV → List AB → Option HR
  | [.sl 0 9 0 0 m none, .fn 85 []], [.row false n 9 g t] => some { val := .tup [.sl 1 9 0 0 (ti (mp (listW (itW g) m))).length (some (ti (mp (listW (itW g) m))).length), .v (.bool true)], out := [.row false n 9 g t], new := newY (ti (mp (listW (itW g) m))), obl := [Nat.beq n m, allW m g, decide (m ≤ 2 ^ 38), okd (listW (itW g) m) && okt (mp (listW (itW g) m))] }
  | _, _ => none
def FchNTi (okd : List Wh → Bool) (okt : List Wh → Bool) (mp : List Wh → List Wh) : List AV → List AB → Option HR
  | [.sl 0 9 0 0 m none, .fn 85 []], [.row false n 9 g t] => some { val := valN, out := [.row false n 9 g t], obl := [Nat.beq n m, allW m g, decide (m ≤ 2 ^ 38), !(okd (listW (itW g) m) && okt (mp (listW (itW g) m)))] }
  | _, _ => none
theorem ok_chYTi : SpecOk Tryz.prog 84 (specH [true] (FchYTi okD tidyL okT mpTi)) := by
  refine specH_ok gmChY_ok Tryz.func84 rfl fun avs H hr hF ho => ?_
  unfold FchYTi at hF
  split at hF
  · rename_i m n g t
    cases hF
    simp only [ob_cons] at ho
    obtain ⟨h0, h1, h2, h3, _⟩ := ho
    have h0 := Nat.eq_of_beq_eq_true h0
    subst h0
    have hm := of_decide_eq_true h2
    rw [Bool.and_eq_true] at h3
    obtain ⟨hd, ht⟩ := h3
    have hin := inwTi hd
    have hs := sumCTi n (itW g) t hm (fun w hw => valid_inB hd hw)
    refine ⟨[.row false n 9 (row9 (itW g)) t], lamCTi n (itW g) t n (wfun ((listW (itW g) n).map chTi)), 100, .cons (ABeq.row fun j hj => allW_get h1 j hj) .nil, lam1 (by kernel_rfl) hs, ?_⟩
    show GoodQ (execF Tryz.prog (gmChY okD tidyL okT inWB) (lamCTi n (itW g) t n (wfun ((listW (itW g) n).map chTi))) 100 Tryz.f84 [.sl 0 9 0 0 n none, fnTi] [.row false n 9 (row9 (itW g)) t] (packK 1)) _
    rw [treeYTi, row0, listW_itW, listW_self ((listW (itW g) n).map chTi) n (by rw [List.length_map, listW_length])]
    refine good_needs (by simp only [ob_cons, ob_nil, and_true, decide_eq_true_eq, Nat.ble_eq, allW_row, true_and]; omega) (good_false (by rw [hd]; rfl) (good_needs ?_ (good_out ⟨rfl, .cons (ABeq.row fun j hj => (allW_get h1 j hj).symm) (Hsim.refl _)⟩)))
    simp only [ob_cons, ob_nil, and_true, allW_row]
    exact ⟨decide_eq_true (by omega), chk_of ⟨rfl, (.cons (ABeq.refl _) (.cons (ABeq.row fun j hj => absurd hj (Nat.not_lt_zero _)) .nil))⟩, by simp, trivial, decide_eq_true (by omega), chk_of hin, ht⟩
  · cases hF
theorem ok_chNTi : SpecOk Tryz.prog 84 (specH [true] (FchNTi okD okT mpTi)) := by
  refine specH_ok gmChN_ok Tryz.func84 rfl fun avs H hr hF ho => ?_
  unfold FchNTi at hF
  split at hF
  · rename_i m n g t
    cases hF
    simp only [ob_cons] at ho
    obtain ⟨h0, h1, h2, h3, _⟩ := ho
    have h0 := Nat.eq_of_beq_eq_true h0
    subst h0
    have hm := of_decide_eq_true h2
    cases hd : okD (listW (itW g) n) with
    | false =>
      have hz : SumOk Tryz.prog 1 (.block 0 (.loop (loopAt 0 Tryz.f84))) errS := errS_ok
      refine ⟨[.row false n 9 (row9 (itW g)) t], oneL 0 errS, 100, .cons (ABeq.row fun j hj => allW_get h1 j hj) .nil, lam1 (by kernel_rfl) hz, ?_⟩
      show GoodQ (execF Tryz.prog (gmChN okD okT inWB) (oneL 0 errS) 100 Tryz.f84 [.sl 0 9 0 0 n none, fnTi] [.row false n 9 (row9 (itW g)) t] (packK 1)) _
      rw [treeETi, row0, listW_itW]
      exact good_needs (by simp only [ob_cons, ob_nil, and_true, decide_eq_true_eq, Nat.ble_eq, allW_row, true_and]; omega) (good_true (by rw [hd]; rfl) (good_out ⟨rfl, .cons (ABeq.row fun j hj => (allW_get h1 j hj).symm) .nil⟩))
    | true =>
    rw [hd, Bool.true_and] at h3
    have ht : okT ((listW (itW g) n).map chTi) = false := by simpa using h3
    have hin := inwTi hd
    have hs := sumCTi n (itW g) t hm (fun w hw => valid_inB hd hw)
    refine ⟨[.row false n 9 (row9 (itW g)) t], lamCTi n (itW g) t n (wfun ((listW (itW g) n).map chTi)), 100, .cons (ABeq.row fun j hj => allW_get h1 j hj) .nil, lam1 (by kernel_rfl) hs, ?_⟩
    show GoodQ (execF Tryz.prog (gmChN okD okT inWB) (lamCTi n (itW g) t n (wfun ((listW (itW g) n).map chTi))) 100 Tryz.f84 [.sl 0 9 0 0 n none, fnTi] [.row false n 9 (row9 (itW g)) t] (packK 1)) _
    rw [treeNTi, row0, listW_itW, listW_self ((listW (itW g) n).map chTi) n (by rw [List.length_map, listW_length])]
    refine good_needs (by simp only [ob_cons, ob_nil, and_true, decide_eq_true_eq, Nat.ble_eq, allW_row, true_and]; omega) (good_false (by rw [hd]; rfl) (good_needs ?_ (good_out ⟨rfl, .cons (ABeq.row fun j hj => (allW_get h1 j hj).symm) .nil⟩)))
    simp only [ob_cons, ob_nil, and_true, allW_row]
    exact ⟨decide_eq_true (by omega), chk_of ⟨rfl, (.cons (ABeq.refl _) (.cons (ABeq.row fun j hj => absurd hj (Nat.not_lt_zero _)) .nil))⟩, by simp, trivial, decide_eq_true (by omega), chk_of hin, by rw [ht]; rfl⟩
  · cases hF

end Go.Proofs.YtcadinbahmliiaaGreatDoor
