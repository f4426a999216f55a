/- The frame of a law over an entry. No conditions. -/
import Derived.Test.YtcadinbahmliiaaGreatDoorZD0
import Derived.Test.YtcadinbahmliiaaGreatDoorZD1
import Derived.Test.YtcadinbahmliiaaGreatDoorZD2
import Derived.Test.YtcadinbahmliiaaGreatDoorZD3
import Derived.Test.YtcadinbahmliiaaGreatDoorZD4
import Derived.Test.YtcadinbahmliiaaGreatDoorZD5
import Derived.Test.YtcadinbahmliiaaGreatDoorZD6
/- EntryRight of both: their words; what is drawn: entries. Conditions: none. -/
namespace Go.Proofs.YtcadinbahmliiaaGreatDoor
open Go.RowKit
set_option maxRecDepth 100000

/-- An entry is right. -/
def erB (s : ByteArray) (c : Int) : Bool := yRI s && (ckY (tRI s) && (ckV (tRI s) == c))
def FerO (er : ByteArray → Int → Bool) : List SA → Option FR
  | [.v (.agg ⟨[.string s, .int .u32 c]⟩)] => some { val := .v (.bool (er s c)) }
  | _ => none
theorem tRI_len (s : ByteArray) : (tRI s).length ≤ 12 := by
  unfold tRI
  cases yRI s with
  | true => exact tI_len _
  | false => exact Nat.zero_le _
theorem gmErI_ok : GamOk Tryz.prog (gmErI yRI tRI ckV ckY) := ext_ok (ext_ok g0_ok ok_Ure) ok_ckI
theorem gmErS_ok : GamOk Tryz.prog (gmErS yRS tRS ckV ckY) := ext_ok (ext_ok g0_ok ok_reS) ok_ckS
theorem ok_erI : SpecOk Tryz.prog 13 (specR [.val] (FerO erB)) := by
  refine specR_hr gmErI_ok Tryz.func13 rfl fun sas fr hF ho => ?_
  unfold FerO at hF
  split at hF
  · rename_i s c
    cases hF
    refine ⟨[], noLam, 100, Hsim.refl _, noLam' _, ?_⟩
    show GoodQ (execF Tryz.prog (gmErI yRI tRI ckV ckY) noLam 100 Tryz.f13 [.v (.agg ⟨[.string s, .int .u32 c]⟩)] [] (packK 0)) _
    have fin : ∀ b, erB s c = b → GivR (abP [Md.val] [SA.v (.agg ⟨[.string s, .int .u32 c]⟩)] []) { val := .v (.bool (erB s c)) } .ret [.v (.bool b)] [] := fun b h => ⟨_, by rw [h]; rfl, rfl, Hsim.refl _⟩
    have hl := tRI_len s
    rw [treeErI]
    simp only [row0]
    rw [show listW (itW (row9 (wfun (tRI s)))) (tRI s).length = tRI s from listW_self _ _ rfl]
    refine good_needs (by simp only [ob_cons, ob_nil, and_true, decide_eq_true_eq, Nat.ble_eq, allW_row, true_and]; omega) (good_cond (fun h1 => good_cond (fun h2 => good_out (fin _ ?_)) fun h2 => good_out (fin _ ?_)) fun h1 => good_out (fin _ ?_))
    · rw [erB, h1, h2]; rfl
    · rw [erB, h1, h2]; rfl
    · rw [erB, h1]; rfl
  · cases hF
theorem ok_erS : SpecOk Tryz.prog 11 (specR [.val] (FerO erB)) := by
  refine specR_hr gmErS_ok Tryz.func11 rfl fun sas fr hF ho => ?_
  unfold FerO at hF
  split at hF
  · rename_i s c
    cases hF
    refine ⟨[], noLam, 100, Hsim.refl _, noLam' _, ?_⟩
    show GoodQ (execF Tryz.prog (gmErS yRS tRS ckV ckY) noLam 100 Tryz.f11 [.v (.agg ⟨[.string s, .int .u32 c]⟩)] [] (packK 0)) _
    have fin : ∀ b, erB s c = b → GivR (abP [Md.val] [SA.v (.agg ⟨[.string s, .int .u32 c]⟩)] []) { val := .v (.bool (erB s c)) } .ret [.v (.bool b)] [] := fun b h => ⟨_, by rw [h]; rfl, rfl, Hsim.refl _⟩
    have hl := tRI_len s
    rw [treeErS, (re_rs s).1, (re_rs s).2, show listW (itW (row9 (wfun (tRI s)))) (tRI s).length = tRI s from listW_self _ _ rfl]
    refine good_cond (fun h1 => good_out (fin _ ?_)) fun h1 => good_needs (by simp only [ob_cons, ob_nil, and_true, decide_eq_true_eq, Nat.ble_eq, allW_row, true_and]; omega) (good_cond (fun h2 => good_out (fin _ ?_)) fun h2 => good_out (fin _ ?_))
    · rw [Bool.not_eq_true'] at h1
      rw [erB, h1]; rfl
    · rw [Bool.not_eq_false'] at h1
      rw [erB, h1, h2]; rfl
    · rw [Bool.not_eq_false'] at h1
      rw [erB, h1, h2]; rfl
  · cases hF
/-- EntryMake's word, text and sum apart. -/
def FemT (tx : List Wh → ByteArray) (sm : List Wh → Int) (y : List Wh → Bool) : List SA → Option FR
  | [.row m g] => some { val := .tup [.agg [.v (.string (tx (listW (itW g) m))), .v (.int .u32 (sm (listW (itW g) m)))], .v (.bool (y (listW (itW g) m)))], obl := [allW m g, decide (m ≤ 2 ^ 38)] }
  | _ => none
def emT (L : List Wh) : ByteArray := (emV L).1
def emS (L : List Wh) : Int := (emV L).2
theorem ok_meI : SpecOk Tryz.prog 15 (specR md_ws (FemT emT emS emY)) := ok_emI
theorem ok_meS : SpecOk Tryz.prog 16 (specR md_ws (FemT emT emS emY)) := ok_emS
def gmEn (dl : Nat → (Nat → Int) → Int → List Wh) (dp : Nat → (Nat → Int) → Int → Int) (pk : Nat → (Nat → Int) → Int → Int → Int) (tx : List Wh → ByteArray) (sm : List Wh → Int) (y : List Wh → Bool) : Gam := ext (gmDrE dl dp pk) 16 (specR md_ws (FemT tx sm y))
theorem treeEn (dl : Nat → (Nat → Int) → Int → List Wh) (dp : Nat → (Nat → Int) → Int → Int) (pk : Nat → (Nat → Int) → Int → Int → Int) (tx : List Wh → ByteArray) (sm : List Wh → Int) (y : List Wh → Bool) (l : Nat) (c : Option Nat) (p : Int) (m : Nat) (b : Nat → Int) (tr tb : TypeId) : execF Tryz.prog (gmEn dl dp pk tx sm y) noLam 100 Tryz.f43 [.ptr 0 0 0 0] (hpRd l c p m b tr tb) (packK 2)
    = needs [okB m (rowB b), decide (l ≤ m), decide ((0 : Int) ≤ p), decide (p ≤ (67108864 : Int)), decide ((0 : Nat) < m), decide ((0 : Nat) < m), Nat.ble (List.length (dl l (itB (rowB b)) p)) (List.length (dl l (itB (rowB b)) p)), allW (List.length (dl l (itB (rowB b)) p)) (row9 (wfun (dl l (itB (rowB b)) p))), decide (List.length (dl l (itB (rowB b)) p) ≤ (274877906944 : Nat))] (bif !y (listW (itW (row9 (wfun (dl l (itB (rowB b)) p)))) (List.length (dl l (itB (rowB b)) p))) then Res.out Ex.ret [AV.agg [AV.v (Value.string (ByteArray.mk (Array.mk [(45 : UInt8)]))), AV.v (Value.int IntKind.u32 (5 : Int))]] [AB.cells [AV.sl (1 : Nat) (1 : Nat) (0 : Nat) (0 : Nat) l c, AV.v (Value.int IntKind.i64 (dp l (itB (rowB b)) p))] tr, AB.row false m (1 : Nat) (rowB b) tb] else needs [okB m (rowB b), decide (l ≤ m), decide ((0 : Int) ≤ dp l (itB (rowB b)) p), decide (dp l (itB (rowB b)) p ≤ (1073741824 : Int)), decide ((0 : Nat) < m)] (bif pk l (itB (rowB b)) (dp l (itB (rowB b)) p) (6 : Int) == (0 : Int) then Res.out Ex.ret [AV.agg [AV.v (Value.string (tx (listW (itW (row9 (wfun (dl l (itB (rowB b)) p)))) (List.length (dl l (itB (rowB b)) p))))), AV.v (Value.int IntKind.u32 (IntKind.wrap IntKind.u32 (sm (listW (itW (row9 (wfun (dl l (itB (rowB b)) p)))) (List.length (dl l (itB (rowB b)) p))) + (1 : Int))))]] [AB.cells [AV.sl (1 : Nat) (1 : Nat) (0 : Nat) (0 : Nat) l c, AV.v (Value.int IntKind.i64 (dp l (itB (rowB b)) p + (1 : Int)))] tr, AB.row false m (1 : Nat) (rowB b) tb] else Res.out Ex.ret [AV.agg [AV.v (Value.string (tx (listW (itW (row9 (wfun (dl l (itB (rowB b)) p)))) (List.length (dl l (itB (rowB b)) p))))), AV.v (Value.int IntKind.u32 (sm (listW (itW (row9 (wfun (dl l (itB (rowB b)) p)))) (List.length (dl l (itB (rowB b)) p)))))]] [AB.cells [AV.sl (1 : Nat) (1 : Nat) (0 : Nat) (0 : Nat) l c, AV.v (Value.int IntKind.i64 (dp l (itB (rowB b)) p + (1 : Int)))] tr, AB.row false m (1 : Nat) (rowB b) tb])) := by kernel_rfl

theorem treeEn0 (tx : List Wh → ByteArray) (sm : List Wh → Int) (y : List Wh → Bool) (q : Option Addr) (c : Nat) (g : Nat → List Value) : execF Tryz.prog (ext g0 16 (specR md_ws (FemT tx sm y))) noLam 100 Tryz.f17 [.v (.slice q 0 c)] [.row false 0 1 g 5] (packK 1)
    = bif !y (listW (itW fun _ ↦ [Value.int IntKind.i64 (1001 : Int), Value.int IntKind.i64 (0 : Int), Value.int IntKind.i64 (0 : Int), Value.int IntKind.i64 (0 : Int), Value.int IntKind.i64 (0 : Int), Value.int IntKind.i64 (0 : Int), Value.int IntKind.i64 (0 : Int), Value.int IntKind.i64 (0 : Int), Value.int IntKind.i64 (0 : Int)]) (1 : Nat)) then Res.out Ex.ret [AV.agg [AV.v (Value.string (ByteArray.mk (Array.mk [(45 : UInt8)]))), AV.v (Value.int IntKind.u32 (5 : Int))]] [AB.row false (0 : Nat) (1 : Nat) g (5 : TypeId)] else Res.out Ex.ret [AV.agg [AV.v (Value.string (tx (listW (itW fun _ ↦ [Value.int IntKind.i64 (1001 : Int), Value.int IntKind.i64 (0 : Int), Value.int IntKind.i64 (0 : Int), Value.int IntKind.i64 (0 : Int), Value.int IntKind.i64 (0 : Int), Value.int IntKind.i64 (0 : Int), Value.int IntKind.i64 (0 : Int), Value.int IntKind.i64 (0 : Int), Value.int IntKind.i64 (0 : Int)]) (1 : Nat)))), AV.v (Value.int IntKind.u32 (IntKind.wrap IntKind.u32 (sm (listW (itW fun _ ↦ [Value.int IntKind.i64 (1001 : Int), Value.int IntKind.i64 (0 : Int), Value.int IntKind.i64 (0 : Int), Value.int IntKind.i64 (0 : Int), Value.int IntKind.i64 (0 : Int), Value.int IntKind.i64 (0 : Int), Value.int IntKind.i64 (0 : Int), Value.int IntKind.i64 (0 : Int), Value.int IntKind.i64 (0 : Int)]) (1 : Nat)) + (1 : Int))))]] [AB.row false (0 : Nat) (1 : Nat) g (5 : TypeId)] := by kernel_rfl

end Go.Proofs.YtcadinbahmliiaaGreatDoor

/- What is drawn: entries. Conditions: bytes. -/
namespace Go.Proofs.YtcadinbahmliiaaGreatDoor
open Go.RowKit
set_option maxRecDepth 100000

theorem emY_no : emY noneL = false := by
  rw [emY, show yI noneL = false by unfold yI; rw [show okD noneL = false by decide +kernel]; rfl]
  rfl
/-- An entry, drawn. -/
noncomputable def enT (l : Nat) (b : Nat → Int) (p : Int) : ByteArray := bif emY (ehL l b p) then emT (ehL l b p) else dash
noncomputable def enS (l : Nat) (b : Nat → Int) (p : Int) : Int := bif emY (ehL l b p) then (bif pkV l b (ehP l b p) 6 == 0 then IntKind.wrap IntKind.u32 (emS (ehL l b p) + 1) else emS (ehL l b p)) else 5
noncomputable def enP (l : Nat) (b : Nat → Int) (p : Int) : Int := bif emY (ehL l b p) then ehP l b p + 1 else ehP l b p
def FenO (dt : Nat → (Nat → Int) → Int → ByteArray) (ds dp : Nat → (Nat → Int) → Int → Int) : List AV → List AB → Option HR
  | [.ptr 0 0 0 0], [.cells [.sl 1 1 0 0 l c, .v (.int .i64 p)] tr, .row false m 1 g tb] => some { val := .agg [.v (.string (dt l (itB g) p)), .v (.int .u32 (ds l (itB g) p))], out := [.cells [.sl 1 1 0 0 l c, .v (.int .i64 (dp l (itB g) p))] tr, .row false m 1 g tb], obl := [okB m g, decide (l ≤ m), decide (0 ≤ p), decide (p ≤ 2 ^ 26), decide (0 < m)] }
  | _, _ => none
theorem gmEn_ok : GamOk Tryz.prog (gmEn ehL ehP pkV emT emS emY) := ext_ok gmDrE_ok ok_meS
theorem ok_entry : SpecOk Tryz.prog 43 (specK [] (FenO enT enS enP)) := by
  refine specK_ok gmEn_ok Tryz.func43 rfl fun avs H hr hF ho => ?_
  unfold FenO at hF
  split at hF
  · rename_i l c p tr m g tb
    cases hF
    simp only [ob_cons, decide_eq_true_eq] at ho
    obtain ⟨h1, h2, h3, h4, h5, _⟩ := ho
    have hb := okB_it h1
    refine ⟨hpRd l c p m (itB g) tr tb, noLam, 100, rd_sim h1, noLam' _, ?_⟩
    show GoodQ (execF Tryz.prog (gmEn ehL ehP pkV emT emS emY) noLam 100 Tryz.f43 [.ptr 0 0 0 0] (hpRd l c p m (itB g) tr tb) (packK 2)) _
    have hp := ehP_in l (itB g) p
    have hl := ehL_len l (itB g) p
    have fin : ∀ (x : ByteArray) (y z : Int), enT l (itB g) p = x → enS l (itB g) p = y → enP l (itB g) p = z → GivH { val := .agg [.v (.string (enT l (itB g) p)), .v (.int .u32 (enS l (itB g) p))], out := [.cells [.sl 1 1 0 0 l c, .v (.int .i64 (enP l (itB g) p))] tr, .row false m 1 g tb], obl := [okB m g, decide (l ≤ m), decide (0 ≤ p), decide (p ≤ 2 ^ 26), decide (0 < m)] } .ret [.agg [.v (.string x), .v (.int .u32 y)]] [.cells [.sl 1 1 0 0 l c, .v (i64 z)] tr, .row false m 1 (rowB (itB g)) tb] := fun x y z hx hy hz => by
      subst hx hy hz
      exact ⟨rfl, .cons (ABeq.refl _) (.cons (ABeq.row fun j hj => (okB_get h1 hj).1.symm) .nil)⟩
    rw [treeEn, itB_row, listW_me]
    refine good_needs (by simp only [ob_cons, ob_nil, and_true, decide_eq_true_eq, Nat.ble_eq, allW_row, true_and, hb, b38 hl]; omega) (good_cond (fun q => good_out (fin _ _ _ ?_ ?_ ?_)) fun q => good_needs (by simp only [ob_cons, ob_nil, and_true, decide_eq_true_eq, hb, true_and, and_true]; omega) (good_cond (fun q2 => good_out (fin _ _ _ ?_ ?_ ?_)) fun q2 => good_out (fin _ _ _ ?_ ?_ ?_)))
    · rw [Bool.not_eq_true'] at q; rw [enT, q]; rfl
    · rw [Bool.not_eq_true'] at q; rw [enS, q]; rfl
    · rw [Bool.not_eq_true'] at q; rw [enP, q]; rfl
    · rw [Bool.not_eq_false'] at q; rw [enT, q]; rfl
    · rw [Bool.not_eq_false'] at q; rw [enS, q, q2]; rfl
    · rw [Bool.not_eq_false'] at q; rw [enP, q]; rfl
    · rw [Bool.not_eq_false'] at q; rw [enT, q]; rfl
    · rw [Bool.not_eq_false'] at q; rw [enS, q, q2]; rfl
    · rw [Bool.not_eq_false'] at q; rw [enP, q]; rfl
  · cases hF

def gmREr (dt : Nat → (Nat → Int) → Int → ByteArray) (ds dp : Nat → (Nat → Int) → Int → Int) : Gam := ext g0 43 (specK [] (FenO dt ds dp))
theorem treeREr (dt : Nat → (Nat → Int) → Int → ByteArray) (ds dp : Nat → (Nat → Int) → Int → Int) (m : Nat) (b : Nat → Int) : execF Tryz.prog (gmREr dt ds dp) noLam 100 Tryz.f17 [.sl 0 1 0 0 m none] [.row false m 1 (rowB b) 5] (packK 1)
    = bif decide ((↑m : Int) > (2000 : Int)) then needs [decide ((2000 : Int) ≤ (↑m : Int)), decide ((↑m : Int) ≤ (↑m : Int)), okB m (rowB b), decide (Int.toNat ((2000 : Int) - (0 : Int)) ≤ m), decide ((0 : Nat) < m), decide ((0 : Nat) < m)] (Res.out Ex.ret [AV.agg [AV.v (Value.string (dt (Int.toNat ((2000 : Int) - (0 : Int))) (itB (rowB b)) (0 : Int))), AV.v (Value.int IntKind.u32 (ds (Int.toNat ((2000 : Int) - (0 : Int))) (itB (rowB b)) (0 : Int)))]] [AB.row false m (1 : Nat) (rowB b) (5 : TypeId)]) else needs [okB m (rowB b), decide (m ≤ m), decide ((0 : Nat) < m), decide ((0 : Nat) < m)] (Res.out Ex.ret [AV.agg [AV.v (Value.string (dt m (itB (rowB b)) (0 : Int))), AV.v (Value.int IntKind.u32 (ds m (itB (rowB b)) (0 : Int)))]] [AB.row false m (1 : Nat) (rowB b) (5 : TypeId)]) := by kernel_rfl

def gmLRi (dt : Nat → (Nat → Int) → ByteArray) (ds : Nat → (Nat → Int) → Int) (er : ByteArray → Int → Bool) (yr : ByteArray → Bool) (tr : ByteArray → List Wh) (tx : List Wh → ByteArray) (sm : List Wh → Int) (y : List Wh → Bool) : Gam :=
  ext (ext (ext (ext (ext g0 17 (specR md_co (FdrO fun m b => { val := .agg [.v (.string (dt m b)), .v (.int .u32 (ds m b))] }))) 13 (specR [.val] (FerO er))) 11 (specR [.val] (FerO er))) 18 (specU [.val] (UreO yr tr))) 15 (specR md_ws (FemT tx sm y))
theorem lawRi (dt : Nat → (Nat → Int) → ByteArray) (ds : Nat → (Nat → Int) → Int) (er : ByteArray → Int → Bool) (yr : ByteArray → Bool) (tr : ByteArray → List Wh) (tx : List Wh → ByteArray) (sm : List Wh → Int) (y : List Wh → Bool) (m : Nat) (b : Nat → Int) : execF Tryz.prog (gmLRi dt ds er yr tr tx sm y) noLam 100 Tryz.f5 [.sl 0 1 0 0 m none] [.row false m 1 (rowB b) 5] (packK 1)
    = bif decide ((↑m : Int) > (1048576 : Int)) then Res.out Ex.ret [AV.v (Value.bool true)] [AB.row false m (1 : Nat) (rowB b) (5 : TypeId)] else needs [Nat.ble ((0 : Nat) + m) m, okB m fun q ↦ rowB b ((0 : Nat) + q), decide (m ≤ (2097152 : Nat))] (bif !er (dt m (itB fun q ↦ rowB b ((0 : Nat) + q))) (ds m (itB fun q ↦ rowB b ((0 : Nat) + q))) == er (dt m (itB fun q ↦ rowB b ((0 : Nat) + q))) (ds m (itB fun q ↦ rowB b ((0 : Nat) + q))) then Res.out Ex.ret [AV.v (Value.bool (er (dt m (itB fun q ↦ rowB b ((0 : Nat) + q))) (ds m (itB fun q ↦ rowB b ((0 : Nat) + q))) == er (dt m (itB fun q ↦ rowB b ((0 : Nat) + q))) (ds m (itB fun q ↦ rowB b ((0 : Nat) + q)))))] [AB.row false m (1 : Nat) (rowB b) (5 : TypeId)] else bif !er (dt m (itB fun q ↦ rowB b ((0 : Nat) + q))) (ds m (itB fun q ↦ rowB b ((0 : Nat) + q))) then Res.out Ex.ret [AV.v (Value.bool (er (dt m (itB fun q ↦ rowB b ((0 : Nat) + q))) (ds m (itB fun q ↦ rowB b ((0 : Nat) + q))) == er (dt m (itB fun q ↦ rowB b ((0 : Nat) + q))) (ds m (itB fun q ↦ rowB b ((0 : Nat) + q)))))] [AB.row false m (1 : Nat) (rowB b) (5 : TypeId)] else needs [Nat.ble ((0 : Nat) + List.length (tr (dt m (itB fun q ↦ rowB b ((0 : Nat) + q))))) (List.length (tr (dt m (itB fun q ↦ rowB b ((0 : Nat) + q))))), allW (List.length (tr (dt m (itB fun q ↦ rowB b ((0 : Nat) + q))))) fun q ↦ row9 (wfun (tr (dt m (itB fun q ↦ rowB b ((0 : Nat) + q))))) ((0 : Nat) + q), decide (List.length (tr (dt m (itB fun q ↦ rowB b ((0 : Nat) + q)))) ≤ (274877906944 : Nat))] (bif yr (dt m (itB fun q ↦ rowB b ((0 : Nat) + q))) then bif y (listW (itW fun q ↦ row9 (wfun (tr (dt m (itB fun q ↦ rowB b ((0 : Nat) + q))))) ((0 : Nat) + q)) (List.length (tr (dt m (itB fun q ↦ rowB b ((0 : Nat) + q)))))) then Res.out Ex.ret [AV.v (Value.bool (eqB (tx (listW (itW fun q ↦ row9 (wfun (tr (dt m (itB fun q ↦ rowB b ((0 : Nat) + q))))) ((0 : Nat) + q)) (List.length (tr (dt m (itB fun q ↦ rowB b ((0 : Nat) + q))))))) (dt m (itB fun q ↦ rowB b ((0 : Nat) + q))) && (sm (listW (itW fun q ↦ row9 (wfun (tr (dt m (itB fun q ↦ rowB b ((0 : Nat) + q))))) ((0 : Nat) + q)) (List.length (tr (dt m (itB fun q ↦ rowB b ((0 : Nat) + q)))))) == ds m (itB fun q ↦ rowB b ((0 : Nat) + q)) && true)))] [AB.row false m (1 : Nat) (rowB b) (5 : TypeId)] else Res.out Ex.ret [AV.v (Value.bool false)] [AB.row false m (1 : Nat) (rowB b) (5 : TypeId)] else Res.out Ex.ret [AV.v (Value.bool false)] [AB.row false m (1 : Nat) (rowB b) (5 : TypeId)])) := by kernel_rfl

def gmLEn (dl : Nat → (Nat → Int) → List Wh) (er : ByteArray → Int → Bool) (tx : List Wh → ByteArray) (sm : List Wh → Int) (y : List Wh → Bool) : Gam :=
  ext (ext (ext (ext g0 14 (specR md_co (FdrO fun m b => frL (dl m b)))) 15 (specR md_ws (FemT tx sm y))) 16 (specR md_ws (FemT tx sm y))) 13 (specR [.val] (FerO er))
theorem lawEn (dl : Nat → (Nat → Int) → List Wh) (er : ByteArray → Int → Bool) (tx : List Wh → ByteArray) (sm : List Wh → Int) (y : List Wh → Bool) (m : Nat) (b : Nat → Int) : execF Tryz.prog (gmLEn dl er tx sm y) noLam 100 Tryz.f4 [.sl 0 1 0 0 m none] [.row false m 1 (rowB b) 5] (packK 1)
    = bif decide ((↑m : Int) > (1048576 : Int)) then Res.out Ex.ret [AV.v (Value.bool true)] [AB.row false m (1 : Nat) (rowB b) (5 : TypeId)] else needs [Nat.ble ((0 : Nat) + m) m, okB m fun q ↦ rowB b ((0 : Nat) + q), decide (m ≤ (2097152 : Nat)), Nat.ble (List.length (dl m (itB fun q ↦ rowB b ((0 : Nat) + q)))) (List.length (dl m (itB fun q ↦ rowB b ((0 : Nat) + q)))), allW (List.length (dl m (itB fun q ↦ rowB b ((0 : Nat) + q)))) (row9 (wfun (dl m (itB fun q ↦ rowB b ((0 : Nat) + q))))), decide (List.length (dl m (itB fun q ↦ rowB b ((0 : Nat) + q))) ≤ (274877906944 : Nat)), Nat.ble (List.length (dl m (itB fun q ↦ rowB b ((0 : Nat) + q)))) (List.length (dl m (itB fun q ↦ rowB b ((0 : Nat) + q)))), allW (List.length (dl m (itB fun q ↦ rowB b ((0 : Nat) + q)))) (row9 (wfun (dl m (itB fun q ↦ rowB b ((0 : Nat) + q))))), decide (List.length (dl m (itB fun q ↦ rowB b ((0 : Nat) + q))) ≤ (274877906944 : Nat))] (bif !y (listW (itW (row9 (wfun (dl m (itB fun q ↦ rowB b ((0 : Nat) + q)))))) (List.length (dl m (itB fun q ↦ rowB b ((0 : Nat) + q))))) == y (listW (itW (row9 (wfun (dl m (itB fun q ↦ rowB b ((0 : Nat) + q)))))) (List.length (dl m (itB fun q ↦ rowB b ((0 : Nat) + q))))) then bif y (listW (itW (row9 (wfun (dl m (itB fun q ↦ rowB b ((0 : Nat) + q)))))) (List.length (dl m (itB fun q ↦ rowB b ((0 : Nat) + q))))) == y (listW (itW (row9 (wfun (dl m (itB fun q ↦ rowB b ((0 : Nat) + q)))))) (List.length (dl m (itB fun q ↦ rowB b ((0 : Nat) + q))))) then Res.out Ex.ret [AV.v (Value.bool (eqB (tx (listW (itW (row9 (wfun (dl m (itB fun q ↦ rowB b ((0 : Nat) + q)))))) (List.length (dl m (itB fun q ↦ rowB b ((0 : Nat) + q)))))) (tx (listW (itW (row9 (wfun (dl m (itB fun q ↦ rowB b ((0 : Nat) + q)))))) (List.length (dl m (itB fun q ↦ rowB b ((0 : Nat) + q)))))) && (sm (listW (itW (row9 (wfun (dl m (itB fun q ↦ rowB b ((0 : Nat) + q)))))) (List.length (dl m (itB fun q ↦ rowB b ((0 : Nat) + q))))) == sm (listW (itW (row9 (wfun (dl m (itB fun q ↦ rowB b ((0 : Nat) + q)))))) (List.length (dl m (itB fun q ↦ rowB b ((0 : Nat) + q))))) && true)))] [AB.row false m (1 : Nat) (rowB b) (5 : TypeId)] else Res.out Ex.ret [AV.v (Value.bool false)] [AB.row false m (1 : Nat) (rowB b) (5 : TypeId)] else bif !(eqB (tx (listW (itW (row9 (wfun (dl m (itB fun q ↦ rowB b ((0 : Nat) + q)))))) (List.length (dl m (itB fun q ↦ rowB b ((0 : Nat) + q)))))) (tx (listW (itW (row9 (wfun (dl m (itB fun q ↦ rowB b ((0 : Nat) + q)))))) (List.length (dl m (itB fun q ↦ rowB b ((0 : Nat) + q)))))) && (sm (listW (itW (row9 (wfun (dl m (itB fun q ↦ rowB b ((0 : Nat) + q)))))) (List.length (dl m (itB fun q ↦ rowB b ((0 : Nat) + q))))) == sm (listW (itW (row9 (wfun (dl m (itB fun q ↦ rowB b ((0 : Nat) + q)))))) (List.length (dl m (itB fun q ↦ rowB b ((0 : Nat) + q))))) && true)) then bif y (listW (itW (row9 (wfun (dl m (itB fun q ↦ rowB b ((0 : Nat) + q)))))) (List.length (dl m (itB fun q ↦ rowB b ((0 : Nat) + q))))) == y (listW (itW (row9 (wfun (dl m (itB fun q ↦ rowB b ((0 : Nat) + q)))))) (List.length (dl m (itB fun q ↦ rowB b ((0 : Nat) + q))))) then Res.out Ex.ret [AV.v (Value.bool (eqB (tx (listW (itW (row9 (wfun (dl m (itB fun q ↦ rowB b ((0 : Nat) + q)))))) (List.length (dl m (itB fun q ↦ rowB b ((0 : Nat) + q)))))) (tx (listW (itW (row9 (wfun (dl m (itB fun q ↦ rowB b ((0 : Nat) + q)))))) (List.length (dl m (itB fun q ↦ rowB b ((0 : Nat) + q)))))) && (sm (listW (itW (row9 (wfun (dl m (itB fun q ↦ rowB b ((0 : Nat) + q)))))) (List.length (dl m (itB fun q ↦ rowB b ((0 : Nat) + q))))) == sm (listW (itW (row9 (wfun (dl m (itB fun q ↦ rowB b ((0 : Nat) + q)))))) (List.length (dl m (itB fun q ↦ rowB b ((0 : Nat) + q))))) && true)))] [AB.row false m (1 : Nat) (rowB b) (5 : TypeId)] else Res.out Ex.ret [AV.v (Value.bool false)] [AB.row false m (1 : Nat) (rowB b) (5 : TypeId)] else bif !y (listW (itW (row9 (wfun (dl m (itB fun q ↦ rowB b ((0 : Nat) + q)))))) (List.length (dl m (itB fun q ↦ rowB b ((0 : Nat) + q))))) then bif y (listW (itW (row9 (wfun (dl m (itB fun q ↦ rowB b ((0 : Nat) + q)))))) (List.length (dl m (itB fun q ↦ rowB b ((0 : Nat) + q))))) == y (listW (itW (row9 (wfun (dl m (itB fun q ↦ rowB b ((0 : Nat) + q)))))) (List.length (dl m (itB fun q ↦ rowB b ((0 : Nat) + q))))) then Res.out Ex.ret [AV.v (Value.bool (eqB (tx (listW (itW (row9 (wfun (dl m (itB fun q ↦ rowB b ((0 : Nat) + q)))))) (List.length (dl m (itB fun q ↦ rowB b ((0 : Nat) + q)))))) (tx (listW (itW (row9 (wfun (dl m (itB fun q ↦ rowB b ((0 : Nat) + q)))))) (List.length (dl m (itB fun q ↦ rowB b ((0 : Nat) + q)))))) && (sm (listW (itW (row9 (wfun (dl m (itB fun q ↦ rowB b ((0 : Nat) + q)))))) (List.length (dl m (itB fun q ↦ rowB b ((0 : Nat) + q))))) == sm (listW (itW (row9 (wfun (dl m (itB fun q ↦ rowB b ((0 : Nat) + q)))))) (List.length (dl m (itB fun q ↦ rowB b ((0 : Nat) + q))))) && true)))] [AB.row false m (1 : Nat) (rowB b) (5 : TypeId)] else Res.out Ex.ret [AV.v (Value.bool false)] [AB.row false m (1 : Nat) (rowB b) (5 : TypeId)] else bif er (tx (listW (itW (row9 (wfun (dl m (itB fun q ↦ rowB b ((0 : Nat) + q)))))) (List.length (dl m (itB fun q ↦ rowB b ((0 : Nat) + q)))))) (sm (listW (itW (row9 (wfun (dl m (itB fun q ↦ rowB b ((0 : Nat) + q)))))) (List.length (dl m (itB fun q ↦ rowB b ((0 : Nat) + q)))))) then Res.out Ex.ret [AV.v (Value.bool !er (tx (listW (itW (row9 (wfun (dl m (itB fun q ↦ rowB b ((0 : Nat) + q)))))) (List.length (dl m (itB fun q ↦ rowB b ((0 : Nat) + q)))))) (IntKind.wrap IntKind.u32 (sm (listW (itW (row9 (wfun (dl m (itB fun q ↦ rowB b ((0 : Nat) + q)))))) (List.length (dl m (itB fun q ↦ rowB b ((0 : Nat) + q))))) + (1 : Int))))] [AB.row false m (1 : Nat) (rowB b) (5 : TypeId)] else Res.out Ex.ret [AV.v (Value.bool false)] [AB.row false m (1 : Nat) (rowB b) (5 : TypeId)]) := by kernel_rfl

theorem treeREm (dl : Nat → (Nat → Int) → Int → List Wh) (dp : Nat → (Nat → Int) → Int → Int) (pk : Nat → (Nat → Int) → Int → Int → Int) (m : Nat) (b : Nat → Int) : execF Tryz.prog (gmDrE dl dp pk) noLam 100 Tryz.f14 [.sl 0 1 0 0 m none] [.row false m 1 (rowB b) 5] (packK 1)
    = bif decide ((↑m : Int) > (2000 : Int)) then needs [decide ((2000 : Int) ≤ (↑m : Int)), decide ((↑m : Int) ≤ (↑m : Int)), okB m (rowB b), decide (Int.toNat ((2000 : Int) - (0 : Int)) ≤ m), decide ((0 : Nat) < m), decide ((0 : Nat) < m)] (Res.out Ex.ret [AV.own (1 : Nat) (List.length (dl (Int.toNat ((2000 : Int) - (0 : Int))) (itB (rowB b)) (0 : Int)))] [AB.row false m (1 : Nat) (rowB b) (5 : TypeId), AB.row true (List.length (dl (Int.toNat ((2000 : Int) - (0 : Int))) (itB (rowB b)) (0 : Int))) (9 : Nat) (row9 (wfun (dl (Int.toNat ((2000 : Int) - (0 : Int))) (itB (rowB b)) (0 : Int)))) (75 : TypeId)]) else needs [okB m (rowB b), decide (m ≤ m), decide ((0 : Nat) < m), decide ((0 : Nat) < m)] (Res.out Ex.ret [AV.own (1 : Nat) (List.length (dl m (itB (rowB b)) (0 : Int)))] [AB.row false m (1 : Nat) (rowB b) (5 : TypeId), AB.row true (List.length (dl m (itB (rowB b)) (0 : Int))) (9 : Nat) (row9 (wfun (dl m (itB (rowB b)) (0 : Int)))) (75 : TypeId)]) := by kernel_rfl

theorem treeREm0 (q : Option Addr) (c : Nat) (g : Nat → List Value) : execF Tryz.prog g0 noLam 100 Tryz.f14 [.v (.slice q 0 c)] [.row false 0 1 g 5] (packK 1)
    = Res.out Ex.ret [AV.own (1 : Nat) (1 : Nat)] [AB.row false (0 : Nat) (1 : Nat) g (5 : TypeId), AB.row true (1 : Nat) (9 : Nat) (fun _ ↦ [Value.int IntKind.i64 (1001 : Int), Value.int IntKind.i64 (0 : Int), Value.int IntKind.i64 (0 : Int), Value.int IntKind.i64 (0 : Int), Value.int IntKind.i64 (0 : Int), Value.int IntKind.i64 (0 : Int), Value.int IntKind.i64 (0 : Int), Value.int IntKind.i64 (0 : Int), Value.int IntKind.i64 (0 : Int)]) (75 : Nat)] := by kernel_rfl

theorem lawXr (er : ByteArray → Int → Bool) (s : ByteArray) (c : Int) : execF Tryz.prog (ext (ext g0 13 (specR [.val] (FerO er))) 11 (specR [.val] (FerO er))) noLam 100 Tryz.f3 [.v (.agg ⟨[.string s, .int .u32 c]⟩)] [] (packK 0)
    = bif decide (IntKind.wrap IntKind.i64 ((1048576 : Int) - (↑(ByteArray.size s) : Int)) < (0 : Int)) then Res.out Ex.ret [AV.v (Value.bool true)] [] else bif decide (IntKind.wrap IntKind.i64 ((1048576 : Int) - (↑(ByteArray.size s) : Int)) < (0 : Int)) then Res.out Ex.ret [AV.v (Value.bool true)] [] else bif !er s c == er s c then Res.out Ex.ret [AV.v (Value.bool false)] [] else Res.out Ex.ret [AV.v (Value.bool true)] [] := by kernel_rfl

end Go.Proofs.YtcadinbahmliiaaGreatDoor

/- DrawDesignCheck: a list of wheels. Conditions: bytes, at most 2^21. -/
namespace Go.Proofs.YtcadinbahmliiaaGreatDoor
open Go.RowKit
set_option maxRecDepth 100000

end Go.Proofs.YtcadinbahmliiaaGreatDoor

/- The greatest common divisor, of both. Conditions: numbers up to 10^12. -/
namespace Go.Proofs.YtcadinbahmliiaaGreatDoor
open Go.RowKit
set_option maxRecDepth 100000

end Go.Proofs.YtcadinbahmliiaaGreatDoor

/- DesignPeriod and DesignFold of both: trees. Conditions: a list of wheels. -/
namespace Go.Proofs.YtcadinbahmliiaaGreatDoor
open Go.RowKit
set_option maxRecDepth 100000

end Go.Proofs.YtcadinbahmliiaaGreatDoor

/- DesignPeriod and DesignFold of both: their words. Conditions: a list of wheels. -/
namespace Go.Proofs.YtcadinbahmliiaaGreatDoor
open Go.RowKit
set_option maxRecDepth 100000

end Go.Proofs.YtcadinbahmliiaaGreatDoor

/- FnCheck: its tree. Conditions: bytes. -/
namespace Go.Proofs.YtcadinbahmliiaaGreatDoor
open Go.RowKit
set_option maxRecDepth 100000

end Go.Proofs.YtcadinbahmliiaaGreatDoor

/- FnCheck returns true, whatever the bytes are. Conditions: bytes. -/
namespace Go.Proofs.YtcadinbahmliiaaGreatDoor
open Go.RowKit
set_option maxRecDepth 100000

theorem ck_self {L : List Wh} (h : yI L = true) : ckY (tI L) = ckY L ∧ ckV (tI L) = ckV L := by
  have hT := tI_tidy L
  have e : ckY (tI L) = ckY L := by rw [ckY, ckY, tI_self hT, yI_self hT, h]
  exact ⟨e, by rw [ckV, ckV, e, tI_self hT]⟩
end Go.Proofs.YtcadinbahmliiaaGreatDoor

/- The laws of entries: FnExactEntryRight, FnEntry, FnRight return true. Conditions: bytes; an entry. -/
namespace Go.Proofs.YtcadinbahmliiaaGreatDoor
open Go.RowKit
set_option maxRecDepth 100000

/-- A made entry is right, and no other sum. -/
theorem made_right {L : List Wh} (h : emY L = true) : erB (emT L) (emS L) = true ∧ erB (emT L) (IntKind.wrap IntKind.u32 (emS L + 1)) = false := by
  have h' := h
  rw [emY, Bool.and_eq_true, Bool.and_eq_true] at h'
  obtain ⟨⟨hy, hc⟩, hs⟩ := h'
  have e1 : emT L = textB (tI L) := by rw [emT, emV, h, cond_true]; simp only; rw [txV, hy]; rfl
  have e2 : emS L = ckV L := by rw [emS, emV, h]; rfl
  have hsz := of_decide_eq_true hs
  rw [show txV L = textB (tI L) from by rw [txV, hy]; rfl] at hsz
  obtain ⟨r1, r2⟩ := (re_iff (textB (tI L)) (tI L)).2 ⟨tI_tidy L, rfl, hsz⟩
  have k := ck_self hy
  rw [e1, e2, erB, erB, r1, r2, k.1, k.2, hc]
  refine ⟨by simp, ?_⟩
  simp only [Bool.true_and]
  rw [beq_eq_false_iff_ne, IntKind.wrap_u32]
  omega
/-- A right entry is made of its design. -/
theorem right_made {s : ByteArray} {c : Int} (h : erB s c = true) : yRI s = true ∧ emY (tRI s) = true ∧ emT (tRI s) = s ∧ emS (tRI s) = c := by
  rw [erB, Bool.and_eq_true, Bool.and_eq_true] at h
  obtain ⟨h1, h2, h3⟩ := h
  obtain ⟨hT, ht, hs⟩ := (re_iff s (tRI s)).1 ⟨h1, rfl⟩
  have hx : txV (tRI s) = s := by rw [txV, yI_self hT, cond_true, tI_self hT, ht]
  have hy : emY (tRI s) = true := by rw [emY, yI_self hT, h2, hx, decide_eq_true hs]; rfl
  exact ⟨h1, hy, by rw [emT, emV, hy]; exact hx, by rw [emS, emV, hy]; exact eq_of_beq h3⟩

theorem yes_xer (s : ByteArray) (c : Int) : ∃ Γ, GamOk Tryz.prog Γ ∧ GoodQ (execF Tryz.prog Γ noLam 100 Tryz.f3 [.v (.agg ⟨[.string s, .int .u32 c]⟩)] [] (packK 0)) SaysYes := by
  refine ⟨_, ext_ok (ext_ok g0_ok ok_erI) ok_erS, ?_⟩
  rw [lawXr]
  refine good_cond (fun _ => good_out rfl) fun _ => good_cond (fun _ => good_out rfl) fun _ => good_cond (fun q => ?_) fun _ => good_out rfl
  simp at q

theorem ok_drEm : SpecOk Tryz.prog 14 (specR md_co (FdrO fun m b => frL (bEx m b))) := by
  refine draw_ok Tryz.func14 rfl (fun m b h0 hm hb => ⟨_, gmDrE_ok, ?_⟩) fun q c g b => ⟨g0, g0_ok, ?_⟩
  · rw [treeREm, itB_row]
    have e : bEx m b = ehL (lnB m) b 0 := by unfold bEx; rw [if_neg (by omega)]
    have hp := ehP_in (lnB m) b 0
    have hp2 := ehP_in (lnB m) b (ehP (lnB m) b 0)
    rw [e]
    refine good_ln (fun e1 hc => ?_) fun e1 hc => ?_
    · rw [e1] at hp hp2 ⊢
      rw [show Int.toNat ((2000 : Int) - 0) = 2000 from rfl]
      exact ⟨by simp only [ob_cons, ob_nil, and_true, decide_eq_true_eq, hb, true_and]; omega, good_out ⟨_, rfl, rfl, Hsim.refl _⟩⟩
    · rw [e1] at hp hp2 ⊢
      exact ⟨by simp only [ob_cons, ob_nil, and_true, decide_eq_true_eq, hb, true_and]; omega, good_out ⟨_, rfl, rfl, Hsim.refl _⟩⟩
  · rw [treeREm0]
    exact good_out ⟨_, rfl, rfl, .cons (ABeq.refl _) (.cons (ABeq.row fun j hj => none_row j hj) .nil)⟩
theorem gmLEn_ok : GamOk Tryz.prog (gmLEn bEx erB emT emS emY) := ext_ok (ext_ok (ext_ok (ext_ok g0_ok ok_drEm) ok_meI) ok_meS) ok_erI
theorem yes_ent (m : Nat) (b : Nat → Int) (_ : m ≤ 9223372036854775807) (hb : okB m (rowB b) = true) : ∃ Γ n Λ, GamOk Tryz.prog Γ ∧ (∀ cc, (Tryz.f4).body = some cc → LamOk Tryz.prog 1 Λ cc) ∧ GoodQ (execF Tryz.prog Γ Λ n Tryz.f4 [.sl 0 1 0 0 m none] [.row false m 1 (rowB b) 5] (packK 1)) SaysYes := by
  refine ⟨_, 100, noLam, gmLEn_ok, noLam' _, ?_⟩
  rw [lawEn]
  refine good_cond (fun _ => good_out rfl) fun c => ?_
  have c := of_decide_eq_false c
  have hl := bEx_len m b
  simp only [Nat.zero_add, itB_row]
  generalize bEx m b = L at hl ⊢
  have b21 : decide (m ≤ 2097152) = true := decide_eq_true (by omega)
  simp only [hb, b21, ble_me, allW_row, b38 hl, needs_t, needs_nil, beq_self_eq_true, Bool.not_true, cond_false, cond_true, listW_me, eqB_self, Bool.and_self]
  refine good_cond (fun _ => good_out rfl) fun h1 => ?_
  rw [Bool.not_eq_false'] at h1
  obtain ⟨r1, r2⟩ := made_right h1
  rw [r1, r2]
  exact good_out rfl

noncomputable def bEnT (m : Nat) (b : Nat → Int) : ByteArray := if m = 0 then dash else enT (lnB m) b 0
noncomputable def bEnS (m : Nat) (b : Nat → Int) : Int := if m = 0 then 5 else enS (lnB m) b 0
theorem gmREr_ok : GamOk Tryz.prog (gmREr enT enS enP) := ext_ok g0_ok ok_entry
theorem ok_drEr : SpecOk Tryz.prog 17 (specR md_co (FdrO fun m b => { val := .agg [.v (.string (bEnT m b)), .v (.int .u32 (bEnS m b))] })) := by
  refine draw_ok Tryz.func17 rfl (fun m b h0 hm hb => ⟨_, gmREr_ok, ?_⟩) fun q c g b => ⟨_, ext_ok g0_ok ok_meS, ?_⟩
  · rw [treeREr, itB_row]
    have e : bEnT m b = enT (lnB m) b 0 := by unfold bEnT; rw [if_neg (by omega)]
    have e2 : bEnS m b = enS (lnB m) b 0 := by unfold bEnS; rw [if_neg (by omega)]
    rw [e, e2]
    refine good_ln (fun e1 hc => ?_) fun e1 hc => ?_
    · rw [e1]
      rw [show Int.toNat ((2000 : Int) - 0) = 2000 from rfl]
      exact ⟨by simp only [ob_cons, ob_nil, and_true, decide_eq_true_eq, hb, true_and]; omega, good_out ⟨_, rfl, rfl, Hsim.refl _⟩⟩
    · rw [e1]
      exact ⟨by simp only [ob_cons, ob_nil, and_true, decide_eq_true_eq, hb, true_and]; omega, good_out ⟨_, rfl, rfl, Hsim.refl _⟩⟩
  · rw [treeEn0, show listW (itW fun q => [i64 1001, i64 0, i64 0, i64 0, i64 0, i64 0, i64 0, i64 0, i64 0]) 1 = noneL from rfl, emY_no]
    exact good_out ⟨_, rfl, rfl, Hsim.refl _⟩
theorem gmLRi_ok : GamOk Tryz.prog (gmLRi bEnT bEnS erB yRI tRI emT emS emY) := ext_ok (ext_ok (ext_ok (ext_ok (ext_ok g0_ok ok_drEr) ok_erI) ok_erS) ok_Ure) ok_meI
theorem yes_rig (m : Nat) (b : Nat → Int) (_ : m ≤ 9223372036854775807) (hb : okB m (rowB b) = true) : ∃ Γ n Λ, GamOk Tryz.prog Γ ∧ (∀ cc, (Tryz.f5).body = some cc → LamOk Tryz.prog 1 Λ cc) ∧ GoodQ (execF Tryz.prog Γ Λ n Tryz.f5 [.sl 0 1 0 0 m none] [.row false m 1 (rowB b) 5] (packK 1)) SaysYes := by
  refine ⟨_, 100, noLam, gmLRi_ok, noLam' _, ?_⟩
  rw [lawRi]
  refine good_cond (fun _ => good_out rfl) fun c => ?_
  have c := of_decide_eq_false c
  simp only [Nat.zero_add, itB_row]
  generalize bEnT m b = s
  generalize bEnS m b = k
  have hl := tRI_len s
  have b21 : decide (m ≤ 2097152) = true := decide_eq_true (by omega)
  simp only [hb, b21, ble_me, allW_row, b38 hl, needs_t, needs_nil, beq_self_eq_true, Bool.not_true, cond_false, listW_me]
  refine good_cond (fun _ => good_out rfl) fun h1 => ?_
  rw [Bool.not_eq_false'] at h1
  obtain ⟨r1, r2, r3, r4⟩ := right_made h1
  rw [r1, r2, r3, r4, eqB_self]
  simp only [beq_self_eq_true, Bool.and_self, cond_true]
  exact good_out rfl

end Go.Proofs.YtcadinbahmliiaaGreatDoor

/- The frame of a law over an entry. No conditions. -/
namespace Go.Proofs.YtcadinbahmliiaaGreatDoor
open Go.ChangeShapes Go.WideShapes Go.ChangeAt Go.RowKit Go.Deep
set_option maxRecDepth 100000

section
variable {H : Type} {enc : TypeId × Value → H} {W : World}
theorem entry_elem (n : Nat) (cs : List Value) (x : DataW H × List MemPlace) (hl : cs.length = 2) (h : DataW.trod enc Tryz.prog W 0 (fun _ => true) true n 24 cs = some x) :
    ∃ (s : ByteArray) (c : Int), s.size ≤ maxLen ∧ cs = [.string s, .int .u32 c] := by
  obtain ⟨xs, n', _, _, _, hlen, hg⟩ := DataW.trod_struct Tryz.underlying24 h
  have h0 : DataW.trod enc Tryz.prog W 0 (fun _ => true) true n' 9 ((cs.drop 0).take (Tryz.prog.cellsOf 9)) = xs[0]? := hg 0 _ rfl
  have h1 : DataW.trod enc Tryz.prog W 0 (fun _ => true) true n' 22 ((cs.drop 1).take (Tryz.prog.cellsOf 22)) = xs[1]? := hg 1 _ rfl
  have c0 : Tryz.prog.cellsOf 9 = 1 := by kernel_rfl
  have c1 : Tryz.prog.cellsOf 22 = 1 := by kernel_rfl
  have hx0 : xs[0]? = some (xs[0]'(by rw [hlen]; decide)) := List.getElem?_eq_getElem _
  have hx1 : xs[1]? = some (xs[1]'(by rw [hlen]; decide)) := List.getElem?_eq_getElem _
  rw [hx0, c0] at h0
  rw [hx1, c1] at h1
  obtain ⟨s, e0, _, hs⟩ := DataW.trod_string Tryz.underlying9 h0
  obtain ⟨k, e1, _, _⟩ := DataW.trod_int Tryz.underlying22 h1
  match cs, hl with
  | [a, b], _ =>
    simp at e0 e1
    subst e0 e1
    exact ⟨s, k, hs, rfl⟩
theorem entry_val {b0 : Nat} {v : Value} {d : DataW H} {p : List MemPlace} (hv : Value.okWide Tryz.prog W .any b0 24 v) (h : DataW.Trod enc Tryz.prog W 0 (fun _ => true) true 24 v d p) :
    ∃ (s : ByteArray) (c : Int), s.size ≤ maxLen ∧ v = .agg #[.string s, .int .u32 c] := by
  unfold Value.okWide at hv
  rw [Tryz.underlying24] at hv
  obtain ⟨cs, rfl, hsz, _⟩ := hv
  obtain ⟨n, hn⟩ := h
  have hc : Tryz.prog.cellsOf 24 = 2 := by kernel_rfl
  obtain ⟨s, c, hs, e⟩ := entry_elem n cs.toList _ (by rw [Array.length_toList, hsz, hc]) (by simpa [Value.cells] using hn)
  refine ⟨s, c, hs, ?_⟩
  congr 1
  exact Array.ext' e
end

/-- A law over an entry: what it comes to, whatever came in. -/
theorem contractE {f : FuncId} {fn : Func} {spec : ChangeSpec} (hf : Tryz.prog.funcs[f]? = some fn) (hp : fn.params = #[24]) (hr : fn.resultTypes = #[4]) (hvars : spec.vars = []) (hspec : ∀ (H : Type) (d : DataW H), spec.fn H [d] = { results := [.lit (.bool true)], args := [d] })
    (yes : ∀ (s : ByteArray) (c : Int), s.size ≤ maxLen → ∃ Γ, GamOk Tryz.prog Γ ∧ GoodQ (execF Tryz.prog Γ noLam 100 fn [.v (.agg ⟨[.string s, .int .u32 c]⟩)] [] (packK 0)) SaysYes)
    (H : Type) (enc : TypeId × Value → H) (W : World) (base : Nat) (args : Array Value) (ds gs : List (DataW H)) (before : List MemPlace)
    (hval : ∀ (j : Nat) t v, fn.params[j]? = some t → args[j]? = some v → Value.okWide Tryz.prog W .any base t v)
    (hW : DataW.Whole enc Tryz.prog fn.params.toList spec.vars false W args.toList ds gs before) (htab : TabOk (fun k => W.heap.size ≤ k) W) :
    Calls Tryz.prog f args W fun e W' => ∃ v, e = .returned v ∧ spec.post enc Tryz.prog fn false true false false W args v W' := by
  have hW' := hW
  obtain ⟨p, q, hA0, hV, rfl, hfz, hnd⟩ := hW
  have hA : DataW.TrodAll enc Tryz.prog W 0 (fun _ => true) true fn.params.toList args.toList ds p := hA0
  rw [hp] at hA hval
  rw [hvars] at hV
  obtain ⟨v0, vs0, d0, ds0, p0, q0, hargs, rfl, rfl, h0, r0⟩ := trodAll_cons hA
  obtain ⟨rfl, rfl, rfl⟩ := trodAll_nil r0
  obtain rfl : args = #[v0] := by cases args; simp_all
  obtain ⟨rfl, rfl⟩ := trodVars_none hV
  clear hA0 hA r0
  obtain ⟨s, c, hs, rfl⟩ := entry_val (hval 0 24 v0 rfl rfl) h0
  obtain ⟨Γ, hΓ, hgood⟩ := yes s c hs
  have hRH : RH (fun k => W.heap.size ≤ k) (fun _ => none) (fun b => ([] : List AB).getD b .gone) W := ⟨fun i => trivial, fun i j b b' _ h => by simp [AB.wr] at h, fun i b h => by simp [AB.wr] at h, (fun i b h => by cases h), htab⟩
  have hcall := yes_calls hΓ (n := 100) (vals := [.agg #[.string s, .int .u32 c]]) (w := W) hf (Λ := noLam) (H := []) (fun c _ => noLam_ok _ _ _) hgood (by simp only [VRs, VR, and_true]) hRH (fun i b h => by cases h)
  refine hcall.mono fun e W' ⟨he, hb⟩ => ?_
  subst he
  have hlt : ∀ x ∈ p0, x.block < W.heap.size := fun x hx => by simpa using hW'.lt x (by simpa using hx)
  refine ⟨_, rfl, post_below (pa := p0) (pv := []) hW' ?_ ?_ ?_ (by simp) hb ?_⟩
  · intro b sp hd
    rw [hr]
    simp only [List.append_nil, hspec]
    exact trodAll_cons_mk (shut_bool Tryz.underlying4 _) trodAll_mk0
  · intro sp hsp
    rw [hp]
    simp only [List.append_nil, hspec]
    refine trodAll_mk1 (WideElems.Trod_stays laidOut (by kernel_rfl) (of_decide_eq_true (by kernel_rfl)) h0 (fun x hx => hb.same (hlt x hx)) fun x hx => hsp x (by simpa using hx))
  · intro sp _
    rw [hvars]
    simp only [List.append_nil, hspec]
    rfl
  · exact ok_one hr rfl (okWide_bool_mk Tryz.underlying4 _)

end Go.Proofs.YtcadinbahmliiaaGreatDoor
