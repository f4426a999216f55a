/- DesignRead of the reference: trees. Conditions: a text. -/
import Derived.Test.YtcadinbahmliiaaGreatDoorZD0
import Derived.Test.YtcadinbahmliiaaGreatDoorZD1
import Derived.Test.YtcadinbahmliiaaGreatDoorZD2
import Derived.Test.YtcadinbahmliiaaGreatDoorZD3
/- DesignCheck of both: trees. Conditions: a list of wheels. -/
namespace Go.Proofs.YtcadinbahmliiaaGreatDoor
open Go.RowKit
set_option maxRecDepth 100000

def f_sg (R M : (Nat → Int) → Nat) (ok : (Nat → Int) → Bool) : List Value → Option (Value × List Bool)
  | [.agg ⟨[.int .i64 a0, .int .i64 a1, .int .i64 a2, .int .i64 a3, .int .i64 a4, .int .i64 a5, .int .i64 a6, .int .i64 a7]⟩] => some (.complex .f32 (R (v8 a0 a1 a2 a3 a4 a5 a6 a7)) (M (v8 a0 a1 a2 a3 a4 a5 a6 a7)), [ok (v8 a0 a1 a2 a3 a4 a5 a6 a7)])
  | _ => none
def FspO (R M : (Nat → Int) → Nat) (ok : (Nat → Int) → Bool) : List SA → Option FR
  | [.v (.agg ⟨[.int .i64 a0, .int .i64 a1, .int .i64 a2, .int .i64 a3, .int .i64 a4, .int .i64 a5, .int .i64 a6, .int .i64 a7]⟩)] => some { val := .tup [.v (.complex .f32 (R (v8 a0 a1 a2 a3 a4 a5 a6 a7)) (M (v8 a0 a1 a2 a3 a4 a5 a6 a7))), .v (.bool (ok (v8 a0 a1 a2 a3 a4 a5 a6 a7)))] }
  | _ => none
def gmCkI (dv : (Nat → Nat → Int) → Int → Nat → Nat → Int) (dk : (Nat → Nat → Int) → Int → Nat → Bool) (R M : (Nat → Int) → Nat) (ok : (Nat → Int) → Bool) : Gam := ext (ext g0 77 (specR md_wv (FDAo dv dk))) 78 (specV (f_sg R M ok))
noncomputable abbrev fCkI : Func := Tryz.f41
abbrev lvCkI : Ex → List Nat := lv3 [4, 6, 20] [6] [2, 3]
abbrev stCkI (q : Nat) (h : Int) (i : Nat) : List AV := [.sl 1 9 0 0 q (some q), .v (.int .u32 h), .v (i64 i)]
abbrev hpCk (m : Nat) (f : Nat → Nat → Int) (q : Nat) (g : Nat → Nat → Int) : List AB := [.row false m 9 (row9 f) 75, .row false q 9 (row9 g) 75]
theorem rndCkI (dv : (Nat → Nat → Int) → Int → Nat → Nat → Int) (dk : (Nat → Nat → Int) → Int → Nat → Bool) (R M : (Nat → Int) → Nat) (ok : (Nat → Int) → Bool) (m : Nat) (f : Nat → Nat → Int) (q : Nat) (g : Nat → Nat → Int) (h : Int) (i : Nat) : execC Tryz.prog (gmCkI dv dk R M ok) 100 noLam (loopAt 0 fCkI) (mkT 0 49 ((lvCkI .normal).zip (stCkI q h i))) (hpCk m f q g) (leafV 49 lvCkI 1)
    = bif decide ((↑i : Int) < (24 : Int)) then needs [Nat.ble ((0 : Nat) + q) q, allW q fun q ↦ row9 g ((0 : Nat) + q), decide (q ≤ (274877906944 : Nat))] (bif !dk (itW fun q ↦ row9 g ((0 : Nat) + q)) (↑i : Int) q then Res.out .ret [AV.v (.int .u32 0), AV.v (.bool false)] [AB.row false m 9 (row9 f) 75] else needs [ok (w8 (dv (itW fun q ↦ row9 g ((0 : Nat) + q)) (↑i : Int) q))] (Res.out .normal [AV.sl 1 (9 : Nat) (0 : Nat) (0 : Nat) q (some q), AV.v (.int .u32 (IntKind.wrap .u32 (IntKind.wrap .u32 (↑(BitVec.toNat (BitVec.ofInt (32 : Nat) (IntKind.wrap .u32 (IntKind.wrap .u32 (↑(BitVec.toNat (BitVec.ofInt (32 : Nat) h ^^^ BitVec.ofInt (32 : Nat) (↑(R (w8 (dv (itW fun q ↦ row9 g ((0 : Nat) + q)) (↑i : Int) q))) : Int))) : Int) * (16777619 : Int))) ^^^ BitVec.ofInt (32 : Nat) (↑(M (w8 (dv (itW fun q ↦ row9 g ((0 : Nat) + q)) (↑i : Int) q))) : Int))) : Int) * (16777619 : Int)))), AV.v (.int .i64 (IntKind.wrap .i64 ((↑i : Int) + (1 : Int))))] [AB.row false m 9 (row9 f) 75, AB.row false q 9 (row9 g) 75])) else Res.out (Ex.exit (0 : Nat)) [AV.v (.int .u32 h)] [AB.row false m 9 (row9 f) 75] := by kernel_rfl

def gmCkS (dv : (Nat → Nat → Int) → Int → Nat → Nat → Int) (dk : (Nat → Nat → Int) → Int → Nat → Bool) (R M : (Nat → Int) → Nat) (ok : (Nat → Int) → Bool) : Gam := ext (ext g0 71 (specR md_wv (FDAo dv dk))) 72 (specR [.val] (FspO R M ok))
noncomputable abbrev fCkS : Func := Tryz.f36
abbrev lvCkS : Ex → List Nat := lv3 [4, 6, 7] [6] [2, 3]
abbrev stCkS (q : Nat) (h : Int) (i : Nat) : List AV := [.own 1 q, .v (.int .u32 h), .v (i64 i)]
abbrev hpCkS (m : Nat) (f : Nat → Nat → Int) (q : Nat) (g : Nat → Nat → Int) : List AB := [.row false m 9 (row9 f) 75, .row true q 9 (row9 g) 75]
theorem rndCkS (dv : (Nat → Nat → Int) → Int → Nat → Nat → Int) (dk : (Nat → Nat → Int) → Int → Nat → Bool) (R M : (Nat → Int) → Nat) (ok : (Nat → Int) → Bool) (m : Nat) (f : Nat → Nat → Int) (q : Nat) (g : Nat → Nat → Int) (h : Int) (i : Nat) : execC Tryz.prog (gmCkS dv dk R M ok) 100 noLam (loopAt 0 fCkS) (mkT 0 53 ((lvCkS .normal).zip (stCkS q h i))) (hpCkS m f q g) (leafV 53 lvCkS 1)
    = bif decide ((↑i : Int) < (24 : Int)) then needs [Nat.ble q q, allW q (row9 g), decide (q ≤ (274877906944 : Nat))] (bif !dk (itW (row9 g)) (↑i : Int) q then Res.out .ret [AV.v (.int .u32 0), AV.v (.bool false)] [AB.row false m 9 (row9 f) 75] else bif !ok (w8 (dv (itW (row9 g)) (↑i : Int) q)) then Res.out .ret [AV.v (.int .u32 0), AV.v (.bool false)] [AB.row false m 9 (row9 f) 75] else Res.out .normal [AV.own 1 q, AV.v (.int .u32 (IntKind.wrap .u32 (IntKind.wrap .u32 (↑(BitVec.toNat (BitVec.ofInt (32 : Nat) (IntKind.wrap .u32 (IntKind.wrap .u32 (↑(BitVec.toNat (BitVec.ofInt (32 : Nat) h ^^^ BitVec.ofInt (32 : Nat) (↑(R (w8 (dv (itW (row9 g)) (↑i : Int) q))) : Int))) : Int) * (16777619 : Int))) ^^^ BitVec.ofInt (32 : Nat) (↑(M (w8 (dv (itW (row9 g)) (↑i : Int) q))) : Int))) : Int) * (16777619 : Int)))), AV.v (.int .i64 (IntKind.wrap .i64 ((↑i : Int) + (1 : Int))))] [AB.row false m 9 (row9 f) 75, AB.row true q 9 (row9 g) 75]) else Res.out (Ex.exit (0 : Nat)) [AV.v (.int .u32 h)] [AB.row false m 9 (row9 f) 75] := by kernel_rfl

end Go.Proofs.YtcadinbahmliiaaGreatDoor

/- DesignCheck of both: single points, loops. Conditions: a list of wheels. -/
namespace Go.Proofs.YtcadinbahmliiaaGreatDoor
open Go.RowKit
set_option maxRecDepth 100000

abbrev hpC (m : Nat) (f : Nat → Nat → Int) : List AB := [.row false m 9 (row9 f) 75]
theorem good_needsV {bs : List Bool} {r : Res} {x : Value} (h : obls bs = true) (k : Good r x) : Good (needs bs r) x := by
  induction bs with
  | nil => exact k
  | cons b bs ih =>
    have : b = true ∧ obls bs = true := by simpa [obls] using h
    rw [this.1]
    exact ⟨(ih this.2).out⟩
def spO (a : Nat → Int) : Bool := cyOk (cyOf a)
def sgR (a : Nat → Int) : Nat := bif spO a then smR a 8 else 0
def sgM (a : Nat → Int) : Nat := bif spO a then smM a 8 else 0
theorem obS_of {a : Nat → Int} (h : spO a = true) : obls (obS a) = true := obS_ok fun k hk => by
  have h1 := smallF_iff.1 h k hk
  have e : (cyOf a).f k = a k := by
    match k, hk with
    | 0, _ => rfl
    | 1, _ => rfl
    | 2, _ => rfl
    | 3, _ => rfl
    | 4, _ => rfl
    | 5, _ => rfl
    | 6, _ => rfl
    | 7, _ => rfl
  omega
theorem ok_sg : SpecOk Tryz.prog 78 (specV (f_sg sgR sgM spO)) := by
  refine mkV (n := 100) g0_ok Tryz.func78 rfl fun vs v ob hF ho => ?_
  unfold f_sg at hF
  split at hF
  · rename_i a0 a1 a2 a3 a4 a5 a6 a7
    cases hF
    rw [ob_cons] at ho
    have ho := ho.1
    show Good (execF Tryz.prog g0 noLam 100 Tryz.f78 [.v (cyv (v8 a0 a1 a2 a3 a4 a5 a6 a7))] [] valK) _
    rw [exSg]
    refine good_needsV (obS_of ho) (one ?_)
    rw [sgR, sgM, ho]
    rfl
  · cases hF
theorem ok_sp : SpecOk Tryz.prog 72 (specR [.val] (FspO sgR sgM spO)) := by
  have hg : GamOk Tryz.prog (gmCv fun v => cyOk (cyOf v)) := by
    unfold gmCv
    rw [fOkc_eq]
    exact ext_ok g0_ok ok_cv
  refine specR_hr hg Tryz.func72 rfl fun sas fr hF ho => ?_
  unfold FspO at hF
  split at hF
  · rename_i a0 a1 a2 a3 a4 a5 a6 a7
    cases hF
    refine ⟨[], noLam, 100, .nil, noLam' _, ?_⟩
    show GoodQ (execF Tryz.prog (gmCv fun v => cyOk (cyOf v)) noLam 100 Tryz.f72 [.v (cyv (v8 a0 a1 a2 a3 a4 a5 a6 a7))] [] (packK 0)) _
    rw [exSp]
    refine good_cond (fun q => ?_) fun q => ?_
    · have q : spO (v8 a0 a1 a2 a3 a4 a5 a6 a7) = false := by
        have q' : (!spO (v8 a0 a1 a2 a3 a4 a5 a6 a7)) = true := q
        simpa using q'
      refine good_out ⟨_, rfl, ?_, .nil⟩
      rw [sgR, sgM, q]
      rfl
    · have q : spO (v8 a0 a1 a2 a3 a4 a5 a6 a7) = true := by
        have q' : (!spO (v8 a0 a1 a2 a3 a4 a5 a6 a7)) = false := q
        simpa using q'
      refine good_needs (obS_of q) (good_out ⟨_, rfl, ?_, .nil⟩)
      rw [sgR, sgM, q]
      rfl
  · cases hF

def hsh (h : Int) (R M : Nat) : Int := IntKind.wrap IntKind.u32 (IntKind.wrap IntKind.u32 (((BitVec.ofInt 32 (IntKind.wrap IntKind.u32 (IntKind.wrap IntKind.u32 (((BitVec.ofInt 32 h ^^^ BitVec.ofInt 32 (R : Int)).toNat : Nat) : Int) * 16777619)) ^^^ BitVec.ofInt 32 (M : Int)).toNat : Nat) : Int) * 16777619)
def ckH (f : Nat → Nat → Int) (q : Nat) : Nat → Int
  | 0 => 2166136261
  | i + 1 => hsh (ckH f q i) (sgR (w8 (daV f i q))) (sgM (w8 (daV f i q)))
def badCk (f : Nat → Nat → Int) (q : Nat) (i : Nat) : Bool := !daOk f i q
theorem cyOf_w8 (a : Nat → Int) : cyOf (w8 a) = cyOf a := rfl
theorem da_sp {f : Nat → Nat → Int} {n : Int} {m : Nat} (h : daOk f n m = true) : spO (w8 (daV f n m)) = true := by
  have h2 := h
  unfold daOk at h2
  rw [Bool.and_eq_true] at h2
  rw [spO, cyOf_w8, daV, h, cond_true]
  exact h2.2
theorem gmCkI_ok : GamOk Tryz.prog (gmCkI daV daOk sgR sgM spO) := ext_ok (ext_ok g0_ok ok_DAI) ok_sg
theorem gmCkS_ok : GamOk Tryz.prog (gmCkS daV daOk sgR sgM spO) := by
  refine ext_ok (ext_ok g0_ok ?_) ok_sp
  rw [FDAo_eq]
  exact ok_DA
theorem sumCkI (m : Nat) (f : Nat → Nat → Int) (q : Nat) (g : Nat → Nat → Int) (hq : q ≤ 12) :
    SumOk Tryz.prog 1 (.block 0 (.loop (loopAt 0 fCkI))) (atS 49 (lvCkI .normal) 1 (stCkI q 2166136261 0) (hpCk m f q g) (fun K => cond (noneTo (badCk g q) 24) (K .normal (mkT 0 49 [(6, .v (.int .u32 (ckH g q 24)))]) (hpC m f)) (K .ret (mkT 0 49 [(2, .v (.int .u32 0)), (3, .v (.bool false))]) (hpC m f)))) := by
  refine for_at gmCkI_ok (n := 100) (m := 1) (lv := lvCkI) (fun i => stCkI q (ckH g q i) i) (fun _ => hpCk m f q g) (fun i => noneTo (badCk g q) i = true) 24 (fun _ => noLam) (lv3_ris rfl rfl rfl) (Nat.le_refl _) rfl fun K Q hk i hi h24 => ⟨noLam_ok _ _ _, ?_⟩
  rw [rndCkI]
  refine good_cond (fun c1 => ?_) fun c1 => ?_
  · have c1 := of_decide_eq_true c1
    have c1' : i < 24 := by omega
    simp only [row0, daOk_row, daV_row]
    rw [wr_in (x := (i : Int) + 1) (by omega)]
    refine good_needs (by simp only [ob_cons, ob_nil, and_true, decide_eq_true_eq, Nat.ble_eq, allW_row, true_and]; omega) (good_cond (fun p => ?_) fun p => ?_)
    · refine good_out ⟨_, Hsim.refl _, ?_⟩
      have hb : badCk g q i = true := p
      rw [noneTo_no c1' hb] at hk
      exact hk
    · have hb : badCk g q i = false := p
      have hd : daOk g i q = true := by simpa [badCk] using hb
      exact good_needs (by rw [ob_cons]; exact ⟨da_sp hd, rfl⟩) (good_out ⟨i + 1, ⟨rfl, c1', noneTo_succ hi hb⟩, rfl, Hsim.refl _⟩)
  · have c1 := of_decide_eq_false c1
    have : i = 24 := by omega
    subst this
    refine good_out ⟨_, Hsim.refl _, ?_⟩
    rw [if_pos rfl]
    rw [hi] at hk
    exact hk
theorem sumCkS (m : Nat) (f : Nat → Nat → Int) (q : Nat) (g : Nat → Nat → Int) (hq : q ≤ 12) :
    SumOk Tryz.prog 1 (.block 0 (.loop (loopAt 0 fCkS))) (atS 53 (lvCkS .normal) 1 (stCkS q 2166136261 0) (hpCkS m f q g) (fun K => cond (noneTo (badCk g q) 24) (K .normal (mkT 0 53 [(6, .v (.int .u32 (ckH g q 24)))]) (hpC m f)) (K .ret (mkT 0 53 [(2, .v (.int .u32 0)), (3, .v (.bool false))]) (hpC m f)))) := by
  refine for_at gmCkS_ok (n := 100) (m := 1) (lv := lvCkS) (fun i => stCkS q (ckH g q i) i) (fun _ => hpCkS m f q g) (fun i => noneTo (badCk g q) i = true) 24 (fun _ => noLam) (lv3_ris rfl rfl rfl) (Nat.le_refl _) rfl fun K Q hk i hi h24 => ⟨noLam_ok _ _ _, ?_⟩
  rw [rndCkS]
  refine good_cond (fun c1 => ?_) fun c1 => ?_
  · have c1 := of_decide_eq_true c1
    have c1' : i < 24 := by omega
    simp only [daOk_row, daV_row]
    rw [wr_in (x := (i : Int) + 1) (by omega)]
    refine good_needs (by simp only [ob_cons, ob_nil, and_true, decide_eq_true_eq, Nat.ble_eq, allW_row, true_and]; omega) (good_cond (fun p => ?_) fun p => ?_)
    · refine good_out ⟨_, Hsim.refl _, ?_⟩
      have hb : badCk g q i = true := p
      rw [noneTo_no c1' hb] at hk
      exact hk
    · have hb : badCk g q i = false := p
      have hd : daOk g i q = true := by simpa [badCk] using hb
      rw [da_sp hd]
      exact good_false rfl (good_out ⟨i + 1, ⟨rfl, c1', noneTo_succ hi hb⟩, rfl, Hsim.refl _⟩)
  · have c1 := of_decide_eq_false c1
    have : i = 24 := by omega
    subst this
    refine good_out ⟨_, Hsim.refl _, ?_⟩
    rw [if_pos rfl]
    rw [hi] at hk
    exact hk

noncomputable abbrev lamCkI (m : Nat) (f : Nat → Nat → Int) (q : Nat) (g : Nat → Nat → Int) (c : Bool) (x : Int) : Nat → Option Sum := oneL 0 (atS 49 (lvCkI .normal) 1 (stCkI q 2166136261 0) (hpCk m f q g) (fun K => cond c (K .normal (mkT 0 49 [(6, .v (.int .u32 x))]) (hpC m f)) (K .ret (mkT 0 49 [(2, .v (.int .u32 0)), (3, .v (.bool false))]) (hpC m f))))
noncomputable abbrev lamCkS (m : Nat) (f : Nat → Nat → Int) (q : Nat) (g : Nat → Nat → Int) (c : Bool) (x : Int) : Nat → Option Sum := oneL 0 (atS 53 (lvCkS .normal) 1 (stCkS q 2166136261 0) (hpCkS m f q g) (fun K => cond c (K .normal (mkT 0 53 [(6, .v (.int .u32 x))]) (hpC m f)) (K .ret (mkT 0 53 [(2, .v (.int .u32 0)), (3, .v (.bool false))]) (hpC m f))))
def gmTdI (yI : List Wh → Bool) (tI : List Wh → List Wh) : Gam := ext g0 46 (specU md_ws (UO0 yI tI))
def gmTdS (yI : List Wh → Bool) (tI : List Wh → List Wh) : Gam := ext g0 70 (specR md_ws (FOw yI tI))
theorem treeCkI_h (yI : List Wh → Bool) (tI : List Wh → List Wh) (m : Nat) (f : Nat → Nat → Int) (q : Nat) (g : Nat → Nat → Int) (c : Bool) (x : Int) (u0 : _) (hu0 : (listW (itW fun q ↦ row9 f ((0 : Nat) + q)) m) = u0) (u1 : _) (hu1 : (AB.row false m 9 (row9 f) 75) = u1) (u2 : _) (hu2 : [AV.tup [AV.v (.int .u32 0), AV.v (.bool false)]] = u2) : execF Tryz.prog (gmTdI yI tI) (lamCkI m f q g c x) 100 fCkI [.sl 0 9 0 0 m none] (hpC m f) (packK 1)
    = needs [Nat.ble ((0 : Nat) + m) m, allW m fun q ↦ row9 f ((0 : Nat) + q), decide (m ≤ (274877906944 : Nat))] (bif !yI u0 then Res.out .ret u2 [u1] else needs [chk ([AV.sl 1 (9 : Nat) (0 : Nat) (0 : Nat) (List.length (tI u0)) (some (List.length (tI u0))), AV.v (.int .u32 2166136261), AV.v (.int .i64 0)] = stCkI q (2166136261 : Int) (0 : Nat) ∧ Hsim [u1, AB.row false (List.length (tI u0)) (9 : Nat) (row9 (wfun (tI u0))) 75] (hpCk m f q g))] (bif c then Res.out .ret [AV.tup [AV.v (.int .u32 x), AV.v (.bool true)]] [u1] else Res.out .ret u2 [u1])) := by
  subst hu2 hu1 hu0
  kernel_rfl
theorem treeCkI (yI : List Wh → Bool) (tI : List Wh → List Wh) (m : Nat) (f : Nat → Nat → Int) (q : Nat) (g : Nat → Nat → Int) (c : Bool) (x : Int) : type_of% (treeCkI_h yI tI m f q g c x _ rfl _ rfl _ rfl) := treeCkI_h yI tI m f q g c x _ rfl _ rfl _ rfl

theorem treeCkS (yI : List Wh → Bool) (tI : List Wh → List Wh) (m : Nat) (f : Nat → Nat → Int) (q : Nat) (g : Nat → Nat → Int) (c : Bool) (x : Int) : execF Tryz.prog (gmTdS yI tI) (lamCkS m f q g c x) 100 fCkS [.sl 0 9 0 0 m none] (hpC m f) (packK 1)
    = needs [Nat.ble ((0 : Nat) + m) m, allW m fun q ↦ row9 f ((0 : Nat) + q), decide (m ≤ (274877906944 : Nat))] (bif !yI (listW (itW fun q ↦ row9 f ((0 : Nat) + q)) m) then Res.out .ret [AV.tup [AV.v (.int .u32 0), AV.v (.bool false)]] [AB.row false m 9 (row9 f) 75] else needs [chk ([AV.own 1 (List.length (tI (listW (itW fun q ↦ row9 f ((0 : Nat) + q)) m))), AV.v (.int .u32 2166136261), AV.v (.int .i64 0)] = stCkS q (2166136261 : Int) (0 : Nat) ∧ Hsim [AB.row false m 9 (row9 f) 75, AB.row true (List.length (tI (listW (itW fun q ↦ row9 f ((0 : Nat) + q)) m))) (9 : Nat) (row9 (wfun (tI (listW (itW fun q ↦ row9 f ((0 : Nat) + q)) m)))) 75] (hpCkS m f q g))] (bif c then Res.out .ret [AV.tup [AV.v (.int .u32 x), AV.v (.bool true)]] [AB.row false m 9 (row9 f) 75] else Res.out .ret [AV.tup [AV.v (.int .u32 0), AV.v (.bool false)]] [AB.row false m 9 (row9 f) 75])) := by kernel_rfl

end Go.Proofs.YtcadinbahmliiaaGreatDoor

/- DesignCheck of both: their word. Conditions: a list of wheels. -/
namespace Go.Proofs.YtcadinbahmliiaaGreatDoor
open Go.RowKit
set_option maxRecDepth 100000

def ckY (L : List Wh) : Bool := yI L && noneTo (badCk (wfun (tI L)) (tI L).length) 24
def ckV (L : List Wh) : Int := bif ckY L then ckH (wfun (tI L)) (tI L).length 24 else 0
def FckO (v : List Wh → Int) (y : List Wh → Bool) : List SA → Option FR
  | [.row m g] => some { val := .tup [.v (.int .u32 (v (listW (itW g) m))), .v (.bool (y (listW (itW g) m)))], obl := [allW m g, decide (m ≤ 2 ^ 38)] }
  | _ => none
theorem tI_len12 (L : List Wh) : (tI L).length ≤ 12 := by
  cases h : yI L with
  | true =>
    rw [tI, h, cond_true]
    rw [yI, Bool.and_eq_true] at h
    exact tidyL_len h.2
  | false => rw [tI_no h]; exact Nat.zero_le _
theorem ok_ckI : SpecOk Tryz.prog 41 (specR md_ws (FckO ckV ckY)) := by
  refine specR_hr (Γ := gmTdI yI tI) (ext_ok g0_ok ok_UTi) Tryz.func41 rfl fun sas fr hF ho => ?_
  unfold FckO at hF
  split at hF
  · rename_i m g
    cases hF
    simp only [ob_cons] at ho
    obtain ⟨h1, h2, _⟩ := ho
    have hm := of_decide_eq_true h2
    have fin : ∀ v b, ckV (listW (itW g) m) = v → ckY (listW (itW g) m) = b → GoodQ (.out .ret [.tup [.v (.int .u32 v), .v (.bool b)]] (hpC m (itW g))) (GivR (abP md_ws [.row m g] []) { val := .tup [.v (.int .u32 (ckV (listW (itW g) m))), .v (.bool (ckY (listW (itW g) m)))], obl := [allW m g, decide (m ≤ 2 ^ 38)] }) := fun v b hv hb =>
      good_out ⟨_, rfl, by rw [hv, hb], .cons (ABeq.row fun j hj => (allW_get h1 j hj).symm) .nil⟩
    have no : ckY (listW (itW g) m) = false → GoodQ (.out .ret [.tup [.v (.int .u32 0), .v (.bool false)]] (hpC m (itW g))) (GivR (abP md_ws [.row m g] []) { val := .tup [.v (.int .u32 (ckV (listW (itW g) m))), .v (.bool (ckY (listW (itW g) m)))], obl := [allW m g, decide (m ≤ 2 ^ 38)] }) := fun h => fin 0 false (by rw [ckV, h]; rfl) h
    refine ⟨hpC m (itW g), lamCkI m (itW g) (tI (listW (itW g) m)).length (wfun (tI (listW (itW g) m))) (noneTo (badCk (wfun (tI (listW (itW g) m))) (tI (listW (itW g) m)).length) 24) (ckH (wfun (tI (listW (itW g) m))) (tI (listW (itW g) m)).length 24), 100, .cons (ABeq.row fun j hj => allW_get h1 j hj) .nil, lam1 (by kernel_rfl) (sumCkI m (itW g) _ _ (tI_len12 _)), ?_⟩
    show GoodQ (execF Tryz.prog (gmTdI yI tI) (lamCkI m (itW g) (tI (listW (itW g) m)).length (wfun (tI (listW (itW g) m))) (noneTo (badCk (wfun (tI (listW (itW g) m))) (tI (listW (itW g) m)).length) 24) (ckH (wfun (tI (listW (itW g) m))) (tI (listW (itW g) m)).length 24)) 100 fCkI [.sl 0 9 0 0 m none] (hpC m (itW g)) (packK 1)) _
    rw [treeCkI]
    simp only [row0, listW_itW]
    generalize listW (itW g) m = L at fin no ⊢
    refine good_needs (by simp only [ob_cons, ob_nil, and_true, decide_eq_true_eq, Nat.ble_eq, allW_row, true_and]; omega) (good_cond (fun q => ?_) fun q => good_needs (by rw [ob_cons]; exact ⟨chk_of ⟨rfl, Hsim.refl _⟩, rfl⟩) (good_cond (fun q2 => ?_) fun q2 => ?_))
    · rw [Bool.not_eq_true'] at q
      exact no (by rw [ckY, q]; rfl)
    · rw [Bool.not_eq_false'] at q
      have h : ckY L = true := by rw [ckY, q, q2]; rfl
      exact fin _ true (by rw [ckV, h]; rfl) h
    · rw [Bool.not_eq_false'] at q
      exact no (by rw [ckY, q, q2]; rfl)
  · cases hF
theorem ok_ckS : SpecOk Tryz.prog 36 (specR md_ws (FckO ckV ckY)) := by
  refine specR_hr (Γ := gmTdS yI tI) (ext_ok g0_ok ok_tiS) Tryz.func36 rfl fun sas fr hF ho => ?_
  unfold FckO at hF
  split at hF
  · rename_i m g
    cases hF
    simp only [ob_cons] at ho
    obtain ⟨h1, h2, _⟩ := ho
    have hm := of_decide_eq_true h2
    have fin : ∀ v b, ckV (listW (itW g) m) = v → ckY (listW (itW g) m) = b → GoodQ (.out .ret [.tup [.v (.int .u32 v), .v (.bool b)]] (hpC m (itW g))) (GivR (abP md_ws [.row m g] []) { val := .tup [.v (.int .u32 (ckV (listW (itW g) m))), .v (.bool (ckY (listW (itW g) m)))], obl := [allW m g, decide (m ≤ 2 ^ 38)] }) := fun v b hv hb =>
      good_out ⟨_, rfl, by rw [hv, hb], .cons (ABeq.row fun j hj => (allW_get h1 j hj).symm) .nil⟩
    have no : ckY (listW (itW g) m) = false → GoodQ (.out .ret [.tup [.v (.int .u32 0), .v (.bool false)]] (hpC m (itW g))) (GivR (abP md_ws [.row m g] []) { val := .tup [.v (.int .u32 (ckV (listW (itW g) m))), .v (.bool (ckY (listW (itW g) m)))], obl := [allW m g, decide (m ≤ 2 ^ 38)] }) := fun h => fin 0 false (by rw [ckV, h]; rfl) h
    refine ⟨hpC m (itW g), lamCkS m (itW g) (tI (listW (itW g) m)).length (wfun (tI (listW (itW g) m))) (noneTo (badCk (wfun (tI (listW (itW g) m))) (tI (listW (itW g) m)).length) 24) (ckH (wfun (tI (listW (itW g) m))) (tI (listW (itW g) m)).length 24), 100, .cons (ABeq.row fun j hj => allW_get h1 j hj) .nil, lam1 (by kernel_rfl) (sumCkS m (itW g) _ _ (tI_len12 _)), ?_⟩
    show GoodQ (execF Tryz.prog (gmTdS yI tI) (lamCkS m (itW g) (tI (listW (itW g) m)).length (wfun (tI (listW (itW g) m))) (noneTo (badCk (wfun (tI (listW (itW g) m))) (tI (listW (itW g) m)).length) 24) (ckH (wfun (tI (listW (itW g) m))) (tI (listW (itW g) m)).length 24)) 100 fCkS [.sl 0 9 0 0 m none] (hpC m (itW g)) (packK 1)) _
    rw [treeCkS]
    simp only [row0, listW_itW]
    generalize listW (itW g) m = L at fin no ⊢
    refine good_needs (by simp only [ob_cons, ob_nil, and_true, decide_eq_true_eq, Nat.ble_eq, allW_row, true_and]; omega) (good_cond (fun q => ?_) fun q => good_needs (by rw [ob_cons]; exact ⟨chk_of ⟨rfl, Hsim.refl _⟩, rfl⟩) (good_cond (fun q2 => ?_) fun q2 => ?_))
    · rw [Bool.not_eq_true'] at q
      exact no (by rw [ckY, q]; rfl)
    · rw [Bool.not_eq_false'] at q
      have h : ckY L = true := by rw [ckY, q, q2]; rfl
      exact fin _ true (by rw [ckV, h]; rfl) h
    · rw [Bool.not_eq_false'] at q
      exact no (by rw [ckY, q, q2]; rfl)
  · cases hF

end Go.Proofs.YtcadinbahmliiaaGreatDoor

/- DesignText and EntryMake of both sides: trees. Conditions: a list of wheels. -/
namespace Go.Proofs.YtcadinbahmliiaaGreatDoor
open Go.RowKit
set_option maxRecDepth 100000

def gmDtS (yI : List Wh → Bool) (tI : List Wh → List Wh) (tx : List Wh → ByteArray) (okd : List Wh → Bool) : Gam := ext (gmTdS yI tI) 79 (specR md_ws (FtxO tx okd))
theorem treeDtS_h (yI : List Wh → Bool) (tI : List Wh → List Wh) (tx : List Wh → ByteArray) (okd : List Wh → Bool) (m : Nat) (f : Nat → Nat → Int) (u0 : _) (hu0 : (listW (itW fun q ↦ row9 f ((0 : Nat) + q)) m) = u0) (u1 : _) (hu1 : (List.length (tI u0)) = u1) (u2 : _) (hu2 : [AB.row false m 9 (row9 f) 75] = u2) : execF Tryz.prog (gmDtS yI tI tx okd) noLam 100 Tryz.f42 [.sl 0 9 0 0 m none] (hpC m f) (packK 1)
    = needs [Nat.ble ((0 : Nat) + m) m, allW m fun q ↦ row9 f ((0 : Nat) + q), decide (m ≤ (274877906944 : Nat))] (bif !yI u0 then Res.out .ret [AV.tup [AV.v (.string (ByteArray.mk (Array.mk []))), AV.v (.bool false)]] u2 else needs [Nat.ble u1 u1, allW u1 (row9 (wfun (tI u0))), okd (listW (itW (row9 (wfun (tI u0)))) u1)] (Res.out .ret [AV.tup [AV.v (.string (tx (listW (itW (row9 (wfun (tI u0)))) u1))), AV.v (.bool true)]] u2)) := by
  subst hu2 hu1 hu0
  kernel_rfl
theorem treeDtS (yI : List Wh → Bool) (tI : List Wh → List Wh) (tx : List Wh → ByteArray) (okd : List Wh → Bool) (m : Nat) (f : Nat → Nat → Int) : type_of% (treeDtS_h yI tI tx okd m f _ rfl _ rfl _ rfl) := treeDtS_h yI tI tx okd m f _ rfl _ rfl _ rfl

def FdtO (tv : List Wh → ByteArray) (yt : List Wh → Bool) : List SA → Option FR
  | [.row m g] => some { val := .tup [.v (.string (tv (listW (itW g) m))), .v (.bool (yt (listW (itW g) m)))], obl := [allW m g, decide (m ≤ 2 ^ 38)] }
  | _ => none
def gmEmS (tv : List Wh → ByteArray) (yt : List Wh → Bool) (cv : List Wh → Int) (cy : List Wh → Bool) : Gam := ext (ext g0 42 (specR md_ws (FdtO tv yt))) 36 (specR md_ws (FckO cv cy))
theorem treeEmS_h (tv : List Wh → ByteArray) (yt : List Wh → Bool) (cv : List Wh → Int) (cy : List Wh → Bool) (m : Nat) (f : Nat → Nat → Int) (u0 : _) (hu0 : [AV.tup [AV.agg [AV.v (.string (ByteArray.mk (Array.mk []))), AV.v (.int .u32 0)], AV.v (.bool false)]] = u0) (u1 : _) (hu1 : (listW (itW fun q ↦ row9 f ((0 : Nat) + q)) m) = u1) (u2 : _) (hu2 : [AB.row false m 9 (row9 f) 75] = u2) : execF Tryz.prog (gmEmS tv yt cv cy) noLam 100 Tryz.f16 [.sl 0 9 0 0 m none] (hpC m f) (packK 1)
    = needs [Nat.ble ((0 : Nat) + m) m, allW m fun q ↦ row9 f ((0 : Nat) + q), decide (m ≤ (274877906944 : Nat)), Nat.ble ((0 : Nat) + m) m, allW m fun q ↦ row9 f ((0 : Nat) + q), decide (m ≤ (274877906944 : Nat))] (bif !yt u1 then Res.out .ret u0 u2 else bif !cy u1 then Res.out .ret u0 u2 else bif decide ((↑(ByteArray.size (tv u1)) : Int) > (1500 : Int)) then Res.out .ret u0 u2 else Res.out .ret [AV.tup [AV.agg [AV.v (.string (tv u1)), AV.v (.int .u32 (cv u1))], AV.v (.bool true)]] u2) := by
  subst hu2 hu1 hu0
  kernel_rfl
theorem treeEmS (tv : List Wh → ByteArray) (yt : List Wh → Bool) (cv : List Wh → Int) (cy : List Wh → Bool) (m : Nat) (f : Nat → Nat → Int) : type_of% (treeEmS_h tv yt cv cy m f _ rfl _ rfl _ rfl) := treeEmS_h tv yt cv cy m f _ rfl _ rfl _ rfl

end Go.Proofs.YtcadinbahmliiaaGreatDoor

/- Plain algebra: how great products, mirrored points and parts can be. No program, no conditions. -/
namespace Go.Proofs.YtcadinbahmliiaaGreatDoor
open Go.RowKit

def bd8 (B : Int) (f : Nat → Int) : Prop := ∀ k, k < 8 → -B ≤ f k ∧ f k ≤ B
end Go.Proofs.YtcadinbahmliiaaGreatDoor

/- Plain lists of wheels: sums over the wheels that are linear in the radii do not change when the list is tidied; a tidy list is known by its sums. No program, no conditions. -/
namespace Go.Proofs.YtcadinbahmliiaaGreatDoor
open Go.RowKit

def linS (φ : Int → (Nat → Int) → Int) : List Wh → Int
  | [] => 0
  | w :: l => φ w.s w.r.f + linS φ l
def Lin (φ : Int → (Nat → Int) → Int) : Prop := ∀ s f g, φ s (fun k => f k + g k) = φ s f + φ s g
theorem Lin.zero {φ : Int → (Nat → Int) → Int} (h : Lin φ) (s : Int) : φ s (fun _ => 0) = 0 := by
  have := h s (fun _ => 0) (fun _ => 0)
  have e : (fun k : Nat => (fun _ : Nat => (0 : Int)) k + (fun _ : Nat => (0 : Int)) k) = fun _ => 0 := by
    funext k
    rfl
  rw [e] at this
  omega
def bdW (B : Int) (L : List Wh) : Prop := ∀ w ∈ L, bd8 B w.r.f
theorem Cy.f_out (a : Cy) {k : Nat} (h : 8 ≤ k) : a.f k = 0 := by
  unfold Cy.f
  match k, h with
  | k + 8, _ => rfl
theorem cyAdd_f {a b : Cy} (ha : bd8 2000000000000 a.f) (hb : bd8 2000000000000 b.f) : (cyAdd a b).f = fun k => a.f k + b.f k := by
  funext k
  by_cases hk : k < 8
  · have e : (cyAdd a b).f k = W (a.f k + b.f k) := by
      rcases (by omega : k = 0 ∨ k = 1 ∨ k = 2 ∨ k = 3 ∨ k = 4 ∨ k = 5 ∨ k = 6 ∨ k = 7) with rfl | rfl | rfl | rfl | rfl | rfl | rfl | rfl <;> rfl
    have h1 := ha k hk
    have h2 := hb k hk
    rw [e, w64_in (by omega) (by omega)]
  · rw [Cy.f_out _ (by omega), Cy.f_out _ (by omega), Cy.f_out _ (by omega)]
    rfl
theorem cyOk_bd {a : Cy} (h : cyOk a = true) : bd8 1000000 a.f := fun k hk => by
  have := smallF_iff.1 h k hk
  omega
theorem bd8.mono {A B : Int} {f : Nat → Int} (h : bd8 A f) (hAB : A ≤ B) : bd8 B f := fun k hk => by
  have := h k hk
  omega
theorem bdW.mono {A B : Int} {L : List Wh} (h : bdW A L) (hAB : A ≤ B) : bdW B L := fun w hw => (h w hw).mono hAB

theorem linS_insS {φ : Int → (Nat → Int) → Int} (hφ : Lin φ) {w : Wh} (hw : bd8 2000000000000 w.r.f) : ∀ {l : List Wh}, bdW 2000000000000 l → linS φ (insS l w) = linS φ l + φ w.s w.r.f
  | [], _ => by
    show φ w.s w.r.f + 0 = 0 + φ w.s w.r.f
    omega
  | x :: l, h => by
    unfold insS
    split
    · show φ x.s x.r.f + linS φ (insS l w) = φ x.s x.r.f + linS φ l + φ w.s w.r.f
      rw [linS_insS hφ hw fun y hy => h y (by simp [hy])]
      omega
    · split
      · rename_i e
        show φ x.s (cyAdd x.r w.r).f + linS φ l = φ x.s x.r.f + linS φ l + φ w.s w.r.f
        rw [cyAdd_f (h x (by simp)) hw, hφ, e]
        omega
      · show φ w.s w.r.f + (φ x.s x.r.f + linS φ l) = φ x.s x.r.f + linS φ l + φ w.s w.r.f
        omega
def okW (L : List Wh) : Prop := ∀ w ∈ L, cyOk w.r = true
theorem okW.bd {L : List Wh} (h : okW L) : bdW 1000000 L := fun w hw => cyOk_bd (h w hw)
theorem insS_ok {l : List Wh} {w : Wh} (hr : rising l) (h : okW l) (ho : cyOk (sumR l w) = true) : okW (insS l w) := fun x hx => by
  have := (insS_perm hr).subset hx
  rcases List.mem_cons.1 this with rfl | hx
  · exact ho
  · exact h x (List.mem_filter.1 hx).1
theorem linS_run {φ : Int → (Nat → Int) → Int} (hφ : Lin φ) : ∀ {ws acc B : List Wh}, bdW 2000000000000 ws → rising acc → okW acc → runT insS acc ws = some B → linS φ B = linS φ acc + linS φ ws ∧ rising B ∧ okW B
  | [], acc, B, _, hr, ho, h => by
    simp only [runT, Option.some.injEq] at h
    subst h
    exact ⟨by show linS φ acc = linS φ acc + 0; omega, hr, ho⟩
  | w :: ws, acc, B, hb, hr, ho, h => by
    unfold runT at h
    split at h
    · rename_i hk
      obtain ⟨e, h1, h2⟩ := linS_run hφ (ws := ws) (fun x hx => hb x (by simp [hx])) (insS_rising w hr) (insS_ok hr ho hk) h
      refine ⟨?_, h1, h2⟩
      rw [e, linS_insS hφ (hb w (by simp)) (ho.bd.mono (by omega))]
      show _ = linS φ acc + (φ w.s w.r.f + linS φ ws)
      omega
    · cases h
theorem linS_nonZ {φ : Int → (Nat → Int) → Int} (hφ : Lin φ) : ∀ L : List Wh, linS φ (nonZ L) = linS φ L
  | [] => rfl
  | w :: l => by
    have ih := linS_nonZ hφ l
    unfold nonZ at ih ⊢
    by_cases h : w.r = cyZ
    · rw [List.filter_cons_of_neg (by simp [h]), ih]
      show linS φ l = φ w.s w.r.f + linS φ l
      rw [h, show cyZ.f = fun _ => 0 from funext fun k => by
        by_cases hk : k < 8
        · rcases (by omega : k = 0 ∨ k = 1 ∨ k = 2 ∨ k = 3 ∨ k = 4 ∨ k = 5 ∨ k = 6 ∨ k = 7) with rfl | rfl | rfl | rfl | rfl | rfl | rfl | rfl <;> rfl
        · exact Cy.f_out _ (by omega), hφ.zero]
      omega
    · rw [List.filter_cons_of_pos (by simp [h])]
      show φ w.s w.r.f + linS φ _ = φ w.s w.r.f + linS φ l
      rw [ih]
def isTidy (T : List Wh) : Prop := rising T ∧ (∀ w ∈ T, w.r ≠ cyZ) ∧ dValid T = true
theorem tidyS_lin {ws T : List Wh} (hb : bdW 2000000000000 ws) (h : tidyS ws = some T) : isTidy T ∧ ∀ φ, Lin φ → linS φ T = linS φ ws := by
  unfold tidyS at h
  split at h
  · rename_i l hl
    split at h
    · rename_i hv
      cases h
      obtain ⟨_, h1, _⟩ := linS_run (φ := fun _ _ => 0) (fun _ _ _ => rfl) hb List.Pairwise.nil (fun w hw => by simp at hw) hl
      refine ⟨⟨List.Pairwise.filter _ h1, fun w hw => by simpa using (List.mem_filter.1 hw).2, hv⟩, fun φ hφ => ?_⟩
      obtain ⟨e, _⟩ := linS_run hφ hb List.Pairwise.nil (fun w hw => by simp at hw) hl
      rw [linS_nonZ hφ, e]
      show 0 + _ = _
      omega
    · cases h
  · cases h
theorem okT_some {L : List Wh} (h : okT L = true) : tidyS L = some (tidyL L) := by
  unfold okT at h
  unfold tidyL
  cases e : tidyS L with
  | none => rw [e] at h; cases h
  | some T => rfl
theorem tidyL_lin {ws : List Wh} (hb : bdW 2000000000000 ws) (h : okT ws = true) : isTidy (tidyL ws) ∧ ∀ φ, Lin φ → linS φ (tidyL ws) = linS φ ws := tidyS_lin hb (okT_some h)

theorem insS_end : ∀ {l : List Wh} {w : Wh}, (∀ x ∈ l, x.s < w.s) → insS l w = l ++ [w]
  | [], _, _ => rfl
  | x :: l, w, h => by
    unfold insS
    rw [if_pos (h x (by simp)), insS_end fun y hy => h y (by simp [hy])]
    rfl
theorem sumR_end {l : List Wh} {w : Wh} (h : ∀ x ∈ l, x.s < w.s) : sumR l w = w.r := by
  have : (l.find? fun x => decide (x.s = w.s)) = none := List.find?_eq_none.2 fun x hx => by
    have := h x hx
    simp only [decide_eq_true_eq]
    omega
  simp [sumR, radAt, this]
theorem run_tidy : ∀ {ws acc : List Wh}, rising (acc ++ ws) → okW ws → runT insS acc ws = some (acc ++ ws)
  | [], acc, _, _ => by simp [runT]
  | w :: ws, acc, hr, ho => by
    have hl : ∀ x ∈ acc, x.s < w.s := fun x hx => (List.pairwise_append.1 hr).2.2 x hx w (by simp)
    unfold runT
    rw [sumR_end hl, if_pos (ho w (by simp)), insS_end hl, run_tidy (by simpa using hr) fun x hx => ho x (by simp [hx])]
    simp
theorem dValid_ok {L : List Wh} (h : dValid L = true) : okW L := fun w hw => by
  rw [dValid, Bool.and_eq_true, List.all_eq_true] at h
  have := h.2 w hw
  rw [Bool.and_eq_true] at this
  exact this.2
theorem tidyS_self {T : List Wh} (h : isTidy T) : tidyS T = some T := by
  have hz : nonZ T = T := List.filter_eq_self.2 fun w hw => by simpa using h.2.1 w hw
  unfold tidyS
  rw [run_tidy (acc := []) (by simpa using h.1) (dValid_ok h.2.2)]
  simp only [List.nil_append]
  rw [hz, if_pos h.2.2]
theorem okT_self {T : List Wh} (h : isTidy T) : okT T = true := by rw [okT, tidyS_self h]; rfl
theorem tidyL_self {T : List Wh} (h : isTidy T) : tidyL T = T := by rw [tidyL, tidyS_self h]; rfl

end Go.Proofs.YtcadinbahmliiaaGreatDoor

/- DesignText and EntryMake of both sides: their words. Conditions: a list of wheels. -/
namespace Go.Proofs.YtcadinbahmliiaaGreatDoor
open Go.RowKit
set_option maxRecDepth 100000

theorem tI_okD {L : List Wh} (h : yI L = true) : okD (tI L) = true := by
  have hy := h
  rw [yI, Bool.and_eq_true] at hy
  have e : tI L = tidyL L := by rw [tI, h]; rfl
  rw [e]
  exact (tidyL_lin ((show bdW 1000000 L from fun w hw => (okD_mem hy.1 hw).2).mono (by omega)) hy.2).1.2.2

def txV (L : List Wh) : ByteArray := bif yI L then textB (tI L) else ⟨#[]⟩
theorem gmDtS_ok : GamOk Tryz.prog (gmDtS yI tI textB okD) := ext_ok (ext_ok g0_ok ok_tiS) ok_sx
theorem ok_dtS : SpecOk Tryz.prog 42 (specR md_ws (FdtO txV yI)) := by
  refine specR_hr gmDtS_ok Tryz.func42 rfl fun sas fr hF ho => ?_
  unfold FdtO at hF
  split at hF
  · rename_i m g
    cases hF
    simp only [ob_cons] at ho
    obtain ⟨h1, h2, _⟩ := ho
    have hm := of_decide_eq_true h2
    have fin : ∀ v b, txV (listW (itW g) m) = v → yI (listW (itW g) m) = b → GoodQ (.out .ret [.tup [.v (.string v), .v (.bool b)]] (hpC m (itW g))) (GivR (abP md_ws [.row m g] []) { val := .tup [.v (.string (txV (listW (itW g) m))), .v (.bool (yI (listW (itW g) m)))], obl := [allW m g, decide (m ≤ 2 ^ 38)] }) := fun v b hv hb =>
      good_out ⟨_, rfl, by rw [hv, hb], .cons (ABeq.row fun j hj => (allW_get h1 j hj).symm) .nil⟩
    refine ⟨hpC m (itW g), noLam, 100, .cons (ABeq.row fun j hj => allW_get h1 j hj) .nil, fun _ _ => noLam_ok _ _ _, ?_⟩
    show GoodQ (execF Tryz.prog (gmDtS yI tI textB okD) noLam 100 Tryz.f42 [.sl 0 9 0 0 m none] (hpC m (itW g)) (packK 1)) _
    rw [treeDtS]
    simp only [row0, listW_itW]
    generalize listW (itW g) m = L at fin ⊢
    refine good_needs (by simp only [ob_cons, ob_nil, and_true, decide_eq_true_eq, Nat.ble_eq, allW_row, true_and]; omega) (good_cond (fun q => ?_) fun q => ?_)
    · rw [Bool.not_eq_true'] at q
      exact fin _ _ (by rw [txV, q]; rfl) q
    · rw [Bool.not_eq_false'] at q
      rw [listW_fun]
      refine good_needs (by simp only [ob_cons, ob_nil, and_true, Nat.ble_eq, allW_row, true_and]; exact ⟨by omega, tI_okD q⟩) (fin _ _ (by rw [txV, q]; rfl) q)
  · cases hF

def emY (L : List Wh) : Bool := yI L && ckY L && decide ((txV L).size ≤ 1500)
def emV (L : List Wh) : ByteArray × Int := bif emY L then (txV L, ckV L) else (⟨#[]⟩, 0)
def FemO (v : List Wh → ByteArray × Int) (y : List Wh → Bool) : List SA → Option FR
  | [.row m g] => some { val := .tup [.agg [.v (.string (v (listW (itW g) m)).1), .v (.int .u32 (v (listW (itW g) m)).2)], .v (.bool (y (listW (itW g) m)))], obl := [allW m g, decide (m ≤ 2 ^ 38)] }
  | _ => none
theorem ok_emS : SpecOk Tryz.prog 16 (specR md_ws (FemO emV emY)) := by
  refine specR_hr (Γ := gmEmS txV yI ckV ckY) (ext_ok (ext_ok g0_ok ok_dtS) ok_ckS) Tryz.func16 rfl fun sas fr hF ho => ?_
  unfold FemO at hF
  split at hF
  · rename_i m g
    cases hF
    simp only [ob_cons] at ho
    obtain ⟨h1, h2, _⟩ := ho
    have hm := of_decide_eq_true h2
    have fin : ∀ v b, emV (listW (itW g) m) = v → emY (listW (itW g) m) = b → GoodQ (.out .ret [.tup [.agg [.v (.string v.1), .v (.int .u32 v.2)], .v (.bool b)]] (hpC m (itW g))) (GivR (abP md_ws [.row m g] []) { val := .tup [.agg [.v (.string (emV (listW (itW g) m)).1), .v (.int .u32 (emV (listW (itW g) m)).2)], .v (.bool (emY (listW (itW g) m)))], obl := [allW m g, decide (m ≤ 2 ^ 38)] }) := fun v b hv hb =>
      good_out ⟨_, rfl, by rw [hv, hb], .cons (ABeq.row fun j hj => (allW_get h1 j hj).symm) .nil⟩
    have no : emY (listW (itW g) m) = false → GoodQ (.out .ret [.tup [.agg [.v (.string (ByteArray.mk (Array.mk []))), .v (.int .u32 0)], .v (.bool false)]] (hpC m (itW g))) (GivR (abP md_ws [.row m g] []) { val := .tup [.agg [.v (.string (emV (listW (itW g) m)).1), .v (.int .u32 (emV (listW (itW g) m)).2)], .v (.bool (emY (listW (itW g) m)))], obl := [allW m g, decide (m ≤ 2 ^ 38)] }) := fun h => fin (⟨#[]⟩, 0) false (by rw [emV, h]; rfl) h
    refine ⟨hpC m (itW g), noLam, 100, .cons (ABeq.row fun j hj => allW_get h1 j hj) .nil, fun _ _ => noLam_ok _ _ _, ?_⟩
    show GoodQ (execF Tryz.prog (gmEmS txV yI ckV ckY) noLam 100 Tryz.f16 [.sl 0 9 0 0 m none] (hpC m (itW g)) (packK 1)) _
    rw [treeEmS]
    simp only [row0, listW_itW]
    generalize listW (itW g) m = L at fin no ⊢
    refine good_needs (by simp only [ob_cons, ob_nil, and_true, decide_eq_true_eq, Nat.ble_eq, allW_row, true_and]; omega) (good_cond (fun q => ?_) fun q => good_cond (fun q2 => ?_) fun q2 => good_cond (fun q3 => ?_) fun q3 => ?_)
    · rw [Bool.not_eq_true'] at q
      exact no (by rw [emY, q]; rfl)
    · rw [Bool.not_eq_true'] at q2
      exact no (by rw [emY, q2]; simp)
    · have q3 := of_decide_eq_true q3
      exact no (by rw [emY, decide_eq_false (by omega)]; simp)
    · rw [Bool.not_eq_false'] at q q2
      have q3 := of_decide_eq_false q3
      have h : emY L = true := by rw [emY, q, q2, decide_eq_true (by omega)]; rfl
      exact fin (txV L, ckV L) true (by rw [emV, h]; rfl) h
  · cases hF
end Go.Proofs.YtcadinbahmliiaaGreatDoor

/- DesignRead of the reference: trees. Conditions: a text. -/
namespace Go.Proofs.YtcadinbahmliiaaGreatDoor
open Go.RowKit
set_option maxRecDepth 100000

def gmRs (g : ByteArray → Int → Nat → ByteArray) (n : ByteArray → Int → Nat) (f : ByteArray → Int) (tx : List Wh → ByteArray) (yI : List Wh → Bool) : Gam := ext (ext (ext g0 68 (specR [.val, .val] (FcuO g n))) 69 (specR [.val] (FnbO f))) 42 (specR md_ws (FdtO tx yI))
abbrev lvRs : Ex → List Nat := lv3 [0, 4, 5, 6] [0, 4] [2, 3]
abbrev hpRs (k : Nat) (h : Nat → Nat → Int) (m : Nat) (gw : Nat → ByteArray) : List AB := [.row true k 9 (row9 h) 75, .row true m 1 (fun j => [.string (gw j)]) 9]
abbrev stRs (s : ByteArray) (k m : Nat) (i : Nat) : List AV := [.v (.string s), .own 0 k, .own 1 m, .v (i64 i)]
theorem rndRs_h (g : ByteArray → Int → Nat → ByteArray) (n : ByteArray → Int → Nat) (f : ByteArray → Int) (tx : List Wh → ByteArray) (yI : List Wh → Bool) (s : ByteArray) (k : Nat) (h : Nat → Nat → Int) (m : Nat) (gw : Nat → ByteArray) (i : Nat) (u2 : _) (hu2 : (gw (Int.toNat (↑i : Int))) = u2) (u3 : _) (hu3 : (44 : Int) = u3) (u4 : _) (hu4 : (0 : Nat) = u4) (u5 : _) (hu5 : (1 : Nat) = u5) (u6 : _) (hu6 : (↑(n u2 (58 : Int)) : Int) = u6) (u7 : _) (hu7 : [AB.row true u4 9 (fun _ ↦ []) (75 : Nat)] = u7) (u0 : _) (hu0 : (g u2 (58 : Int) u5) = u0) (u1 : _) (hu1 : (↑(n u0 u3) : Int) = u1) : execC Tryz.prog (gmRs g n f tx yI) 200 noLam (loopAt 0 Tryz.f35) (mkT 0 82 ((lvRs .normal).zip (stRs s k m i))) (hpRs k h m gw) (leafV 82 lvRs 0)
    = bif decide ((↑i : Int) < (m : Int)) then needs [decide ((↑i : Int) < (m : Int)), decide (Int.toNat (↑i : Int) < m), Nat.blt (ByteArray.size u2) (4294967281 : Nat)] (bif u6 != (2 : Int) then Res.out .ret [AV.own u4 u4, AV.v (.bool false)] u7 else needs [decide ((1 : Int) < u6), decide (u5 < n u2 (58 : Int)), Nat.blt (ByteArray.size u0) (4294967281 : Nat)] (bif u1 != (8 : Int) then Res.out .ret [AV.own u4 u4, AV.v (.bool false)] u7 else needs [decide ((0 : Int) < u6), decide (u4 < n u2 (58 : Int)), decide ((0 : Int) < u1), decide (u4 < n u0 u3), decide ((1 : Int) < u1), decide (u5 < n u0 u3), decide ((2 : Int) < u1), decide ((2 : Nat) < n u0 u3), decide ((3 : Int) < u1), decide ((3 : Nat) < n u0 u3), decide ((4 : Int) < u1), decide ((4 : Nat) < n u0 u3), decide ((5 : Int) < u1), decide ((5 : Nat) < n u0 u3), decide ((6 : Int) < u1), decide ((6 : Nat) < n u0 u3), decide ((7 : Int) < u1), decide ((7 : Nat) < n u0 u3), Nat.ble k k, Nat.ble (k + u5) (549755813888 : Nat)] (Res.out .normal [AV.v (.string s), AV.own u4 (k + u5), AV.own u5 m, AV.v (.int .i64 (IntKind.wrap .i64 ((↑i : Int) + (1 : Int))))] [AB.row true (k + u5) (9 : Nat) (fun q ↦ [Value.int .i64 (bif Nat.blt q k then h q u4 else f (g u2 (58 : Int) u4)), Value.int .i64 (bif Nat.blt q k then h q u5 else f (g u0 u3 u4)), Value.int .i64 (bif Nat.blt q k then h q (2 : Nat) else f (g u0 u3 u5)), Value.int .i64 (bif Nat.blt q k then h q (3 : Nat) else f (g u0 u3 (2 : Nat))), Value.int .i64 (bif Nat.blt q k then h q (4 : Nat) else f (g u0 u3 (3 : Nat))), Value.int .i64 (bif Nat.blt q k then h q (5 : Nat) else f (g u0 u3 (4 : Nat))), Value.int .i64 (bif Nat.blt q k then h q (6 : Nat) else f (g u0 u3 (5 : Nat))), Value.int .i64 (bif Nat.blt q k then h q (7 : Nat) else f (g u0 u3 (6 : Nat))), Value.int .i64 (bif Nat.blt q k then h q (8 : Nat) else f (g u0 u3 (7 : Nat)))]) (75 : Nat), AB.row true m u5 (fun j ↦ [Value.string (gw j)]) 9]))) else Res.out (Ex.exit u4) [AV.v (.string s), AV.own u4 k] [AB.row true k 9 (row9 h) 75] := by
  subst hu1 hu0 hu7 hu6 hu5 hu4 hu3 hu2
  kernel_rfl
theorem rndRs (g : ByteArray → Int → Nat → ByteArray) (n : ByteArray → Int → Nat) (f : ByteArray → Int) (tx : List Wh → ByteArray) (yI : List Wh → Bool) (s : ByteArray) (k : Nat) (h : Nat → Nat → Int) (m : Nat) (gw : Nat → ByteArray) (i : Nat) : type_of% (rndRs_h g n f tx yI s k h m gw i _ rfl _ rfl _ rfl _ rfl _ rfl _ rfl _ rfl _ rfl) := rndRs_h g n f tx yI s k h m gw i _ rfl _ rfl _ rfl _ rfl _ rfl _ rfl _ rfl _ rfl

noncomputable abbrev lamRs (s : ByteArray) (m : Nat) (gw : Nat → ByteArray) (q : Bool) (k : Nat) (h : Nat → Nat → Int) : Nat → Option Sum := oneL 0 (atS 82 (lvRs .normal) 0 (stRs s 0 m 0) (hpRs 0 (wfun []) m gw) (fun K => cond q (K .normal (mkT 0 82 [(0, .v (.string s)), (4, .own 0 k)]) [.row true k 9 (row9 h) 75]) (K .ret (mkT 0 82 [(2, .own 0 0), (3, .v (.bool false))]) [.row true 0 9 (fun _ => []) 75])))
theorem treeRs_h (g : ByteArray → Int → Nat → ByteArray) (n : ByteArray → Int → Nat) (f : ByteArray → Int) (tx : List Wh → ByteArray) (yI : List Wh → Bool) (s : ByteArray) (q : Bool) (k : Nat) (h : Nat → Nat → Int) (u2 : _) (hu2 : (0 : Nat) = u2) (u3 : _) (hu3 : (n s (32 : Int)) = u3) (u0 : _) (hu0 : (AB.row true u2 9 (fun _ ↦ []) (75 : Nat)) = u0) (u1 : _) (hu1 : [AV.tup [AV.own u2 u2, AV.v (.bool false)]] = u1) : execF Tryz.prog (gmRs g n f tx yI) (lamRs s (n s 32) (g s 32) q k h) 200 Tryz.f35 [.v (.string s)] [] (packK 0)
    = bif decide ((↑(ByteArray.size s) : Int) > (1500 : Int)) then Res.out .ret u1 [u0] else bif eqB s (ByteArray.mk (Array.mk [(45 : UInt8)])) then Res.out .ret [AV.tup [AV.own u2 u2, AV.v (.bool true)]] [u0] else needs [Nat.blt (ByteArray.size s) (4294967281 : Nat), chk ([AV.v (.string s), AV.own u2 u2, AV.own 1 u3, AV.v (.int .i64 0)] = stRs s u2 u3 u2 ∧ Hsim [u0, AB.row true u3 1 (fun j ↦ [Value.string (g s (32 : Int) j)]) 9] (hpRs u2 (wfun []) u3 (g s (32 : Int))))] (bif q then needs [Nat.ble k k, allW k (row9 h), decide (k ≤ (274877906944 : Nat))] (bif !yI (listW (itW (row9 h)) k) then Res.out .ret u1 [u0] else bif !eqB (tx (listW (itW (row9 h)) k)) s then Res.out .ret u1 [u0] else Res.out .ret [AV.tup [AV.own u2 k, AV.v (.bool true)]] [AB.row true k 9 (row9 h) 75]) else Res.out .ret u1 [AB.row true u2 9 (fun _ ↦ []) 75]) := by
  subst hu1 hu0 hu3 hu2
  kernel_rfl
theorem treeRs (g : ByteArray → Int → Nat → ByteArray) (n : ByteArray → Int → Nat) (f : ByteArray → Int) (tx : List Wh → ByteArray) (yI : List Wh → Bool) (s : ByteArray) (q : Bool) (k : Nat) (h : Nat → Nat → Int) : type_of% (treeRs_h g n f tx yI s q k h _ rfl _ rfl _ rfl _ rfl) := treeRs_h g n f tx yI s q k h _ rfl _ rfl _ rfl _ rfl

theorem treeRsB (g : ByteArray → Int → Nat → ByteArray) (n : ByteArray → Int → Nat) (f : ByteArray → Int) (tx : List Wh → ByteArray) (yI : List Wh → Bool) (s : ByteArray) : execF Tryz.prog (gmRs g n f tx yI) (oneL 0 errS) 200 Tryz.f35 [.v (.string s)] [] (packK 0)
    = bif decide ((↑(ByteArray.size s) : Int) > (1500 : Int)) then Res.out .ret [AV.tup [AV.own 0 (0 : Nat), AV.v (.bool false)]] [AB.row true (0 : Nat) (9 : Nat) (fun _ ↦ []) (75 : Nat)] else bif eqB s (ByteArray.mk (Array.mk [(45 : UInt8)])) then Res.out .ret [AV.tup [AV.own 0 (0 : Nat), AV.v (.bool true)]] [AB.row true (0 : Nat) (9 : Nat) (fun _ ↦ []) (75 : Nat)] else needs [Nat.blt (ByteArray.size s) (4294967281 : Nat)] Res.err := by kernel_rfl

end Go.Proofs.YtcadinbahmliiaaGreatDoor
