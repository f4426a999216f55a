/- DesignRead of the reference: trees. Conditions: a text. -/
import Derived.Test.YtcadinbahmliiaaGreatDoorZD0
import Derived.Test.YtcadinbahmliiaaGreatDoorZD1
import Derived.Test.YtcadinbahmliiaaGreatDoorZD2
import Derived.Test.YtcadinbahmliiaaGreatDoorZD3
/- l5Each, the reference's. Conditions: a list of wheels. -/
namespace Go.Proofs.YtcadinbahmliiaaGreatDoor
open Go.RowKit
set_option maxRecDepth 100000

def fIsO (ok : Int → Bool) : List Value → Option (Value × List Bool)
  | [.int .i64 n] => some (.bool (ok n), [])
  | _ => none
def FtidyO (ti : List Wh → List Wh) (okt : List Wh → Bool) : List SA → Option FR
  | [.row m g] => some { val := .tup [.own 0 (ti (listW (itW g) m)).length, .v (.bool (okt (listW (itW g) m)))], new := [.row true (ti (listW (itW g) m)).length 9 (row9 (wfun (ti (listW (itW g) m)))) 75], obl := [allW m g, decide (m ≤ 2 ^ 38)] }
  | _ => none
def gmE1 (md : Int → Int) (mi : (Nat → Int) → Nat → Int) (tu : (Nat → Int) → Int → Nat → Int) : Gam := ext (ext (ext g0 142 (specV (fMd md))) 140 (specV (fMirO mi))) 141 (specR [.val, .val] (FtuO tu))
abbrev lvEa : Ex → List Nat := lv3 [0, 1, 2, 3, 4, 12, 13] [12] [10, 11]
abbrev stEa (m : Nat) (sp tn la : Int) (mir : Bool) (n i : Nat) : List AV := [.sl 0 9 0 0 m none, .v (i64 sp), .v (i64 tn), .v (i64 la), .v (.bool mir), .own 1 n, .v (i64 i)]
theorem rndEa_h (md : Int → Int) (mi : (Nat → Int) → Nat → Int) (tu : (Nat → Int) → Int → Nat → Int) (m : Nat) (f : Nat → Nat → Int) (t : TypeId) (sp tn la : Int) (mir : Bool) (n : Nat) (h : Nat → Nat → Int) (i : Nat) (u6 : _) (hu6 : (0 : Nat) = u6) (u7 : _) (hu7 : (decide ((↑i : Int) < (m : Int))) = u7) (u8 : _) (hu8 : (AB.row false m 9 (row9 f) t) = u8) (u11 : _) (hu11 : (1 : Nat) = u11) (u2 : _) (hu2 : (u6 + Int.toNat (↑i : Int)) = u2) (u3 : _) (hu3 : [AV.sl u6 (9 : Nat) u6 u6 m none, AV.v (.int .i64 sp), AV.v (.int .i64 tn), AV.v (.int .i64 la), AV.v (.bool mir), AV.own u11 (n + u11), AV.v (.int .i64 (IntKind.wrap .i64 ((↑i : Int) + (1 : Int))))] = u3) (u5 : _) (hu5 : (decide (u6 + Int.toNat (↑i : Int) < m)) = u5) (u0 : _) (hu0 : (v8 (f u2 u11) (f u2 (2 : Nat)) (f u2 (3 : Nat)) (f u2 (4 : Nat)) (f u2 (5 : Nat)) (f u2 (6 : Nat)) (f u2 (7 : Nat)) (f u2 (8 : Nat))) = u0) (u1 : _) (hu1 : (IntKind.wrap .i64 (tn + IntKind.wrap .i64 (la * f u2 u6))) = u1) (u4 : _) (hu4 : [u7, u5, u7, u5, decide (md u1 ≤ (1099511627776 : Int)), Nat.ble n n, Nat.ble (n + u11) (549755813888 : Nat)] = u4) (u9 : _) (hu9 : (w8 (mi u0)) = u9) (u10 : _) (hu10 : (md u1) = u10) : execC Tryz.prog (gmE1 md mi tu) 100 noLam (loopAt 0 Tryz.f96) (mkT 0 71 ((lvEa .normal).zip (stEa m sp tn la mir n i))) (hpTI m f t n h) (leafV 71 lvEa 1)
    = bif decide ((↑i : Int) < (m : Int)) then needs [u7, u5] (bif mir then needs u4 (Res.out .normal u3 [u8, AB.row true (n + u11) (9 : Nat) (fun q ↦ [Value.int .i64 (bif Nat.blt q n then h q u6 else IntKind.wrap .i64 (sp * f u2 u6)), Value.int .i64 (bif Nat.blt q n then h q u11 else tu u9 u10 u6), Value.int .i64 (bif Nat.blt q n then h q (2 : Nat) else tu u9 u10 u11), Value.int .i64 (bif Nat.blt q n then h q (3 : Nat) else tu u9 u10 (2 : Nat)), Value.int .i64 (bif Nat.blt q n then h q (4 : Nat) else tu u9 u10 (3 : Nat)), Value.int .i64 (bif Nat.blt q n then h q (5 : Nat) else tu u9 u10 (4 : Nat)), Value.int .i64 (bif Nat.blt q n then h q (6 : Nat) else tu u9 u10 (5 : Nat)), Value.int .i64 (bif Nat.blt q n then h q (7 : Nat) else tu u9 u10 (6 : Nat)), Value.int .i64 (bif Nat.blt q n then h q (8 : Nat) else tu u9 u10 (7 : Nat))]) (75 : Nat)]) else needs u4 (Res.out .normal u3 [u8, AB.row true (n + u11) (9 : Nat) (fun q ↦ [Value.int .i64 (bif Nat.blt q n then h q u6 else IntKind.wrap .i64 (sp * f u2 u6)), Value.int .i64 (bif Nat.blt q n then h q u11 else tu u0 u10 u6), Value.int .i64 (bif Nat.blt q n then h q (2 : Nat) else tu u0 u10 u11), Value.int .i64 (bif Nat.blt q n then h q (3 : Nat) else tu u0 u10 (2 : Nat)), Value.int .i64 (bif Nat.blt q n then h q (4 : Nat) else tu u0 u10 (3 : Nat)), Value.int .i64 (bif Nat.blt q n then h q (5 : Nat) else tu u0 u10 (4 : Nat)), Value.int .i64 (bif Nat.blt q n then h q (6 : Nat) else tu u0 u10 (5 : Nat)), Value.int .i64 (bif Nat.blt q n then h q (7 : Nat) else tu u0 u10 (6 : Nat)), Value.int .i64 (bif Nat.blt q n then h q (8 : Nat) else tu u0 u10 (7 : Nat))]) (75 : Nat)])) else Res.out (Ex.exit u6) [AV.own u11 n] [u8, AB.row true n 9 (row9 h) 75] := by
  subst hu10 hu9 hu4 hu1 hu0 hu5 hu3 hu2 hu11 hu8 hu7 hu6
  kernel_rfl
theorem rndEa (md : Int → Int) (mi : (Nat → Int) → Nat → Int) (tu : (Nat → Int) → Int → Nat → Int) (m : Nat) (f : Nat → Nat → Int) (t : TypeId) (sp tn la : Int) (mir : Bool) (n : Nat) (h : Nat → Nat → Int) (i : Nat) : type_of% (rndEa_h md mi tu m f t sp tn la mir n h i _ rfl _ rfl _ rfl _ rfl _ rfl _ rfl _ rfl _ rfl _ rfl _ rfl _ rfl _ rfl) := rndEa_h md mi tu m f t sp tn la mir n h i _ rfl _ rfl _ rfl _ rfl _ rfl _ rfl _ rfl _ rfl _ rfl _ rfl _ rfl _ rfl

noncomputable abbrev lamEa (m : Nat) (f : Nat → Nat → Int) (t : TypeId) (sp tn la : Int) (mir : Bool) (n : Nat) (h : Nat → Nat → Int) : Nat → Option Sum := oneL 0 (atS 71 (lvEa .normal) 1 (stEa m sp tn la mir 0 0) (hpTI m f t 0 (wfun [])) (fun K => K .normal (mkT 0 71 [(12, .own 1 n)]) (hpTI m f t n h)))
def gmE2 (okd : List Wh → Bool) (is : Int → Bool) (ti : List Wh → List Wh) (okt : List Wh → Bool) : Gam := ext (ext (ext g0 100 (specR md_ws (FdvO okd))) 102 (specV (fIsO is))) 101 (specR md_ws (FtidyO ti okt))
theorem treeEa_h (okd : List Wh → Bool) (is : Int → Bool) (ti : List Wh → List Wh) (okt : List Wh → Bool) (m : Nat) (f : Nat → Nat → Int) (t : TypeId) (sp tn la : Int) (mir : Bool) (n : Nat) (h : Nat → Nat → Int) (u2 : _) (hu2 : (0 : Nat) = u2) (u3 : _) (hu3 : (listW (itW (row9 h)) n) = u3) (u0 : _) (hu0 : [AB.row false m 9 (row9 f) t, AB.row true u2 9 (fun _ ↦ []) (75 : Nat)] = u0) (u1 : _) (hu1 : [AV.tup [AV.own 1 u2, AV.v (.bool false)]] = u1) : execF Tryz.prog (gmE2 okd is ti okt) (lamEa m f t sp tn la mir n h) 100 Tryz.f96 [.sl 0 9 0 0 m none, .v (i64 sp), .v (i64 tn), .v (i64 la), .v (.bool mir)] [.row false m 9 (row9 f) t] (packK 1)
    = needs [Nat.ble (u2 + m) m, allW m fun q ↦ row9 f (u2 + q), decide (m ≤ (549755813888 : Nat))] (bif !okd (listW (itW fun q ↦ row9 f (u2 + q)) m) then Res.out .ret u1 u0 else bif !is tn then Res.out .ret u1 u0 else bif !is la then Res.out .ret u1 u0 else needs [chk ([AV.sl u2 (9 : Nat) u2 u2 m none, AV.v (.int .i64 sp), AV.v (.int .i64 tn), AV.v (.int .i64 la), AV.v (.bool mir), AV.own 1 u2, AV.v (.int .i64 0)] = stEa m sp tn la mir u2 u2 ∧ Hsim u0 (hpTI m f t u2 (wfun []))), Nat.ble n n, allW n (row9 h), decide (n ≤ (274877906944 : Nat))] (Res.out .ret [AV.tup [AV.own 1 (List.length (ti u3)), AV.v (.bool (okt u3))]] [AB.row false m 9 (row9 f) t, AB.row true (List.length (ti u3)) (9 : Nat) (row9 (wfun (ti u3))) 75])) := by
  subst hu1 hu0 hu3 hu2
  kernel_rfl
theorem treeEa (okd : List Wh → Bool) (is : Int → Bool) (ti : List Wh → List Wh) (okt : List Wh → Bool) (m : Nat) (f : Nat → Nat → Int) (t : TypeId) (sp tn la : Int) (mir : Bool) (n : Nat) (h : Nat → Nat → Int) : type_of% (treeEa_h okd is ti okt m f t sp tn la mir n h _ rfl _ rfl _ rfl _ rfl) := treeEa_h okd is ti okt m f t sp tn la mir n h _ rfl _ rfl _ rfl _ rfl

theorem fIsO_eq : fIsO (fun n => inR n 0 23) = f_l1Is := by
  funext l
  rfl
theorem FtidyO_eq : FtidyO tidyL okT = F_tidy := by
  funext l
  rfl
theorem gmE1_ok : GamOk Tryz.prog (gmE1 (fun n => n % 24) mirF (fun a n => turnedF a n.toNat)) := by
  have e : fMirO mirF = f_l2Mirror := by funext l; rfl
  unfold gmE1
  rw [fMd_eq, FtuO_eq, e]
  exact ext_ok (ext_ok (ext_ok g0_ok ok_l1Mod) ok_l2Mirror) ok_turnedS
theorem gmE2_ok : GamOk Tryz.prog (gmE2 okD (fun n => inR n 0 23) tidyL okT) := by
  unfold gmE2
  rw [fIsO_eq, FtidyO_eq, FdvO_eq]
  exact ext_ok (ext_ok (ext_ok g0_ok ok_dv) ok_l1Is) ok_tidyS
def chE (sp tn la : Int) (mir : Bool) (w : Wh) : Wh := ⟨IntKind.wrap IntKind.i64 (sp * w.s), cyOf (turnedF (bif mir then w8 (mirF w.r.f) else w.r.f) ((IntKind.wrap IntKind.i64 (tn + IntKind.wrap IntKind.i64 (la * w.s))) % 24).toNat)⟩
theorem sumEa (m : Nat) (f : Nat → Nat → Int) (t : TypeId) (sp tn la : Int) (mir : Bool) (hm : m ≤ 2 ^ 38) :
    SumOk Tryz.prog 1 (.block 0 (.loop (loopAt 0 Tryz.f96))) (atS 71 (lvEa .normal) 1 (stEa m sp tn la mir 0 0) (hpTI m f t 0 (wfun [])) (fun K => K .normal (mkT 0 71 [(12, .own 1 m)]) (hpTI m f t m (wfun ((listW f m).map (chE sp tn la mir)))))) := by
  refine for_at gmE1_ok (n := 100) (m := 1) (lv := lvEa) (fun i => stEa m sp tn la mir i i) (fun i => hpTI m f t i (wfun ((listW f i).map (chE sp tn la mir)))) (fun _ => True) m (fun _ => noLam) (lv3_ris rfl rfl rfl) (Nat.le_refl _) trivial fun K Q hk i hi him => ⟨noLam_ok _ _ _, ?_⟩
  rw [rndEa]
  refine good_cond (fun c1 => ?_) fun c1 => ?_
  · have c1 := of_decide_eq_true c1
    have c1' : i < m := by omega
    rw [Int.toNat_natCast, Nat.zero_add, wr_in (x := (i : Int) + 1) (by omega)]
    refine good_needs (by simp only [ob_cons, ob_nil, and_true, decide_eq_true_eq]; omega) ?_
    cases mir with
    | true =>
      refine good_needs (by simp only [ob_cons, ob_nil, and_true, decide_eq_true_eq, Nat.ble_eq]; omega) (good_out ⟨i + 1, ⟨rfl, c1', trivial⟩, rfl, ?_⟩)
      show Hsim _ (hpTI m f t (i + 1) (wfun ((listW f (i + 1)).map (chE sp tn la true))))
      rw [listW_succ, List.map_append]
      refine .cons (ABeq.refl _) (.cons (ABeq.row fun q hq => ?_) .nil)
      exact ch_row _ (chE sp tn la true (whOf (f i))) i (by rw [List.length_map, listW_length]) q hq
    | false =>
      refine good_needs (by simp only [ob_cons, ob_nil, and_true, decide_eq_true_eq, Nat.ble_eq]; omega) (good_out ⟨i + 1, ⟨rfl, c1', trivial⟩, rfl, ?_⟩)
      show Hsim _ (hpTI m f t (i + 1) (wfun ((listW f (i + 1)).map (chE sp tn la false))))
      rw [listW_succ, List.map_append]
      refine .cons (ABeq.refl _) (.cons (ABeq.row fun q hq => ?_) .nil)
      exact ch_row _ (chE sp tn la false (whOf (f i))) i (by rw [List.length_map, listW_length]) q hq
  · have c1 := of_decide_eq_false c1
    have : i = m := by omega
    subst this
    refine good_out ⟨_, Hsim.refl _, ?_⟩
    rw [if_pos rfl]
    exact hk

def eachP (tn la : Int) (L : List Wh) : Bool := okD L && (inR tn 0 23 && inR la 0 23)
def eachOk (sp tn la : Int) (mir : Bool) (L : List Wh) : Bool := eachP tn la L && okT (L.map (chE sp tn la mir))
def eachL (sp tn la : Int) (mir : Bool) (L : List Wh) : List Wh := bif eachP tn la L then tidyL (L.map (chE sp tn la mir)) else []
def FeaO (ok : Int → Int → Int → Bool → List Wh → Bool) (el : Int → Int → Int → Bool → List Wh → List Wh) : List SA → Option FR
  | [.row m g, .v (.int .i64 sp), .v (.int .i64 tn), .v (.int .i64 la), .v (.bool mir)] => some { val := .tup [.own 0 (el sp tn la mir (listW (itW g) m)).length, .v (.bool (ok sp tn la mir (listW (itW g) m)))], new := [.row true (el sp tn la mir (listW (itW g) m)).length 9 (row9 (wfun (el sp tn la mir (listW (itW g) m)))) 75], obl := [allW m g, decide (m ≤ 2 ^ 38)] }
  | _ => none
def md_ea : List Md := [.rd 9 75, .val, .val, .val, .val]
theorem ok_each : SpecOk Tryz.prog 96 (specR md_ea (FeaO eachOk eachL)) := by
  refine specR_hr gmE2_ok Tryz.func96 rfl fun sas fr hF ho => ?_
  unfold FeaO at hF
  split at hF
  · rename_i m g sp tn la mir
    cases hF
    simp only [ob_cons] at ho
    obtain ⟨h1, h2, _⟩ := ho
    have hm := of_decide_eq_true h2
    refine ⟨[.row false m 9 (row9 (itW g)) 75], lamEa m (itW g) 75 sp tn la mir m (wfun ((listW (itW g) m).map (chE sp tn la mir))), 100, .cons (ABeq.row fun j hj => allW_get h1 j hj) .nil, lam1 (by kernel_rfl) (sumEa m (itW g) 75 sp tn la mir hm), ?_⟩
    show GoodQ (execF Tryz.prog (gmE2 okD (fun n => inR n 0 23) tidyL okT) (lamEa m (itW g) 75 sp tn la mir m (wfun ((listW (itW g) m).map (chE sp tn la mir)))) 100 Tryz.f96 [.sl 0 9 0 0 m none, .v (i64 sp), .v (i64 tn), .v (i64 la), .v (.bool mir)] [.row false m 9 (row9 (itW g)) 75] (packK 1)) _
    rw [treeEa, row0, listW_itW, listW_self ((listW (itW g) m).map (chE sp tn la mir)) m (by rw [List.length_map, listW_length])]
    have fin : ∀ (D : List Wh) (b : Bool) (G : Nat → List Value), eachOk sp tn la mir (listW (itW g) m) = b → eachL sp tn la mir (listW (itW g) m) = D → (∀ j, j < D.length → G j = row9 (wfun D) j) → GoodQ (.out .ret [.tup [.own 1 D.length, .v (.bool b)]] [.row false m 9 (row9 (itW g)) 75, .row true D.length 9 G 75])
        (GivR (abP md_ea [.row m g, .v (.int .i64 sp), .v (.int .i64 tn), .v (.int .i64 la), .v (.bool mir)] []) { val := .tup [.own 0 (eachL sp tn la mir (listW (itW g) m)).length, .v (.bool (eachOk sp tn la mir (listW (itW g) m)))], new := [.row true (eachL sp tn la mir (listW (itW g) m)).length 9 (row9 (wfun (eachL sp tn la mir (listW (itW g) m)))) 75], obl := [allW m g, decide (m ≤ 2 ^ 38)] }) := by
      rintro D b G rfl rfl hG
      exact good_out ⟨_, rfl, rfl, .cons (ABeq.row fun j hj => (allW_get h1 j hj).symm) (.cons (ABeq.row hG) .nil)⟩
    have bad : eachP tn la (listW (itW g) m) = false → GoodQ (.out .ret [.tup [.own 1 0, .v (.bool false)]] [.row false m 9 (row9 (itW g)) 75, .row true 0 9 (fun _ => []) 75]) _ := fun e =>
      fin [] false _ (by rw [eachOk, e]; rfl) (by rw [eachL, e]; rfl) fun j hj => absurd hj (Nat.not_lt_zero _)
    refine good_needs (by simp only [ob_cons, ob_nil, and_true, decide_eq_true_eq, Nat.ble_eq, allW_row, true_and]; omega) ?_
    cases q1 : okD (listW (itW g) m) with
    | false => exact good_true rfl (bad (by rw [eachP, q1]; rfl))
    | true =>
      refine good_false rfl ?_
      cases q2 : inR tn 0 23 with
      | false => exact good_true rfl (bad (by rw [eachP, q1, q2]; rfl))
      | true =>
        refine good_false rfl ?_
        cases q3 : inR la 0 23 with
        | false => exact good_true rfl (bad (by rw [eachP, q1, q2, q3]; rfl))
        | true =>
          refine good_false rfl (good_needs ?_ (fin _ _ _ (by rw [eachOk, eachP, q1, q2, q3]; rfl) (by rw [eachL, eachP, q1, q2, q3]; rfl) fun j hj => rfl))
          simp only [ob_cons, ob_nil, and_true, allW_row]
          exact ⟨chk_of ⟨rfl, .cons (ABeq.refl _) (.cons (ABeq.row fun j hj => absurd hj (Nat.not_lt_zero _)) .nil)⟩, by simp, trivial, decide_eq_true hm⟩
  · cases hF
abbrev hpQW (m : Nat) (f h : Nat → Nat → Int) : List AB := [.row false m 9 (row9 f) 75, .row false m 9 (row9 h) 75]

end Go.Proofs.YtcadinbahmliiaaGreatDoor

/- Helpers on what l5Each and the changes come to. No conditions. -/
namespace Go.Proofs.YtcadinbahmliiaaGreatDoor
open Go.RowKit
set_option maxRecDepth 100000

def md_eqWS : List Md := [.rd 9 75, .rd 9 75]
theorem ble_me (n : Nat) : Nat.ble n n = true := by simp
theorem needs_nil (r : Res) : needs [] r = r := rfl
theorem needs_t (l : List Bool) (r : Res) : needs (true :: l) r = needs l r := rfl
theorem map_same {c d : Wh → Wh} {L : List Wh} (h : ∀ w ∈ L, c w = d w) : L.map c = L.map d := List.map_congr_left h
theorem tidyL_no {L : List Wh} (h : okT L = false) : tidyL L = [] := by
  unfold okT at h
  unfold tidyL
  cases e : tidyS L with
  | none => rfl
  | some T => rw [e] at h; cases h
theorem tidyL_len {L : List Wh} (h : okT L = true) : (tidyL L).length ≤ 12 := by
  unfold okT at h
  unfold tidyL
  cases e : tidyS L with
  | none => rw [e] at h; cases h
  | some T =>
    unfold tidyS at e
    split at e
    · split at e
      · rename_i hv
        cases e
        rw [dValid, Bool.and_eq_true] at hv
        exact of_decide_eq_true hv.1
      · cases e
    · cases e
theorem each_yes {sp tn la : Int} {mir : Bool} {L M : List Wh} (hp : eachP tn la L = true) (hM : L.map (chE sp tn la mir) = M) (ht : okT M = true) : eachL sp tn la mir L = tidyL M ∧ eachOk sp tn la mir L = true := by
  subst hM
  refine ⟨?_, ?_⟩
  · rw [eachL, hp]; rfl
  · rw [eachOk, hp, ht]; rfl
theorem each_no {sp tn la : Int} {mir : Bool} {L : List Wh} (h : eachP tn la L = true → okT (L.map (chE sp tn la mir)) = false) : eachL sp tn la mir L = [] ∧ eachOk sp tn la mir L = false := by
  cases hp : eachP tn la L with
  | false => exact ⟨by rw [eachL, hp]; rfl, by rw [eachOk, hp]; rfl⟩
  | true => exact ⟨by rw [eachL, hp]; exact tidyL_no (h hp), by rw [eachOk, hp, h hp]; rfl⟩
theorem wr_w (x : Int) : IntKind.wrap IntKind.i64 (IntKind.wrap IntKind.i64 x) = IntKind.wrap IntKind.i64 x := w64_w64 x
theorem chTu_same {x : Int} (hx : inR x 0 23 = true) {w : Wh} (h1 : -1000 ≤ w.s ∧ w.s ≤ 1000) : chTu x w = chE 1 x 0 false w := by
  have hx := inR_iff.1 hx
  have e1 : IntKind.wrap IntKind.i64 (1 * w.s) = w.s := by rw [Int.one_mul, wr_in (by omega)]
  have e2 : IntKind.wrap IntKind.i64 (x + IntKind.wrap IntKind.i64 (0 * w.s)) = x := by
    rw [Int.zero_mul, wr_in (x := 0) (by omega), Int.add_zero, wr_in (by omega)]
  rw [chTu, chE, e1, e2]
  rfl
theorem chLa_same {x : Int} (hx : inR x 0 23 = true) {w : Wh} (h1 : -1000 ≤ w.s ∧ w.s ≤ 1000) : chLa x w = chE 1 0 x false w := by
  have hx := inR_iff.1 hx
  have e1 : IntKind.wrap IntKind.i64 (1 * w.s) = w.s := by rw [Int.one_mul, wr_in (by omega)]
  have e2 : IntKind.wrap IntKind.i64 (0 + IntKind.wrap IntKind.i64 (x * w.s)) = IntKind.wrap IntKind.i64 (x * w.s) := by
    rw [Int.zero_add, wr_w]
  rw [chLa, chE, e1, e2]
  rfl

end Go.Proofs.YtcadinbahmliiaaGreatDoor

/- DesignAt, the reference's: its word. Conditions: a list of wheels. -/
namespace Go.Proofs.YtcadinbahmliiaaGreatDoor
open Go.RowKit
set_option maxRecDepth 100000

theorem gmDA_ok : GamOk Tryz.prog (gmDA atF doneC (fun v => cyOk (cyOf v))) := by
  unfold gmDA
  rw [FdoO_eq]
  exact ext_ok (ext_ok (ext_ok (ext_ok g0_ok ok_dv) ok_l1Is) ok_l5At) ok_l2Done
theorem zero_row9 (f : Nat → Nat → Int) : (fun q => row9 f (0 + q)) = row9 f := by
  funext q
  rw [Nat.zero_add]
def daOk (f : Nat → Nat → Int) (n : Int) (m : Nat) : Bool := okD (listW f m) && inR n 0 23 && cyOk (cyOf (atF f n m))
def daV (f : Nat → Nat → Int) (n : Int) (m : Nat) : Nat → Int := bif daOk f n m then atF f n m else fun _ => 0
def F_DA : List SA → Option FR
  | [.row m g, .v (.int .i64 n)] => some { val := .tup [.agg (cyC (daV (itW g) n m)), .v (.bool (daOk (itW g) n m))], obl := [allW m g, decide (m ≤ 2 ^ 38)] }
  | _ => none
theorem ok_DA : SpecOk Tryz.prog 71 (specR md_wv F_DA) := by
  refine specR_hr gmDA_ok Tryz.func71 rfl fun sas fr hF ho => ?_
  unfold F_DA at hF
  split at hF
  · rename_i m g n
    cases hF
    simp only [ob_cons] at ho
    obtain ⟨h1, h2, _⟩ := ho
    have hm := of_decide_eq_true h2
    refine ⟨[.row false m 9 (row9 (itW g)) 75], noLam, 100, .cons (ABeq.row fun j hj => allW_get h1 j hj) .nil, noLam' _, ?_⟩
    show GoodQ (execF Tryz.prog (gmDA atF doneC (fun v => cyOk (cyOf v))) noLam 100 Tryz.f71 [.sl 0 9 0 0 m none, .v (i64 n)] [.row false m 9 (row9 (itW g)) 75] (packK 1)) _
    rw [treeDA, zero_row9, listW_itW, atF_row]
    have fin : ∀ (c : Bool) (b : Nat → Int), daOk (itW g) n m = c → cyC b = cyC (bif c then atF (itW g) n m else fun _ => 0) → GoodQ (.out .ret [.tup [.agg (cyC b), .v (.bool c)]] [.row false m 9 (row9 (itW g)) 75])
        (GivR (abP md_wv [.row m g, .v (.int .i64 n)] []) { val := .tup [.agg (cyC (daV (itW g) n m)), .v (.bool (daOk (itW g) n m))], obl := [allW m g, decide (m ≤ 2 ^ 38)] }) := by
      rintro c b rfl hb
      refine good_out ⟨_, rfl, ?_, .cons (ABeq.row fun j hj => (allW_get h1 j hj).symm) .nil⟩
      rw [hb]
      rfl
    have ob : ∀ k : Nat, m ≤ k → obls [Nat.ble (0 + m) m, allW m (row9 (itW g)), decide (m ≤ k)] = true := fun k hk => by
      simp only [ob_cons, ob_nil, and_true, decide_eq_true_eq, Nat.ble_eq, allW_row, true_and, Nat.zero_add, Nat.le_refl]
      exact hk
    refine good_needs (ob _ (by omega)) (good_cond (fun q => ?_) fun q => ?_)
    · have q : okD (listW (itW g) m) = false := by simpa using q
      exact fin false (fun _ => 0) (by unfold daOk; rw [q]; rfl) rfl
    · have q : okD (listW (itW g) m) = true := by simpa using q
      refine good_cond (fun q2 => ?_) fun q2 => ?_
      · have q2 : inR n 0 23 = false := by simpa using q2
        exact fin false (fun _ => 0) (by unfold daOk; rw [q, q2]; rfl) rfl
      · have q2 : inR n 0 23 = true := by simpa using q2
        refine good_needs (ob _ (by omega)) ?_
        refine fin (cyOk (cyOf (atF (itW g) n m))) (doneC (w8 (atF (itW g) n m))) (by unfold daOk; rw [q, q2]; rfl) ?_
        have e : cyOf (w8 (atF (itW g) n m)) = cyOf (atF (itW g) n m) := rfl
        unfold doneC
        rw [e]
        cases cyOk (cyOf (atF (itW g) n m)) <;> rfl
  · cases hF

end Go.Proofs.YtcadinbahmliiaaGreatDoor

/- impl.at and the program's DesignAt: the reference's word. Conditions: a list of wheels. -/
namespace Go.Proofs.YtcadinbahmliiaaGreatDoor
open Go.RowKit
set_option maxRecDepth 100000

def gmAI (tu : (Nat → Int) → Int → Nat → Int) (ad : (Nat → Int) → (Nat → Int) → Nat → Int) : Gam := ext (ext g0 144 (specR [.val, .val] (FtuI tu))) 154 (specV (fAdd2 ad))
abbrev lvAI : Ex → List Nat := lv3 [1, 4, 5, 8, 9, 10] [4, 5] [4]
abbrev stAI (m : Nat) (n : Int) (i : Nat) : List AV := [.v (i64 n), .ptr 1 0 0 0, .ptr 2 0 0 0, .sl 0 9 0 0 m none, .v (i64 m), .v (i64 i)]
theorem rndAI_h (tu : (Nat → Int) → Int → Nat → Int) (ad : (Nat → Int) → (Nat → Int) → Nat → Int) (m : Nat) (f : Nat → Nat → Int) (t : TypeId) (n : Int) (a : Nat → Int) (i : Nat) (u2 : _) (hu2 : (AV.v (.int .i64 0)) = u2) (u4 : _) (hu4 : (0 : Nat) = u4) (u5 : _) (hu5 : (AB.cells [u2, u2, u2, u2, u2, u2, u2, u2] 73) = u5) (u1 : _) (hu1 : (u4 + Int.toNat (↑i : Int)) = u1) (u3 : _) (hu3 : (v8 (f u1 (1 : Nat)) (f u1 (2 : Nat)) (f u1 (3 : Nat)) (f u1 (4 : Nat)) (f u1 (5 : Nat)) (f u1 (6 : Nat)) (f u1 (7 : Nat)) (f u1 (8 : Nat))) = u3) (u0 : _) (hu0 : (w8 (tu u3 (IntKind.wrap .i64 (n * f u1 u4)))) = u0) : execC Tryz.prog (gmAI tu ad) 100 noLam (loopAt 0 Tryz.f115) (mkT 0 25 ((lvAI .normal).zip (stAI m n i))) (hpAt m f t a) (leafV 25 lvAI 1)
    = bif decide ((↑i : Int) < (m : Int)) then needs [decide ((↑i : Int) < (m : Int)), decide (u4 + Int.toNat (↑i : Int) < m), inB u3, inR (IntKind.wrap .i64 (n * f u1 u4)) (-9223372036854775808 : Int) (9223372036854775807 : Int)] (Res.out .normal [AV.v (.int .i64 n), AV.ptr (1 : Nat) u4 u4 u4, AV.ptr (2 : Nat) u4 u4 u4, AV.sl u4 (9 : Nat) u4 u4 m none, AV.v (.int .i64 (m : Int)), AV.v (.int .i64 (IntKind.wrap .i64 ((↑i : Int) + (1 : Int))))] [AB.row false m 9 (row9 f) t, u5, AB.cells [AV.v (.int .i64 (ad (w8 a) u0 u4)), AV.v (.int .i64 (ad (w8 a) u0 (1 : Nat))), AV.v (.int .i64 (ad (w8 a) u0 (2 : Nat))), AV.v (.int .i64 (ad (w8 a) u0 (3 : Nat))), AV.v (.int .i64 (ad (w8 a) u0 (4 : Nat))), AV.v (.int .i64 (ad (w8 a) u0 (5 : Nat))), AV.v (.int .i64 (ad (w8 a) u0 (6 : Nat))), AV.v (.int .i64 (ad (w8 a) u0 (7 : Nat)))] 73]) else Res.out (Ex.exit u4) [AV.ptr (1 : Nat) u4 u4 u4, AV.ptr (2 : Nat) u4 u4 u4] [AB.row false m 9 (row9 f) t, u5, AB.cells [AV.v (.int .i64 (a u4)), AV.v (.int .i64 (a (1 : Nat))), AV.v (.int .i64 (a (2 : Nat))), AV.v (.int .i64 (a (3 : Nat))), AV.v (.int .i64 (a (4 : Nat))), AV.v (.int .i64 (a (5 : Nat))), AV.v (.int .i64 (a (6 : Nat))), AV.v (.int .i64 (a (7 : Nat)))] 73] := by
  subst hu0 hu3 hu1 hu5 hu4 hu2
  kernel_rfl
theorem rndAI (tu : (Nat → Int) → Int → Nat → Int) (ad : (Nat → Int) → (Nat → Int) → Nat → Int) (m : Nat) (f : Nat → Nat → Int) (t : TypeId) (n : Int) (a : Nat → Int) (i : Nat) : type_of% (rndAI_h tu ad m f t n a i _ rfl _ rfl _ rfl _ rfl _ rfl _ rfl) := rndAI_h tu ad m f t n a i _ rfl _ rfl _ rfl _ rfl _ rfl _ rfl

noncomputable abbrev lamAI (m : Nat) (f : Nat → Nat → Int) (t : TypeId) (n : Int) (b : Nat → Int) : Nat → Option Sum := oneL 0 (atS 25 (lvAI .normal) 1 (stAI m n 0) (hpAt m f t fun _ => 0) (fun K => K .normal (mkT 0 25 [(4, .ptr 1 0 0 0), (5, .ptr 2 0 0 0)]) (hpAt m f t b)))
theorem treeAI_h (m : Nat) (f : Nat → Nat → Int) (t : TypeId) (n : Int) (b : Nat → Int) (u0 : _) (hu0 : (AV.v (.int .i64 0)) = u0) (u1 : _) (hu1 : (0 : Nat) = u1) (u2 : _) (hu2 : (AB.cells [u0, u0, u0, u0, u0, u0, u0, u0] (73 : Nat)) = u2) : execF Tryz.prog g0 (lamAI m f t n b) 100 Tryz.f115 [.sl 0 9 0 0 m none, .v (i64 n)] [.row false m 9 (row9 f) t] (packK 1)
    = needs [chk ([AV.v (.int .i64 n), AV.ptr (1 : Nat) u1 u1 u1, AV.ptr (2 : Nat) u1 u1 u1, AV.sl u1 (9 : Nat) u1 u1 m none, AV.v (.int .i64 (m : Int)), u0] = stAI m n u1 ∧ Hsim [AB.row false m 9 (row9 f) t, u2, u2] (hpAt m f t fun _ ↦ (0 : Int)))] (Res.out .ret [AV.agg [AV.v (.int .i64 (b u1)), AV.v (.int .i64 (b (1 : Nat))), AV.v (.int .i64 (b (2 : Nat))), AV.v (.int .i64 (b (3 : Nat))), AV.v (.int .i64 (b (4 : Nat))), AV.v (.int .i64 (b (5 : Nat))), AV.v (.int .i64 (b (6 : Nat))), AV.v (.int .i64 (b (7 : Nat)))]] [AB.row false m 9 (row9 f) t]) := by
  subst hu2 hu1 hu0
  kernel_rfl
theorem treeAI (m : Nat) (f : Nat → Nat → Int) (t : TypeId) (n : Int) (b : Nat → Int) : type_of% (treeAI_h m f t n b _ rfl _ rfl _ rfl) := treeAI_h m f t n b _ rfl _ rfl _ rfl

def FatI (at_ : (Nat → Nat → Int) → Int → Nat → Nat → Int) (okd : List Wh → Bool) : List SA → Option FR
  | [.row m g, .v (.int .i64 n)] => some { val := .agg (cyC (at_ (itW g) n m)), obl := [allW m g, decide (m ≤ 2 ^ 38), okd (listW (itW g) m)] }
  | _ => none
def gmDI (at_ : (Nat → Nat → Int) → Int → Nat → Nat → Int) (okd : List Wh → Bool) (ok : (Nat → Int) → Bool) : Gam := ext (ext (ext gm_within 115 (specR md_wv (FatI at_ okd))) 113 (specR md_ws (FdvO okd))) 153 (specV (fOkc ok))
theorem treeDI_h (at_ : (Nat → Nat → Int) → Int → Nat → Nat → Int) (okd : List Wh → Bool) (ok : (Nat → Int) → Bool) (m : Nat) (f : Nat → Nat → Int) (t : TypeId) (n : Int) (u0 : _) (hu0 : (AV.v (.int .i64 0)) = u0) (u1 : _) (hu1 : (itW fun q ↦ row9 f ((0 : Nat) + q)) = u1) (u2 : _) (hu2 : [AV.tup [AV.agg [u0, u0, u0, u0, u0, u0, u0, u0], AV.v (.bool false)]] = u2) (u3 : _) (hu3 : [AB.row false m 9 (row9 f) t] = u3) : execF Tryz.prog (gmDI at_ okd ok) noLam 100 Tryz.f77 [.sl 0 9 0 0 m none, .v (i64 n)] [.row false m 9 (row9 f) t] (packK 1)
    = needs [Nat.ble ((0 : Nat) + m) m, allW m fun q ↦ row9 f ((0 : Nat) + q), decide (m ≤ (549755813888 : Nat))] (bif !okd (listW u1 m) then Res.out .ret u2 u3 else bif !inR n (0 : Int) (23 : Int) then Res.out .ret u2 u3 else needs [Nat.ble ((0 : Nat) + m) m, allW m fun q ↦ row9 f ((0 : Nat) + q), decide (m ≤ (274877906944 : Nat)), okd (listW u1 m)] (bif !ok (w8 (at_ u1 n m)) then Res.out .ret u2 u3 else Res.out .ret [AV.tup [AV.agg [AV.v (.int .i64 (at_ u1 n m (0 : Nat))), AV.v (.int .i64 (at_ u1 n m (1 : Nat))), AV.v (.int .i64 (at_ u1 n m (2 : Nat))), AV.v (.int .i64 (at_ u1 n m (3 : Nat))), AV.v (.int .i64 (at_ u1 n m (4 : Nat))), AV.v (.int .i64 (at_ u1 n m (5 : Nat))), AV.v (.int .i64 (at_ u1 n m (6 : Nat))), AV.v (.int .i64 (at_ u1 n m (7 : Nat)))], AV.v (.bool true)]] u3)) := by
  subst hu3 hu2 hu1 hu0
  kernel_rfl
theorem treeDI (at_ : (Nat → Nat → Int) → Int → Nat → Nat → Int) (okd : List Wh → Bool) (ok : (Nat → Int) → Bool) (m : Nat) (f : Nat → Nat → Int) (t : TypeId) (n : Int) : type_of% (treeDI_h at_ okd ok m f t n _ rfl _ rfl _ rfl _ rfl) := treeDI_h at_ okd ok m f t n _ rfl _ rfl _ rfl _ rfl

def FDAo (dv : (Nat → Nat → Int) → Int → Nat → Nat → Int) (dk : (Nat → Nat → Int) → Int → Nat → Bool) : List SA → Option FR
  | [.row m g, .v (.int .i64 n)] => some { val := .tup [.agg (cyC (dv (itW g) n m)), .v (.bool (dk (itW g) n m))], obl := [allW m g, decide (m ≤ 2 ^ 38)] }
  | _ => none
theorem gmAI_ok : GamOk Tryz.prog (gmAI tuF plusF) := by
  unfold gmAI
  rw [fAdd2_eq]
  exact ext_ok (ext_ok g0_ok ok_tuI) ok_plus
theorem atF_next (f : Nat → Nat → Int) (n : Int) (i : Nat) : atF f n (i + 1) = plusF (atF f n i) (tuF (v8 (f i 1) (f i 2) (f i 3) (f i 4) (f i 5) (f i 6) (f i 7) (f i 8)) (IntKind.wrap IntKind.i64 (n * f i 0))) := by
  funext k
  show W (atF f n i k + 1 * _) = W (atF f n i k + _)
  rw [Int.one_mul]
theorem sumAI (m : Nat) (f : Nat → Nat → Int) (t : TypeId) (n : Int) (hm : m ≤ 2 ^ 40) (hok : ∀ w ∈ listW f m, inB w.r.f = true) :
    SumOk Tryz.prog 1 (.block 0 (.loop (loopAt 0 Tryz.f115))) (atS 25 (lvAI .normal) 1 (stAI m n 0) (hpAt m f t fun _ => 0) (fun K => K .normal (mkT 0 25 [(4, .ptr 1 0 0 0), (5, .ptr 2 0 0 0)]) (hpAt m f t (atF f n m)))) := by
  refine for_at gmAI_ok (n := 100) (m := 1) (lv := lvAI) (fun i => stAI m n i) (fun i => hpAt m f t (atF f n i)) (fun _ => True) m (fun _ => noLam) (lv3_ris rfl rfl rfl) (Nat.le_refl _) trivial fun K Q hk i hi him => ⟨noLam_ok _ _ _, ?_⟩
  rw [rndAI]
  refine good_cond (fun c1 => ?_) fun c1 => ?_
  · have c1 := of_decide_eq_true c1
    have c1' : i < m := by omega
    rw [Int.toNat_natCast, Nat.zero_add, wr_in (x := (i : Int) + 1) (by omega)]
    refine good_needs ?_ (good_out ⟨i + 1, ⟨rfl, c1', trivial⟩, rfl, ?_⟩)
    · simp only [ob_cons, ob_nil, and_true, decide_eq_true_eq]
      exact ⟨by omega, by omega, hok _ (List.mem_of_getElem? (listW_get f c1')), inR_iff.2 (w64_range _)⟩
    · show Hsim _ (hpAt m f t (atF f n (i + 1)))
      rw [atF_next]
      exact Hsim.refl _
  · have c1 := of_decide_eq_false c1
    have : i = m := by omega
    subst this
    refine good_out ⟨_, Hsim.refl _, ?_⟩
    rw [if_pos rfl]
    exact hk
theorem ok_atI : SpecOk Tryz.prog 115 (specR md_wv (FatI atF okD)) := by
  refine specR_hr g0_ok Tryz.func115 rfl fun sas fr hF ho => ?_
  unfold FatI at hF
  split at hF
  · rename_i m g n
    cases hF
    simp only [ob_cons] at ho
    obtain ⟨h1, h2, h3, _⟩ := ho
    have hm := of_decide_eq_true h2
    refine ⟨[.row false m 9 (row9 (itW g)) 75], lamAI m (itW g) 75 n (atF (itW g) n m), 100, .cons (ABeq.row fun j hj => allW_get h1 j hj) .nil, lam1 (by kernel_rfl) (sumAI m (itW g) 75 n (by omega) fun w hw => valid_inB h3 hw), ?_⟩
    show GoodQ (execF Tryz.prog g0 (lamAI m (itW g) 75 n (atF (itW g) n m)) 100 Tryz.f115 [.sl 0 9 0 0 m none, .v (i64 n)] [.row false m 9 (row9 (itW g)) 75] (packK 1)) _
    rw [treeAI]
    exact good_needs (by rw [ob_cons]; exact ⟨chk_of ⟨rfl, Hsim.refl _⟩, rfl⟩) (good_out ⟨_, rfl, rfl, .cons (ABeq.row fun j hj => (allW_get h1 j hj).symm) .nil⟩)
  · cases hF
theorem gmDI_ok : GamOk Tryz.prog (gmDI atF okD (fun v => cyOk (cyOf v))) := by
  unfold gmDI
  rw [fOkc_eq, FdvO_eq]
  exact ext_ok (ext_ok (ext_ok gm_within_ok ok_atI) ok_dvI) ok_cvI
theorem FDAo_eq : FDAo daV daOk = F_DA := by
  funext l
  rfl
theorem ok_DAI : SpecOk Tryz.prog 77 (specR md_wv (FDAo daV daOk)) := by
  refine specR_hr gmDI_ok Tryz.func77 rfl fun sas fr hF ho => ?_
  unfold FDAo at hF
  split at hF
  · rename_i m g n
    cases hF
    simp only [ob_cons] at ho
    obtain ⟨h1, h2, _⟩ := ho
    have hm := of_decide_eq_true h2
    refine ⟨[.row false m 9 (row9 (itW g)) 75], noLam, 100, .cons (ABeq.row fun j hj => allW_get h1 j hj) .nil, noLam' _, ?_⟩
    show GoodQ (execF Tryz.prog (gmDI atF okD (fun v => cyOk (cyOf v))) noLam 100 Tryz.f77 [.sl 0 9 0 0 m none, .v (i64 n)] [.row false m 9 (row9 (itW g)) 75] (packK 1)) _
    rw [treeDI, row0, listW_itW, atF_row]
    have fin : ∀ (c : Bool) (b : Nat → Int), daOk (itW g) n m = c → cyC b = cyC (bif c then atF (itW g) n m else fun _ => 0) → GoodQ (.out .ret [.tup [.agg (cyC b), .v (.bool c)]] [.row false m 9 (row9 (itW g)) 75])
        (GivR (abP md_wv [.row m g, .v (.int .i64 n)] []) { val := .tup [.agg (cyC (daV (itW g) n m)), .v (.bool (daOk (itW g) n m))], obl := [allW m g, decide (m ≤ 2 ^ 38)] }) := by
      rintro c b rfl hb
      refine good_out ⟨_, rfl, ?_, .cons (ABeq.row fun j hj => (allW_get h1 j hj).symm) .nil⟩
      rw [hb]
      rfl
    refine good_needs (by simp only [ob_cons, ob_nil, and_true, decide_eq_true_eq, Nat.ble_eq, allW_row, true_and]; omega) (good_cond (fun q => ?_) fun q => ?_)
    · have q' : (!okD (listW (itW g) m)) = true := q
      have q2 : okD (listW (itW g) m) = false := by simpa using q'
      exact fin false (fun _ => 0) (by unfold daOk; rw [q2]; rfl) rfl
    · have q' : (!okD (listW (itW g) m)) = false := q
      have qd : okD (listW (itW g) m) = true := by simpa using q'
      refine good_cond (fun q2 => ?_) fun q2 => ?_
      · have q2 : inR n 0 23 = false := by simpa using q2
        exact fin false (fun _ => 0) (by unfold daOk; rw [qd, q2]; rfl) rfl
      · have q2 : inR n 0 23 = true := by simpa using q2
        refine good_needs (by simp only [ob_cons, ob_nil, and_true, decide_eq_true_eq, Nat.ble_eq, allW_row, true_and]; exact ⟨by omega, hm, qd⟩) (good_cond (fun q3 => ?_) fun q3 => ?_)
        · have q3' : (!cyOk (cyOf (atF (itW g) n m))) = true := q3
          have q4 : cyOk (cyOf (atF (itW g) n m)) = false := by simpa using q3'
          exact fin false (fun _ => 0) (by unfold daOk; rw [qd, q2, q4]; rfl) rfl
        · have q3' : (!cyOk (cyOf (atF (itW g) n m))) = false := q3
          have q4 : cyOk (cyOf (atF (itW g) n m)) = true := by simpa using q3'
          exact fin true (atF (itW g) n m) (by unfold daOk; rw [qd, q2, q4]; rfl) rfl
  · cases hF

theorem daOk_row (f : Nat → Nat → Int) (n : Int) (m : Nat) : daOk (itW (row9 f)) n m = daOk f n m := by unfold daOk; rw [listW_itW, atF_row]
theorem daV_row (f : Nat → Nat → Int) (n : Int) (m : Nat) : daV (itW (row9 f)) n m = daV f n m := by unfold daV; rw [daOk_row, atF_row]
end Go.Proofs.YtcadinbahmliiaaGreatDoor

/- Single points of both. Conditions: a point. -/
namespace Go.Proofs.YtcadinbahmliiaaGreatDoor
open Go.RowKit
set_option maxRecDepth 100000

def rtR : Nat → Nat
  | 0 => 1065353216
  | 1 => 1064781546
  | 2 => 1063105495
  | 3 => 1060439283
  | 4 => 1056964608
  | 5 => 1048871918
  | 6 => 0
  | _ => 3196355566
def rtM : Nat → Nat
  | 0 => 0
  | 1 => 1048871918
  | 2 => 1056964608
  | 3 => 1060439283
  | 4 => 1063105495
  | 5 => 1064781546
  | 6 => 1065353216
  | _ => 1064781546
def pdR (a : Nat → Int) (k : Nat) : Option Nat := FloatKind.f32.format.mul (FloatKind.f32.nearest (a k)) (rtR k)
def pdM (a : Nat → Int) (k : Nat) : Option Nat := FloatKind.f32.format.mul (FloatKind.f32.nearest (a k)) (rtM k)
def smR (a : Nat → Int) : Nat → Nat
  | 0 => 0
  | k + 1 => (FloatKind.f32.format.add (smR a k) ((pdR a k).getD 0)).getD 0
def smM (a : Nat → Int) : Nat → Nat
  | 0 => 0
  | k + 1 => (FloatKind.f32.format.add (smM a k) ((pdM a k).getD 0)).getD 0
def obS (a : Nat → Int) : List Bool := (List.range 8).flatMap fun k => [(pdR a k).isSome, (pdM a k).isSome, (FloatKind.f32.format.add (smR a k) ((pdR a k).getD 0)).isSome, (FloatKind.f32.format.add (smM a k) ((pdM a k).getD 0)).isSome]
theorem exSg (a : Nat → Int) : execF Tryz.prog g0 noLam 100 Tryz.f78 [.v (cyv a)] [] valK = needs (obS a) (.out .ret [.v (.complex .f32 (smR a 8) (smM a 8))] []) := by kernel_rfl
def gmCv (ok : (Nat → Int) → Bool) : Gam := ext g0 105 (specV (fOkc ok))
theorem exSp (ok : (Nat → Int) → Bool) (a : Nat → Int) : execF Tryz.prog (gmCv ok) noLam 100 Tryz.f72 [.v (cyv a)] [] (packK 0) = cond (!ok (w8 a)) (.out .ret [.tup [.v (.complex .f32 0 0), .v (.bool false)]] []) (needs (obS a) (.out .ret [.tup [.v (.complex .f32 (smR a 8) (smM a 8)), .v (.bool true)]] [])) := by kernel_rfl

end Go.Proofs.YtcadinbahmliiaaGreatDoor

/- Single numbers that stay finite: sums and products of small ones. No program, no conditions. -/
namespace Go.Proofs.YtcadinbahmliiaaGreatDoor
open Go.RowKit

def Fin32 (x : Nat) (e : Int) : Prop := ∃ s m i, FloatKind.f32.format.read x = .number s m i ∧ i + (m.log2 : Int) ≤ e
theorem Fin32.mono {x : Nat} {e d : Int} (h : Fin32 x e) (hd : e ≤ d) : Fin32 x d := by
  obtain ⟨s, m, i, h1, h2⟩ := h
  exact ⟨s, m, i, h1, by omega⟩
def finB (x : Nat) (e : Int) : Bool := match FloatKind.f32.format.read x with
  | .number _ m i => decide (i + (m.log2 : Int) ≤ e)
  | _ => false
theorem fin_of {x : Nat} {e : Int} (h : finB x e = true) : Fin32 x e := by
  unfold finB at h
  split at h
  · rename_i s m i hr
    exact ⟨s, m, i, hr, of_decide_eq_true h⟩
  · cases h
theorem log2_lt (n : Nat) : n < 2 ^ (n.log2 + 1) := Nat.lt_log2_self
theorem log2_le {n k : Nat} (h : n < 2 ^ (k + 1)) : n.log2 ≤ k := by
  rcases Nat.eq_zero_or_pos n with rfl | h0
  · rw [show Nat.log2 0 = 0 by decide]
    omega
  · have := (Nat.log2_lt (by omega)).2 h
    omega
theorem f32_binade : FloatKind.f32.format.binade = 8388608 := by decide
theorem f32_inf : FloatKind.f32.format.infRung = 2139095040 := by decide
theorem f32_sign : FloatKind.f32.format.signWeight = 2147483648 := by decide
theorem f32_least : FloatKind.f32.format.leastPlace = -149 := by decide
theorem f32_frac : FloatKind.f32.format.fractionBits = 23 := rfl
theorem cut_le (s : Bool) (n drop : Nat) : Ieee.Toward.even.cut s n drop ≤ n / 2 ^ min drop (n.log2 + 2) + 1 := by
  unfold Ieee.Toward.cut
  simp only [Nat.shiftLeft_eq, Nat.one_mul]
  have : ∀ b : Bool, b.toNat ≤ 1 := fun b => by cases b <;> decide
  exact Nat.add_le_add_left (this _) _
theorem kept_le {s : Bool} {m : Nat} {i last : Int} (hl : i + (m.log2 : Int) - 23 ≤ last) : Ieee.Toward.even.cut s (m <<< (i - last).toNat) (last - i).toNat ≤ 16777216 := by
  refine Nat.le_trans (cut_le _ _ _) ?_
  suffices h : m <<< (i - last).toNat / 2 ^ min (last - i).toNat ((m <<< (i - last).toNat).log2 + 2) < 16777216 by omega
  rw [Nat.shiftLeft_eq]
  have hm := log2_lt m
  by_cases hc : last ≤ i
  · have h1 : (last - i).toNat = 0 := by omega
    rw [h1, Nat.zero_min, Nat.pow_zero, Nat.div_one]
    calc m * 2 ^ (i - last).toNat < 2 ^ (m.log2 + 1) * 2 ^ (i - last).toNat := Nat.mul_lt_mul_of_pos_right hm (Nat.two_pow_pos _)
      _ = 2 ^ (m.log2 + 1 + (i - last).toNat) := (Nat.pow_add ..).symm
      _ ≤ 2 ^ 24 := Nat.pow_le_pow_right (by omega) (by omega)
  · have h1 : (i - last).toNat = 0 := by omega
    rw [h1, Nat.pow_zero, Nat.mul_one]
    rw [Nat.div_lt_iff_lt_mul (Nat.two_pow_pos _)]
    by_cases hd : (last - i).toNat ≤ m.log2 + 2
    · rw [Nat.min_eq_left hd]
      calc m < 2 ^ (m.log2 + 1) := hm
        _ ≤ 2 ^ (24 + (last - i).toNat) := Nat.pow_le_pow_right (by omega) (by omega)
        _ = 16777216 * 2 ^ (last - i).toNat := by rw [Nat.pow_add]
    · rw [Nat.min_eq_right (by omega)]
      calc m < 2 ^ (m.log2 + 1) := hm
        _ ≤ 2 ^ (24 + (m.log2 + 2)) := Nat.pow_le_pow_right (by omega) (by omega)
        _ = 16777216 * 2 ^ (m.log2 + 2) := by rw [Nat.pow_add]
theorem read_word (s : Bool) {R : Nat} (hR : R < 2139095040) : ∃ m i, FloatKind.f32.format.read (FloatKind.f32.format.word s R) = .number s m i ∧ i + (m.log2 : Int) ≤ max ((R / 8388608 : Nat) : Int) 1 - 127 := by
  have e1 : FloatKind.f32.format.word s R % 2147483648 = R := by
    unfold Ieee.Format.word
    rw [f32_sign]
    cases s
    · simp only [Bool.false_eq_true, if_false]; omega
    · simp only [if_true]; omega
  have e2 : (FloatKind.f32.format.word s R / 2147483648 % 2 == 1) = s := by
    unfold Ieee.Format.word
    rw [f32_sign]
    cases s
    · simp only [Bool.false_eq_true, if_false]
      rw [show R / 2147483648 = 0 by omega]
      rfl
    · simp only [if_true]
      rw [show (2147483648 + R) / 2147483648 = 1 by omega]
      rfl
  unfold Ieee.Format.read
  simp only [f32_sign, f32_binade, f32_inf, f32_least, e1, e2]
  by_cases h1 : R < 8388608
  · rw [if_pos h1]
    refine ⟨_, _, rfl, ?_⟩
    have : R.log2 ≤ 22 := log2_le (by omega)
    omega
  · rw [if_neg h1, if_pos hR]
    refine ⟨_, _, rfl, ?_⟩
    have : (8388608 + R % 8388608).log2 ≤ 23 := log2_le (by omega)
    omega
theorem nearest_fin (s : Bool) (m : Nat) (i : Int) {e : Int} (h : i + (m.log2 : Int) ≤ e) (h0 : -120 ≤ e) (h1 : e ≤ 100) : Fin32 (FloatKind.f32.format.nearest s m i) (e + 1) := by
  unfold Ieee.Format.nearest
  by_cases hm : m = 0
  · rw [if_pos hm]
    obtain ⟨m', i', e1, e2⟩ := read_word s (R := 0) (by omega)
    exact ⟨s, m', i', e1, by omega⟩
  · rw [if_neg hm]
    simp only [f32_frac, f32_least, f32_binade, f32_inf]
    have hk : Ieee.Toward.even.cut s (m <<< (i - max (i + (m.log2 : Int) - ((23 : Nat) : Int)) (-149)).toNat) (max (i + (m.log2 : Int) - ((23 : Nat) : Int)) (-149) - i).toNat ≤ 16777216 := kept_le (by omega)
    generalize hl : max (i + (m.log2 : Int) - ((23 : Nat) : Int)) (-149) = last at hk ⊢
    generalize Ieee.Toward.even.cut s (m <<< (i - last).toNat) (last - i).toNat = kept at hk ⊢
    have hlast : -149 ≤ last ∧ last ≤ 77 ∧ last ≤ max (e - 23) (-149) := by omega
    have hmin : min ((last - -149).toNat * 8388608 + kept) 2139095040 = (last - -149).toNat * 8388608 + kept := by omega
    rw [hmin]
    obtain ⟨m', i', e1, e2⟩ := read_word s (R := (last - -149).toNat * 8388608 + kept) (by omega)
    refine ⟨s, m', i', e1, ?_⟩
    have : ((last - -149).toNat * 8388608 + kept) / 8388608 ≤ (last - -149).toNat + 2 := by omega
    omega
theorem mul_fin {x y : Nat} {e d : Int} (hx : Fin32 x e) (hy : Fin32 y d) (h0 : -120 ≤ e + d + 1) (h1 : e + d + 1 ≤ 100) : (FloatKind.f32.format.mul x y).isSome = true ∧ Fin32 ((FloatKind.f32.format.mul x y).getD 0) (e + d + 2) := by
  obtain ⟨s, m, i, r1, b1⟩ := hx
  obtain ⟨t, n, j, r2, b2⟩ := hy
  have hm : FloatKind.f32.format.mul x y = some (FloatKind.f32.format.nearest (s ^^ t) (m * n) (i + j)) := by
    unfold Ieee.Format.mul
    rw [r1, r2]
    rfl
  rw [hm]
  refine ⟨rfl, ?_⟩
  have hl : (m * n).log2 ≤ m.log2 + n.log2 + 1 := log2_le (by
    calc m * n < 2 ^ (m.log2 + 1) * 2 ^ (n.log2 + 1) := Nat.mul_lt_mul'' (log2_lt m) (log2_lt n)
      _ = 2 ^ (m.log2 + n.log2 + 1 + 1) := by rw [← Nat.pow_add]; congr 1; omega)
  have := nearest_fin (s ^^ t) (m * n) (i + j) (e := e + d + 1) (by omega) h0 h1
  rwa [show e + d + 1 + 1 = e + d + 2 by omega] at this
theorem signed_abs (s : Bool) (m u : Nat) : (Ieee.signed s m u).natAbs = m * 2 ^ u := by
  unfold Ieee.signed
  rw [Nat.shiftLeft_eq]
  cases s
  · exact Int.natAbs_natCast _
  · exact (Int.natAbs_neg _).trans (Int.natAbs_natCast _)
theorem part_lt {m : Nat} {i base e : Int} (h : i + (m.log2 : Int) ≤ e) (hb : base ≤ i) : m * 2 ^ (i - base).toNat < 2 ^ ((e - base).toNat + 1) := by
  calc m * 2 ^ (i - base).toNat < 2 ^ (m.log2 + 1) * 2 ^ (i - base).toNat := Nat.mul_lt_mul_of_pos_right (log2_lt m) (Nat.two_pow_pos _)
    _ = 2 ^ (m.log2 + 1 + (i - base).toNat) := (Nat.pow_add ..).symm
    _ ≤ 2 ^ ((e - base).toNat + 1) := Nat.pow_le_pow_right (by omega) (by omega)
theorem add_fin {x y : Nat} {e : Int} (hx : Fin32 x e) (hy : Fin32 y e) (h0 : -120 ≤ e + 1) (h1 : e + 1 ≤ 100) : (FloatKind.f32.format.add x y).isSome = true ∧ Fin32 ((FloatKind.f32.format.add x y).getD 0) (e + 2) := by
  obtain ⟨s, m, i, r1, b1⟩ := hx
  obtain ⟨t, n, j, r2, b2⟩ := hy
  have hm : ∃ u, FloatKind.f32.format.add x y = some (FloatKind.f32.format.nearest u (Ieee.signed s m (i - min i j).toNat + Ieee.signed t n (j - min i j).toNat).natAbs (min i j)) := by
    unfold Ieee.Format.add
    rw [r1, r2]
    exact ⟨_, rfl⟩
  obtain ⟨u, hm⟩ := hm
  rw [hm]
  refine ⟨rfl, ?_⟩
  have hl : (Ieee.signed s m (i - min i j).toNat + Ieee.signed t n (j - min i j).toNat).natAbs.log2 ≤ (e - min i j).toNat + 1 := log2_le (by
    have h2 := Int.natAbs_add_le (Ieee.signed s m (i - min i j).toNat) (Ieee.signed t n (j - min i j).toNat)
    rw [signed_abs, signed_abs] at h2
    have h3 := part_lt b1 (base := min i j) (by omega)
    have h4 := part_lt b2 (base := min i j) (by omega)
    have h5 : 2 ^ ((e - min i j).toNat + 1 + 1) = 2 ^ ((e - min i j).toNat + 1) + 2 ^ ((e - min i j).toNat + 1) := by rw [Nat.pow_succ]; omega
    omega)
  have := nearest_fin u (Ieee.signed s m (i - min i j).toNat + Ieee.signed t n (j - min i j).toNat).natAbs (min i j) (e := e + 1) (by omega) h0 h1
  rwa [show e + 1 + 1 = e + 2 by omega] at this
theorem int_fin {n : Int} (h : -1000000 ≤ n ∧ n ≤ 1000000) : Fin32 (FloatKind.f32.nearest n) 21 := by
  have : n.natAbs.log2 ≤ 19 := log2_le (by omega)
  exact nearest_fin _ _ 0 (e := 20) (by omega) (by omega) (by omega)
theorem rtR_fin : ∀ k, k < 8 → Fin32 (rtR k) 1 := fun k hk => fin_of ((by decide +kernel : ∀ k, k < 8 → finB (rtR k) 1 = true) k hk)
theorem rtM_fin : ∀ k, k < 8 → Fin32 (rtM k) 1 := fun k hk => fin_of ((by decide +kernel : ∀ k, k < 8 → finB (rtM k) 1 = true) k hk)
theorem sm_fin {a : Nat → Int} (h : ∀ k, k < 8 → -1000000 ≤ a k ∧ a k ≤ 1000000) : ∀ k : Nat, k ≤ 8 → Fin32 (smR a k) (24 + 2 * (k : Int)) ∧ Fin32 (smM a k) (24 + 2 * (k : Int))
  | 0, _ => ⟨fin_of (show finB 0 (24 + 2 * ((0 : Nat) : Int)) = true by decide +kernel), fin_of (show finB 0 (24 + 2 * ((0 : Nat) : Int)) = true by decide +kernel)⟩
  | k + 1, hk => by
    obtain ⟨i1, i2⟩ := sm_fin h k (by omega)
    have p1 := mul_fin (int_fin (h k (by omega))) (rtR_fin k (by omega)) (by omega) (by omega)
    have p2 := mul_fin (int_fin (h k (by omega))) (rtM_fin k (by omega)) (by omega) (by omega)
    have a1 := (add_fin i1 (p1.2.mono (by omega)) (by omega) (by omega)).2
    have a2 := (add_fin i2 (p2.2.mono (by omega)) (by omega) (by omega)).2
    exact ⟨a1.mono (by omega), a2.mono (by omega)⟩
theorem obS_ok {a : Nat → Int} (h : ∀ k, k < 8 → -1000000 ≤ a k ∧ a k ≤ 1000000) : obls (obS a) = true := by
  unfold obls obS
  rw [List.all_flatMap]
  refine List.all_eq_true.2 fun k hk => ?_
  have hk := List.mem_range.1 hk
  obtain ⟨i1, i2⟩ := sm_fin h k (by omega)
  have p1 := mul_fin (int_fin (h k hk)) (rtR_fin k hk) (by omega) (by omega)
  have p2 := mul_fin (int_fin (h k hk)) (rtM_fin k hk) (by omega) (by omega)
  have a1 := add_fin i1 (p1.2.mono (by omega)) (by omega) (by omega)
  have a2 := add_fin i2 (p2.2.mono (by omega)) (by omega) (by omega)
  simp only [List.all_cons, List.all_nil, Bool.and_true, id]
  rw [show (pdR a k).isSome = true from p1.1, show (pdM a k).isSome = true from p2.1, show (FloatKind.f32.format.add (smR a k) ((pdR a k).getD 0)).isSome = true from a1.1, show (FloatKind.f32.format.add (smM a k) ((pdM a k).getD 0)).isSome = true from a2.1]
  rfl

end Go.Proofs.YtcadinbahmliiaaGreatDoor

/- A word for a callee that hands back a new list or none: read as one. Conditions: those of its two cases. -/
namespace Go.Proofs.YtcadinbahmliiaaGreatDoor
open Go.RowKit
set_option maxRecDepth 100000

theorem putC_nil : ∀ (is : List (Option Nat)) (bs : List AB), (∀ b ∈ bs, b.wr = false) → putC is bs = []
  | [], [], _ => rfl
  | [], _ :: _, _ => by simp [putC]
  | i :: is, [], _ => by cases i <;> simp [putC]
  | none :: is, b :: bs, h => by
    simp only [putC]
    exact putC_nil is bs fun x hx => h x (by simp [hx])
  | some i :: is, b :: bs, h => by
    have ih := putC_nil is bs fun x hx => h x (by simp [hx])
    have hb := h b (by simp)
    cases b with
    | row rw n s g t =>
      cases rw with
      | true => cases hb
      | false => simp only [putC]; exact ih
    | cells cs t => cases hb
    | gone => simp only [putC]; exact ih
theorem abP_rd : ∀ {mds : List Md} {sas : List SA} {ps : List (Nat → List Value)}, hasWr mds = false → ∀ b ∈ abP mds sas ps, b.wr = false
  | [], [], ps, _, b, hb => by simp [abP] at hb
  | .val :: ds, .v x :: r, ps, h, b, hb => abP_rd (mds := ds) (sas := r) (ps := ps) h b (by simpa only [abP] using hb)
  | .rd s t :: ds, .row m g :: r, ps, h, b, hb => by
    simp only [abP, List.mem_cons] at hb
    rcases hb with rfl | hb
    · rfl
    · exact abP_rd (mds := ds) (sas := r) (ps := ps) h b hb
  | .wr s t :: ds, _, ps, h, b, hb => by cases h
  | [], _ :: _, ps, _, b, hb => by simp [abP] at hb
  | .val :: ds, [], ps, _, b, hb => by simp [abP] at hb
  | .val :: ds, .row .. :: _, ps, _, b, hb => by simp [abP] at hb
  | .val :: ds, .own .. :: _, ps, _, b, hb => by simp [abP] at hb
  | .rd .. :: ds, [], ps, _, b, hb => by simp [abP] at hb
  | .rd .. :: ds, .v _ :: _, ps, _, b, hb => by simp [abP] at hb
  | .rd .. :: ds, .own .. :: _, ps, _, b, hb => by simp [abP] at hb

structure UR where
  b : Bool
  T : List Wh
  obl : List Bool
def specU (mds : List Md) (U : List SA → Option UR) : Spec := fun avs H base =>
  match saAll H mds avs with
  | some xs => match U (xs.map (·.sa)) with
    | some u => some { val := .tup [.sl base 9 0 0 u.T.length (some u.T.length), .v (.bool u.b)], rd := (ixC mds xs).filterMap id, put := [], new := [.row false u.T.length 9 (row9 (wfun u.T)) 75], obl := xs.flatMap (·.ob) ++ u.obl }
    | none => none
  | none => none

theorem specU_ok {P : Program} {f : FuncId} {mds : List Md} {FY FN : List SA → Option FR} {U : List SA → Option UR} (hw : hasWr mds = false) (hY : SpecOk P f (specR mds FY)) (hN : SpecOk P f (specR mds FN))
    (h : ∀ sas u, U sas = some u → obls u.obl = true → Nat.beq (abP mds sas []).length (abC mds sas).length = true ∧ ((u.b = true ∧ ∃ ob, FY sas = some { val := valY u.T, new := newY u.T, obl := ob } ∧ obls ob = true) ∨ (u.b = false ∧ u.T = [] ∧ ∃ ob, FN sas = some { val := valN, obl := ob } ∧ obls ob = true))) : SpecOk P f (specU mds U) := by
  refine ⟨hY.1, fun avs H base δ ν vals w hS ho hv hr hlt hfree hsep htab => ?_⟩
  unfold specU at hS
  split at hS
  case h_2 => cases hS
  rename_i xs hxs
  split at hS
  case h_2 => cases hS
  rename_i u hu
  simp only [Option.some.injEq] at hS
  subst hS
  have ho' : obls (xs.flatMap (·.ob)) = true ∧ obls u.obl = true := by simpa [obls, List.all_append] using ho
  obtain ⟨hl, hc⟩ := h _ _ hu ho'.2
  have hput : putC (ixC mds xs) (abP mds (xs.map (·.sa)) []) = [] := putC_nil _ _ fun b hb => abP_rd hw b hb
  rcases hc with ⟨hb, ob, e1, e2⟩ | ⟨hb, hT, ob, e1, e2⟩
  · have hS2 : specR mds FY avs H base = some { val := .tup [.sl base 9 0 0 u.T.length (some u.T.length), .v (.bool true)], rd := (ixC mds xs).filterMap id, put := [], new := newY u.T, obl := xs.flatMap (·.ob) ++ ob } := by
      unfold specR
      rw [hxs]
      simp only [e1]
      show cond _ _ _ = _
      rw [hw, hl, hput]
      rfl
    refine (hY.2 avs H base _ ν vals w hS2 (by simpa [obls, List.all_append] using And.intro ho'.1 e2) hv hr hlt hfree (fun i o j b b' hp => by cases hp) (htab.call fun x hx => by first | exact hx | cases hx)).mono ?_
    rintro e w' ⟨v, ν', rfl, d⟩
    refine ⟨v, ν', rfl, d.le, d.dom, by rw [hb]; exact d.val, fun i b hl => (by cases hl), fun j b hj => ?_, d.os, d.tape, d.output, d.size, d.block, d.fresh, d.apart⟩
    match j with
    | 0 =>
      simp only [List.getElem?_cons_zero, Option.some.injEq] at hj
      subst hj
      have := d.new 0 _ rfl
      rcases this with ⟨h1, _, _⟩ | ⟨k, l, t', fz, h1, h2, _, h4, h5⟩
      · cases h1
      · exact .inr ⟨k, l, t', fz, h1, h2, fun h => (by cases h), h4, h5⟩
    | j + 1 => simp at hj
  · have hS2 : specR mds FN avs H base = some { val := valN, rd := (ixC mds xs).filterMap id, put := [], new := [], obl := xs.flatMap (·.ob) ++ ob } := by
      unfold specR
      rw [hxs]
      simp only [e1]
      show cond _ _ _ = _
      rw [hw, hl, hput]
      rfl
    refine (hN.2 avs H base _ ν vals w hS2 (by simpa [obls, List.all_append] using And.intro ho'.1 e2) hv hr hlt (fun j hj => absurd hj (Nat.not_lt_zero _)) (fun i o j b b' hp => by cases hp) (htab.call fun x hx => by first | exact hx | cases hx)).mono ?_
    rintro e w' ⟨v, ν', rfl, d⟩
    have hnone : ν' base = none := by
      have h0 : ν base = none := hfree 0 (Nat.zero_lt_one)
      cases hq : ν' base with
      | none => rfl
      | some b =>
        have := d.dom base h0 (by rw [hq]; simp)
        simp at this
    have hv0 : VR ν' (.tup [.sl base 9 0 0 0 (some 0), .v (.bool false)]) v := by
      have := d.val
      simp only [VR] at this ⊢
      obtain ⟨l, e1, e2⟩ := this
      match l, e2 with
      | [a, b], ⟨ha, hbb, _⟩ => exact ⟨[a, b], e1, ⟨none, 0, ha, fun c' hc' => by simpa using hc', Nat.le_refl _, fun hc => absurd hc (Nat.lt_irrefl 0)⟩, hbb, trivial⟩
    refine ⟨v, ν', rfl, d.le, fun i h1 h2 => ?_, by rw [hb, hT]; exact hv0, fun i b hl => (by cases hl), fun j b hj => ?_, d.os, d.tape, d.output, d.size, d.block, fun j b hj hq => ?_, fun j j' b b' hne hj hj' => ?_⟩
    · have := d.dom i h1 h2
      simp at this
      omega
    · match j with
      | 0 =>
        simp only [List.getElem?_cons_zero, Option.some.injEq] at hj
        subst hj
        rw [hT]
        exact .inl ⟨rfl, rfl, hnone⟩
      | j + 1 => simp at hj
    · have hj : j < 1 := hj
      have : j = 0 := by omega
      subst this
      rw [Nat.add_zero, hnone] at hq
      cases hq
    · have hj : j < 1 := hj
      have hj' : j' < 1 := hj'
      omega

end Go.Proofs.YtcadinbahmliiaaGreatDoor

/- Changed designs as a list or none, read as one. Conditions: a list of wheels. -/
namespace Go.Proofs.YtcadinbahmliiaaGreatDoor
open Go.RowKit
set_option maxRecDepth 100000

def FeqB (eq : List Wh → List Wh → Bool) : List SA → Option FR
  | [.row m g, .row n g2] => some { val := .v (.bool (eq (listW (itW g) m) (listW (itW g2) n))), obl := [allW m g, allW n g2, decide (m ≤ 2 ^ 38)] }
  | _ => none
def UO1 (yes : Int → List Wh → Bool) (tl : Int → List Wh → List Wh) : List SA → Option UR
  | [.row m g, .v (.int .i64 x)] => some ⟨yes x (listW (itW g) m), tl x (listW (itW g) m), [allW m g, decide (m ≤ 2 ^ 38)]⟩
  | _ => none
def eqL (A B : List Wh) : Bool := decide (A = B)
def badE (f h : Nat → Nat → Int) (i : Nat) : Bool := !decide (whOf (f i) = whOf (h i))
theorem eqL_list (f h : Nat → Nat → Int) (m : Nat) : eqL (listW f m) (listW h m) = noneTo (badE f h) m := by
  rw [Bool.eq_iff_iff, noneTo_iff, eqL, decide_eq_true_eq]
  refine ⟨fun e i hi => ?_, fun e => ?_⟩
  · have h1 := listW_get f hi
    rw [e, listW_get h hi, Option.some.injEq] at h1
    simp [badE, h1]
  · exact List.map_congr_left fun i hi => by
      have := e i (by simpa using hi)
      simpa [badE] using this
theorem eqL_len {A B : List Wh} (h : A.length ≠ B.length) : eqL A B = false := decide_eq_false fun e => h (by rw [e])
def yT (x : Int) (L : List Wh) : Bool := eachOk 1 x 0 false L
def tT (x : Int) (L : List Wh) : List Wh := eachL 1 x 0 false L
theorem ok_UTu : SpecOk Tryz.prog 99 (specU md_wv (UO1 yT tT)) := by
  refine specU_ok rfl ok_deYTu ok_deNTu fun sas u hu ho => ?_
  unfold UO1 at hu
  split at hu
  · rename_i m g x
    cases hu
    simp only [ob_cons] at ho
    obtain ⟨h1, h2, _⟩ := ho
    refine ⟨rfl, ?_⟩
    have hM : inR x 0 23 = true → okD (listW (itW g) m) = true → (listW (itW g) m).map (chE 1 x 0 false) = mpTu x (listW (itW g) m) := fun hx hd => (map_same fun w hw => (chTu_same hx (okD_mem hd hw).1).symm)
    cases hv : yesTu x (listW (itW g) m) with
    | true =>
      left
      have hv2 := hv
      rw [yesTu, Bool.and_eq_true, Bool.and_eq_true] at hv2
      obtain ⟨hx, hd, ht⟩ := hv2
      obtain ⟨hE, hO⟩ := each_yes (sp := 1) (tn := x) (la := 0) (mir := false) (by rw [eachP, hd, hx]; rfl) (hM hx hd) ht
      refine ⟨hO, [allW m g, decide (m ≤ 2 ^ 38), yesTu x (listW (itW g) m)], ?_, ?_⟩
      · show FdeYTu yesTu tidyL mpTu [.row m g, .v (.int .i64 x)] = some { val := valY (tT x (listW (itW g) m)), new := newY (tT x (listW (itW g) m)), obl := [allW m g, decide (m ≤ 2 ^ 38), yesTu x (listW (itW g) m)] }
        rw [show tT x (listW (itW g) m) = tidyL (mpTu x (listW (itW g) m)) from hE]
        rfl
      · simp only [ob_cons, ob_nil, and_true]
        exact ⟨h1, h2, hv⟩
    | false =>
      right
      obtain ⟨hE, hO⟩ := each_no (sp := 1) (tn := x) (la := 0) (mir := false) (L := listW (itW g) m) fun hp => by
        rw [eachP, Bool.and_eq_true, Bool.and_eq_true] at hp
        rw [hM (hp.2.1) hp.1]
        rw [yesTu, hp.2.1, hp.1, Bool.true_and, Bool.true_and] at hv
        exact hv
      refine ⟨hO, hE, [allW m g, decide (m ≤ 2 ^ 38), !yesTu x (listW (itW g) m)], rfl, ?_⟩
      simp only [ob_cons, ob_nil, and_true]
      exact ⟨h1, h2, by rw [hv]; rfl⟩
  · cases hu
def yL (x : Int) (L : List Wh) : Bool := eachOk 1 0 x false L
def tL (x : Int) (L : List Wh) : List Wh := eachL 1 0 x false L
theorem ok_ULa : SpecOk Tryz.prog 98 (specU md_wv (UO1 yL tL)) := by
  refine specU_ok rfl ok_deYLa ok_deNLa fun sas u hu ho => ?_
  unfold UO1 at hu
  split at hu
  · rename_i m g x
    cases hu
    simp only [ob_cons] at ho
    obtain ⟨h1, h2, _⟩ := ho
    refine ⟨rfl, ?_⟩
    have hM : inR x 0 23 = true → okD (listW (itW g) m) = true → (listW (itW g) m).map (chE 1 0 x false) = mpLa x (listW (itW g) m) := fun hx hd => (map_same fun w hw => (chLa_same hx (okD_mem hd hw).1).symm)
    cases hv : yesLa x (listW (itW g) m) with
    | true =>
      left
      have hv2 := hv
      rw [yesLa, Bool.and_eq_true, Bool.and_eq_true] at hv2
      obtain ⟨hx, hd, ht⟩ := hv2
      obtain ⟨hE, hO⟩ := each_yes (sp := 1) (tn := 0) (la := x) (mir := false) (by rw [eachP, hd, hx]; rfl) (hM hx hd) ht
      refine ⟨hO, [allW m g, decide (m ≤ 2 ^ 38), yesLa x (listW (itW g) m)], ?_, ?_⟩
      · show FdeYLa yesLa tidyL mpLa [.row m g, .v (.int .i64 x)] = some { val := valY (tL x (listW (itW g) m)), new := newY (tL x (listW (itW g) m)), obl := [allW m g, decide (m ≤ 2 ^ 38), yesLa x (listW (itW g) m)] }
        rw [show tL x (listW (itW g) m) = tidyL (mpLa x (listW (itW g) m)) from hE]
        rfl
      · simp only [ob_cons, ob_nil, and_true]
        exact ⟨h1, h2, hv⟩
    | false =>
      right
      obtain ⟨hE, hO⟩ := each_no (sp := 1) (tn := 0) (la := x) (mir := false) (L := listW (itW g) m) fun hp => by
        rw [eachP, Bool.and_eq_true, Bool.and_eq_true] at hp
        rw [hM (hp.2.2) hp.1]
        rw [yesLa, hp.2.2, hp.1, Bool.true_and, Bool.true_and] at hv
        exact hv
      refine ⟨hO, hE, [allW m g, decide (m ≤ 2 ^ 38), !yesLa x (listW (itW g) m)], rfl, ?_⟩
      simp only [ob_cons, ob_nil, and_true]
      exact ⟨h1, h2, by rw [hv]; rfl⟩
  · cases hu

end Go.Proofs.YtcadinbahmliiaaGreatDoor

/- The program's DesignTidy, DesignBack, DesignMirror, as a list or none, read as one. Conditions: a list of wheels. -/
namespace Go.Proofs.YtcadinbahmliiaaGreatDoor
open Go.RowKit
set_option maxRecDepth 100000

def UO0 (yes : List Wh → Bool) (tl : List Wh → List Wh) : List SA → Option UR
  | [.row m g] => some ⟨yes (listW (itW g) m), tl (listW (itW g) m), [allW m g, decide (m ≤ 2 ^ 38)]⟩
  | _ => none
theorem mpTi_self (L : List Wh) : mpTi L = L := by
  show L.map chTi = L
  rw [show chTi = id from rfl, List.map_id]
def yI (L : List Wh) : Bool := okD L && okT L
def tI (L : List Wh) : List Wh := bif yI L then tidyL L else []
theorem ok_UTi : SpecOk Tryz.prog 46 (specU md_ws (UO0 yI tI)) := by
  refine specU_ok rfl ok_deYTi ok_deNTi fun sas u hu ho => ?_
  unfold UO0 at hu
  split at hu
  · rename_i m g
    cases hu
    simp only [ob_cons] at ho
    obtain ⟨h1, h2, _⟩ := ho
    refine ⟨rfl, ?_⟩
    have hy : yesTi (listW (itW g) m) = yI (listW (itW g) m) := by
      unfold yesTi yI
      rw [show (listW (itW g) m).map chTi = listW (itW g) m from mpTi_self _]
    cases hv : yI (listW (itW g) m) with
    | true =>
      left
      refine ⟨rfl, [allW m g, decide (m ≤ 2 ^ 38), yesTi (listW (itW g) m)], ?_, ?_⟩
      · show FdeYTi yesTi tidyL mpTi [.row m g] = some { val := valY (tI (listW (itW g) m)), new := newY (tI (listW (itW g) m)), obl := [allW m g, decide (m ≤ 2 ^ 38), yesTi (listW (itW g) m)] }
        rw [tI, hv, cond_true]
        show some _ = some _
        rw [mpTi_self]
      · simp only [ob_cons, ob_nil, and_true]
        exact ⟨h1, h2, hy.trans hv⟩
    | false =>
      right
      refine ⟨rfl, by show tI (listW (itW g) m) = []; rw [tI, hv]; rfl, [allW m g, decide (m ≤ 2 ^ 38), !yesTi (listW (itW g) m)], rfl, ?_⟩
      simp only [ob_cons, ob_nil, and_true]
      exact ⟨h1, h2, by rw [hy, hv]; rfl⟩
  · cases hu
def yB (L : List Wh) : Bool := eachOk (-1) 0 0 false L
def tB (L : List Wh) : List Wh := eachL (-1) 0 0 false L
end Go.Proofs.YtcadinbahmliiaaGreatDoor

/- The reference's DesignTidy: its word. Conditions: a list of wheels. -/
namespace Go.Proofs.YtcadinbahmliiaaGreatDoor
open Go.RowKit
set_option maxRecDepth 100000

def gmZ1 (okd : List Wh → Bool) (ti : List Wh → List Wh) (okt : List Wh → Bool) : Gam := ext (ext g0 100 (specR md_ws (FdvO okd))) 101 (specR md_ws (FtidyO ti okt))
theorem gmZ1_ok : GamOk Tryz.prog (gmZ1 okD tidyL okT) := by
  unfold gmZ1
  rw [FtidyO_eq, FdvO_eq]
  exact ext_ok (ext_ok g0_ok ok_dv) ok_tidyS
theorem treeTiS (okd : List Wh → Bool) (ti : List Wh → List Wh) (okt : List Wh → Bool) (m : Nat) (f : Nat → Nat → Int) : execF Tryz.prog (gmZ1 okd ti okt) noLam 100 Tryz.f70 [.sl 0 9 0 0 m none] [.row false m 9 (row9 f) 75] (packK 1)
    = needs [Nat.ble ((0 : Nat) + m) m, allW m fun q ↦ row9 f ((0 : Nat) + q), decide (m ≤ (549755813888 : Nat))] (bif !okd (listW (itW fun q ↦ row9 f ((0 : Nat) + q)) m) then Res.out .ret [AV.tup [AV.own 1 (0 : Nat), AV.v (.bool false)]] [AB.row false m 9 (row9 f) 75, AB.row true (0 : Nat) (9 : Nat) (fun _ ↦ []) (75 : Nat)] else needs [Nat.ble ((0 : Nat) + m) m, allW m fun q ↦ row9 f ((0 : Nat) + q), decide (m ≤ (274877906944 : Nat))] (Res.out .ret [AV.tup [AV.own 1 (List.length (ti (listW (itW fun q ↦ row9 f ((0 : Nat) + q)) m))), AV.v (.bool (okt (listW (itW fun q ↦ row9 f ((0 : Nat) + q)) m)))]] [AB.row false m 9 (row9 f) 75, AB.row true (List.length (ti (listW (itW fun q ↦ row9 f ((0 : Nat) + q)) m))) (9 : Nat) (row9 (wfun (ti (listW (itW fun q ↦ row9 f ((0 : Nat) + q)) m)))) 75])) := by kernel_rfl

def FOw (yes : List Wh → Bool) (tl : List Wh → List Wh) : List SA → Option FR
  | [.row m g] => some { val := .tup [.own 0 (tl (listW (itW g) m)).length, .v (.bool (yes (listW (itW g) m)))], new := [.row true (tl (listW (itW g) m)).length 9 (row9 (wfun (tl (listW (itW g) m)))) 75], obl := [allW m g, decide (m ≤ 2 ^ 38)] }
  | _ => none
theorem tI_no {L : List Wh} (h : yI L = false) : tI L = [] := by rw [tI, h]; rfl
theorem ok_tiS : SpecOk Tryz.prog 70 (specR md_ws (FOw yI tI)) := by
  refine specR_hr gmZ1_ok Tryz.func70 rfl fun sas fr hF ho => ?_
  unfold FOw at hF
  split at hF
  · rename_i m g
    cases hF
    simp only [ob_cons] at ho
    obtain ⟨h1, h2, _⟩ := ho
    have hm := of_decide_eq_true h2
    refine ⟨[.row false m 9 (row9 (itW g)) 75], noLam, 100, .cons (ABeq.row fun j hj => allW_get h1 j hj) .nil, noLam' _, ?_⟩
    show GoodQ (execF Tryz.prog (gmZ1 okD tidyL okT) noLam 100 Tryz.f70 [.sl 0 9 0 0 m none] [.row false m 9 (row9 (itW g)) 75] (packK 1)) _
    rw [treeTiS]
    simp only [row0, listW_itW]
    refine good_needs (by simp only [ob_cons, ob_nil, and_true, decide_eq_true_eq, Nat.ble_eq, allW_row, true_and]; omega) (good_cond (fun q => ?_) fun q => ?_)
    · have q2 : okD (listW (itW g) m) = false := by simpa using q
      have hy : yI (listW (itW g) m) = false := by rw [yI, q2]; rfl
      refine good_out ⟨_, rfl, ?_, .cons (ABeq.row fun j hj => (allW_get h1 j hj).symm) ?_⟩
      · rw [tI_no hy, hy]
        rfl
      · show Hsim _ [.row true (tI (listW (itW g) m)).length 9 (row9 (wfun (tI (listW (itW g) m)))) 75]
        rw [tI_no hy]
        exact .cons (ABeq.row fun j hj => absurd hj (Nat.not_lt_zero _)) .nil
    · have q2 : okD (listW (itW g) m) = true := by simpa using q
      refine good_needs (by simp only [ob_cons, ob_nil, and_true, decide_eq_true_eq, Nat.ble_eq, allW_row, true_and]; omega) (good_out ?_)
      have hT : tI (listW (itW g) m) = tidyL (listW (itW g) m) := by
        rw [tI, yI, q2, Bool.true_and]
        cases ht : okT (listW (itW g) m) with
        | true => rfl
        | false => exact (tidyL_no ht).symm
      have hY : yI (listW (itW g) m) = okT (listW (itW g) m) := by rw [yI, q2, Bool.true_and]
      refine ⟨_, rfl, ?_, .cons (ABeq.row fun j hj => (allW_get h1 j hj).symm) ?_⟩
      · rw [hT, hY]
        rfl
      · show Hsim _ [.row true (tI (listW (itW g) m)).length 9 (row9 (wfun (tI (listW (itW g) m)))) 75]
        rw [hT]
        exact Hsim.refl _
  · cases hF

end Go.Proofs.YtcadinbahmliiaaGreatDoor

/- DesignCheck of both: trees. Conditions: a list of wheels. -/
namespace Go.Proofs.YtcadinbahmliiaaGreatDoor
open Go.RowKit
set_option maxRecDepth 100000

def f_sg (R M : (Nat → Int) → Nat) (ok : (Nat → Int) → Bool) : List Value → Option (Value × List Bool)
  | [.agg ⟨[.int .i64 a0, .int .i64 a1, .int .i64 a2, .int .i64 a3, .int .i64 a4, .int .i64 a5, .int .i64 a6, .int .i64 a7]⟩] => some (.complex .f32 (R (v8 a0 a1 a2 a3 a4 a5 a6 a7)) (M (v8 a0 a1 a2 a3 a4 a5 a6 a7)), [ok (v8 a0 a1 a2 a3 a4 a5 a6 a7)])
  | _ => none
def FspO (R M : (Nat → Int) → Nat) (ok : (Nat → Int) → Bool) : List SA → Option FR
  | [.v (.agg ⟨[.int .i64 a0, .int .i64 a1, .int .i64 a2, .int .i64 a3, .int .i64 a4, .int .i64 a5, .int .i64 a6, .int .i64 a7]⟩)] => some { val := .tup [.v (.complex .f32 (R (v8 a0 a1 a2 a3 a4 a5 a6 a7)) (M (v8 a0 a1 a2 a3 a4 a5 a6 a7))), .v (.bool (ok (v8 a0 a1 a2 a3 a4 a5 a6 a7)))] }
  | _ => none
def gmCkI (dv : (Nat → Nat → Int) → Int → Nat → Nat → Int) (dk : (Nat → Nat → Int) → Int → Nat → Bool) (R M : (Nat → Int) → Nat) (ok : (Nat → Int) → Bool) : Gam := ext (ext g0 77 (specR md_wv (FDAo dv dk))) 78 (specV (f_sg R M ok))
noncomputable abbrev fCkI : Func := Tryz.f41
abbrev lvCkI : Ex → List Nat := lv3 [4, 6, 20] [6] [2, 3]
abbrev stCkI (q : Nat) (h : Int) (i : Nat) : List AV := [.sl 1 9 0 0 q (some q), .v (.int .u32 h), .v (i64 i)]
abbrev hpCk (m : Nat) (f : Nat → Nat → Int) (q : Nat) (g : Nat → Nat → Int) : List AB := [.row false m 9 (row9 f) 75, .row false q 9 (row9 g) 75]
theorem rndCkI (dv : (Nat → Nat → Int) → Int → Nat → Nat → Int) (dk : (Nat → Nat → Int) → Int → Nat → Bool) (R M : (Nat → Int) → Nat) (ok : (Nat → Int) → Bool) (m : Nat) (f : Nat → Nat → Int) (q : Nat) (g : Nat → Nat → Int) (h : Int) (i : Nat) : execC Tryz.prog (gmCkI dv dk R M ok) 100 noLam (loopAt 0 fCkI) (mkT 0 49 ((lvCkI .normal).zip (stCkI q h i))) (hpCk m f q g) (leafV 49 lvCkI 1)
    = bif decide ((↑i : Int) < (24 : Int)) then needs [Nat.ble ((0 : Nat) + q) q, allW q fun q ↦ row9 g ((0 : Nat) + q), decide (q ≤ (274877906944 : Nat))] (bif !dk (itW fun q ↦ row9 g ((0 : Nat) + q)) (↑i : Int) q then Res.out .ret [AV.v (.int .u32 0), AV.v (.bool false)] [AB.row false m 9 (row9 f) 75] else needs [ok (w8 (dv (itW fun q ↦ row9 g ((0 : Nat) + q)) (↑i : Int) q))] (Res.out .normal [AV.sl 1 (9 : Nat) (0 : Nat) (0 : Nat) q (some q), AV.v (.int .u32 (IntKind.wrap .u32 (IntKind.wrap .u32 (↑(BitVec.toNat (BitVec.ofInt (32 : Nat) (IntKind.wrap .u32 (IntKind.wrap .u32 (↑(BitVec.toNat (BitVec.ofInt (32 : Nat) h ^^^ BitVec.ofInt (32 : Nat) (↑(R (w8 (dv (itW fun q ↦ row9 g ((0 : Nat) + q)) (↑i : Int) q))) : Int))) : Int) * (16777619 : Int))) ^^^ BitVec.ofInt (32 : Nat) (↑(M (w8 (dv (itW fun q ↦ row9 g ((0 : Nat) + q)) (↑i : Int) q))) : Int))) : Int) * (16777619 : Int)))), AV.v (.int .i64 (IntKind.wrap .i64 ((↑i : Int) + (1 : Int))))] [AB.row false m 9 (row9 f) 75, AB.row false q 9 (row9 g) 75])) else Res.out (Ex.exit (0 : Nat)) [AV.v (.int .u32 h)] [AB.row false m 9 (row9 f) 75] := by kernel_rfl

def gmCkS (dv : (Nat → Nat → Int) → Int → Nat → Nat → Int) (dk : (Nat → Nat → Int) → Int → Nat → Bool) (R M : (Nat → Int) → Nat) (ok : (Nat → Int) → Bool) : Gam := ext (ext g0 71 (specR md_wv (FDAo dv dk))) 72 (specR [.val] (FspO R M ok))
noncomputable abbrev fCkS : Func := Tryz.f36
abbrev lvCkS : Ex → List Nat := lv3 [4, 6, 7] [6] [2, 3]
abbrev stCkS (q : Nat) (h : Int) (i : Nat) : List AV := [.own 1 q, .v (.int .u32 h), .v (i64 i)]
abbrev hpCkS (m : Nat) (f : Nat → Nat → Int) (q : Nat) (g : Nat → Nat → Int) : List AB := [.row false m 9 (row9 f) 75, .row true q 9 (row9 g) 75]
theorem rndCkS (dv : (Nat → Nat → Int) → Int → Nat → Nat → Int) (dk : (Nat → Nat → Int) → Int → Nat → Bool) (R M : (Nat → Int) → Nat) (ok : (Nat → Int) → Bool) (m : Nat) (f : Nat → Nat → Int) (q : Nat) (g : Nat → Nat → Int) (h : Int) (i : Nat) : execC Tryz.prog (gmCkS dv dk R M ok) 100 noLam (loopAt 0 fCkS) (mkT 0 53 ((lvCkS .normal).zip (stCkS q h i))) (hpCkS m f q g) (leafV 53 lvCkS 1)
    = bif decide ((↑i : Int) < (24 : Int)) then needs [Nat.ble q q, allW q (row9 g), decide (q ≤ (274877906944 : Nat))] (bif !dk (itW (row9 g)) (↑i : Int) q then Res.out .ret [AV.v (.int .u32 0), AV.v (.bool false)] [AB.row false m 9 (row9 f) 75] else bif !ok (w8 (dv (itW (row9 g)) (↑i : Int) q)) then Res.out .ret [AV.v (.int .u32 0), AV.v (.bool false)] [AB.row false m 9 (row9 f) 75] else Res.out .normal [AV.own 1 q, AV.v (.int .u32 (IntKind.wrap .u32 (IntKind.wrap .u32 (↑(BitVec.toNat (BitVec.ofInt (32 : Nat) (IntKind.wrap .u32 (IntKind.wrap .u32 (↑(BitVec.toNat (BitVec.ofInt (32 : Nat) h ^^^ BitVec.ofInt (32 : Nat) (↑(R (w8 (dv (itW (row9 g)) (↑i : Int) q))) : Int))) : Int) * (16777619 : Int))) ^^^ BitVec.ofInt (32 : Nat) (↑(M (w8 (dv (itW (row9 g)) (↑i : Int) q))) : Int))) : Int) * (16777619 : Int)))), AV.v (.int .i64 (IntKind.wrap .i64 ((↑i : Int) + (1 : Int))))] [AB.row false m 9 (row9 f) 75, AB.row true q 9 (row9 g) 75]) else Res.out (Ex.exit (0 : Nat)) [AV.v (.int .u32 h)] [AB.row false m 9 (row9 f) 75] := by kernel_rfl

end Go.Proofs.YtcadinbahmliiaaGreatDoor

/- DesignCheck of both: single points, loops. Conditions: a list of wheels. -/
namespace Go.Proofs.YtcadinbahmliiaaGreatDoor
open Go.RowKit
set_option maxRecDepth 100000

abbrev hpC (m : Nat) (f : Nat → Nat → Int) : List AB := [.row false m 9 (row9 f) 75]
theorem good_needsV {bs : List Bool} {r : Res} {x : Value} (h : obls bs = true) (k : Good r x) : Good (needs bs r) x := by
  induction bs with
  | nil => exact k
  | cons b bs ih =>
    have : b = true ∧ obls bs = true := by simpa [obls] using h
    rw [this.1]
    exact ⟨(ih this.2).out⟩
def spO (a : Nat → Int) : Bool := cyOk (cyOf a)
def sgR (a : Nat → Int) : Nat := bif spO a then smR a 8 else 0
def sgM (a : Nat → Int) : Nat := bif spO a then smM a 8 else 0
theorem obS_of {a : Nat → Int} (h : spO a = true) : obls (obS a) = true := obS_ok fun k hk => by
  have h1 := smallF_iff.1 h k hk
  have e : (cyOf a).f k = a k := by
    match k, hk with
    | 0, _ => rfl
    | 1, _ => rfl
    | 2, _ => rfl
    | 3, _ => rfl
    | 4, _ => rfl
    | 5, _ => rfl
    | 6, _ => rfl
    | 7, _ => rfl
  omega
theorem ok_sg : SpecOk Tryz.prog 78 (specV (f_sg sgR sgM spO)) := by
  refine mkV (n := 100) g0_ok Tryz.func78 rfl fun vs v ob hF ho => ?_
  unfold f_sg at hF
  split at hF
  · rename_i a0 a1 a2 a3 a4 a5 a6 a7
    cases hF
    rw [ob_cons] at ho
    have ho := ho.1
    show Good (execF Tryz.prog g0 noLam 100 Tryz.f78 [.v (cyv (v8 a0 a1 a2 a3 a4 a5 a6 a7))] [] valK) _
    rw [exSg]
    refine good_needsV (obS_of ho) (one ?_)
    rw [sgR, sgM, ho]
    rfl
  · cases hF
theorem ok_sp : SpecOk Tryz.prog 72 (specR [.val] (FspO sgR sgM spO)) := by
  have hg : GamOk Tryz.prog (gmCv fun v => cyOk (cyOf v)) := by
    unfold gmCv
    rw [fOkc_eq]
    exact ext_ok g0_ok ok_cv
  refine specR_hr hg Tryz.func72 rfl fun sas fr hF ho => ?_
  unfold FspO at hF
  split at hF
  · rename_i a0 a1 a2 a3 a4 a5 a6 a7
    cases hF
    refine ⟨[], noLam, 100, .nil, noLam' _, ?_⟩
    show GoodQ (execF Tryz.prog (gmCv fun v => cyOk (cyOf v)) noLam 100 Tryz.f72 [.v (cyv (v8 a0 a1 a2 a3 a4 a5 a6 a7))] [] (packK 0)) _
    rw [exSp]
    refine good_cond (fun q => ?_) fun q => ?_
    · have q : spO (v8 a0 a1 a2 a3 a4 a5 a6 a7) = false := by
        have q' : (!spO (v8 a0 a1 a2 a3 a4 a5 a6 a7)) = true := q
        simpa using q'
      refine good_out ⟨_, rfl, ?_, .nil⟩
      rw [sgR, sgM, q]
      rfl
    · have q : spO (v8 a0 a1 a2 a3 a4 a5 a6 a7) = true := by
        have q' : (!spO (v8 a0 a1 a2 a3 a4 a5 a6 a7)) = false := q
        simpa using q'
      refine good_needs (obS_of q) (good_out ⟨_, rfl, ?_, .nil⟩)
      rw [sgR, sgM, q]
      rfl
  · cases hF

def hsh (h : Int) (R M : Nat) : Int := IntKind.wrap IntKind.u32 (IntKind.wrap IntKind.u32 (((BitVec.ofInt 32 (IntKind.wrap IntKind.u32 (IntKind.wrap IntKind.u32 (((BitVec.ofInt 32 h ^^^ BitVec.ofInt 32 (R : Int)).toNat : Nat) : Int) * 16777619)) ^^^ BitVec.ofInt 32 (M : Int)).toNat : Nat) : Int) * 16777619)
def ckH (f : Nat → Nat → Int) (q : Nat) : Nat → Int
  | 0 => 2166136261
  | i + 1 => hsh (ckH f q i) (sgR (w8 (daV f i q))) (sgM (w8 (daV f i q)))
def badCk (f : Nat → Nat → Int) (q : Nat) (i : Nat) : Bool := !daOk f i q
theorem cyOf_w8 (a : Nat → Int) : cyOf (w8 a) = cyOf a := rfl
theorem da_sp {f : Nat → Nat → Int} {n : Int} {m : Nat} (h : daOk f n m = true) : spO (w8 (daV f n m)) = true := by
  have h2 := h
  unfold daOk at h2
  rw [Bool.and_eq_true] at h2
  rw [spO, cyOf_w8, daV, h, cond_true]
  exact h2.2
theorem gmCkI_ok : GamOk Tryz.prog (gmCkI daV daOk sgR sgM spO) := ext_ok (ext_ok g0_ok ok_DAI) ok_sg
theorem gmCkS_ok : GamOk Tryz.prog (gmCkS daV daOk sgR sgM spO) := by
  refine ext_ok (ext_ok g0_ok ?_) ok_sp
  rw [FDAo_eq]
  exact ok_DA
theorem sumCkI (m : Nat) (f : Nat → Nat → Int) (q : Nat) (g : Nat → Nat → Int) (hq : q ≤ 12) :
    SumOk Tryz.prog 1 (.block 0 (.loop (loopAt 0 fCkI))) (atS 49 (lvCkI .normal) 1 (stCkI q 2166136261 0) (hpCk m f q g) (fun K => cond (noneTo (badCk g q) 24) (K .normal (mkT 0 49 [(6, .v (.int .u32 (ckH g q 24)))]) (hpC m f)) (K .ret (mkT 0 49 [(2, .v (.int .u32 0)), (3, .v (.bool false))]) (hpC m f)))) := by
  refine for_at gmCkI_ok (n := 100) (m := 1) (lv := lvCkI) (fun i => stCkI q (ckH g q i) i) (fun _ => hpCk m f q g) (fun i => noneTo (badCk g q) i = true) 24 (fun _ => noLam) (lv3_ris rfl rfl rfl) (Nat.le_refl _) rfl fun K Q hk i hi h24 => ⟨noLam_ok _ _ _, ?_⟩
  rw [rndCkI]
  refine good_cond (fun c1 => ?_) fun c1 => ?_
  · have c1 := of_decide_eq_true c1
    have c1' : i < 24 := by omega
    simp only [row0, daOk_row, daV_row]
    rw [wr_in (x := (i : Int) + 1) (by omega)]
    refine good_needs (by simp only [ob_cons, ob_nil, and_true, decide_eq_true_eq, Nat.ble_eq, allW_row, true_and]; omega) (good_cond (fun p => ?_) fun p => ?_)
    · refine good_out ⟨_, Hsim.refl _, ?_⟩
      have hb : badCk g q i = true := p
      rw [noneTo_no c1' hb] at hk
      exact hk
    · have hb : badCk g q i = false := p
      have hd : daOk g i q = true := by simpa [badCk] using hb
      exact good_needs (by rw [ob_cons]; exact ⟨da_sp hd, rfl⟩) (good_out ⟨i + 1, ⟨rfl, c1', noneTo_succ hi hb⟩, rfl, Hsim.refl _⟩)
  · have c1 := of_decide_eq_false c1
    have : i = 24 := by omega
    subst this
    refine good_out ⟨_, Hsim.refl _, ?_⟩
    rw [if_pos rfl]
    rw [hi] at hk
    exact hk
theorem sumCkS (m : Nat) (f : Nat → Nat → Int) (q : Nat) (g : Nat → Nat → Int) (hq : q ≤ 12) :
    SumOk Tryz.prog 1 (.block 0 (.loop (loopAt 0 fCkS))) (atS 53 (lvCkS .normal) 1 (stCkS q 2166136261 0) (hpCkS m f q g) (fun K => cond (noneTo (badCk g q) 24) (K .normal (mkT 0 53 [(6, .v (.int .u32 (ckH g q 24)))]) (hpC m f)) (K .ret (mkT 0 53 [(2, .v (.int .u32 0)), (3, .v (.bool false))]) (hpC m f)))) := by
  refine for_at gmCkS_ok (n := 100) (m := 1) (lv := lvCkS) (fun i => stCkS q (ckH g q i) i) (fun _ => hpCkS m f q g) (fun i => noneTo (badCk g q) i = true) 24 (fun _ => noLam) (lv3_ris rfl rfl rfl) (Nat.le_refl _) rfl fun K Q hk i hi h24 => ⟨noLam_ok _ _ _, ?_⟩
  rw [rndCkS]
  refine good_cond (fun c1 => ?_) fun c1 => ?_
  · have c1 := of_decide_eq_true c1
    have c1' : i < 24 := by omega
    simp only [daOk_row, daV_row]
    rw [wr_in (x := (i : Int) + 1) (by omega)]
    refine good_needs (by simp only [ob_cons, ob_nil, and_true, decide_eq_true_eq, Nat.ble_eq, allW_row, true_and]; omega) (good_cond (fun p => ?_) fun p => ?_)
    · refine good_out ⟨_, Hsim.refl _, ?_⟩
      have hb : badCk g q i = true := p
      rw [noneTo_no c1' hb] at hk
      exact hk
    · have hb : badCk g q i = false := p
      have hd : daOk g i q = true := by simpa [badCk] using hb
      rw [da_sp hd]
      exact good_false rfl (good_out ⟨i + 1, ⟨rfl, c1', noneTo_succ hi hb⟩, rfl, Hsim.refl _⟩)
  · have c1 := of_decide_eq_false c1
    have : i = 24 := by omega
    subst this
    refine good_out ⟨_, Hsim.refl _, ?_⟩
    rw [if_pos rfl]
    rw [hi] at hk
    exact hk

noncomputable abbrev lamCkI (m : Nat) (f : Nat → Nat → Int) (q : Nat) (g : Nat → Nat → Int) (c : Bool) (x : Int) : Nat → Option Sum := oneL 0 (atS 49 (lvCkI .normal) 1 (stCkI q 2166136261 0) (hpCk m f q g) (fun K => cond c (K .normal (mkT 0 49 [(6, .v (.int .u32 x))]) (hpC m f)) (K .ret (mkT 0 49 [(2, .v (.int .u32 0)), (3, .v (.bool false))]) (hpC m f))))
noncomputable abbrev lamCkS (m : Nat) (f : Nat → Nat → Int) (q : Nat) (g : Nat → Nat → Int) (c : Bool) (x : Int) : Nat → Option Sum := oneL 0 (atS 53 (lvCkS .normal) 1 (stCkS q 2166136261 0) (hpCkS m f q g) (fun K => cond c (K .normal (mkT 0 53 [(6, .v (.int .u32 x))]) (hpC m f)) (K .ret (mkT 0 53 [(2, .v (.int .u32 0)), (3, .v (.bool false))]) (hpC m f))))
def gmTdI (yI : List Wh → Bool) (tI : List Wh → List Wh) : Gam := ext g0 46 (specU md_ws (UO0 yI tI))
def gmTdS (yI : List Wh → Bool) (tI : List Wh → List Wh) : Gam := ext g0 70 (specR md_ws (FOw yI tI))
theorem treeCkI_h (yI : List Wh → Bool) (tI : List Wh → List Wh) (m : Nat) (f : Nat → Nat → Int) (q : Nat) (g : Nat → Nat → Int) (c : Bool) (x : Int) (u0 : _) (hu0 : (listW (itW fun q ↦ row9 f ((0 : Nat) + q)) m) = u0) (u1 : _) (hu1 : (AB.row false m 9 (row9 f) 75) = u1) (u2 : _) (hu2 : [AV.tup [AV.v (.int .u32 0), AV.v (.bool false)]] = u2) : execF Tryz.prog (gmTdI yI tI) (lamCkI m f q g c x) 100 fCkI [.sl 0 9 0 0 m none] (hpC m f) (packK 1)
    = needs [Nat.ble ((0 : Nat) + m) m, allW m fun q ↦ row9 f ((0 : Nat) + q), decide (m ≤ (274877906944 : Nat))] (bif !yI u0 then Res.out .ret u2 [u1] else needs [chk ([AV.sl 1 (9 : Nat) (0 : Nat) (0 : Nat) (List.length (tI u0)) (some (List.length (tI u0))), AV.v (.int .u32 2166136261), AV.v (.int .i64 0)] = stCkI q (2166136261 : Int) (0 : Nat) ∧ Hsim [u1, AB.row false (List.length (tI u0)) (9 : Nat) (row9 (wfun (tI u0))) 75] (hpCk m f q g))] (bif c then Res.out .ret [AV.tup [AV.v (.int .u32 x), AV.v (.bool true)]] [u1] else Res.out .ret u2 [u1])) := by
  subst hu2 hu1 hu0
  kernel_rfl
theorem treeCkI (yI : List Wh → Bool) (tI : List Wh → List Wh) (m : Nat) (f : Nat → Nat → Int) (q : Nat) (g : Nat → Nat → Int) (c : Bool) (x : Int) : type_of% (treeCkI_h yI tI m f q g c x _ rfl _ rfl _ rfl) := treeCkI_h yI tI m f q g c x _ rfl _ rfl _ rfl

theorem treeCkS (yI : List Wh → Bool) (tI : List Wh → List Wh) (m : Nat) (f : Nat → Nat → Int) (q : Nat) (g : Nat → Nat → Int) (c : Bool) (x : Int) : execF Tryz.prog (gmTdS yI tI) (lamCkS m f q g c x) 100 fCkS [.sl 0 9 0 0 m none] (hpC m f) (packK 1)
    = needs [Nat.ble ((0 : Nat) + m) m, allW m fun q ↦ row9 f ((0 : Nat) + q), decide (m ≤ (274877906944 : Nat))] (bif !yI (listW (itW fun q ↦ row9 f ((0 : Nat) + q)) m) then Res.out .ret [AV.tup [AV.v (.int .u32 0), AV.v (.bool false)]] [AB.row false m 9 (row9 f) 75] else needs [chk ([AV.own 1 (List.length (tI (listW (itW fun q ↦ row9 f ((0 : Nat) + q)) m))), AV.v (.int .u32 2166136261), AV.v (.int .i64 0)] = stCkS q (2166136261 : Int) (0 : Nat) ∧ Hsim [AB.row false m 9 (row9 f) 75, AB.row true (List.length (tI (listW (itW fun q ↦ row9 f ((0 : Nat) + q)) m))) (9 : Nat) (row9 (wfun (tI (listW (itW fun q ↦ row9 f ((0 : Nat) + q)) m)))) 75] (hpCkS m f q g))] (bif c then Res.out .ret [AV.tup [AV.v (.int .u32 x), AV.v (.bool true)]] [AB.row false m 9 (row9 f) 75] else Res.out .ret [AV.tup [AV.v (.int .u32 0), AV.v (.bool false)]] [AB.row false m 9 (row9 f) 75])) := by kernel_rfl

end Go.Proofs.YtcadinbahmliiaaGreatDoor

/- DesignCheck of both: their word. Conditions: a list of wheels. -/
namespace Go.Proofs.YtcadinbahmliiaaGreatDoor
open Go.RowKit
set_option maxRecDepth 100000

def ckY (L : List Wh) : Bool := yI L && noneTo (badCk (wfun (tI L)) (tI L).length) 24
def ckV (L : List Wh) : Int := bif ckY L then ckH (wfun (tI L)) (tI L).length 24 else 0
def FckO (v : List Wh → Int) (y : List Wh → Bool) : List SA → Option FR
  | [.row m g] => some { val := .tup [.v (.int .u32 (v (listW (itW g) m))), .v (.bool (y (listW (itW g) m)))], obl := [allW m g, decide (m ≤ 2 ^ 38)] }
  | _ => none
theorem tI_len12 (L : List Wh) : (tI L).length ≤ 12 := by
  cases h : yI L with
  | true =>
    rw [tI, h, cond_true]
    rw [yI, Bool.and_eq_true] at h
    exact tidyL_len h.2
  | false => rw [tI_no h]; exact Nat.zero_le _
theorem ok_ckI : SpecOk Tryz.prog 41 (specR md_ws (FckO ckV ckY)) := by
  refine specR_hr (Γ := gmTdI yI tI) (ext_ok g0_ok ok_UTi) Tryz.func41 rfl fun sas fr hF ho => ?_
  unfold FckO at hF
  split at hF
  · rename_i m g
    cases hF
    simp only [ob_cons] at ho
    obtain ⟨h1, h2, _⟩ := ho
    have hm := of_decide_eq_true h2
    have fin : ∀ v b, ckV (listW (itW g) m) = v → ckY (listW (itW g) m) = b → GoodQ (.out .ret [.tup [.v (.int .u32 v), .v (.bool b)]] (hpC m (itW g))) (GivR (abP md_ws [.row m g] []) { val := .tup [.v (.int .u32 (ckV (listW (itW g) m))), .v (.bool (ckY (listW (itW g) m)))], obl := [allW m g, decide (m ≤ 2 ^ 38)] }) := fun v b hv hb =>
      good_out ⟨_, rfl, by rw [hv, hb], .cons (ABeq.row fun j hj => (allW_get h1 j hj).symm) .nil⟩
    have no : ckY (listW (itW g) m) = false → GoodQ (.out .ret [.tup [.v (.int .u32 0), .v (.bool false)]] (hpC m (itW g))) (GivR (abP md_ws [.row m g] []) { val := .tup [.v (.int .u32 (ckV (listW (itW g) m))), .v (.bool (ckY (listW (itW g) m)))], obl := [allW m g, decide (m ≤ 2 ^ 38)] }) := fun h => fin 0 false (by rw [ckV, h]; rfl) h
    refine ⟨hpC m (itW g), lamCkI m (itW g) (tI (listW (itW g) m)).length (wfun (tI (listW (itW g) m))) (noneTo (badCk (wfun (tI (listW (itW g) m))) (tI (listW (itW g) m)).length) 24) (ckH (wfun (tI (listW (itW g) m))) (tI (listW (itW g) m)).length 24), 100, .cons (ABeq.row fun j hj => allW_get h1 j hj) .nil, lam1 (by kernel_rfl) (sumCkI m (itW g) _ _ (tI_len12 _)), ?_⟩
    show GoodQ (execF Tryz.prog (gmTdI yI tI) (lamCkI m (itW g) (tI (listW (itW g) m)).length (wfun (tI (listW (itW g) m))) (noneTo (badCk (wfun (tI (listW (itW g) m))) (tI (listW (itW g) m)).length) 24) (ckH (wfun (tI (listW (itW g) m))) (tI (listW (itW g) m)).length 24)) 100 fCkI [.sl 0 9 0 0 m none] (hpC m (itW g)) (packK 1)) _
    rw [treeCkI]
    simp only [row0, listW_itW]
    generalize listW (itW g) m = L at fin no ⊢
    refine good_needs (by simp only [ob_cons, ob_nil, and_true, decide_eq_true_eq, Nat.ble_eq, allW_row, true_and]; omega) (good_cond (fun q => ?_) fun q => good_needs (by rw [ob_cons]; exact ⟨chk_of ⟨rfl, Hsim.refl _⟩, rfl⟩) (good_cond (fun q2 => ?_) fun q2 => ?_))
    · rw [Bool.not_eq_true'] at q
      exact no (by rw [ckY, q]; rfl)
    · rw [Bool.not_eq_false'] at q
      have h : ckY L = true := by rw [ckY, q, q2]; rfl
      exact fin _ true (by rw [ckV, h]; rfl) h
    · rw [Bool.not_eq_false'] at q
      exact no (by rw [ckY, q, q2]; rfl)
  · cases hF
theorem ok_ckS : SpecOk Tryz.prog 36 (specR md_ws (FckO ckV ckY)) := by
  refine specR_hr (Γ := gmTdS yI tI) (ext_ok g0_ok ok_tiS) Tryz.func36 rfl fun sas fr hF ho => ?_
  unfold FckO at hF
  split at hF
  · rename_i m g
    cases hF
    simp only [ob_cons] at ho
    obtain ⟨h1, h2, _⟩ := ho
    have hm := of_decide_eq_true h2
    have fin : ∀ v b, ckV (listW (itW g) m) = v → ckY (listW (itW g) m) = b → GoodQ (.out .ret [.tup [.v (.int .u32 v), .v (.bool b)]] (hpC m (itW g))) (GivR (abP md_ws [.row m g] []) { val := .tup [.v (.int .u32 (ckV (listW (itW g) m))), .v (.bool (ckY (listW (itW g) m)))], obl := [allW m g, decide (m ≤ 2 ^ 38)] }) := fun v b hv hb =>
      good_out ⟨_, rfl, by rw [hv, hb], .cons (ABeq.row fun j hj => (allW_get h1 j hj).symm) .nil⟩
    have no : ckY (listW (itW g) m) = false → GoodQ (.out .ret [.tup [.v (.int .u32 0), .v (.bool false)]] (hpC m (itW g))) (GivR (abP md_ws [.row m g] []) { val := .tup [.v (.int .u32 (ckV (listW (itW g) m))), .v (.bool (ckY (listW (itW g) m)))], obl := [allW m g, decide (m ≤ 2 ^ 38)] }) := fun h => fin 0 false (by rw [ckV, h]; rfl) h
    refine ⟨hpC m (itW g), lamCkS m (itW g) (tI (listW (itW g) m)).length (wfun (tI (listW (itW g) m))) (noneTo (badCk (wfun (tI (listW (itW g) m))) (tI (listW (itW g) m)).length) 24) (ckH (wfun (tI (listW (itW g) m))) (tI (listW (itW g) m)).length 24), 100, .cons (ABeq.row fun j hj => allW_get h1 j hj) .nil, lam1 (by kernel_rfl) (sumCkS m (itW g) _ _ (tI_len12 _)), ?_⟩
    show GoodQ (execF Tryz.prog (gmTdS yI tI) (lamCkS m (itW g) (tI (listW (itW g) m)).length (wfun (tI (listW (itW g) m))) (noneTo (badCk (wfun (tI (listW (itW g) m))) (tI (listW (itW g) m)).length) 24) (ckH (wfun (tI (listW (itW g) m))) (tI (listW (itW g) m)).length 24)) 100 fCkS [.sl 0 9 0 0 m none] (hpC m (itW g)) (packK 1)) _
    rw [treeCkS]
    simp only [row0, listW_itW]
    generalize listW (itW g) m = L at fin no ⊢
    refine good_needs (by simp only [ob_cons, ob_nil, and_true, decide_eq_true_eq, Nat.ble_eq, allW_row, true_and]; omega) (good_cond (fun q => ?_) fun q => good_needs (by rw [ob_cons]; exact ⟨chk_of ⟨rfl, Hsim.refl _⟩, rfl⟩) (good_cond (fun q2 => ?_) fun q2 => ?_))
    · rw [Bool.not_eq_true'] at q
      exact no (by rw [ckY, q]; rfl)
    · rw [Bool.not_eq_false'] at q
      have h : ckY L = true := by rw [ckY, q, q2]; rfl
      exact fin _ true (by rw [ckV, h]; rfl) h
    · rw [Bool.not_eq_false'] at q
      exact no (by rw [ckY, q, q2]; rfl)
  · cases hF

end Go.Proofs.YtcadinbahmliiaaGreatDoor

/- DesignText and EntryMake of both sides: trees. Conditions: a list of wheels. -/
namespace Go.Proofs.YtcadinbahmliiaaGreatDoor
open Go.RowKit
set_option maxRecDepth 100000

def gmDtS (yI : List Wh → Bool) (tI : List Wh → List Wh) (tx : List Wh → ByteArray) (okd : List Wh → Bool) : Gam := ext (gmTdS yI tI) 79 (specR md_ws (FtxO tx okd))
theorem treeDtS_h (yI : List Wh → Bool) (tI : List Wh → List Wh) (tx : List Wh → ByteArray) (okd : List Wh → Bool) (m : Nat) (f : Nat → Nat → Int) (u0 : _) (hu0 : (listW (itW fun q ↦ row9 f ((0 : Nat) + q)) m) = u0) (u1 : _) (hu1 : (List.length (tI u0)) = u1) (u2 : _) (hu2 : [AB.row false m 9 (row9 f) 75] = u2) : execF Tryz.prog (gmDtS yI tI tx okd) noLam 100 Tryz.f42 [.sl 0 9 0 0 m none] (hpC m f) (packK 1)
    = needs [Nat.ble ((0 : Nat) + m) m, allW m fun q ↦ row9 f ((0 : Nat) + q), decide (m ≤ (274877906944 : Nat))] (bif !yI u0 then Res.out .ret [AV.tup [AV.v (.string (ByteArray.mk (Array.mk []))), AV.v (.bool false)]] u2 else needs [Nat.ble u1 u1, allW u1 (row9 (wfun (tI u0))), okd (listW (itW (row9 (wfun (tI u0)))) u1)] (Res.out .ret [AV.tup [AV.v (.string (tx (listW (itW (row9 (wfun (tI u0)))) u1))), AV.v (.bool true)]] u2)) := by
  subst hu2 hu1 hu0
  kernel_rfl
theorem treeDtS (yI : List Wh → Bool) (tI : List Wh → List Wh) (tx : List Wh → ByteArray) (okd : List Wh → Bool) (m : Nat) (f : Nat → Nat → Int) : type_of% (treeDtS_h yI tI tx okd m f _ rfl _ rfl _ rfl) := treeDtS_h yI tI tx okd m f _ rfl _ rfl _ rfl

def FdtO (tv : List Wh → ByteArray) (yt : List Wh → Bool) : List SA → Option FR
  | [.row m g] => some { val := .tup [.v (.string (tv (listW (itW g) m))), .v (.bool (yt (listW (itW g) m)))], obl := [allW m g, decide (m ≤ 2 ^ 38)] }
  | _ => none
end Go.Proofs.YtcadinbahmliiaaGreatDoor

/- Plain algebra: how great products, mirrored points and parts can be. No program, no conditions. -/
namespace Go.Proofs.YtcadinbahmliiaaGreatDoor
open Go.RowKit

def bd8 (B : Int) (f : Nat → Int) : Prop := ∀ k, k < 8 → -B ≤ f k ∧ f k ≤ B
end Go.Proofs.YtcadinbahmliiaaGreatDoor

/- Plain lists of wheels: sums over the wheels that are linear in the radii do not change when the list is tidied; a tidy list is known by its sums. No program, no conditions. -/
namespace Go.Proofs.YtcadinbahmliiaaGreatDoor
open Go.RowKit

def linS (φ : Int → (Nat → Int) → Int) : List Wh → Int
  | [] => 0
  | w :: l => φ w.s w.r.f + linS φ l
def Lin (φ : Int → (Nat → Int) → Int) : Prop := ∀ s f g, φ s (fun k => f k + g k) = φ s f + φ s g
theorem Lin.zero {φ : Int → (Nat → Int) → Int} (h : Lin φ) (s : Int) : φ s (fun _ => 0) = 0 := by
  have := h s (fun _ => 0) (fun _ => 0)
  have e : (fun k : Nat => (fun _ : Nat => (0 : Int)) k + (fun _ : Nat => (0 : Int)) k) = fun _ => 0 := by
    funext k
    rfl
  rw [e] at this
  omega
def bdW (B : Int) (L : List Wh) : Prop := ∀ w ∈ L, bd8 B w.r.f
theorem Cy.f_out (a : Cy) {k : Nat} (h : 8 ≤ k) : a.f k = 0 := by
  unfold Cy.f
  match k, h with
  | k + 8, _ => rfl
theorem cyAdd_f {a b : Cy} (ha : bd8 2000000000000 a.f) (hb : bd8 2000000000000 b.f) : (cyAdd a b).f = fun k => a.f k + b.f k := by
  funext k
  by_cases hk : k < 8
  · have e : (cyAdd a b).f k = W (a.f k + b.f k) := by
      rcases (by omega : k = 0 ∨ k = 1 ∨ k = 2 ∨ k = 3 ∨ k = 4 ∨ k = 5 ∨ k = 6 ∨ k = 7) with rfl | rfl | rfl | rfl | rfl | rfl | rfl | rfl <;> rfl
    have h1 := ha k hk
    have h2 := hb k hk
    rw [e, w64_in (by omega) (by omega)]
  · rw [Cy.f_out _ (by omega), Cy.f_out _ (by omega), Cy.f_out _ (by omega)]
    rfl
theorem cyOk_bd {a : Cy} (h : cyOk a = true) : bd8 1000000 a.f := fun k hk => by
  have := smallF_iff.1 h k hk
  omega
theorem bd8.mono {A B : Int} {f : Nat → Int} (h : bd8 A f) (hAB : A ≤ B) : bd8 B f := fun k hk => by
  have := h k hk
  omega
theorem bdW.mono {A B : Int} {L : List Wh} (h : bdW A L) (hAB : A ≤ B) : bdW B L := fun w hw => (h w hw).mono hAB

theorem linS_insS {φ : Int → (Nat → Int) → Int} (hφ : Lin φ) {w : Wh} (hw : bd8 2000000000000 w.r.f) : ∀ {l : List Wh}, bdW 2000000000000 l → linS φ (insS l w) = linS φ l + φ w.s w.r.f
  | [], _ => by
    show φ w.s w.r.f + 0 = 0 + φ w.s w.r.f
    omega
  | x :: l, h => by
    unfold insS
    split
    · show φ x.s x.r.f + linS φ (insS l w) = φ x.s x.r.f + linS φ l + φ w.s w.r.f
      rw [linS_insS hφ hw fun y hy => h y (by simp [hy])]
      omega
    · split
      · rename_i e
        show φ x.s (cyAdd x.r w.r).f + linS φ l = φ x.s x.r.f + linS φ l + φ w.s w.r.f
        rw [cyAdd_f (h x (by simp)) hw, hφ, e]
        omega
      · show φ w.s w.r.f + (φ x.s x.r.f + linS φ l) = φ x.s x.r.f + linS φ l + φ w.s w.r.f
        omega
def okW (L : List Wh) : Prop := ∀ w ∈ L, cyOk w.r = true
theorem okW.bd {L : List Wh} (h : okW L) : bdW 1000000 L := fun w hw => cyOk_bd (h w hw)
theorem insS_ok {l : List Wh} {w : Wh} (hr : rising l) (h : okW l) (ho : cyOk (sumR l w) = true) : okW (insS l w) := fun x hx => by
  have := (insS_perm hr).subset hx
  rcases List.mem_cons.1 this with rfl | hx
  · exact ho
  · exact h x (List.mem_filter.1 hx).1
theorem linS_run {φ : Int → (Nat → Int) → Int} (hφ : Lin φ) : ∀ {ws acc B : List Wh}, bdW 2000000000000 ws → rising acc → okW acc → runT insS acc ws = some B → linS φ B = linS φ acc + linS φ ws ∧ rising B ∧ okW B
  | [], acc, B, _, hr, ho, h => by
    simp only [runT, Option.some.injEq] at h
    subst h
    exact ⟨by show linS φ acc = linS φ acc + 0; omega, hr, ho⟩
  | w :: ws, acc, B, hb, hr, ho, h => by
    unfold runT at h
    split at h
    · rename_i hk
      obtain ⟨e, h1, h2⟩ := linS_run hφ (ws := ws) (fun x hx => hb x (by simp [hx])) (insS_rising w hr) (insS_ok hr ho hk) h
      refine ⟨?_, h1, h2⟩
      rw [e, linS_insS hφ (hb w (by simp)) (ho.bd.mono (by omega))]
      show _ = linS φ acc + (φ w.s w.r.f + linS φ ws)
      omega
    · cases h
theorem linS_nonZ {φ : Int → (Nat → Int) → Int} (hφ : Lin φ) : ∀ L : List Wh, linS φ (nonZ L) = linS φ L
  | [] => rfl
  | w :: l => by
    have ih := linS_nonZ hφ l
    unfold nonZ at ih ⊢
    by_cases h : w.r = cyZ
    · rw [List.filter_cons_of_neg (by simp [h]), ih]
      show linS φ l = φ w.s w.r.f + linS φ l
      rw [h, show cyZ.f = fun _ => 0 from funext fun k => by
        by_cases hk : k < 8
        · rcases (by omega : k = 0 ∨ k = 1 ∨ k = 2 ∨ k = 3 ∨ k = 4 ∨ k = 5 ∨ k = 6 ∨ k = 7) with rfl | rfl | rfl | rfl | rfl | rfl | rfl | rfl <;> rfl
        · exact Cy.f_out _ (by omega), hφ.zero]
      omega
    · rw [List.filter_cons_of_pos (by simp [h])]
      show φ w.s w.r.f + linS φ _ = φ w.s w.r.f + linS φ l
      rw [ih]
def isTidy (T : List Wh) : Prop := rising T ∧ (∀ w ∈ T, w.r ≠ cyZ) ∧ dValid T = true
theorem tidyS_lin {ws T : List Wh} (hb : bdW 2000000000000 ws) (h : tidyS ws = some T) : isTidy T ∧ ∀ φ, Lin φ → linS φ T = linS φ ws := by
  unfold tidyS at h
  split at h
  · rename_i l hl
    split at h
    · rename_i hv
      cases h
      obtain ⟨_, h1, _⟩ := linS_run (φ := fun _ _ => 0) (fun _ _ _ => rfl) hb List.Pairwise.nil (fun w hw => by simp at hw) hl
      refine ⟨⟨List.Pairwise.filter _ h1, fun w hw => by simpa using (List.mem_filter.1 hw).2, hv⟩, fun φ hφ => ?_⟩
      obtain ⟨e, _⟩ := linS_run hφ hb List.Pairwise.nil (fun w hw => by simp at hw) hl
      rw [linS_nonZ hφ, e]
      show 0 + _ = _
      omega
    · cases h
  · cases h
theorem okT_some {L : List Wh} (h : okT L = true) : tidyS L = some (tidyL L) := by
  unfold okT at h
  unfold tidyL
  cases e : tidyS L with
  | none => rw [e] at h; cases h
  | some T => rfl
theorem tidyL_lin {ws : List Wh} (hb : bdW 2000000000000 ws) (h : okT ws = true) : isTidy (tidyL ws) ∧ ∀ φ, Lin φ → linS φ (tidyL ws) = linS φ ws := tidyS_lin hb (okT_some h)

theorem insS_end : ∀ {l : List Wh} {w : Wh}, (∀ x ∈ l, x.s < w.s) → insS l w = l ++ [w]
  | [], _, _ => rfl
  | x :: l, w, h => by
    unfold insS
    rw [if_pos (h x (by simp)), insS_end fun y hy => h y (by simp [hy])]
    rfl
theorem sumR_end {l : List Wh} {w : Wh} (h : ∀ x ∈ l, x.s < w.s) : sumR l w = w.r := by
  have : (l.find? fun x => decide (x.s = w.s)) = none := List.find?_eq_none.2 fun x hx => by
    have := h x hx
    simp only [decide_eq_true_eq]
    omega
  simp [sumR, radAt, this]
theorem run_tidy : ∀ {ws acc : List Wh}, rising (acc ++ ws) → okW ws → runT insS acc ws = some (acc ++ ws)
  | [], acc, _, _ => by simp [runT]
  | w :: ws, acc, hr, ho => by
    have hl : ∀ x ∈ acc, x.s < w.s := fun x hx => (List.pairwise_append.1 hr).2.2 x hx w (by simp)
    unfold runT
    rw [sumR_end hl, if_pos (ho w (by simp)), insS_end hl, run_tidy (by simpa using hr) fun x hx => ho x (by simp [hx])]
    simp
theorem dValid_ok {L : List Wh} (h : dValid L = true) : okW L := fun w hw => by
  rw [dValid, Bool.and_eq_true, List.all_eq_true] at h
  have := h.2 w hw
  rw [Bool.and_eq_true] at this
  exact this.2
theorem tidyS_self {T : List Wh} (h : isTidy T) : tidyS T = some T := by
  have hz : nonZ T = T := List.filter_eq_self.2 fun w hw => by simpa using h.2.1 w hw
  unfold tidyS
  rw [run_tidy (acc := []) (by simpa using h.1) (dValid_ok h.2.2)]
  simp only [List.nil_append]
  rw [hz, if_pos h.2.2]
theorem okT_self {T : List Wh} (h : isTidy T) : okT T = true := by rw [okT, tidyS_self h]; rfl
theorem tidyL_self {T : List Wh} (h : isTidy T) : tidyL T = T := by rw [tidyL, tidyS_self h]; rfl

end Go.Proofs.YtcadinbahmliiaaGreatDoor

/- DesignText and EntryMake of both sides: their words. Conditions: a list of wheels. -/
namespace Go.Proofs.YtcadinbahmliiaaGreatDoor
open Go.RowKit
set_option maxRecDepth 100000

theorem tI_okD {L : List Wh} (h : yI L = true) : okD (tI L) = true := by
  have hy := h
  rw [yI, Bool.and_eq_true] at hy
  have e : tI L = tidyL L := by rw [tI, h]; rfl
  rw [e]
  exact (tidyL_lin ((show bdW 1000000 L from fun w hw => (okD_mem hy.1 hw).2).mono (by omega)) hy.2).1.2.2

def txV (L : List Wh) : ByteArray := bif yI L then textB (tI L) else ⟨#[]⟩
theorem gmDtS_ok : GamOk Tryz.prog (gmDtS yI tI textB okD) := ext_ok (ext_ok g0_ok ok_tiS) ok_sx
theorem ok_dtS : SpecOk Tryz.prog 42 (specR md_ws (FdtO txV yI)) := by
  refine specR_hr gmDtS_ok Tryz.func42 rfl fun sas fr hF ho => ?_
  unfold FdtO at hF
  split at hF
  · rename_i m g
    cases hF
    simp only [ob_cons] at ho
    obtain ⟨h1, h2, _⟩ := ho
    have hm := of_decide_eq_true h2
    have fin : ∀ v b, txV (listW (itW g) m) = v → yI (listW (itW g) m) = b → GoodQ (.out .ret [.tup [.v (.string v), .v (.bool b)]] (hpC m (itW g))) (GivR (abP md_ws [.row m g] []) { val := .tup [.v (.string (txV (listW (itW g) m))), .v (.bool (yI (listW (itW g) m)))], obl := [allW m g, decide (m ≤ 2 ^ 38)] }) := fun v b hv hb =>
      good_out ⟨_, rfl, by rw [hv, hb], .cons (ABeq.row fun j hj => (allW_get h1 j hj).symm) .nil⟩
    refine ⟨hpC m (itW g), noLam, 100, .cons (ABeq.row fun j hj => allW_get h1 j hj) .nil, fun _ _ => noLam_ok _ _ _, ?_⟩
    show GoodQ (execF Tryz.prog (gmDtS yI tI textB okD) noLam 100 Tryz.f42 [.sl 0 9 0 0 m none] (hpC m (itW g)) (packK 1)) _
    rw [treeDtS]
    simp only [row0, listW_itW]
    generalize listW (itW g) m = L at fin ⊢
    refine good_needs (by simp only [ob_cons, ob_nil, and_true, decide_eq_true_eq, Nat.ble_eq, allW_row, true_and]; omega) (good_cond (fun q => ?_) fun q => ?_)
    · rw [Bool.not_eq_true'] at q
      exact fin _ _ (by rw [txV, q]; rfl) q
    · rw [Bool.not_eq_false'] at q
      rw [listW_fun]
      refine good_needs (by simp only [ob_cons, ob_nil, and_true, Nat.ble_eq, allW_row, true_and]; exact ⟨by omega, tI_okD q⟩) (fin _ _ (by rw [txV, q]; rfl) q)
  · cases hF

end Go.Proofs.YtcadinbahmliiaaGreatDoor

/- DesignRead of the reference: trees. Conditions: a text. -/
namespace Go.Proofs.YtcadinbahmliiaaGreatDoor
open Go.RowKit
set_option maxRecDepth 100000

def gmRs (g : ByteArray → Int → Nat → ByteArray) (n : ByteArray → Int → Nat) (f : ByteArray → Int) (tx : List Wh → ByteArray) (yI : List Wh → Bool) : Gam := ext (ext (ext g0 68 (specR [.val, .val] (FcuO g n))) 69 (specR [.val] (FnbO f))) 42 (specR md_ws (FdtO tx yI))
abbrev lvRs : Ex → List Nat := lv3 [0, 4, 5, 6] [0, 4] [2, 3]
abbrev hpRs (k : Nat) (h : Nat → Nat → Int) (m : Nat) (gw : Nat → ByteArray) : List AB := [.row true k 9 (row9 h) 75, .row true m 1 (fun j => [.string (gw j)]) 9]
abbrev stRs (s : ByteArray) (k m : Nat) (i : Nat) : List AV := [.v (.string s), .own 0 k, .own 1 m, .v (i64 i)]
theorem rndRs_h (g : ByteArray → Int → Nat → ByteArray) (n : ByteArray → Int → Nat) (f : ByteArray → Int) (tx : List Wh → ByteArray) (yI : List Wh → Bool) (s : ByteArray) (k : Nat) (h : Nat → Nat → Int) (m : Nat) (gw : Nat → ByteArray) (i : Nat) (u2 : _) (hu2 : (gw (Int.toNat (↑i : Int))) = u2) (u3 : _) (hu3 : (44 : Int) = u3) (u4 : _) (hu4 : (0 : Nat) = u4) (u5 : _) (hu5 : (1 : Nat) = u5) (u6 : _) (hu6 : (↑(n u2 (58 : Int)) : Int) = u6) (u7 : _) (hu7 : [AB.row true u4 9 (fun _ ↦ []) (75 : Nat)] = u7) (u0 : _) (hu0 : (g u2 (58 : Int) u5) = u0) (u1 : _) (hu1 : (↑(n u0 u3) : Int) = u1) : execC Tryz.prog (gmRs g n f tx yI) 200 noLam (loopAt 0 Tryz.f35) (mkT 0 82 ((lvRs .normal).zip (stRs s k m i))) (hpRs k h m gw) (leafV 82 lvRs 0)
    = bif decide ((↑i : Int) < (m : Int)) then needs [decide ((↑i : Int) < (m : Int)), decide (Int.toNat (↑i : Int) < m), Nat.blt (ByteArray.size u2) (4294967281 : Nat)] (bif u6 != (2 : Int) then Res.out .ret [AV.own u4 u4, AV.v (.bool false)] u7 else needs [decide ((1 : Int) < u6), decide (u5 < n u2 (58 : Int)), Nat.blt (ByteArray.size u0) (4294967281 : Nat)] (bif u1 != (8 : Int) then Res.out .ret [AV.own u4 u4, AV.v (.bool false)] u7 else needs [decide ((0 : Int) < u6), decide (u4 < n u2 (58 : Int)), decide ((0 : Int) < u1), decide (u4 < n u0 u3), decide ((1 : Int) < u1), decide (u5 < n u0 u3), decide ((2 : Int) < u1), decide ((2 : Nat) < n u0 u3), decide ((3 : Int) < u1), decide ((3 : Nat) < n u0 u3), decide ((4 : Int) < u1), decide ((4 : Nat) < n u0 u3), decide ((5 : Int) < u1), decide ((5 : Nat) < n u0 u3), decide ((6 : Int) < u1), decide ((6 : Nat) < n u0 u3), decide ((7 : Int) < u1), decide ((7 : Nat) < n u0 u3), Nat.ble k k, Nat.ble (k + u5) (549755813888 : Nat)] (Res.out .normal [AV.v (.string s), AV.own u4 (k + u5), AV.own u5 m, AV.v (.int .i64 (IntKind.wrap .i64 ((↑i : Int) + (1 : Int))))] [AB.row true (k + u5) (9 : Nat) (fun q ↦ [Value.int .i64 (bif Nat.blt q k then h q u4 else f (g u2 (58 : Int) u4)), Value.int .i64 (bif Nat.blt q k then h q u5 else f (g u0 u3 u4)), Value.int .i64 (bif Nat.blt q k then h q (2 : Nat) else f (g u0 u3 u5)), Value.int .i64 (bif Nat.blt q k then h q (3 : Nat) else f (g u0 u3 (2 : Nat))), Value.int .i64 (bif Nat.blt q k then h q (4 : Nat) else f (g u0 u3 (3 : Nat))), Value.int .i64 (bif Nat.blt q k then h q (5 : Nat) else f (g u0 u3 (4 : Nat))), Value.int .i64 (bif Nat.blt q k then h q (6 : Nat) else f (g u0 u3 (5 : Nat))), Value.int .i64 (bif Nat.blt q k then h q (7 : Nat) else f (g u0 u3 (6 : Nat))), Value.int .i64 (bif Nat.blt q k then h q (8 : Nat) else f (g u0 u3 (7 : Nat)))]) (75 : Nat), AB.row true m u5 (fun j ↦ [Value.string (gw j)]) 9]))) else Res.out (Ex.exit u4) [AV.v (.string s), AV.own u4 k] [AB.row true k 9 (row9 h) 75] := by
  subst hu1 hu0 hu7 hu6 hu5 hu4 hu3 hu2
  kernel_rfl
theorem rndRs (g : ByteArray → Int → Nat → ByteArray) (n : ByteArray → Int → Nat) (f : ByteArray → Int) (tx : List Wh → ByteArray) (yI : List Wh → Bool) (s : ByteArray) (k : Nat) (h : Nat → Nat → Int) (m : Nat) (gw : Nat → ByteArray) (i : Nat) : type_of% (rndRs_h g n f tx yI s k h m gw i _ rfl _ rfl _ rfl _ rfl _ rfl _ rfl _ rfl _ rfl) := rndRs_h g n f tx yI s k h m gw i _ rfl _ rfl _ rfl _ rfl _ rfl _ rfl _ rfl _ rfl

noncomputable abbrev lamRs (s : ByteArray) (m : Nat) (gw : Nat → ByteArray) (q : Bool) (k : Nat) (h : Nat → Nat → Int) : Nat → Option Sum := oneL 0 (atS 82 (lvRs .normal) 0 (stRs s 0 m 0) (hpRs 0 (wfun []) m gw) (fun K => cond q (K .normal (mkT 0 82 [(0, .v (.string s)), (4, .own 0 k)]) [.row true k 9 (row9 h) 75]) (K .ret (mkT 0 82 [(2, .own 0 0), (3, .v (.bool false))]) [.row true 0 9 (fun _ => []) 75])))
theorem treeRs_h (g : ByteArray → Int → Nat → ByteArray) (n : ByteArray → Int → Nat) (f : ByteArray → Int) (tx : List Wh → ByteArray) (yI : List Wh → Bool) (s : ByteArray) (q : Bool) (k : Nat) (h : Nat → Nat → Int) (u2 : _) (hu2 : (0 : Nat) = u2) (u3 : _) (hu3 : (n s (32 : Int)) = u3) (u0 : _) (hu0 : (AB.row true u2 9 (fun _ ↦ []) (75 : Nat)) = u0) (u1 : _) (hu1 : [AV.tup [AV.own u2 u2, AV.v (.bool false)]] = u1) : execF Tryz.prog (gmRs g n f tx yI) (lamRs s (n s 32) (g s 32) q k h) 200 Tryz.f35 [.v (.string s)] [] (packK 0)
    = bif decide ((↑(ByteArray.size s) : Int) > (1500 : Int)) then Res.out .ret u1 [u0] else bif eqB s (ByteArray.mk (Array.mk [(45 : UInt8)])) then Res.out .ret [AV.tup [AV.own u2 u2, AV.v (.bool true)]] [u0] else needs [Nat.blt (ByteArray.size s) (4294967281 : Nat), chk ([AV.v (.string s), AV.own u2 u2, AV.own 1 u3, AV.v (.int .i64 0)] = stRs s u2 u3 u2 ∧ Hsim [u0, AB.row true u3 1 (fun j ↦ [Value.string (g s (32 : Int) j)]) 9] (hpRs u2 (wfun []) u3 (g s (32 : Int))))] (bif q then needs [Nat.ble k k, allW k (row9 h), decide (k ≤ (274877906944 : Nat))] (bif !yI (listW (itW (row9 h)) k) then Res.out .ret u1 [u0] else bif !eqB (tx (listW (itW (row9 h)) k)) s then Res.out .ret u1 [u0] else Res.out .ret [AV.tup [AV.own u2 k, AV.v (.bool true)]] [AB.row true k 9 (row9 h) 75]) else Res.out .ret u1 [AB.row true u2 9 (fun _ ↦ []) 75]) := by
  subst hu1 hu0 hu3 hu2
  kernel_rfl
theorem treeRs (g : ByteArray → Int → Nat → ByteArray) (n : ByteArray → Int → Nat) (f : ByteArray → Int) (tx : List Wh → ByteArray) (yI : List Wh → Bool) (s : ByteArray) (q : Bool) (k : Nat) (h : Nat → Nat → Int) : type_of% (treeRs_h g n f tx yI s q k h _ rfl _ rfl _ rfl _ rfl) := treeRs_h g n f tx yI s q k h _ rfl _ rfl _ rfl _ rfl

theorem treeRsB (g : ByteArray → Int → Nat → ByteArray) (n : ByteArray → Int → Nat) (f : ByteArray → Int) (tx : List Wh → ByteArray) (yI : List Wh → Bool) (s : ByteArray) : execF Tryz.prog (gmRs g n f tx yI) (oneL 0 errS) 200 Tryz.f35 [.v (.string s)] [] (packK 0)
    = bif decide ((↑(ByteArray.size s) : Int) > (1500 : Int)) then Res.out .ret [AV.tup [AV.own 0 (0 : Nat), AV.v (.bool false)]] [AB.row true (0 : Nat) (9 : Nat) (fun _ ↦ []) (75 : Nat)] else bif eqB s (ByteArray.mk (Array.mk [(45 : UInt8)])) then Res.out .ret [AV.tup [AV.own 0 (0 : Nat), AV.v (.bool true)]] [AB.row true (0 : Nat) (9 : Nat) (fun _ ↦ []) (75 : Nat)] else needs [Nat.blt (ByteArray.size s) (4294967281 : Nat)] Res.err := by kernel_rfl

end Go.Proofs.YtcadinbahmliiaaGreatDoor
