/- Tidy designs have the same points: FnTidy returns true, whatever the bytes are, and they read as before. No conditions. -/
import Derived.Test.YtnlfdcjpeoafhaaZD0
import Derived.Test.YtnlfdcjpeoafhaaZD1
import Derived.Test.YtnlfdcjpeoafhaaZD2
import Derived.Test.YtnlfdcjpeoafhaaZD3
import Derived.Test.YtnlfdcjpeoafhaaZD4
import Derived.Test.YtnlfdcjpeoafhaaZD5
import Derived.Test.YtnlfdcjpeoafhaaZD6
/- DrawDesignTidy: a list of wheels. Conditions: bytes, at most 2^21. -/
namespace Go.Proofs.Ytnlfdcjpeoafhaa
open Go.RowKit
set_option maxRecDepth 100000

theorem treeRTi (tf tp : Nat → (Nat → Int) → Int → Int) (dl : Nat → (Nat → Int) → Int → List Wh) (dp : Nat → (Nat → Int) → Int → Int) (pk : Nat → (Nat → Int) → Int → Int → Int) (m : Nat) (b : Nat → Int) : execF Try.prog (gmDr tf tp dl dp pk) noLam 100 Try.f51 [.sl 0 1 0 0 m none] [.row false m 1 (rowB b) 5] (packK 1)
    = bif decide ((↑m : Int) > (2000 : Int)) then needs [decide ((2000 : Int) ≤ (↑m : Int)), decide ((↑m : Int) ≤ (↑m : Int)), okB m (rowB b), decide (Int.toNat ((2000 : Int) - (0 : Int)) ≤ m), decide ((0 : Nat) < m), decide ((0 : Nat) < m)] (Res.out Ex.ret [AV.own (1 : Nat) (List.length (dl (Int.toNat ((2000 : Int) - (0 : Int))) (itB (rowB b)) (0 : Int)))] [AB.row false m (1 : Nat) (rowB b) (5 : TypeId), AB.row true (List.length (dl (Int.toNat ((2000 : Int) - (0 : Int))) (itB (rowB b)) (0 : Int))) (9 : Nat) (row9 (wfun (dl (Int.toNat ((2000 : Int) - (0 : Int))) (itB (rowB b)) (0 : Int)))) (67 : TypeId)]) else needs [okB m (rowB b), decide (m ≤ m), decide ((0 : Nat) < m), decide ((0 : Nat) < m)] (Res.out Ex.ret [AV.own (1 : Nat) (List.length (dl m (itB (rowB b)) (0 : Int)))] [AB.row false m (1 : Nat) (rowB b) (5 : TypeId), AB.row true (List.length (dl m (itB (rowB b)) (0 : Int))) (9 : Nat) (row9 (wfun (dl m (itB (rowB b)) (0 : Int)))) (67 : TypeId)]) := by kernel_rfl

theorem treeRTi0 (q : Option Addr) (c : Nat) (g : Nat → List Value) : execF Try.prog g0 noLam 100 Try.f51 [.v (.slice q 0 c)] [.row false 0 1 g 5] (packK 1)
    = Res.out Ex.ret [AV.own (1 : Nat) (1 : Nat)] [AB.row false (0 : Nat) (1 : Nat) g (5 : TypeId), AB.row true (1 : Nat) (9 : Nat) (fun q ↦ [Value.int IntKind.i64 (1001 : Int), Value.int IntKind.i64 (0 : Int), Value.int IntKind.i64 (0 : Int), Value.int IntKind.i64 (0 : Int), Value.int IntKind.i64 (0 : Int), Value.int IntKind.i64 (0 : Int), Value.int IntKind.i64 (0 : Int), Value.int IntKind.i64 (0 : Int), Value.int IntKind.i64 (0 : Int)]) (67 : Nat)] := by kernel_rfl

theorem ok_drTi : SpecOk Try.prog 51 (specR md_co (FdrO fun m b => frL (bDesign m b))) := by
  refine draw_ok Try.func51 rfl (fun m b h0 hm hb => ⟨_, gmDr_ok, ?_⟩) fun q c g b => ⟨g0, g0_ok, ?_⟩
  · rw [treeRTi, itB_row]
    have e : bDesign m b = dgL (lnB m) b 0 := by unfold bDesign; rw [if_neg (by omega)]
    have hp := dgP_in (lnB m) b 0
    rw [e]
    refine good_ln (b := b) (fun e1 hc => ?_) fun e1 hc => ?_
    · rw [e1] at hp ⊢
      rw [show Int.toNat ((2000 : Int) - 0) = 2000 from rfl]
      exact ⟨by simp only [ob_cons, ob_nil, and_true, decide_eq_true_eq, hb, true_and]; omega, good_out ⟨_, rfl, rfl, Hsim.refl _⟩⟩
    · rw [e1] at hp ⊢
      exact ⟨by simp only [ob_cons, ob_nil, and_true, decide_eq_true_eq, hb, true_and]; omega, good_out ⟨_, rfl, rfl, Hsim.refl _⟩⟩
  · rw [treeRTi0]
    exact good_out ⟨_, rfl, rfl, .cons (ABeq.refl _) (.cons (ABeq.row fun j hj => none_row j hj) .nil)⟩

end Go.Proofs.Ytnlfdcjpeoafhaa

/- The reference's DesignTidy: its word. Conditions: a list of wheels. -/
namespace Go.Proofs.Ytnlfdcjpeoafhaa
open Go.RowKit
set_option maxRecDepth 100000

def gmZ1 (okd : List Wh → Bool) (ti : List Wh → List Wh) (okt : List Wh → Bool) : Gam := ext (ext g0 61 (specR md_ws (FdvO okd))) 63 (specR md_ws (FtidyO ti okt))
theorem gmZ1_ok : GamOk Try.prog (gmZ1 okD tidyL okT) := by
  unfold gmZ1
  rw [FtidyO_eq, FdvO_eq]
  exact ext_ok (ext_ok g0_ok ok_dv) ok_tidyS
theorem treeTiS (okd : List Wh → Bool) (ti : List Wh → List Wh) (okt : List Wh → Bool) (m : Nat) (f : Nat → Nat → Int) : execF Try.prog (gmZ1 okd ti okt) noLam 100 Try.f53 [.sl 0 9 0 0 m none] [.row false m 9 (row9 f) 67] (packK 1)
    = needs [Nat.ble ((0 : Nat) + m) m, allW m fun q ↦ row9 f ((0 : Nat) + q), decide (m ≤ (549755813888 : Nat))] (bif !okd (listW (itW fun q ↦ row9 f ((0 : Nat) + q)) m) then Res.out Ex.ret [AV.tup [AV.own (1 : Nat) (0 : Nat), AV.v (Value.bool false)]] [AB.row false m (9 : Nat) (row9 f) (67 : TypeId), AB.row true (0 : Nat) (9 : Nat) (fun x ↦ []) (67 : Nat)] else needs [Nat.ble ((0 : Nat) + m) m, allW m fun q ↦ row9 f ((0 : Nat) + q), decide (m ≤ (274877906944 : Nat))] (Res.out Ex.ret [AV.tup [AV.own (1 : Nat) (List.length (ti (listW (itW fun q ↦ row9 f ((0 : Nat) + q)) m))), AV.v (Value.bool (okt (listW (itW fun q ↦ row9 f ((0 : Nat) + q)) m)))]] [AB.row false m (9 : Nat) (row9 f) (67 : TypeId), AB.row true (List.length (ti (listW (itW fun q ↦ row9 f ((0 : Nat) + q)) m))) (9 : Nat) (row9 (wfun (ti (listW (itW fun q ↦ row9 f ((0 : Nat) + q)) m)))) (67 : TypeId)])) := by kernel_rfl

/-- A list of wheels and whether it is one, of one list. -/
def FOw (yes : List Wh → Bool) (tl : List Wh → List Wh) : List SA → Option FR
  | [.row m g] => some { val := .tup [.own 0 (tl (listW (itW g) m)).length, .v (.bool (yes (listW (itW g) m)))], new := [.row true (tl (listW (itW g) m)).length 9 (row9 (wfun (tl (listW (itW g) m)))) 67], obl := [allW m g, decide (m ≤ 2 ^ 38)] }
  | _ => none
theorem tI_no {L : List Wh} (h : yI L = false) : tI L = [] := by rw [tI, h]; rfl
theorem ok_tiS : SpecOk Try.prog 53 (specR md_ws (FOw yI tI)) := by
  refine specR_hr gmZ1_ok Try.func53 rfl fun sas fr hF ho => ?_
  unfold FOw at hF
  split at hF
  · rename_i m g
    cases hF
    simp only [ob_cons] at ho
    obtain ⟨h1, h2, _⟩ := ho
    have hm := of_decide_eq_true h2
    refine ⟨[.row false m 9 (row9 (itW g)) 67], noLam, 100, .cons (ABeq.row fun j hj => allW_get h1 j hj) .nil, noLam' _, ?_⟩
    show GoodQ (execF Try.prog (gmZ1 okD tidyL okT) noLam 100 Try.f53 [.sl 0 9 0 0 m none] [.row false m 9 (row9 (itW g)) 67] (packK 1)) _
    rw [treeTiS]
    simp only [row0, row9_itW, listW_itW]
    refine good_needs (by simp only [ob_cons, ob_nil, and_true, decide_eq_true_eq, Nat.ble_eq, allW_row, true_and]; omega) (good_cond (fun q => ?_) fun q => ?_)
    · have q2 : okD (listW (itW g) m) = false := by simpa using q
      have hy : yI (listW (itW g) m) = false := by rw [yI, q2]; rfl
      refine good_out ⟨_, rfl, ?_, .cons (ABeq.row fun j hj => (allW_get h1 j hj).symm) ?_⟩
      · rw [tI_no hy, hy]
        rfl
      · show Hsim _ [.row true (tI (listW (itW g) m)).length 9 (row9 (wfun (tI (listW (itW g) m)))) 67]
        rw [tI_no hy]
        exact .cons (ABeq.row fun j hj => absurd hj (Nat.not_lt_zero _)) .nil
    · have q2 : okD (listW (itW g) m) = true := by simpa using q
      refine good_needs (by simp only [ob_cons, ob_nil, and_true, decide_eq_true_eq, Nat.ble_eq, allW_row, true_and]; omega) (good_out ?_)
      have hT : tI (listW (itW g) m) = tidyL (listW (itW g) m) := by
        rw [tI, yI, q2, Bool.true_and]
        cases ht : okT (listW (itW g) m) with
        | true => rfl
        | false => exact (tidyL_no ht).symm
      have hY : yI (listW (itW g) m) = okT (listW (itW g) m) := by rw [yI, q2, Bool.true_and]
      refine ⟨_, rfl, ?_, .cons (ABeq.row fun j hj => (allW_get h1 j hj).symm) ?_⟩
      · rw [hT, hY]
        rfl
      · show Hsim _ [.row true (tI (listW (itW g) m)).length 9 (row9 (wfun (tI (listW (itW g) m)))) 67]
        rw [hT]
        exact Hsim.refl _
  · cases hF

end Go.Proofs.Ytnlfdcjpeoafhaa

/- laws.sameWheels. Conditions: two lists of wheels. -/
namespace Go.Proofs.Ytnlfdcjpeoafhaa
open Go.RowKit
set_option maxRecDepth 100000

abbrev lvSw : Ex → List Nat := lv3 [0, 1, 5] [] [4]
abbrev hpSw (m : Nat) (f h : Nat → Nat → Int) : List AB := [.row false m 9 (row9 f) 67, .row false m 9 (row9 h) 67]
theorem rndSw (m : Nat) (f h : Nat → Nat → Int) (i : Nat) : execC Try.prog g0 100 noLam (loopAt 0 Try.f54) (mkT 0 26 ((lvSw .normal).zip [.sl 0 9 0 0 m none, .sl 1 9 0 0 m none, .v (i64 i)])) (hpSw m f h) (leafV 26 lvSw 2)
    = bif decide ((↑i : Int) < (↑m : Int)) then needs [decide ((↑i : Int) < (↑m : Int)), decide ((0 : Nat) + Int.toNat (↑i : Int) < m), decide ((↑i : Int) < (↑m : Int)), decide ((0 : Nat) + Int.toNat (↑i : Int) < m)] (bif !(f ((0 : Nat) + Int.toNat (↑i : Int)) (0 : Nat) == h ((0 : Nat) + Int.toNat (↑i : Int)) (0 : Nat) && (f ((0 : Nat) + Int.toNat (↑i : Int)) (1 : Nat) == h ((0 : Nat) + Int.toNat (↑i : Int)) (1 : Nat) && (f ((0 : Nat) + Int.toNat (↑i : Int)) (2 : Nat) == h ((0 : Nat) + Int.toNat (↑i : Int)) (2 : Nat) && (f ((0 : Nat) + Int.toNat (↑i : Int)) (3 : Nat) == h ((0 : Nat) + Int.toNat (↑i : Int)) (3 : Nat) && (f ((0 : Nat) + Int.toNat (↑i : Int)) (4 : Nat) == h ((0 : Nat) + Int.toNat (↑i : Int)) (4 : Nat) && (f ((0 : Nat) + Int.toNat (↑i : Int)) (5 : Nat) == h ((0 : Nat) + Int.toNat (↑i : Int)) (5 : Nat) && (f ((0 : Nat) + Int.toNat (↑i : Int)) (6 : Nat) == h ((0 : Nat) + Int.toNat (↑i : Int)) (6 : Nat) && (f ((0 : Nat) + Int.toNat (↑i : Int)) (7 : Nat) == h ((0 : Nat) + Int.toNat (↑i : Int)) (7 : Nat) && (f ((0 : Nat) + Int.toNat (↑i : Int)) (8 : Nat) == h ((0 : Nat) + Int.toNat (↑i : Int)) (8 : Nat) && true))))))) && true && true)) then Res.out Ex.ret [AV.v (Value.bool false)] [AB.row false m (9 : Nat) (row9 f) (67 : TypeId), AB.row false m (9 : Nat) (row9 h) (67 : TypeId)] else Res.out Ex.normal [AV.sl (0 : Nat) (9 : Nat) (0 : Nat) (0 : Nat) m none, AV.sl (1 : Nat) (9 : Nat) (0 : Nat) (0 : Nat) m none, AV.v (Value.int IntKind.i64 (IntKind.wrap IntKind.i64 ((↑i : Int) + (1 : Int))))] [AB.row false m (9 : Nat) (row9 f) (67 : TypeId), AB.row false m (9 : Nat) (row9 h) (67 : TypeId)]) else Res.out (Ex.exit (0 : Nat)) [] [AB.row false m (9 : Nat) (row9 f) (67 : TypeId), AB.row false m (9 : Nat) (row9 h) (67 : TypeId)] := by kernel_rfl

noncomputable abbrev lamSw (m : Nat) (f h : Nat → Nat → Int) (c : Bool) : Nat → Option Sum := oneL 0 (atS 26 (lvSw .normal) 2 [.sl 0 9 0 0 m none, .sl 1 9 0 0 m none, .v (i64 (0 : Nat))] (hpSw m f h) (fun K => cond c (K .normal (mkT 0 26 []) (hpSw m f h)) (K .ret (mkT 0 26 [(4, .v (.bool false))]) (hpSw m f h))))
theorem treeSw (m n : Nat) (f h : Nat → Nat → Int) (c : Bool) : execF Try.prog g0 (lamSw m f h c) 100 Try.f54 [.sl 0 9 0 0 m none, .sl 1 9 0 0 n none] [.row false m 9 (row9 f) 67, .row false n 9 (row9 h) 67] (packK 2)
    = bif (↑m : Int) != (↑n : Int) then Res.out Ex.ret [AV.v (Value.bool false)] [AB.row false m (9 : Nat) (row9 f) (67 : TypeId), AB.row false n (9 : Nat) (row9 h) (67 : TypeId)] else needs [chk ([AV.sl (0 : Nat) (9 : Nat) (0 : Nat) (0 : Nat) m none, AV.sl (1 : Nat) (9 : Nat) (0 : Nat) (0 : Nat) n none, AV.v (Value.int IntKind.i64 (0 : Int))] = [AV.sl (0 : Nat) (9 : Nat) (0 : Nat) (0 : Nat) m none, AV.sl (1 : Nat) (9 : Nat) (0 : Nat) (0 : Nat) m none, AV.v (Value.int IntKind.i64 (0 : Int))] ∧ Hsim [AB.row false m (9 : Nat) (row9 f) (67 : TypeId), AB.row false n (9 : Nat) (row9 h) (67 : TypeId)] (hpSw m f h))] (bif c then Res.out Ex.ret [AV.v (Value.bool true)] [AB.row false m (9 : Nat) (row9 f) (67 : TypeId), AB.row false m (9 : Nat) (row9 h) (67 : TypeId)] else Res.out Ex.ret [AV.v (Value.bool false)] [AB.row false m (9 : Nat) (row9 f) (67 : TypeId), AB.row false m (9 : Nat) (row9 h) (67 : TypeId)]) := by kernel_rfl

theorem sumSw (m : Nat) (f h : Nat → Nat → Int) (hm : m ≤ 2 ^ 40) :
    SumOk Try.prog 2 (.block 0 (.loop (loopAt 0 Try.f54))) (atS 26 (lvSw .normal) 2 [.sl 0 9 0 0 m none, .sl 1 9 0 0 m none, .v (i64 (0 : Nat))] (hpSw m f h) (fun K => cond (noneTo (badE f h) m) (K .normal (mkT 0 26 []) (hpSw m f h)) (K .ret (mkT 0 26 [(4, .v (.bool false))]) (hpSw m f h)))) := by
  refine for_at g0_ok (n := 100) (m := 2) (lv := lvSw) (fun i => [.sl 0 9 0 0 m none, .sl 1 9 0 0 m none, .v (i64 (i : Nat))]) (fun _ => hpSw m f h) (fun i => noneTo (badE f h) i = true) m (fun _ => noLam) (lv3_ris rfl rfl rfl) (Nat.le_refl _) rfl fun K Q hk i hi him => ⟨noLam_ok _ _ _, ?_⟩
  rw [rndSw]
  refine good_cond (fun c1 => ?_) fun c1 => ?_
  · have c1 := of_decide_eq_true c1
    have c1' : i < m := by omega
    rw [Int.toNat_natCast, Nat.zero_add, wr_in (x := (i : Int) + 1) (by omega)]
    refine good_needs (by simp only [ob_cons, ob_nil, and_true, decide_eq_true_eq]; omega) (good_cond (fun q => ?_) fun q => ?_)
    · have hb : badE f h i = true := by
        unfold badE
        rw [Bool.not_eq_true', decide_eq_false_iff_not]
        intro e
        simp only [whOf, Wh.mk.injEq, Cy.mk.injEq] at e
        obtain ⟨e0, e1, e2, e3, e4, e5, e6, e7, e8⟩ := e
        simp [e0, e1, e2, e3, e4, e5, e6, e7, e8] at q
      refine good_out ⟨_, Hsim.refl _, ?_⟩
      rw [noneTo_no c1' hb] at hk
      exact hk
    · have hb : badE f h i = false := by
        unfold badE
        rw [Bool.not_eq_false', decide_eq_true_eq]
        simp at q
        simp [whOf, q]
      exact good_out ⟨i + 1, ⟨rfl, c1', noneTo_succ hi hb⟩, rfl, Hsim.refl _⟩
  · have c1 := of_decide_eq_false c1
    have : i = m := by omega
    subst this
    refine good_out ⟨_, Hsim.refl _, ?_⟩
    rw [if_pos rfl]
    rw [hi] at hk
    exact hk
theorem ok_sameW : SpecOk Try.prog 54 (specR md_eqWS (FeqB eqL)) := by
  refine specR_hr g0_ok Try.func54 rfl fun sas fr hF ho => ?_
  unfold FeqB at hF
  split at hF
  · rename_i m g n g2
    cases hF
    simp only [ob_cons] at ho
    obtain ⟨h1, h2, h3, _⟩ := ho
    have hm := of_decide_eq_true h3
    refine ⟨[.row false m 9 (row9 (itW g)) 67, .row false n 9 (row9 (itW g2)) 67], lamSw m (itW g) (itW g2) (noneTo (badE (itW g) (itW g2)) m), 100, .cons (ABeq.row fun j hj => allW_get h1 j hj) (.cons (ABeq.row fun j hj => allW_get h2 j hj) .nil), lam1 (by kernel_rfl) (sumSw m (itW g) (itW g2) (by omega)), ?_⟩
    show GoodQ (execF Try.prog g0 (lamSw m (itW g) (itW g2) (noneTo (badE (itW g) (itW g2)) m)) 100 Try.f54 [.sl 0 9 0 0 m none, .sl 1 9 0 0 n none] [.row false m 9 (row9 (itW g)) 67, .row false n 9 (row9 (itW g2)) 67] (packK 2)) _
    rw [treeSw]
    refine good_cond (fun q => ?_) fun q => ?_
    · have hne : m ≠ n := fun e => by
        subst e
        simp at q
      exact good_out ⟨_, rfl, by rw [eqL_len (by rw [listW_length, listW_length]; exact hne)], .cons (ABeq.row fun j hj => (allW_get h1 j hj).symm) (.cons (ABeq.row fun j hj => (allW_get h2 j hj).symm) .nil)⟩
    · have e : m = n := by
        have q2 : (m : Int) = n := by simpa using q
        omega
      subst e
      refine good_needs (by rw [ob_cons]; exact ⟨chk_of ⟨rfl, Hsim.refl _⟩, rfl⟩) (good_cond (fun q => ?_) fun q => ?_)
      · exact good_out ⟨_, rfl, by rw [eqL_list, q], .cons (ABeq.row fun j hj => (allW_get h1 j hj).symm) (.cons (ABeq.row fun j hj => (allW_get h2 j hj).symm) .nil)⟩
      · exact good_out ⟨_, rfl, by rw [eqL_list, q], .cons (ABeq.row fun j hj => (allW_get h1 j hj).symm) (.cons (ABeq.row fun j hj => (allW_get h2 j hj).symm) .nil)⟩
  · cases hF

end Go.Proofs.Ytnlfdcjpeoafhaa

/- The abstract machine, 29: words for more than one loop. No conditions. -/
namespace Go.Proofs.Ytnlfdcjpeoafhaa
open Go.RowKit

def addL (id : Nat) (S : Sum) (Λ : Nat → Option Sum) : Nat → Option Sum := fun j => bif Nat.beq j id then some S else Λ j
theorem lamAdd {P : Program} {m0 id : Nat} {fn : Func} {S : Sum} {c : Code} {Λ : Nat → Option Sum} (h : codeAt id (fn.body.getD .skip) = [.block id (.loop c)]) (hS : SumOk P m0 (.block id (.loop c)) S) (hΛ : ∀ cc, fn.body = some cc → LamOk P m0 Λ cc) : ∀ cc, fn.body = some cc → LamOk P m0 (addL id S Λ) cc := by
  intro cc hcc j S' hj b hb
  unfold addL at hj
  cases hjb : Nat.beq j id with
  | false =>
    rw [hjb] at hj
    exact hΛ cc hcc j S' hj b hb
  | true =>
    rw [hjb] at hj
    cases hj
    rw [Nat.eq_of_beq_eq_true hjb] at hb
    rw [hcc] at h
    simp only [Option.getD_some] at h
    rw [h] at hb
    simp at hb
    subst hb
    exact hS
theorem lamAddC {P : Program} {m0 id : Nat} {S : Sum} {c cc : Code} {Λ : Nat → Option Sum} (h : codeAt id cc = [.block id (.loop c)]) (hS : SumOk P m0 (.block id (.loop c)) S) (hΛ : LamOk P m0 Λ cc) : LamOk P m0 (addL id S Λ) cc := by
  intro j S' hj b hb
  unfold addL at hj
  cases hjb : Nat.beq j id with
  | false =>
    rw [hjb] at hj
    exact hΛ j S' hj b hb
  | true =>
    rw [hjb] at hj
    cases hj
    rw [Nat.eq_of_beq_eq_true hjb] at hb
    rw [h] at hb
    simp at hb
    subst hb
    exact hS

end Go.Proofs.Ytnlfdcjpeoafhaa

/- FnTidy: its trees. Conditions: bytes. -/
namespace Go.Proofs.Ytnlfdcjpeoafhaa
open Go.RowKit
set_option maxRecDepth 100000

noncomputable abbrev fFT : Func := Try.f14
abbrev lvF0 : Ex → List Nat := lv3 [3, 4, 8, 9, 10] [3, 4, 8, 9] [2]
abbrev lvF2 : Ex → List Nat := lv3 [3, 4, 8, 9, 11] [4, 8, 9] [2]
abbrev stF0 (n k j : Nat) (q : Bool) (i : Nat) : List AV := [.own 1 n, .sl 2 9 0 0 k (some k), .sl 3 9 0 0 j (some j), .v (.bool q), .v (i64 i)]
abbrev stF2 (n k j : Nat) (q : Bool) (i : Nat) : List AV := [.own 1 n, .sl 2 9 0 0 k (some k), .sl 3 9 0 0 j (some j), .v (.bool q), .v (i64 (5 * (i : Int)))]
abbrev hpF0 (m : Nat) (b : Nat → Int) (n : Nat) (f : Nat → Nat → Int) (k : Nat) (g : Nat → Nat → Int) (j : Nat) (h : Nat → Nat → Int) : List AB := [.row false m 1 (rowB b) 5, .row true n 9 (row9 f) 67, .row false k 9 (row9 g) 67, .row false j 9 (row9 h) 67]
theorem rndF0 (m : Nat) (b : Nat → Int) (n : Nat) (f : Nat → Nat → Int) (k : Nat) (g : Nat → Nat → Int) (j : Nat) (h : Nat → Nat → Int) (q : Bool) (i : Nat) : execC Try.prog g0 100 noLam (loopAt 0 fFT) (mkT 0 119 ((lvF0 .normal).zip (stF0 n k j q i))) (hpF0 m b n f k g j h) (leafV 119 lvF0 1)
    = bif decide ((↑i : Int) < (↑k : Int)) then needs [decide ((↑i : Int) < (↑k : Int)), decide ((0 : Nat) + Int.toNat (↑i : Int) < k)] (bif g ((0 : Nat) + Int.toNat (↑i : Int)) (1 : Nat) == (0 : Int) && (g ((0 : Nat) + Int.toNat (↑i : Int)) (2 : Nat) == (0 : Int) && (g ((0 : Nat) + Int.toNat (↑i : Int)) (3 : Nat) == (0 : Int) && (g ((0 : Nat) + Int.toNat (↑i : Int)) (4 : Nat) == (0 : Int) && (g ((0 : Nat) + Int.toNat (↑i : Int)) (5 : Nat) == (0 : Int) && (g ((0 : Nat) + Int.toNat (↑i : Int)) (6 : Nat) == (0 : Int) && (g ((0 : Nat) + Int.toNat (↑i : Int)) (7 : Nat) == (0 : Int) && (g ((0 : Nat) + Int.toNat (↑i : Int)) (8 : Nat) == (0 : Int) && true))))))) && true then Res.out Ex.ret [AV.v (Value.bool false)] [AB.row false m (1 : Nat) (rowB b) (5 : TypeId)] else bif decide ((↑i : Int) > (0 : Int)) then needs [decide ((↑i : Int) < (↑k : Int)), decide ((0 : Nat) + Int.toNat (↑i : Int) < k), decide ((0 : Int) ≤ IntKind.wrap IntKind.i64 ((↑i : Int) - (1 : Int))), decide (IntKind.wrap IntKind.i64 ((↑i : Int) - (1 : Int)) < (↑k : Int)), decide ((0 : Nat) + Int.toNat (IntKind.wrap IntKind.i64 ((↑i : Int) - (1 : Int))) < k)] (bif decide (g ((0 : Nat) + Int.toNat (↑i : Int)) (0 : Nat) ≤ g ((0 : Nat) + Int.toNat (IntKind.wrap IntKind.i64 ((↑i : Int) - (1 : Int)))) (0 : Nat)) then Res.out Ex.ret [AV.v (Value.bool false)] [AB.row false m (1 : Nat) (rowB b) (5 : TypeId)] else Res.out Ex.normal [AV.own (1 : Nat) n, AV.sl (2 : Nat) (9 : Nat) (0 : Nat) (0 : Nat) k (some k), AV.sl (3 : Nat) (9 : Nat) (0 : Nat) (0 : Nat) j (some j), AV.v (Value.bool q), AV.v (Value.int IntKind.i64 (IntKind.wrap IntKind.i64 ((↑i : Int) + (1 : Int))))] [AB.row false m (1 : Nat) (rowB b) (5 : TypeId), AB.row true n (9 : Nat) (row9 f) (67 : TypeId), AB.row false k (9 : Nat) (row9 g) (67 : TypeId), AB.row false j (9 : Nat) (row9 h) (67 : TypeId)]) else Res.out Ex.normal [AV.own (1 : Nat) n, AV.sl (2 : Nat) (9 : Nat) (0 : Nat) (0 : Nat) k (some k), AV.sl (3 : Nat) (9 : Nat) (0 : Nat) (0 : Nat) j (some j), AV.v (Value.bool q), AV.v (Value.int IntKind.i64 (IntKind.wrap IntKind.i64 ((↑i : Int) + (1 : Int))))] [AB.row false m (1 : Nat) (rowB b) (5 : TypeId), AB.row true n (9 : Nat) (row9 f) (67 : TypeId), AB.row false k (9 : Nat) (row9 g) (67 : TypeId), AB.row false j (9 : Nat) (row9 h) (67 : TypeId)]) else Res.out (Ex.exit (0 : Nat)) [AV.own (1 : Nat) n, AV.sl (2 : Nat) (9 : Nat) (0 : Nat) (0 : Nat) k (some k), AV.sl (3 : Nat) (9 : Nat) (0 : Nat) (0 : Nat) j (some j), AV.v (Value.bool q)] [AB.row false m (1 : Nat) (rowB b) (5 : TypeId), AB.row true n (9 : Nat) (row9 f) (67 : TypeId), AB.row false k (9 : Nat) (row9 g) (67 : TypeId), AB.row false j (9 : Nat) (row9 h) (67 : TypeId)] := by kernel_rfl

def gmF2 (dv : (Nat → Nat → Int) → Int → Nat → Nat → Int) (dk : (Nat → Nat → Int) → Int → Nat → Bool) : Gam := ext g0 48 (specR md_wv (FDAo dv dk))
theorem rndF2 (dv : (Nat → Nat → Int) → Int → Nat → Nat → Int) (dk : (Nat → Nat → Int) → Int → Nat → Bool) (m : Nat) (b : Nat → Int) (n : Nat) (f : Nat → Nat → Int) (k : Nat) (g : Nat → Nat → Int) (j : Nat) (h : Nat → Nat → Int) (q : Bool) (i : Nat) : execC Try.prog (gmF2 dv dk) 100 noLam (loopAt 2 fFT) (mkT 0 119 ((lvF2 .normal).zip (stF2 n k j q i))) (hpF0 m b n f k g j h) (leafV 119 lvF2 1)
    = bif decide ((5 : Int) * (↑i : Int) < (24 : Int)) then needs [Nat.ble n n, allW n (row9 f), decide (n ≤ (274877906944 : Nat)), Nat.ble ((0 : Nat) + k) k, allW k fun q ↦ row9 g ((0 : Nat) + q), decide (k ≤ (274877906944 : Nat))] (bif dk (itW (row9 f)) ((5 : Int) * (↑i : Int)) n then bif dk (itW fun q ↦ row9 g ((0 : Nat) + q)) ((5 : Int) * (↑i : Int)) k then bif !(dv (itW (row9 f)) ((5 : Int) * (↑i : Int)) n (0 : Nat) == dv (itW fun q ↦ row9 g ((0 : Nat) + q)) ((5 : Int) * (↑i : Int)) k (0 : Nat) && (dv (itW (row9 f)) ((5 : Int) * (↑i : Int)) n (1 : Nat) == dv (itW fun q ↦ row9 g ((0 : Nat) + q)) ((5 : Int) * (↑i : Int)) k (1 : Nat) && (dv (itW (row9 f)) ((5 : Int) * (↑i : Int)) n (2 : Nat) == dv (itW fun q ↦ row9 g ((0 : Nat) + q)) ((5 : Int) * (↑i : Int)) k (2 : Nat) && (dv (itW (row9 f)) ((5 : Int) * (↑i : Int)) n (3 : Nat) == dv (itW fun q ↦ row9 g ((0 : Nat) + q)) ((5 : Int) * (↑i : Int)) k (3 : Nat) && (dv (itW (row9 f)) ((5 : Int) * (↑i : Int)) n (4 : Nat) == dv (itW fun q ↦ row9 g ((0 : Nat) + q)) ((5 : Int) * (↑i : Int)) k (4 : Nat) && (dv (itW (row9 f)) ((5 : Int) * (↑i : Int)) n (5 : Nat) == dv (itW fun q ↦ row9 g ((0 : Nat) + q)) ((5 : Int) * (↑i : Int)) k (5 : Nat) && (dv (itW (row9 f)) ((5 : Int) * (↑i : Int)) n (6 : Nat) == dv (itW fun q ↦ row9 g ((0 : Nat) + q)) ((5 : Int) * (↑i : Int)) k (6 : Nat) && (dv (itW (row9 f)) ((5 : Int) * (↑i : Int)) n (7 : Nat) == dv (itW fun q ↦ row9 g ((0 : Nat) + q)) ((5 : Int) * (↑i : Int)) k (7 : Nat) && true))))))) && true) then Res.out Ex.ret [AV.v (Value.bool false)] [AB.row false m (1 : Nat) (rowB b) (5 : TypeId)] else Res.out Ex.normal [AV.own (1 : Nat) n, AV.sl (2 : Nat) (9 : Nat) (0 : Nat) (0 : Nat) k (some k), AV.sl (3 : Nat) (9 : Nat) (0 : Nat) (0 : Nat) j (some j), AV.v (Value.bool q), AV.v (Value.int IntKind.i64 (IntKind.wrap IntKind.i64 ((5 : Int) * (↑i : Int) + (5 : Int))))] [AB.row false m (1 : Nat) (rowB b) (5 : TypeId), AB.row true n (9 : Nat) (row9 f) (67 : TypeId), AB.row false k (9 : Nat) (row9 g) (67 : TypeId), AB.row false j (9 : Nat) (row9 h) (67 : TypeId)] else Res.out Ex.normal [AV.own (1 : Nat) n, AV.sl (2 : Nat) (9 : Nat) (0 : Nat) (0 : Nat) k (some k), AV.sl (3 : Nat) (9 : Nat) (0 : Nat) (0 : Nat) j (some j), AV.v (Value.bool q), AV.v (Value.int IntKind.i64 (IntKind.wrap IntKind.i64 ((5 : Int) * (↑i : Int) + (5 : Int))))] [AB.row false m (1 : Nat) (rowB b) (5 : TypeId), AB.row true n (9 : Nat) (row9 f) (67 : TypeId), AB.row false k (9 : Nat) (row9 g) (67 : TypeId), AB.row false j (9 : Nat) (row9 h) (67 : TypeId)] else Res.out Ex.normal [AV.own (1 : Nat) n, AV.sl (2 : Nat) (9 : Nat) (0 : Nat) (0 : Nat) k (some k), AV.sl (3 : Nat) (9 : Nat) (0 : Nat) (0 : Nat) j (some j), AV.v (Value.bool q), AV.v (Value.int IntKind.i64 (IntKind.wrap IntKind.i64 ((5 : Int) * (↑i : Int) + (5 : Int))))] [AB.row false m (1 : Nat) (rowB b) (5 : TypeId), AB.row true n (9 : Nat) (row9 f) (67 : TypeId), AB.row false k (9 : Nat) (row9 g) (67 : TypeId), AB.row false j (9 : Nat) (row9 h) (67 : TypeId)]) else Res.out (Ex.exit (2 : Nat)) [AV.sl (1 : Nat) (9 : Nat) (0 : Nat) (0 : Nat) k (some k), AV.sl (2 : Nat) (9 : Nat) (0 : Nat) (0 : Nat) j (some j), AV.v (Value.bool q)] [AB.row false m (1 : Nat) (rowB b) (5 : TypeId), AB.row false k (9 : Nat) (row9 g) (67 : TypeId), AB.row false j (9 : Nat) (row9 h) (67 : TypeId)] := by kernel_rfl

noncomputable abbrev lamFT (m : Nat) (b : Nat → Int) (n : Nat) (f : Nat → Nat → Int) (k : Nat) (g : Nat → Nat → Int) (j : Nat) (h : Nat → Nat → Int) (q : Bool) : Nat → Option Sum :=
  addL 0 (atS 119 (lvF0 .normal) 1 (stF0 n k j q 0) (hpF0 m b n f k g j h) (fun K => K .normal (mkT 0 119 [(3, .own 1 n), (4, .sl 2 9 0 0 k (some k)), (8, .sl 3 9 0 0 j (some j)), (9, .v (.bool q))]) (hpF0 m b n f k g j h)))
    (oneL 2 (atS 119 (lvF2 .normal) 1 (stF2 n k j q 0) (hpF0 m b n f k g j h) (fun K => K .normal (mkT 0 119 [(4, .sl 1 9 0 0 k (some k)), (8, .sl 2 9 0 0 j (some j)), (9, .v (.bool q))]) [.row false m 1 (rowB b) 5, .row false k 9 (row9 g) 67, .row false j 9 (row9 h) 67])))
def gmFT (dl : Nat → (Nat → Int) → List Wh) (yI : List Wh → Bool) (tI : List Wh → List Wh) (eq : List Wh → List Wh → Bool) : Gam :=
  ext (ext (ext (ext g0 51 (specR md_co (FdrO fun m b => frL (dl m b)))) 52 (specU md_ws (UO0 yI tI))) 53 (specR md_ws (FOw yI tI))) 54 (specR md_eqWS (FeqB eq))
theorem lawTi (dl : Nat → (Nat → Int) → List Wh) (yI : List Wh → Bool) (tI : List Wh → List Wh) (eq : List Wh → List Wh → Bool) (m : Nat) (b : Nat → Int) (n : Nat) (f : Nat → Nat → Int) (k : Nat) (g : Nat → Nat → Int) (j : Nat) (h : Nat → Nat → Int) (q : Bool) : execF Try.prog (gmFT dl yI tI eq) (lamFT m b n f k g j h q) 100 fFT [.sl 0 1 0 0 m none] [.row false m 1 (rowB b) 5] (packK 1)
    = bif decide ((↑m : Int) > (1048576 : Int)) then Res.out Ex.ret [AV.v (Value.bool true)] [AB.row false m (1 : Nat) (rowB b) (5 : TypeId)] else needs [Nat.ble ((0 : Nat) + m) m, okB m fun q ↦ rowB b ((0 : Nat) + q), decide (m ≤ (2097152 : Nat)), Nat.ble (List.length (dl m (itB fun q ↦ rowB b ((0 : Nat) + q)))) (List.length (dl m (itB fun q ↦ rowB b ((0 : Nat) + q)))), allW (List.length (dl m (itB fun q ↦ rowB b ((0 : Nat) + q)))) (row9 (wfun (dl m (itB fun q ↦ rowB b ((0 : Nat) + q))))), decide (List.length (dl m (itB fun q ↦ rowB b ((0 : Nat) + q))) ≤ (274877906944 : Nat)), Nat.ble (List.length (dl m (itB fun q ↦ rowB b ((0 : Nat) + q)))) (List.length (dl m (itB fun q ↦ rowB b ((0 : Nat) + q)))), allW (List.length (dl m (itB fun q ↦ rowB b ((0 : Nat) + q)))) (row9 (wfun (dl m (itB fun q ↦ rowB b ((0 : Nat) + q))))), decide (List.length (dl m (itB fun q ↦ rowB b ((0 : Nat) + q))) ≤ (274877906944 : Nat))] (bif !yI (listW (itW (row9 (wfun (dl m (itB fun q ↦ rowB b ((0 : Nat) + q)))))) (List.length (dl m (itB fun q ↦ rowB b ((0 : Nat) + q))))) == yI (listW (itW (row9 (wfun (dl m (itB fun q ↦ rowB b ((0 : Nat) + q)))))) (List.length (dl m (itB fun q ↦ rowB b ((0 : Nat) + q))))) then bif yI (listW (itW (row9 (wfun (dl m (itB fun q ↦ rowB b ((0 : Nat) + q)))))) (List.length (dl m (itB fun q ↦ rowB b ((0 : Nat) + q))))) == yI (listW (itW (row9 (wfun (dl m (itB fun q ↦ rowB b ((0 : Nat) + q)))))) (List.length (dl m (itB fun q ↦ rowB b ((0 : Nat) + q))))) then needs [Nat.ble ((0 : Nat) + List.length (tI (listW (itW (row9 (wfun (dl m (itB fun q ↦ rowB b ((0 : Nat) + q)))))) (List.length (dl m (itB fun q ↦ rowB b ((0 : Nat) + q))))))) (List.length (tI (listW (itW (row9 (wfun (dl m (itB fun q ↦ rowB b ((0 : Nat) + q)))))) (List.length (dl m (itB fun q ↦ rowB b ((0 : Nat) + q))))))), Nat.ble (List.length (tI (listW (itW (row9 (wfun (dl m (itB fun q ↦ rowB b ((0 : Nat) + q)))))) (List.length (dl m (itB fun q ↦ rowB b ((0 : Nat) + q))))))) (List.length (tI (listW (itW (row9 (wfun (dl m (itB fun q ↦ rowB b ((0 : Nat) + q)))))) (List.length (dl m (itB fun q ↦ rowB b ((0 : Nat) + q))))))), allW (List.length (tI (listW (itW (row9 (wfun (dl m (itB fun q ↦ rowB b ((0 : Nat) + q)))))) (List.length (dl m (itB fun q ↦ rowB b ((0 : Nat) + q))))))) fun q ↦ row9 (wfun (tI (listW (itW (row9 (wfun (dl m (itB fun q ↦ rowB b ((0 : Nat) + q)))))) (List.length (dl m (itB fun q ↦ rowB b ((0 : Nat) + q))))))) ((0 : Nat) + q), allW (List.length (tI (listW (itW (row9 (wfun (dl m (itB fun q ↦ rowB b ((0 : Nat) + q)))))) (List.length (dl m (itB fun q ↦ rowB b ((0 : Nat) + q))))))) (row9 (wfun (tI (listW (itW (row9 (wfun (dl m (itB fun q ↦ rowB b ((0 : Nat) + q)))))) (List.length (dl m (itB fun q ↦ rowB b ((0 : Nat) + q)))))))), decide (List.length (tI (listW (itW (row9 (wfun (dl m (itB fun q ↦ rowB b ((0 : Nat) + q)))))) (List.length (dl m (itB fun q ↦ rowB b ((0 : Nat) + q)))))) ≤ (274877906944 : Nat))] (Res.out Ex.ret [AV.v (Value.bool (eq (listW (itW fun q ↦ row9 (wfun (tI (listW (itW (row9 (wfun (dl m (itB fun q ↦ rowB b ((0 : Nat) + q)))))) (List.length (dl m (itB fun q ↦ rowB b ((0 : Nat) + q))))))) ((0 : Nat) + q)) (List.length (tI (listW (itW (row9 (wfun (dl m (itB fun q ↦ rowB b ((0 : Nat) + q)))))) (List.length (dl m (itB fun q ↦ rowB b ((0 : Nat) + q)))))))) (listW (itW (row9 (wfun (tI (listW (itW (row9 (wfun (dl m (itB fun q ↦ rowB b ((0 : Nat) + q)))))) (List.length (dl m (itB fun q ↦ rowB b ((0 : Nat) + q))))))))) (List.length (tI (listW (itW (row9 (wfun (dl m (itB fun q ↦ rowB b ((0 : Nat) + q)))))) (List.length (dl m (itB fun q ↦ rowB b ((0 : Nat) + q))))))))))] [AB.row false m (1 : Nat) (rowB b) (5 : TypeId)]) else Res.out Ex.ret [AV.v (Value.bool false)] [AB.row false m (1 : Nat) (rowB b) (5 : TypeId)] else needs [Nat.ble ((0 : Nat) + List.length (tI (listW (itW (row9 (wfun (dl m (itB fun q ↦ rowB b ((0 : Nat) + q)))))) (List.length (dl m (itB fun q ↦ rowB b ((0 : Nat) + q))))))) (List.length (tI (listW (itW (row9 (wfun (dl m (itB fun q ↦ rowB b ((0 : Nat) + q)))))) (List.length (dl m (itB fun q ↦ rowB b ((0 : Nat) + q))))))), Nat.ble (List.length (tI (listW (itW (row9 (wfun (dl m (itB fun q ↦ rowB b ((0 : Nat) + q)))))) (List.length (dl m (itB fun q ↦ rowB b ((0 : Nat) + q))))))) (List.length (tI (listW (itW (row9 (wfun (dl m (itB fun q ↦ rowB b ((0 : Nat) + q)))))) (List.length (dl m (itB fun q ↦ rowB b ((0 : Nat) + q))))))), allW (List.length (tI (listW (itW (row9 (wfun (dl m (itB fun q ↦ rowB b ((0 : Nat) + q)))))) (List.length (dl m (itB fun q ↦ rowB b ((0 : Nat) + q))))))) fun q ↦ row9 (wfun (tI (listW (itW (row9 (wfun (dl m (itB fun q ↦ rowB b ((0 : Nat) + q)))))) (List.length (dl m (itB fun q ↦ rowB b ((0 : Nat) + q))))))) ((0 : Nat) + q), allW (List.length (tI (listW (itW (row9 (wfun (dl m (itB fun q ↦ rowB b ((0 : Nat) + q)))))) (List.length (dl m (itB fun q ↦ rowB b ((0 : Nat) + q))))))) (row9 (wfun (tI (listW (itW (row9 (wfun (dl m (itB fun q ↦ rowB b ((0 : Nat) + q)))))) (List.length (dl m (itB fun q ↦ rowB b ((0 : Nat) + q)))))))), decide (List.length (tI (listW (itW (row9 (wfun (dl m (itB fun q ↦ rowB b ((0 : Nat) + q)))))) (List.length (dl m (itB fun q ↦ rowB b ((0 : Nat) + q)))))) ≤ (274877906944 : Nat))] (bif !eq (listW (itW fun q ↦ row9 (wfun (tI (listW (itW (row9 (wfun (dl m (itB fun q ↦ rowB b ((0 : Nat) + q)))))) (List.length (dl m (itB fun q ↦ rowB b ((0 : Nat) + q))))))) ((0 : Nat) + q)) (List.length (tI (listW (itW (row9 (wfun (dl m (itB fun q ↦ rowB b ((0 : Nat) + q)))))) (List.length (dl m (itB fun q ↦ rowB b ((0 : Nat) + q)))))))) (listW (itW (row9 (wfun (tI (listW (itW (row9 (wfun (dl m (itB fun q ↦ rowB b ((0 : Nat) + q)))))) (List.length (dl m (itB fun q ↦ rowB b ((0 : Nat) + q))))))))) (List.length (tI (listW (itW (row9 (wfun (dl m (itB fun q ↦ rowB b ((0 : Nat) + q)))))) (List.length (dl m (itB fun q ↦ rowB b ((0 : Nat) + q)))))))) then bif yI (listW (itW (row9 (wfun (dl m (itB fun q ↦ rowB b ((0 : Nat) + q)))))) (List.length (dl m (itB fun q ↦ rowB b ((0 : Nat) + q))))) == yI (listW (itW (row9 (wfun (dl m (itB fun q ↦ rowB b ((0 : Nat) + q)))))) (List.length (dl m (itB fun q ↦ rowB b ((0 : Nat) + q))))) then needs [Nat.ble ((0 : Nat) + List.length (tI (listW (itW (row9 (wfun (dl m (itB fun q ↦ rowB b ((0 : Nat) + q)))))) (List.length (dl m (itB fun q ↦ rowB b ((0 : Nat) + q))))))) (List.length (tI (listW (itW (row9 (wfun (dl m (itB fun q ↦ rowB b ((0 : Nat) + q)))))) (List.length (dl m (itB fun q ↦ rowB b ((0 : Nat) + q))))))), Nat.ble (List.length (tI (listW (itW (row9 (wfun (dl m (itB fun q ↦ rowB b ((0 : Nat) + q)))))) (List.length (dl m (itB fun q ↦ rowB b ((0 : Nat) + q))))))) (List.length (tI (listW (itW (row9 (wfun (dl m (itB fun q ↦ rowB b ((0 : Nat) + q)))))) (List.length (dl m (itB fun q ↦ rowB b ((0 : Nat) + q))))))), allW (List.length (tI (listW (itW (row9 (wfun (dl m (itB fun q ↦ rowB b ((0 : Nat) + q)))))) (List.length (dl m (itB fun q ↦ rowB b ((0 : Nat) + q))))))) fun q ↦ row9 (wfun (tI (listW (itW (row9 (wfun (dl m (itB fun q ↦ rowB b ((0 : Nat) + q)))))) (List.length (dl m (itB fun q ↦ rowB b ((0 : Nat) + q))))))) ((0 : Nat) + q), allW (List.length (tI (listW (itW (row9 (wfun (dl m (itB fun q ↦ rowB b ((0 : Nat) + q)))))) (List.length (dl m (itB fun q ↦ rowB b ((0 : Nat) + q))))))) (row9 (wfun (tI (listW (itW (row9 (wfun (dl m (itB fun q ↦ rowB b ((0 : Nat) + q)))))) (List.length (dl m (itB fun q ↦ rowB b ((0 : Nat) + q)))))))), decide (List.length (tI (listW (itW (row9 (wfun (dl m (itB fun q ↦ rowB b ((0 : Nat) + q)))))) (List.length (dl m (itB fun q ↦ rowB b ((0 : Nat) + q)))))) ≤ (274877906944 : Nat))] (Res.out Ex.ret [AV.v (Value.bool (eq (listW (itW fun q ↦ row9 (wfun (tI (listW (itW (row9 (wfun (dl m (itB fun q ↦ rowB b ((0 : Nat) + q)))))) (List.length (dl m (itB fun q ↦ rowB b ((0 : Nat) + q))))))) ((0 : Nat) + q)) (List.length (tI (listW (itW (row9 (wfun (dl m (itB fun q ↦ rowB b ((0 : Nat) + q)))))) (List.length (dl m (itB fun q ↦ rowB b ((0 : Nat) + q)))))))) (listW (itW (row9 (wfun (tI (listW (itW (row9 (wfun (dl m (itB fun q ↦ rowB b ((0 : Nat) + q)))))) (List.length (dl m (itB fun q ↦ rowB b ((0 : Nat) + q))))))))) (List.length (tI (listW (itW (row9 (wfun (dl m (itB fun q ↦ rowB b ((0 : Nat) + q)))))) (List.length (dl m (itB fun q ↦ rowB b ((0 : Nat) + q))))))))))] [AB.row false m (1 : Nat) (rowB b) (5 : TypeId)]) else Res.out Ex.ret [AV.v (Value.bool false)] [AB.row false m (1 : Nat) (rowB b) (5 : TypeId)] else bif !yI (listW (itW (row9 (wfun (dl m (itB fun q ↦ rowB b ((0 : Nat) + q)))))) (List.length (dl m (itB fun q ↦ rowB b ((0 : Nat) + q))))) then bif yI (listW (itW (row9 (wfun (dl m (itB fun q ↦ rowB b ((0 : Nat) + q)))))) (List.length (dl m (itB fun q ↦ rowB b ((0 : Nat) + q))))) == yI (listW (itW (row9 (wfun (dl m (itB fun q ↦ rowB b ((0 : Nat) + q)))))) (List.length (dl m (itB fun q ↦ rowB b ((0 : Nat) + q))))) then needs [Nat.ble ((0 : Nat) + List.length (tI (listW (itW (row9 (wfun (dl m (itB fun q ↦ rowB b ((0 : Nat) + q)))))) (List.length (dl m (itB fun q ↦ rowB b ((0 : Nat) + q))))))) (List.length (tI (listW (itW (row9 (wfun (dl m (itB fun q ↦ rowB b ((0 : Nat) + q)))))) (List.length (dl m (itB fun q ↦ rowB b ((0 : Nat) + q))))))), Nat.ble (List.length (tI (listW (itW (row9 (wfun (dl m (itB fun q ↦ rowB b ((0 : Nat) + q)))))) (List.length (dl m (itB fun q ↦ rowB b ((0 : Nat) + q))))))) (List.length (tI (listW (itW (row9 (wfun (dl m (itB fun q ↦ rowB b ((0 : Nat) + q)))))) (List.length (dl m (itB fun q ↦ rowB b ((0 : Nat) + q))))))), allW (List.length (tI (listW (itW (row9 (wfun (dl m (itB fun q ↦ rowB b ((0 : Nat) + q)))))) (List.length (dl m (itB fun q ↦ rowB b ((0 : Nat) + q))))))) fun q ↦ row9 (wfun (tI (listW (itW (row9 (wfun (dl m (itB fun q ↦ rowB b ((0 : Nat) + q)))))) (List.length (dl m (itB fun q ↦ rowB b ((0 : Nat) + q))))))) ((0 : Nat) + q), allW (List.length (tI (listW (itW (row9 (wfun (dl m (itB fun q ↦ rowB b ((0 : Nat) + q)))))) (List.length (dl m (itB fun q ↦ rowB b ((0 : Nat) + q))))))) (row9 (wfun (tI (listW (itW (row9 (wfun (dl m (itB fun q ↦ rowB b ((0 : Nat) + q)))))) (List.length (dl m (itB fun q ↦ rowB b ((0 : Nat) + q)))))))), decide (List.length (tI (listW (itW (row9 (wfun (dl m (itB fun q ↦ rowB b ((0 : Nat) + q)))))) (List.length (dl m (itB fun q ↦ rowB b ((0 : Nat) + q)))))) ≤ (274877906944 : Nat))] (Res.out Ex.ret [AV.v (Value.bool (eq (listW (itW fun q ↦ row9 (wfun (tI (listW (itW (row9 (wfun (dl m (itB fun q ↦ rowB b ((0 : Nat) + q)))))) (List.length (dl m (itB fun q ↦ rowB b ((0 : Nat) + q))))))) ((0 : Nat) + q)) (List.length (tI (listW (itW (row9 (wfun (dl m (itB fun q ↦ rowB b ((0 : Nat) + q)))))) (List.length (dl m (itB fun q ↦ rowB b ((0 : Nat) + q)))))))) (listW (itW (row9 (wfun (tI (listW (itW (row9 (wfun (dl m (itB fun q ↦ rowB b ((0 : Nat) + q)))))) (List.length (dl m (itB fun q ↦ rowB b ((0 : Nat) + q))))))))) (List.length (tI (listW (itW (row9 (wfun (dl m (itB fun q ↦ rowB b ((0 : Nat) + q)))))) (List.length (dl m (itB fun q ↦ rowB b ((0 : Nat) + q))))))))))] [AB.row false m (1 : Nat) (rowB b) (5 : TypeId)]) else Res.out Ex.ret [AV.v (Value.bool false)] [AB.row false m (1 : Nat) (rowB b) (5 : TypeId)] else needs [Nat.ble ((0 : Nat) + List.length (tI (listW (itW (row9 (wfun (dl m (itB fun q ↦ rowB b ((0 : Nat) + q)))))) (List.length (dl m (itB fun q ↦ rowB b ((0 : Nat) + q))))))) (List.length (tI (listW (itW (row9 (wfun (dl m (itB fun q ↦ rowB b ((0 : Nat) + q)))))) (List.length (dl m (itB fun q ↦ rowB b ((0 : Nat) + q))))))), allW (List.length (tI (listW (itW (row9 (wfun (dl m (itB fun q ↦ rowB b ((0 : Nat) + q)))))) (List.length (dl m (itB fun q ↦ rowB b ((0 : Nat) + q))))))) fun q ↦ row9 (wfun (tI (listW (itW (row9 (wfun (dl m (itB fun q ↦ rowB b ((0 : Nat) + q)))))) (List.length (dl m (itB fun q ↦ rowB b ((0 : Nat) + q))))))) ((0 : Nat) + q), decide (List.length (tI (listW (itW (row9 (wfun (dl m (itB fun q ↦ rowB b ((0 : Nat) + q)))))) (List.length (dl m (itB fun q ↦ rowB b ((0 : Nat) + q)))))) ≤ (274877906944 : Nat)), chk ([AV.own (1 : Nat) (List.length (dl m (itB fun q ↦ rowB b ((0 : Nat) + q)))), AV.sl (2 : Nat) (9 : Nat) (0 : Nat) (0 : Nat) (List.length (tI (listW (itW (row9 (wfun (dl m (itB fun q ↦ rowB b ((0 : Nat) + q)))))) (List.length (dl m (itB fun q ↦ rowB b ((0 : Nat) + q))))))) (some (List.length (tI (listW (itW (row9 (wfun (dl m (itB fun q ↦ rowB b ((0 : Nat) + q)))))) (List.length (dl m (itB fun q ↦ rowB b ((0 : Nat) + q)))))))), AV.sl (3 : Nat) (9 : Nat) (0 : Nat) (0 : Nat) (List.length (tI (listW (itW fun q ↦ row9 (wfun (tI (listW (itW (row9 (wfun (dl m (itB fun q ↦ rowB b ((0 : Nat) + q)))))) (List.length (dl m (itB fun q ↦ rowB b ((0 : Nat) + q))))))) ((0 : Nat) + q)) (List.length (tI (listW (itW (row9 (wfun (dl m (itB fun q ↦ rowB b ((0 : Nat) + q)))))) (List.length (dl m (itB fun q ↦ rowB b ((0 : Nat) + q)))))))))) (some (List.length (tI (listW (itW fun q ↦ row9 (wfun (tI (listW (itW (row9 (wfun (dl m (itB fun q ↦ rowB b ((0 : Nat) + q)))))) (List.length (dl m (itB fun q ↦ rowB b ((0 : Nat) + q))))))) ((0 : Nat) + q)) (List.length (tI (listW (itW (row9 (wfun (dl m (itB fun q ↦ rowB b ((0 : Nat) + q)))))) (List.length (dl m (itB fun q ↦ rowB b ((0 : Nat) + q))))))))))), AV.v (Value.bool (yI (listW (itW fun q ↦ row9 (wfun (tI (listW (itW (row9 (wfun (dl m (itB fun q ↦ rowB b ((0 : Nat) + q)))))) (List.length (dl m (itB fun q ↦ rowB b ((0 : Nat) + q))))))) ((0 : Nat) + q)) (List.length (tI (listW (itW (row9 (wfun (dl m (itB fun q ↦ rowB b ((0 : Nat) + q)))))) (List.length (dl m (itB fun q ↦ rowB b ((0 : Nat) + q)))))))))), AV.v (Value.int IntKind.i64 (0 : Int))] = stF0 n k j q (0 : Nat) ∧ Hsim [AB.row false m (1 : Nat) (rowB b) (5 : TypeId), AB.row true (List.length (dl m (itB fun q ↦ rowB b ((0 : Nat) + q)))) (9 : Nat) (row9 (wfun (dl m (itB fun q ↦ rowB b ((0 : Nat) + q))))) (67 : TypeId), AB.row false (List.length (tI (listW (itW (row9 (wfun (dl m (itB fun q ↦ rowB b ((0 : Nat) + q)))))) (List.length (dl m (itB fun q ↦ rowB b ((0 : Nat) + q))))))) (9 : Nat) (row9 (wfun (tI (listW (itW (row9 (wfun (dl m (itB fun q ↦ rowB b ((0 : Nat) + q)))))) (List.length (dl m (itB fun q ↦ rowB b ((0 : Nat) + q)))))))) (67 : TypeId), AB.row false (List.length (tI (listW (itW fun q ↦ row9 (wfun (tI (listW (itW (row9 (wfun (dl m (itB fun q ↦ rowB b ((0 : Nat) + q)))))) (List.length (dl m (itB fun q ↦ rowB b ((0 : Nat) + q))))))) ((0 : Nat) + q)) (List.length (tI (listW (itW (row9 (wfun (dl m (itB fun q ↦ rowB b ((0 : Nat) + q)))))) (List.length (dl m (itB fun q ↦ rowB b ((0 : Nat) + q)))))))))) (9 : Nat) (row9 (wfun (tI (listW (itW fun q ↦ row9 (wfun (tI (listW (itW (row9 (wfun (dl m (itB fun q ↦ rowB b ((0 : Nat) + q)))))) (List.length (dl m (itB fun q ↦ rowB b ((0 : Nat) + q))))))) ((0 : Nat) + q)) (List.length (tI (listW (itW (row9 (wfun (dl m (itB fun q ↦ rowB b ((0 : Nat) + q)))))) (List.length (dl m (itB fun q ↦ rowB b ((0 : Nat) + q))))))))))) (67 : TypeId)] (hpF0 m b n f k g j h)), chk ([AV.own (1 : Nat) n, AV.sl (2 : Nat) (9 : Nat) (0 : Nat) (0 : Nat) k (some k), AV.sl (3 : Nat) (9 : Nat) (0 : Nat) (0 : Nat) j (some j), AV.v (Value.bool q), AV.v (Value.int IntKind.i64 (0 : Int))] = stF2 n k j q (0 : Nat) ∧ Hsim [AB.row false m (1 : Nat) (rowB b) (5 : TypeId), AB.row true n (9 : Nat) (row9 f) (67 : TypeId), AB.row false k (9 : Nat) (row9 g) (67 : TypeId), AB.row false j (9 : Nat) (row9 h) (67 : TypeId)] (hpF0 m b n f k g j h))] (bif q then needs [Nat.ble ((0 : Nat) + j) j, Nat.ble ((0 : Nat) + k) k, allW j fun q ↦ row9 h ((0 : Nat) + q), allW k fun q ↦ row9 g ((0 : Nat) + q), decide (j ≤ (274877906944 : Nat))] (Res.out Ex.ret [AV.v (Value.bool (eq (listW (itW fun q ↦ row9 h ((0 : Nat) + q)) j) (listW (itW fun q ↦ row9 g ((0 : Nat) + q)) k)))] [AB.row false m (1 : Nat) (rowB b) (5 : TypeId)]) else Res.out Ex.ret [AV.v (Value.bool false)] [AB.row false m (1 : Nat) (rowB b) (5 : TypeId)]))) := by kernel_rfl

end Go.Proofs.Ytnlfdcjpeoafhaa

/- FnTidy returns true, whatever the bytes are. Conditions: bytes. -/
namespace Go.Proofs.Ytnlfdcjpeoafhaa
open Go.RowKit
set_option maxRecDepth 100000

theorem isTidy_nil : isTidy [] := ⟨List.Pairwise.nil, fun w hw => by simp at hw, rfl⟩
theorem tI_tidy (L : List Wh) : isTidy (tI L) := by
  cases h : yI L with
  | true => exact (tI_spec h).2.1
  | false => rw [tI_no h]; exact isTidy_nil
theorem yI_self {T : List Wh} (h : isTidy T) : yI T = true := by
  rw [yI, tidy_okD h, okT_self h]
  rfl
theorem tI_self {T : List Wh} (h : isTidy T) : tI T = T := by
  rw [tI, yI_self h, cond_true, tidyL_self h]
theorem sumF0 (m : Nat) (b : Nat → Int) (n : Nat) (f : Nat → Nat → Int) (T : List Wh) (j : Nat) (h : Nat → Nat → Int) (q : Bool) (hT : isTidy T) :
    SumOk Try.prog 1 (.block 0 (.loop (loopAt 0 fFT))) (atS 119 (lvF0 .normal) 1 (stF0 n T.length j q 0) (hpF0 m b n f T.length (wfun T) j h) (fun K => K .normal (mkT 0 119 [(3, .own 1 n), (4, .sl 2 9 0 0 T.length (some T.length)), (8, .sl 3 9 0 0 j (some j)), (9, .v (.bool q))]) (hpF0 m b n f T.length (wfun T) j h))) := by
  refine for_at g0_ok (n := 100) (m := 1) (lv := lvF0) (fun i => stF0 n T.length j q i) (fun _ => hpF0 m b n f T.length (wfun T) j h) (fun _ => True) T.length (fun _ => noLam) (lv3_ris rfl rfl rfl) (Nat.le_refl _) trivial fun K Q hk i _ him => ⟨noLam_ok _ _ _, ?_⟩
  have hlen := okD_len (tidy_okD hT)
  rw [rndF0]
  refine good_cond (fun c1 => ?_) fun c1 => ?_
  · have c1 := of_decide_eq_true c1
    have c1' : i < T.length := by omega
    have e1 : 0 + Int.toNat (i : Int) = i := by omega
    rw [e1, wr_in (x := (i : Int) + 1) (by omega)]
    have hw : wfun T i = whN T[i] := wfun_get c1'
    refine good_needs (by simp only [ob_cons, ob_nil, and_true, decide_eq_true_eq]; omega) (good_cond (fun q => ?_) fun _ => ?_)
    · refine absurd (cy_ext fun k hk => ?_) (hT.2.1 T[i] (List.getElem_mem c1'))
      rw [hw] at q
      simp only [Bool.and_eq_true, beq_iff_eq, and_true] at q
      obtain ⟨q1, q2, q3, q4, q5, q6, q7, q8⟩ := q
      rcases (by omega : k = 0 ∨ k = 1 ∨ k = 2 ∨ k = 3 ∨ k = 4 ∨ k = 5 ∨ k = 6 ∨ k = 7) with rfl | rfl | rfl | rfl | rfl | rfl | rfl | rfl
      · exact q1
      · exact q2
      · exact q3
      · exact q4
      · exact q5
      · exact q6
      · exact q7
      · exact q8
    · refine good_cond (fun c2 => ?_) fun _ => ?_
      · have c2 := of_decide_eq_true c2
        have e2 : IntKind.wrap IntKind.i64 ((i : Int) - 1) = (i : Int) - 1 := wr_in (by omega)
        have e3 : 0 + Int.toNat ((i : Int) - 1) = i - 1 := by omega
        rw [e2, e3]
        refine good_needs (by simp only [ob_cons, ob_nil, and_true, decide_eq_true_eq]; omega) (good_cond (fun c3 => ?_) fun _ => ?_)
        · have c3 := of_decide_eq_true c3
          have hw2 : wfun T (i - 1) = whN (T[i - 1]'(by omega)) := wfun_get (by omega)
          rw [hw, hw2] at c3
          have := List.pairwise_iff_getElem.1 hT.1 (i - 1) i (by omega) c1' (by omega)
          have c3 : T[i].s ≤ (T[i - 1]'(by omega)).s := c3
          omega
        · exact good_out ⟨i + 1, ⟨rfl, c1', trivial⟩, rfl, Hsim.refl _⟩
      · exact good_out ⟨i + 1, ⟨rfl, c1', trivial⟩, rfl, Hsim.refl _⟩
  · have c1 := of_decide_eq_false c1
    have : i = T.length := by omega
    subst this
    refine good_out ⟨_, Hsim.refl _, ?_⟩
    rw [if_pos rfl]
    exact hk
theorem at_tidy {L : List Wh} {t : Int} (h1 : daOk (wfun L) t L.length = true) (h2 : daOk (wfun (tI L)) t (tI L).length = true) (hy : yI L = true) : ∀ k, k < 8 → daV (wfun L) t L.length k = daV (wfun (tI L)) t (tI L).length k := fun k hk => by
  rw [(da_list h1).2.2.1 k hk, (da_list h2).2.2.1 k hk]
  exact ((tI_spec hy).2.2 _ (atT_lin t k)).symm
theorem gmF2_ok : GamOk Try.prog (gmF2 daV daOk) := ext_ok g0_ok ok_DAI
theorem not_eq8 {f g : Nat → Int} (h : ∀ k, k < 8 → f k = g k) (q : (!((f 0 == g 0 && (f 1 == g 1 && (f 2 == g 2 && (f 3 == g 3 && (f 4 == g 4 && (f 5 == g 5 && (f 6 == g 6 && (f 7 == g 7 && true)))))))) && true)) = true) : False := by
  rw [eq8a h] at q
  cases q
theorem sumF2 (m : Nat) (b : Nat → Int) (L : List Wh) (j : Nat) (h : Nat → Nat → Int) (q : Bool) (hl : L.length ≤ 12) (hy : yI L = true) :
    SumOk Try.prog 1 (.block 2 (.loop (loopAt 2 fFT))) (atS 119 (lvF2 .normal) 1 (stF2 L.length (tI L).length j q 0) (hpF0 m b L.length (wfun L) (tI L).length (wfun (tI L)) j h) (fun K => K .normal (mkT 0 119 [(4, .sl 1 9 0 0 (tI L).length (some (tI L).length)), (8, .sl 2 9 0 0 j (some j)), (9, .v (.bool q))]) [.row false m 1 (rowB b) 5, .row false (tI L).length 9 (row9 (wfun (tI L))) 67, .row false j 9 (row9 h) 67])) := by
  refine for_at gmF2_ok (n := 100) (m := 1) (lv := lvF2) (fun i => stF2 L.length (tI L).length j q i) (fun _ => hpF0 m b L.length (wfun L) (tI L).length (wfun (tI L)) j h) (fun _ => True) 5 (fun _ => noLam) (lv3_ris rfl rfl rfl) (Nat.le_refl _) trivial fun K Q hk i _ hi => ⟨noLam_ok _ _ _, ?_⟩
  rw [rndF2]
  have hT := tI_len L
  simp only [row0, daOk_row, daV_row]
  refine good_cond (fun c1 => ?_) fun c1 => ?_
  · have c1 := of_decide_eq_true c1
    have c1' : i < 5 := by omega
    have e1 : IntKind.wrap IntKind.i64 (5 * (i : Int) + 5) = 5 * ((i + 1 : Nat) : Int) := by rw [wr_in (by omega)]; omega
    rw [e1]
    have nx : GoodQ (.out .normal [AV.own 1 L.length, AV.sl 2 9 0 0 (tI L).length (some (tI L).length), AV.sl 3 9 0 0 j (some j), AV.v (Value.bool q), AV.v (Value.int IntKind.i64 (5 * ((i + 1 : Nat) : Int)))] (hpF0 m b L.length (wfun L) (tI L).length (wfun (tI L)) j h)) (RoundV 119 2 lvF2 (fun i => stF2 L.length (tI L).length j q i) (fun _ => hpF0 m b L.length (wfun L) (tI L).length (wfun (tI L)) j h) (fun s' => s' = i + 1 ∧ i < 5 ∧ True) K Q) := good_out ⟨i + 1, ⟨rfl, c1', trivial⟩, rfl, Hsim.refl _⟩
    refine good_needs (by simp only [ob_cons, ob_nil, and_true, decide_eq_true_eq, Nat.ble_eq, allW_row, true_and]; omega) (good_cond (fun h1 => good_cond (fun h2 => good_cond (fun q => ?_) fun _ => nx) fun _ => nx) fun _ => nx)
    exact (not_eq8 (at_tidy h1 h2 hy) q).elim
  · have c1 := of_decide_eq_false c1
    have : i = 5 := by omega
    subst this
    refine good_out ⟨_, Hsim.refl _, ?_⟩
    rw [if_pos rfl]
    exact hk

theorem gmFT_ok : GamOk Try.prog (gmFT bDesign yI tI eqL) := ext_ok (ext_ok (ext_ok (ext_ok g0_ok ok_drTi) ok_UTi) ok_tiS) ok_sameW
theorem lamFT_ok (m : Nat) (b : Nat → Int) (L : List Wh) (hl : L.length ≤ 12) (hy : yI L = true) : ∀ cc, fFT.body = some cc → LamOk Try.prog 1 (lamFT m b L.length (wfun L) (tI L).length (wfun (tI L)) (tI L).length (wfun (tI L)) true) cc :=
  lamAdd (by kernel_rfl) (sumF0 m b L.length (wfun L) (tI L) (tI L).length (wfun (tI L)) true (tI_tidy L)) (lam1 (by kernel_rfl) (sumF2 m b L (tI L).length (wfun (tI L)) true hl hy))
theorem eqL_me (L : List Wh) : eqL L L = true := decide_eq_true rfl
theorem yes_tidy (m : Nat) (b : Nat → Int) (_ : m ≤ 9223372036854775807) (hb : okB m (rowB b) = true) : ∃ Γ n Λ, GamOk Try.prog Γ ∧ (∀ cc, fFT.body = some cc → LamOk Try.prog 1 Λ cc) ∧ GoodQ (execF Try.prog Γ Λ n fFT [.sl 0 1 0 0 m none] [.row false m 1 (rowB b) 5] (packK 1)) SaysYes := by
  have hl := bDesign_len m b
  have main : ∀ L' : List Wh, (yI (bDesign m b) = true → L' = bDesign m b) → GoodQ (execF Try.prog (gmFT bDesign yI tI eqL) (lamFT m b L'.length (wfun L') (tI L').length (wfun (tI L')) (tI L').length (wfun (tI L')) true) 100 fFT [.sl 0 1 0 0 m none] [.row false m 1 (rowB b) 5] (packK 1)) SaysYes := by
    intro L' hL'
    rw [lawTi]
    refine good_cond (fun _ => good_out rfl) fun c => ?_
    have c := of_decide_eq_false c
    have b21 : decide (m ≤ 2097152) = true := decide_eq_true (by omega)
    simp only [Nat.zero_add, row0B, row0, itB_row]
    generalize bDesign m b = L at hl hL' ⊢
    have ht := tI_len L
    simp only [row0, hb, b21, ble_me, allW_row, b38 hl, b38 ht, needs_t, needs_nil, beq_self_eq_true, Bool.not_true, cond_false, cond_true, Bool.and_self, listW_me, eqL_me]
    refine good_cond (fun _ => good_out rfl) fun h1 => ?_
    rw [Bool.not_eq_false'] at h1
    have e := hL' h1
    subst e
    have hT := tI_tidy L'
    simp only [tI_self hT, yI_self hT, cond_true, cond_false, listW_me, eqL_me, row0, allW_row, b38 ht, ble_me]
    refine good_needs ?_ ?_
    · simp only [ob_cons, ob_nil, and_true, true_and]
      exact ⟨chk_of ⟨rfl, Hsim.refl _⟩, chk_of ⟨rfl, Hsim.refl _⟩⟩
    · exact good_needs rfl (good_out rfl)
  by_cases hy : yI (bDesign m b) = true
  · exact ⟨_, 100, _, gmFT_ok, lamFT_ok m b (bDesign m b) hl hy, main _ fun _ => rfl⟩
  · exact ⟨_, 100, _, gmFT_ok, lamFT_ok m b [] (Nat.zero_le _) (yI_self isTidy_nil), main [] fun h => absurd h hy⟩

end Go.Proofs.Ytnlfdcjpeoafhaa

/- Tidy designs have the same points: FnTidy returns true, whatever the bytes are, and they read as before. No conditions. -/
namespace Go.Proofs.Ytnlfdcjpeoafhaa
open Go.ChangeShapes Go.WideShapes Go.ChangeAt Go.RowKit

set_option maxRecDepth 100000 in
theorem tidy_lifted (os : Os) (started : os.Started) (H : Type) (enc : TypeId × Value → H) :
    ReturnsInHanded {} Try.checked os 14 .any (Rows.fnTidySpec.pre6 enc Try.prog Try.f14 Rows.fnTidyRow.domain false) (Rows.fnTidySpec.post enc Try.prog Try.f14 false true false false) := by
  refine returnsInHanded_of_change (C := Try.checked) own started (by kernel_rfl) Try.func14
    (ChangeSpec.witness6 (enc := enc) (C := Try.checked) false ⟨#[], #[.slice none 0 0], []⟩ 8 (by kernel_rfl) (by kernel_rfl) (by kernel_rfl) (by kernel_rfl)) ?_
  intro W base args ds gs before hval hW _ _
  exact contractB (spec := Rows.fnTidySpec) Try.func14 rfl rfl rfl (fun _ _ => rfl) (fun m b hm hb => yes_tidy m b hm hb) H enc W base args ds gs before hval hW

set_option maxRecDepth 100000 in
theorem tidy_f1 : Rows.fnTidyRow.wf (OpenSpec.ofChange Rows.fnTidySpec) = true := by kernel_rfl
set_option maxRecDepth 100000 in
theorem tidy_f2 : (Rows.fnTidyRow.inPlace == Try.prog.inPlace 14) = true := by kernel_rfl
set_option maxRecDepth 100000 in
theorem tidy_f3 : (Rows.fnTidyRow.unfollowed == Try.prog.unfollowed 14) = true := by kernel_rfl
set_option maxRecDepth 100000 in
theorem tidy_f4 : (Rows.fnTidyRow.recurses == Try.prog.recurses 14) = true := by kernel_rfl
set_option maxRecDepth 100000 in
theorem tidy_f5 : (Rows.fnTidyRow.named == Try.prog.varsNamed 14) = true := by kernel_rfl
set_option maxRecDepth 100000 in
theorem tidy_f6 : Try.prog.funcNamed Rows.fnTidyRow.func = some 14 := by kernel_rfl
theorem tidy_f7 : (Rows.fnTidyRow.lifted == Try.prog.liftsFinal) = true := jfG
theorem tidy_f8 : (Try.prog.make == some Rows.fnTidyRow.make) = true := jfH
theorem tidy_f9 : (Rows.fnTidyRow.plainKeys == Try.prog.plainKeys) = true := jfI
set_option maxRecDepth 100000 in
theorem tidy_joined : joinedFacts Try.prog 14 Try.f14 Rows.fnTidySpec Rows.fnTidyRow = true := by
  unfold joinedFacts
  rw [jfA, jfB, jfC, jfD, jfE, jfF, tidy_f1, tidy_f2, tidy_f3, tidy_f4, tidy_f5, tidy_f7, tidy_f8, tidy_f9]
  kernel_rfl

theorem tidy_holds : Rows.FnTidySaid :=
  OpenClaim.holds_of_wide 14 Try.f14 rfl rfl rfl rfl rfl rfl rfl ⟨rfl, rfl, rfl, rfl, rfl⟩ rfl rfl rfl rfl rfl tidy_f6 Try.func14 tidy_joined
    (of_decide_eq_true (by kernel_rfl)) (by unfold Func.isWrapper; first | (rw [if_pos (by decide +kernel)]; kernel_rfl) | (rw [if_neg (by decide +kernel)]; exact ⟨rfl, rfl⟩))
    (fun os started H enc _ => tidy_lifted os started H enc)
#print axioms tidy_holds
end Go.Proofs.Ytnlfdcjpeoafhaa
