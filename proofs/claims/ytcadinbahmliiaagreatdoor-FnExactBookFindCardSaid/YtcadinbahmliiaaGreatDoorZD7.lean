/- The frames of laws over a list of entries. No conditions. -/
import Derived.Test.YtcadinbahmliiaaGreatDoorZD0
import Derived.Test.YtcadinbahmliiaaGreatDoorZD1
import Derived.Test.YtcadinbahmliiaaGreatDoorZD2
import Derived.Test.YtcadinbahmliiaaGreatDoorZD3
import Derived.Test.YtcadinbahmliiaaGreatDoorZD4
import Derived.Test.YtcadinbahmliiaaGreatDoorZD5
import Derived.Test.YtcadinbahmliiaaGreatDoorZD6
/- The laws' helpers on lists of wheels. Conditions: those that the words name. -/
namespace Go.Proofs.YtcadinbahmliiaaGreatDoor
open Go.RowKit
set_option maxRecDepth 100000

theorem sumTW (m : Nat) (f : Nat → Nat → Int) (t : TypeId) (hm : m ≤ 2 ^ 40) :
    SumOk Tryz.prog 1 (.block 0 (.loop (loopAt 0 Tryz.f30))) (atS 23 (lvTW .normal) 1 [.sl 0 9 0 0 m none, .own 1 m, .v (i64 (0 : Nat))] (hpTW m f t (fun j k => bif Nat.blt j 0 then f j k else 0)) (fun K => K .normal (mkT 0 23 [(3, .own 1 m)]) (hpTW m f t f))) := by
  refine for_at g0_ok (n := 100) (m := 1) (lv := lvTW) (fun i => [.sl 0 9 0 0 m none, .own 1 m, .v (i64 (i : Nat))]) (fun i => hpTW m f t (fun j k => bif Nat.blt j i then f j k else 0)) (fun _ => True) m (fun _ => noLam) (lv3_ris rfl rfl rfl) (Nat.le_refl _) trivial fun K Q hk i hi him => ⟨noLam_ok _ _ _, ?_⟩
  rw [rndTW]
  refine good_cond (fun c1 => ?_) fun c1 => ?_
  · have c1 := of_decide_eq_true c1
    have c1' : i < m := by omega
    rw [Int.toNat_natCast, Nat.zero_add, wr_in (x := (i : Int) + 1) (by omega)]
    refine good_needs (by simp only [ob_cons, ob_nil, and_true, decide_eq_true_eq]; omega) (good_out ⟨i + 1, ⟨rfl, c1', trivial⟩, rfl, .cons (ABeq.refl _) (.cons (ABeq.row fun q hq => ?_) .nil)⟩)
    show row9 (fun q k => bif Nat.beq q i then f i k else bif Nat.blt q i then f q k else 0) q = _
    refine row9_congr fun k hk9 => ?_
    by_cases e : q = i
    · rw [e, show Nat.beq i i = true from Nat.beq_refl i, blt_yes (Nat.lt_succ_self i), cond_true, cond_true]
    · rw [beq_ne e, cond_false]
      by_cases h : q < i
      · rw [blt_yes h, blt_yes (by omega : q < i + 1)]
      · have b1 : Nat.blt q i = false := by
          cases hb : Nat.blt q i with
          | false => rfl
          | true => rw [Nat.blt_eq] at hb; omega
        have b2 : Nat.blt q (i + 1) = false := by
          cases hb : Nat.blt q (i + 1) with
          | false => rfl
          | true => rw [Nat.blt_eq] at hb; omega
        rw [b1, b2]
  · have c1 := of_decide_eq_false c1
    have : i = m := by omega
    subst this
    refine good_out ⟨hpTW i f t f, .cons (ABeq.refl _) (.cons (ABeq.row fun q hq => ?_) .nil), ?_⟩
    · exact row9_congr fun k _ => by rw [blt_yes hq]; rfl
    · rw [if_pos rfl]
      exact hk
def F_toW : List SA → Option FR
  | [.row m g] => some { val := .own 0 m, new := [.row true m 9 (row9 (itW g)) 75], obl := [allW m g, decide (m ≤ 2 ^ 39)] }
  | _ => none
def md_toW : List Md := [.rd 9 96]
theorem ok_toW : SpecOk Tryz.prog 30 (specR md_toW F_toW) := by
  refine specR_hr g0_ok Tryz.func30 rfl fun sas fr hF ho => ?_
  unfold F_toW at hF
  split at hF
  · rename_i m g
    cases hF
    simp only [ob_cons] at ho
    obtain ⟨h1, h2, _⟩ := ho
    have hm := of_decide_eq_true h2
    refine ⟨[.row false m 9 (row9 (itW g)) 96], lamTW m (itW g) 96, 100, .cons (ABeq.row fun j hj => allW_get h1 j hj) .nil, lam1 (by kernel_rfl) (sumTW m (itW g) 96 (by omega)), ?_⟩
    show GoodQ (execF Tryz.prog g0 (lamTW m (itW g) 96) 100 Tryz.f30 [.sl 0 9 0 0 m none] [.row false m 9 (row9 (itW g)) 96] (packK 1)) _
    rw [treeTW]
    simp only [Int.toNat_natCast]
    refine good_needs ?_ (good_out ⟨_, rfl, rfl, .cons (ABeq.row fun j hj => (allW_get h1 j hj).symm) (Hsim.refl _)⟩)
    simp only [ob_cons, ob_nil, and_true]
    exact ⟨by simp, decide_eq_true (by omega), chk_of ⟨trivial, .cons (ABeq.refl _) (.cons (ABeq.row fun j hj => rfl) .nil)⟩⟩
  · cases hF

theorem ok_eqW : SpecOk Tryz.prog 63 (specV f_eqW) := by
  refine mkV (n := 100) g0_ok Tryz.func63 rfl fun vs v ob hF ho => ?_
  unfold f_eqW at hF
  split at hF
  · rename_i a0 a1 a2 a3 a4 a5 a6 a7 a8 b0 b1 b2 b3 b4 b5 b6 b7 b8
    cases hF
    simp only [ob_cons, decide_eq_true_eq] at ho
    obtain ⟨rfl, rfl, rfl, rfl, rfl, rfl, rfl, rfl, rfl, _⟩ := ho
    show Good (execF Tryz.prog g0 noLam 100 Tryz.f63 ([Value.agg ⟨[i64 (v9 a0 a1 a2 a3 a4 a5 a6 a7 a8 0), i64 (v9 a0 a1 a2 a3 a4 a5 a6 a7 a8 1), i64 (v9 a0 a1 a2 a3 a4 a5 a6 a7 a8 2), i64 (v9 a0 a1 a2 a3 a4 a5 a6 a7 a8 3), i64 (v9 a0 a1 a2 a3 a4 a5 a6 a7 a8 4), i64 (v9 a0 a1 a2 a3 a4 a5 a6 a7 a8 5), i64 (v9 a0 a1 a2 a3 a4 a5 a6 a7 a8 6), i64 (v9 a0 a1 a2 a3 a4 a5 a6 a7 a8 7), i64 (v9 a0 a1 a2 a3 a4 a5 a6 a7 a8 8)]⟩, Value.agg ⟨[i64 (v9 a0 a1 a2 a3 a4 a5 a6 a7 a8 0), i64 (v9 a0 a1 a2 a3 a4 a5 a6 a7 a8 1), i64 (v9 a0 a1 a2 a3 a4 a5 a6 a7 a8 2), i64 (v9 a0 a1 a2 a3 a4 a5 a6 a7 a8 3), i64 (v9 a0 a1 a2 a3 a4 a5 a6 a7 a8 4), i64 (v9 a0 a1 a2 a3 a4 a5 a6 a7 a8 5), i64 (v9 a0 a1 a2 a3 a4 a5 a6 a7 a8 6), i64 (v9 a0 a1 a2 a3 a4 a5 a6 a7 a8 7), i64 (v9 a0 a1 a2 a3 a4 a5 a6 a7 a8 8)]⟩].map .v) [] valK) _
    rw [treeQW]
    simp only [bne_self_eq_false, cond_false]
    exact one rfl
  · cases hF
theorem gmQ_ok : GamOk Tryz.prog gmQ := ext_ok g0_ok ok_eqW

def sameP (m : Nat) (f h : Nat → Nat → Int) : Prop := ∀ j, j < m → ∀ k, k < 9 → f j k = h j k
noncomputable def sameW (m : Nat) (f h : Nat → Nat → Int) : Bool := chk (sameP m f h)
theorem sumQW (m : Nat) (f h : Nat → Nat → Int) (hm : m ≤ 2 ^ 40) (hs : sameP m f h) :
    SumOk Tryz.prog 2 (.block 0 (.loop (loopAt 0 Tryz.f32))) (atS 27 (lvQW .normal) 2 [.sl 0 9 0 0 m none, .sl 1 9 0 0 m none, .v (i64 (0 : Nat))] (hpQW m f h) (fun K => K .normal (mkT 0 27 []) (hpQW m f h))) := by
  refine for_at gmQ_ok (n := 100) (m := 2) (lv := lvQW) (fun i => [.sl 0 9 0 0 m none, .sl 1 9 0 0 m none, .v (i64 (i : Nat))]) (fun _ => hpQW m f h) (fun _ => True) m (fun _ => noLam) (lv3_ris rfl rfl rfl) (Nat.le_refl _) trivial fun K Q hk i hi him => ⟨noLam_ok _ _ _, ?_⟩
  rw [rndQW]
  refine good_cond (fun c1 => ?_) fun c1 => ?_
  · have c1 := of_decide_eq_true c1
    have c1' : i < m := by omega
    rw [Int.toNat_natCast, Nat.zero_add, wr_in (x := (i : Int) + 1) (by omega)]
    have e := hs i c1'
    refine good_needs ?_ (good_out ⟨i + 1, ⟨rfl, c1', trivial⟩, rfl, Hsim.refl _⟩)
    simp only [ob_cons, ob_nil, and_true, decide_eq_true_eq]
    exact ⟨by omega, by omega, by omega, by omega, e 0 (by omega), e 1 (by omega), e 2 (by omega), e 3 (by omega), e 4 (by omega), e 5 (by omega), e 6 (by omega), e 7 (by omega), e 8 (by omega)⟩
  · have c1 := of_decide_eq_false c1
    have : i = m := by omega
    subst this
    refine good_out ⟨_, Hsim.refl _, ?_⟩
    rw [if_pos rfl]
    exact hk
noncomputable def F_eqWS : List SA → Option FR
  | [.row m g, .row m2 g2] => some { val := .v (.bool true), obl := [Nat.beq m2 m, allW m g, allW m g2, sameW m (itW g) (itW g2), decide (m ≤ 2 ^ 40)] }
  | _ => none
theorem ok_eqWS : SpecOk Tryz.prog 32 (specR md_eqWS F_eqWS) := by
  refine specR_hr g0_ok Tryz.func32 rfl fun sas fr hF ho => ?_
  unfold F_eqWS at hF
  split at hF
  · rename_i m g m2 g2
    cases hF
    simp only [ob_cons] at ho
    obtain ⟨h0, h1, h2, h3, h4, _⟩ := ho
    have h0 := Nat.eq_of_beq_eq_true h0
    subst h0
    have hm := of_decide_eq_true h4
    refine ⟨hpQW m2 (itW g) (itW g2), lamQW m2 (itW g) (itW g2), 100, .cons (ABeq.row fun j hj => allW_get h1 j hj) (.cons (ABeq.row fun j hj => allW_get h2 j hj) .nil), lam1 (by kernel_rfl) (sumQW m2 (itW g) (itW g2) hm (of_chk h3)), ?_⟩
    show GoodQ (execF Tryz.prog g0 (lamQW m2 (itW g) (itW g2)) 100 Tryz.f32 [.sl 0 9 0 0 m2 none, .sl 1 9 0 0 m2 none] (hpQW m2 (itW g) (itW g2)) (packK 2)) _
    rw [treeQS]
    exact good_false (by simp) (good_needs (by rw [ob_cons]; exact ⟨chk_of ⟨rfl, Hsim.refl _⟩, rfl⟩) (good_out ⟨_, rfl, rfl, .cons (ABeq.row fun j hj => (allW_get h1 j hj).symm) (.cons (ABeq.row fun j hj => (allW_get h2 j hj).symm) .nil)⟩))
  · cases hF

end Go.Proofs.YtcadinbahmliiaaGreatDoor

/- The laws' helpers on lists of entries: trees. Conditions: entries. -/
namespace Go.Proofs.YtcadinbahmliiaaGreatDoor
open Go.RowKit
set_option maxRecDepth 100000

abbrev lvSz : Ex → List Nat := lv3 [0, 1, 5] [1] [4]
abbrev hpEl (m : Nat) (ft : Nat → ByteArray) (fc : Nat → Int) (t : TypeId) : List AB := [.row false m 2 (rowE ft fc) t]
theorem rndSz_h (m : Nat) (ft : Nat → ByteArray) (fc : Nat → Int) (t : TypeId) (l : Int) (i : Nat) (u0 : _) (hu0 : (l - (↑(ByteArray.size (ft ((0 : Nat) + Int.toNat (↑i : Int)))) : Int)) = u0) (u1 : _) (hu1 : [AB.row false m 2 (rowE ft fc) t] = u1) (u2 : _) (hu2 : [AV.v (.int .i64 (-1 : Int))] = u2) : execC Tryz.prog g0 100 noLam (loopAt 0 Tryz.f19) (mkT 0 27 ((lvSz .normal).zip [.sl 0 2 0 0 m none, .v (i64 l), .v (i64 i)])) (hpEl m ft fc t) (leafV 27 lvSz 1)
    = bif decide ((↑i : Int) < (m : Int)) then needs [decide ((↑i : Int) < (m : Int)), decide ((0 : Nat) + Int.toNat (↑i : Int) < m)] (bif decide (IntKind.wrap .i64 u0 < (0 : Int)) then Res.out .ret u2 u1 else bif decide (IntKind.wrap .i64 u0 < (0 : Int)) then Res.out .ret u2 u1 else Res.out .normal [AV.sl 0 (2 : Nat) (0 : Nat) (0 : Nat) m none, AV.v (.int .i64 (IntKind.wrap .i64 u0)), AV.v (.int .i64 (IntKind.wrap .i64 ((↑i : Int) + (1 : Int))))] u1) else Res.out (Ex.exit (0 : Nat)) [AV.v (.int .i64 l)] u1 := by
  subst hu2 hu1 hu0
  kernel_rfl
theorem rndSz (m : Nat) (ft : Nat → ByteArray) (fc : Nat → Int) (t : TypeId) (l : Int) (i : Nat) : type_of% (rndSz_h m ft fc t l i _ rfl _ rfl _ rfl) := rndSz_h m ft fc t l i _ rfl _ rfl _ rfl

noncomputable abbrev lamSz (m : Nat) (ft : Nat → ByteArray) (fc : Nat → Int) (t : TypeId) (l l2 : Int) (q : Bool) : Nat → Option Sum := oneL 0 (atS 27 (lvSz .normal) 1 [.sl 0 2 0 0 m none, .v (i64 l), .v (i64 (0 : Nat))] (hpEl m ft fc t) (fun K => cond q (K .ret (mkT 0 27 [(4, .v (i64 (-1)))]) (hpEl m ft fc t)) (K .normal (mkT 0 27 [(1, .v (i64 l2))]) (hpEl m ft fc t))))
theorem treeSz (m : Nat) (ft : Nat → ByteArray) (fc : Nat → Int) (t : TypeId) (l l1 l2 : Int) (q : Bool) : execF Tryz.prog g0 (lamSz m ft fc t l1 l2 q) 100 Tryz.f19 [.sl 0 2 0 0 m none, .v (i64 l)] (hpEl m ft fc t) (packK 1)
    = bif decide (IntKind.wrap .i64 (l - (m : Int)) < (0 : Int)) then Res.out .ret [AV.v (.int .i64 (-1 : Int))] [AB.row false m 2 (rowE ft fc) t] else needs [chk ([AV.sl 0 (2 : Nat) (0 : Nat) (0 : Nat) m none, AV.v (.int .i64 (IntKind.wrap .i64 (l - (m : Int)))), AV.v (.int .i64 0)] = [AV.sl 0 (2 : Nat) (0 : Nat) (0 : Nat) m none, AV.v (.int .i64 l1), AV.v (.int .i64 0)] ∧ Hsim [AB.row false m 2 (rowE ft fc) t] (hpEl m ft fc t))] (bif q then Res.out .ret [AV.v (.int .i64 (-1 : Int))] [AB.row false m 2 (rowE ft fc) t] else Res.out .ret [AV.v (.int .i64 l2)] [AB.row false m 2 (rowE ft fc) t]) := by kernel_rfl

theorem treeSzB (m : Nat) (ft : Nat → ByteArray) (fc : Nat → Int) (t : TypeId) (l : Int) : execF Tryz.prog g0 (oneL 0 errS) 100 Tryz.f19 [.sl 0 2 0 0 m none, .v (i64 l)] (hpEl m ft fc t) (packK 1)
    = needs [decide (IntKind.wrap .i64 (l - (m : Int)) < (0 : Int))] (Res.out .ret [AV.v (.int .i64 (-1 : Int))] [AB.row false m 2 (rowE ft fc) t]) := by kernel_rfl

abbrev lvTE : Ex → List Nat := lv3 [0, 3, 4] [3] [2]
abbrev hpTE (m : Nat) (ft : Nat → ByteArray) (fc : Nat → Int) (t : TypeId) (gt : Nat → ByteArray) (gc : Nat → Int) : List AB := [.row false m 2 (rowE ft fc) t, .row true m 2 (rowE gt gc) 27]
theorem rndTE (m : Nat) (ft : Nat → ByteArray) (fc : Nat → Int) (t : TypeId) (gt : Nat → ByteArray) (gc : Nat → Int) (i : Nat) : execC Tryz.prog g0 100 noLam (loopAt 0 Tryz.f21) (mkT 0 23 ((lvTE .normal).zip [.sl 0 2 0 0 m none, .own 1 m, .v (i64 i)])) (hpTE m ft fc t gt gc) (leafV 23 lvTE 1)
    = bif decide ((↑i : Int) < (m : Int)) then needs [decide ((↑i : Int) < (m : Int)), decide ((0 : Nat) + Int.toNat (↑i : Int) < m), decide ((↑i : Int) < (m : Int)), decide (Int.toNat (↑i : Int) < m)] (Res.out .normal [AV.sl 0 (2 : Nat) (0 : Nat) (0 : Nat) m none, AV.own 1 m, AV.v (.int .i64 (IntKind.wrap .i64 ((↑i : Int) + (1 : Int))))] [AB.row false m 2 (rowE ft fc) t, AB.row true m 2 (fun q ↦ [Value.string (bif Nat.beq q (Int.toNat (↑i : Int)) then ft ((0 : Nat) + Int.toNat (↑i : Int)) else gt q), Value.int .u32 (bif Nat.beq q (Int.toNat (↑i : Int)) then fc ((0 : Nat) + Int.toNat (↑i : Int)) else gc q)]) 27]) else Res.out (Ex.exit (0 : Nat)) [AV.own 1 m] [AB.row false m 2 (rowE ft fc) t, AB.row true m 2 (rowE gt gc) 27] := by kernel_rfl

noncomputable abbrev lamTE (m : Nat) (ft : Nat → ByteArray) (fc : Nat → Int) (t : TypeId) : Nat → Option Sum := oneL 0 (atS 23 (lvTE .normal) 1 [.sl 0 2 0 0 m none, .own 1 m, .v (i64 (0 : Nat))] (hpTE m ft fc t (fun j => bif Nat.blt j 0 then ft j else ⟨⟨[]⟩⟩) (fun j => bif Nat.blt j 0 then fc j else 0)) (fun K => K .normal (mkT 0 23 [(3, .own 1 m)]) (hpTE m ft fc t ft fc)))
theorem treeTE (m : Nat) (ft : Nat → ByteArray) (fc : Nat → Int) (t : TypeId) : execF Tryz.prog g0 (lamTE m ft fc t) 100 Tryz.f21 [.sl 0 2 0 0 m none] (hpEl m ft fc t) (packK 1)
    = needs [decide ((m : Int) ≤ (m : Int)), decide ((m : Int) ≤ (1099511627776 : Int)), chk ([AV.sl 0 (2 : Nat) (0 : Nat) (0 : Nat) m none, AV.own 1 (Int.toNat (m : Int)), AV.v (.int .i64 0)] = [AV.sl 0 (2 : Nat) (0 : Nat) (0 : Nat) m none, AV.own 1 m, AV.v (.int .i64 0)] ∧ Hsim [AB.row false m 2 (rowE ft fc) t, AB.row true (Int.toNat (m : Int)) (2 : Nat) (fun _ ↦ [Value.string (ByteArray.mk (Array.mk [])), Value.int .u32 0]) (27 : Nat)] (hpTE m ft fc t (fun j ↦ bif Nat.blt j (0 : Nat) then ft j else ByteArray.mk (Array.mk [])) fun j ↦ bif Nat.blt j (0 : Nat) then fc j else (0 : Int)))] (Res.out .ret [AV.own 1 m] [AB.row false m 2 (rowE ft fc) t, AB.row true m 2 (rowE ft fc) 27]) := by kernel_rfl

theorem treeQE (s1 s2 : ByteArray) (c1 c2 : Int) : execF Tryz.prog g0 noLam 100 Tryz.f56 [.v (.agg ⟨[.string s1, .int .u32 c1]⟩), .v (.agg ⟨[.string s2, .int .u32 c2]⟩)] [] valK
    = bif !eqB s1 s2 then Res.out .ret [AV.v (.bool false)] [] else bif c1 != c2 then Res.out .ret [AV.v (.bool false)] [] else Res.out .ret [AV.v (.bool true)] [] := by kernel_rfl

def f_eqE : List Value → Option (Value × List Bool)
  | [.agg ⟨[.string s1, .int .u32 c1]⟩, .agg ⟨[.string s2, .int .u32 c2]⟩] => some (.bool true, [eqB s1 s2, c1 == c2])
  | _ => none
def gmQE : Gam := ext g0 56 (specV f_eqE)
abbrev lvQE : Ex → List Nat := lv3 [0, 1, 5] [] [4]
abbrev hpQE (m : Nat) (ft : Nat → ByteArray) (fc : Nat → Int) (gt : Nat → ByteArray) (gc : Nat → Int) : List AB := [.row false m 2 (rowE ft fc) 27, .row false m 2 (rowE gt gc) 27]
theorem rndQE (m : Nat) (ft : Nat → ByteArray) (fc : Nat → Int) (gt : Nat → ByteArray) (gc : Nat → Int) (i : Nat) : execC Tryz.prog gmQE 100 noLam (loopAt 0 Tryz.f23) (mkT 0 27 ((lvQE .normal).zip [.sl 0 2 0 0 m none, .sl 1 2 0 0 m none, .v (i64 i)])) (hpQE m ft fc gt gc) (leafV 27 lvQE 2)
    = bif decide ((↑i : Int) < (m : Int)) then needs [decide ((↑i : Int) < (m : Int)), decide ((0 : Nat) + Int.toNat (↑i : Int) < m), decide ((↑i : Int) < (m : Int)), decide ((0 : Nat) + Int.toNat (↑i : Int) < m), eqB (ft ((0 : Nat) + Int.toNat (↑i : Int))) (gt ((0 : Nat) + Int.toNat (↑i : Int))), fc ((0 : Nat) + Int.toNat (↑i : Int)) == gc ((0 : Nat) + Int.toNat (↑i : Int))] (Res.out .normal [AV.sl 0 (2 : Nat) (0 : Nat) (0 : Nat) m none, AV.sl 1 (2 : Nat) (0 : Nat) (0 : Nat) m none, AV.v (.int .i64 (IntKind.wrap .i64 ((↑i : Int) + (1 : Int))))] [AB.row false m 2 (rowE ft fc) 27, AB.row false m 2 (rowE gt gc) 27]) else Res.out (Ex.exit (0 : Nat)) [] [AB.row false m 2 (rowE ft fc) 27, AB.row false m 2 (rowE gt gc) 27] := by kernel_rfl

noncomputable abbrev lamQE (m : Nat) (ft : Nat → ByteArray) (fc : Nat → Int) (gt : Nat → ByteArray) (gc : Nat → Int) : Nat → Option Sum := oneL 0 (atS 27 (lvQE .normal) 2 [.sl 0 2 0 0 m none, .sl 1 2 0 0 m none, .v (i64 (0 : Nat))] (hpQE m ft fc gt gc) (fun K => K .normal (mkT 0 27 []) (hpQE m ft fc gt gc)))
theorem treeQES_h (m : Nat) (ft : Nat → ByteArray) (fc : Nat → Int) (gt : Nat → ByteArray) (gc : Nat → Int) (u0 : _) (hu0 : [AB.row false m 2 (rowE ft fc) 27, AB.row false m 2 (rowE gt gc) 27] = u0) (u1 : _) (hu1 : [AV.sl 0 (2 : Nat) (0 : Nat) (0 : Nat) m none, AV.sl 1 (2 : Nat) (0 : Nat) (0 : Nat) m none, AV.v (.int .i64 0)] = u1) : execF Tryz.prog gmQE (lamQE m ft fc gt gc) 100 Tryz.f23 [.sl 0 2 0 0 m none, .sl 1 2 0 0 m none] (hpQE m ft fc gt gc) (packK 2)
    = bif (m : Int) != (m : Int) then Res.out .ret [AV.v (.bool false)] u0 else needs [chk (u1 = u1 ∧ Hsim u0 (hpQE m ft fc gt gc))] (Res.out .ret [AV.v (.bool true)] u0) := by
  subst hu1 hu0
  kernel_rfl
theorem treeQES (m : Nat) (ft : Nat → ByteArray) (fc : Nat → Int) (gt : Nat → ByteArray) (gc : Nat → Int) : type_of% (treeQES_h m ft fc gt gc _ rfl _ rfl) := treeQES_h m ft fc gt gc _ rfl _ rfl

end Go.Proofs.YtcadinbahmliiaaGreatDoor

/- The laws' helpers on lists of entries: their words. Conditions: those that the words name. -/
namespace Go.Proofs.YtcadinbahmliiaaGreatDoor
open Go.RowKit
set_option maxRecDepth 100000

def szL (ft : Nat → ByteArray) (l : Int) : Nat → Int
  | 0 => l
  | i + 1 => szL ft l i - (ft i).size
theorem szL_le (ft : Nat → ByteArray) (l : Int) (i : Nat) : ∀ k : Nat, szL ft l (i + k) ≤ szL ft l i
  | 0 => Int.le_refl _
  | k + 1 => by
    have := szL_le ft l i k
    rw [← Nat.add_assoc, szL]
    omega
theorem szL_mono {ft : Nat → ByteArray} {l : Int} {i m : Nat} (h : i ≤ m) : szL ft l m ≤ szL ft l i := by
  have := szL_le ft l i (m - i)
  rwa [show i + (m - i) = m by omega] at this
def szV (ft : Nat → ByteArray) (m : Nat) (l : Int) : Int := bif decide (szL ft (l - m) m < 0) then -1 else szL ft (l - m) m
def smallZ (m : Nat) (ft : Nat → ByteArray) : Bool := (List.range m).all fun j => Nat.ble (ft j).size 9223372036854775807
theorem smallZ_get {m : Nat} {ft : Nat → ByteArray} (h : smallZ m ft = true) {j : Nat} (hj : j < m) : (ft j).size ≤ 9223372036854775807 := Nat.le_of_ble_eq_true (List.all_eq_true.1 h j (List.mem_range.2 hj))
theorem sumSz (m : Nat) (ft : Nat → ByteArray) (fc : Nat → Int) (t : TypeId) (l : Int) (hm : m ≤ 9223372036854775807) (h0 : 0 ≤ l) (hl : l ≤ 2 ^ 40) (hz : smallZ m ft = true) :
    SumOk Tryz.prog 1 (.block 0 (.loop (loopAt 0 Tryz.f19))) (atS 27 (lvSz .normal) 1 [.sl 0 2 0 0 m none, .v (i64 l), .v (i64 (0 : Nat))] (hpEl m ft fc t) (fun K => cond (decide (szL ft l m < 0)) (K .ret (mkT 0 27 [(4, .v (i64 (-1)))]) (hpEl m ft fc t)) (K .normal (mkT 0 27 [(1, .v (i64 (szL ft l m)))]) (hpEl m ft fc t)))) := by
  refine for_at g0_ok (n := 100) (m := 1) (lv := lvSz) (fun i => [.sl 0 2 0 0 m none, .v (i64 (szL ft l i)), .v (i64 (i : Nat))]) (fun _ => hpEl m ft fc t) (fun i => 0 ≤ szL ft l i) m (fun _ => noLam) (lv3_ris rfl rfl rfl) (Nat.le_refl _) h0 fun K Q hk i hi him => ⟨noLam_ok _ _ _, ?_⟩
  have hle : szL ft l i ≤ l := szL_mono (i := 0) (Nat.zero_le i)
  rw [rndSz]
  refine good_cond (fun c1 => ?_) fun c1 => ?_
  · have c1 := of_decide_eq_true c1
    have c1' : i < m := by omega
    have hs := smallZ_get hz c1'
    rw [Int.toNat_natCast, Nat.zero_add, wr_in (x := (i : Int) + 1) (by omega), wr_in (x := szL ft l i - ((ft i).size : Int)) (by omega)]
    have e : szL ft l (i + 1) = szL ft l i - (ft i).size := rfl
    have stop : szL ft l i - ((ft i).size : Int) < 0 → (K .ret (mkT 0 27 [(4, .v (i64 (-1)))]) (hpEl m ft fc t)).ok Q := fun h => by
      have : szL ft l m < 0 := by
        have := szL_mono (ft := ft) (l := l) (i := i + 1) (m := m) c1'
        omega
      rw [decide_eq_true this] at hk
      exact hk
    refine good_needs (by simp only [ob_cons, ob_nil, and_true, decide_eq_true_eq]; omega) (good_cond (fun q => good_out ⟨_, Hsim.refl _, stop (of_decide_eq_true q)⟩) fun q => good_cond (fun q => good_out ⟨_, Hsim.refl _, stop (of_decide_eq_true q)⟩) fun q2 => good_out ⟨i + 1, ⟨rfl, c1', ?_⟩, rfl, Hsim.refl _⟩)
    have q := of_decide_eq_false q
    rw [e]
    omega
  · have c1 := of_decide_eq_false c1
    have : i = m := by omega
    subst this
    refine good_out ⟨_, Hsim.refl _, ?_⟩
    rw [if_pos rfl]
    rw [decide_eq_false (by omega)] at hk
    exact hk
def F_szE : List SA → Option FR
  | [.row m g, .v (.int .i64 l)] => some { val := .v (i64 (szV (itT g) m l)), obl := [allE m g, smallZ m (itT g), decide (m ≤ 9223372036854775807), decide (0 ≤ l), decide (l ≤ 2 ^ 40)] }
  | _ => none
def md_szE : List Md := [.rd 2 24, .val]
theorem ok_szE : SpecOk Tryz.prog 19 (specR md_szE F_szE) := by
  refine specR_hr g0_ok Tryz.func19 rfl fun sas fr hF ho => ?_
  unfold F_szE at hF
  split at hF
  · rename_i m g l
    cases hF
    simp only [ob_cons, decide_eq_true_eq] at ho
    obtain ⟨h1, h2, h3, h4, h5, _⟩ := ho
    have back : ∀ x, szV (itT g) m l = x → GivR (abP md_szE [.row m g, .v (.int .i64 l)] []) { val := .v (i64 (szV (itT g) m l)), obl := [allE m g, smallZ m (itT g), decide (m ≤ 9223372036854775807), decide (0 ≤ l), decide (l ≤ 2 ^ 40)] } .ret [.v (i64 x)] (hpEl m (itT g) (itC g) 24) := fun x hx =>
      ⟨_, by rw [hx]; rfl, rfl, .cons (ABeq.row fun j hj => (allE_get h1 j hj).symm) .nil⟩
    have e1 : IntKind.wrap IntKind.i64 (l - (m : Int)) = l - m := wr_in (by omega)
    by_cases hn : l - (m : Int) < 0
    · refine ⟨hpEl m (itT g) (itC g) 24, oneL 0 errS, 100, .cons (ABeq.row fun j hj => allE_get h1 j hj) .nil, lam1 (c := loopAt 0 Tryz.f19) (by kernel_rfl) errS_ok, ?_⟩
      show GoodQ (execF Tryz.prog g0 (oneL 0 errS) 100 Tryz.f19 [.sl 0 2 0 0 m none, .v (i64 l)] (hpEl m (itT g) (itC g) 24) (packK 1)) _
      rw [treeSzB, e1, decide_eq_true hn]
      refine good_out (back (-1) ?_)
      have := szL_mono (ft := itT g) (l := l - m) (i := 0) (Nat.zero_le m)
      rw [szV, decide_eq_true (by have e : szL (itT g) (l - m) 0 = l - m := rfl; omega)]
      rfl
    · refine ⟨hpEl m (itT g) (itC g) 24, lamSz m (itT g) (itC g) 24 (l - m) (szL (itT g) (l - m) m) (decide (szL (itT g) (l - m) m < 0)), 100, .cons (ABeq.row fun j hj => allE_get h1 j hj) .nil, lam1 (by kernel_rfl) (sumSz m (itT g) (itC g) 24 (l - m) h3 (by omega) (by omega) h2), ?_⟩
      show GoodQ (execF Tryz.prog g0 (lamSz m (itT g) (itC g) 24 (l - m) (szL (itT g) (l - m) m) (decide (szL (itT g) (l - m) m < 0))) 100 Tryz.f19 [.sl 0 2 0 0 m none, .v (i64 l)] (hpEl m (itT g) (itC g) 24) (packK 1)) _
      rw [treeSz, e1, decide_eq_false hn]
      refine good_needs (by simp only [ob_cons, ob_nil, and_true]; exact chk_of ⟨trivial, Hsim.refl _⟩) (good_cond (fun q => good_out (back _ ?_)) fun q => good_out (back _ ?_))
      · rw [szV, q]; rfl
      · rw [szV, q]; rfl
  · cases hF
theorem szV_ge {ft : Nat → ByteArray} {m : Nat} {l : Int} (h : ¬ szV ft m l < 0) : (m : Int) ≤ l ∧ szV ft m l ≤ l := by
  unfold szV at h ⊢
  by_cases q : szL ft (l - m) m < 0
  · rw [decide_eq_true q] at h
    exact absurd (by decide : (-1 : Int) < 0) h
  · have := szL_mono (ft := ft) (l := l - m) (i := 0) (Nat.zero_le m)
    have e : szL ft (l - m) 0 = l - m := rfl
    rw [decide_eq_false q]
    simp only [cond_false]
    omega

theorem sumTE (m : Nat) (ft : Nat → ByteArray) (fc : Nat → Int) (t : TypeId) (hm : m ≤ 2 ^ 40) :
    SumOk Tryz.prog 1 (.block 0 (.loop (loopAt 0 Tryz.f21))) (atS 23 (lvTE .normal) 1 [.sl 0 2 0 0 m none, .own 1 m, .v (i64 (0 : Nat))] (hpTE m ft fc t (fun j => bif Nat.blt j 0 then ft j else ⟨⟨[]⟩⟩) (fun j => bif Nat.blt j 0 then fc j else 0)) (fun K => K .normal (mkT 0 23 [(3, .own 1 m)]) (hpTE m ft fc t ft fc))) := by
  refine for_at g0_ok (n := 100) (m := 1) (lv := lvTE) (fun i => [.sl 0 2 0 0 m none, .own 1 m, .v (i64 (i : Nat))]) (fun i => hpTE m ft fc t (fun j => bif Nat.blt j i then ft j else ⟨⟨[]⟩⟩) (fun j => bif Nat.blt j i then fc j else 0)) (fun _ => True) m (fun _ => noLam) (lv3_ris rfl rfl rfl) (Nat.le_refl _) trivial fun K Q hk i hi him => ⟨noLam_ok _ _ _, ?_⟩
  rw [rndTE]
  refine good_cond (fun c1 => ?_) fun c1 => ?_
  · have c1 := of_decide_eq_true c1
    have c1' : i < m := by omega
    rw [Int.toNat_natCast, Nat.zero_add, wr_in (x := (i : Int) + 1) (by omega)]
    refine good_needs (by simp only [ob_cons, ob_nil, and_true, decide_eq_true_eq]; omega) (good_out ⟨i + 1, ⟨rfl, c1', trivial⟩, rfl, .cons (ABeq.refl _) (.cons (ABeq.row fun q hq => ?_) .nil)⟩)
    have key : ∀ {α : Type} (a z : α) (f : Nat → α), (bif Nat.beq q i then f i else bif Nat.blt q i then f q else z) = bif Nat.blt q (i + 1) then f q else z := fun a z f => by
      by_cases e : q = i
      · rw [e, show Nat.beq i i = true from Nat.beq_refl i, blt_yes (Nat.lt_succ_self i)]
        rfl
      · rw [beq_ne e, cond_false]
        by_cases h : q < i
        · rw [blt_yes h, blt_yes (by omega : q < i + 1)]
        · have b1 : Nat.blt q i = false := by rw [Bool.eq_false_iff, ne_eq, Nat.blt_eq]; exact h
          have b2 : Nat.blt q (i + 1) = false := by rw [Bool.eq_false_iff, ne_eq, Nat.blt_eq]; omega
          rw [b1, b2]
    show [Value.string (bif Nat.beq q i then ft i else bif Nat.blt q i then ft q else ⟨⟨[]⟩⟩), Value.int .u32 (bif Nat.beq q i then fc i else bif Nat.blt q i then fc q else 0)] = [Value.string (bif Nat.blt q (i + 1) then ft q else ⟨⟨[]⟩⟩), Value.int .u32 (bif Nat.blt q (i + 1) then fc q else 0)]
    rw [key (ft i) _ ft, key (fc i) _ fc]
  · have c1 := of_decide_eq_false c1
    have : i = m := by omega
    subst this
    refine good_out ⟨hpTE i ft fc t ft fc, .cons (ABeq.refl _) (.cons (ABeq.row fun q hq => ?_) .nil), ?_⟩
    · simp only [rowE, blt_yes hq, cond_true]
    · rw [if_pos rfl]
      exact hk
def F_toE : List SA → Option FR
  | [.row m g] => some { val := .own 0 m, new := [.row true m 2 (rowE (itT g) (itC g)) 27], obl := [allE m g, decide (m ≤ 2 ^ 39)] }
  | _ => none
def md_toE : List Md := [.rd 2 24]
theorem ok_toE : SpecOk Tryz.prog 21 (specR md_toE F_toE) := by
  refine specR_hr g0_ok Tryz.func21 rfl fun sas fr hF ho => ?_
  unfold F_toE at hF
  split at hF
  · rename_i m g
    cases hF
    simp only [ob_cons] at ho
    obtain ⟨h1, h2, _⟩ := ho
    have hm := of_decide_eq_true h2
    refine ⟨hpEl m (itT g) (itC g) 24, lamTE m (itT g) (itC g) 24, 100, .cons (ABeq.row fun j hj => allE_get h1 j hj) .nil, lam1 (by kernel_rfl) (sumTE m (itT g) (itC g) 24 (by omega)), ?_⟩
    show GoodQ (execF Tryz.prog g0 (lamTE m (itT g) (itC g) 24) 100 Tryz.f21 [.sl 0 2 0 0 m none] (hpEl m (itT g) (itC g) 24) (packK 1)) _
    rw [treeTE]
    simp only [Int.toNat_natCast]
    refine good_needs ?_ (good_out ⟨_, rfl, rfl, .cons (ABeq.row fun j hj => (allE_get h1 j hj).symm) (Hsim.refl _)⟩)
    simp only [ob_cons, ob_nil, and_true]
    exact ⟨by simp, decide_eq_true (by omega), chk_of ⟨trivial, .cons (ABeq.refl _) (.cons (ABeq.row fun j hj => rfl) .nil)⟩⟩
  · cases hF

theorem ok_eqE : SpecOk Tryz.prog 56 (specV f_eqE) := by
  refine mkV (n := 100) g0_ok Tryz.func56 rfl fun vs v ob hF ho => ?_
  unfold f_eqE at hF
  split at hF
  · rename_i s1 c1 s2 c2
    cases hF
    simp only [ob_cons, beq_iff_eq] at ho
    obtain ⟨h1, rfl, _⟩ := ho
    show Good (execF Tryz.prog g0 noLam 100 Tryz.f56 [.v (.agg ⟨[.string s1, .int .u32 c1]⟩), .v (.agg ⟨[.string s2, .int .u32 c1]⟩)] [] valK) _
    rw [treeQE, h1]
    simp only [Bool.not_true, bne_self_eq_false, cond_false]
    exact one rfl
  · cases hF
theorem gmQE_ok : GamOk Tryz.prog gmQE := ext_ok g0_ok ok_eqE
def sameE (m : Nat) (ft : Nat → ByteArray) (fc : Nat → Int) (gt : Nat → ByteArray) (gc : Nat → Int) : Bool := (List.range m).all fun j => eqB (ft j) (gt j) && (fc j == gc j)
theorem sameE_self (m : Nat) (ft : Nat → ByteArray) (fc : Nat → Int) : sameE m ft fc ft fc = true := List.all_eq_true.2 fun j _ => by rw [eqB_self, beq_self_eq_true]; rfl
theorem sumQE (m : Nat) (ft : Nat → ByteArray) (fc : Nat → Int) (gt : Nat → ByteArray) (gc : Nat → Int) (hm : m ≤ 2 ^ 40) (hs : sameE m ft fc gt gc = true) :
    SumOk Tryz.prog 2 (.block 0 (.loop (loopAt 0 Tryz.f23))) (atS 27 (lvQE .normal) 2 [.sl 0 2 0 0 m none, .sl 1 2 0 0 m none, .v (i64 (0 : Nat))] (hpQE m ft fc gt gc) (fun K => K .normal (mkT 0 27 []) (hpQE m ft fc gt gc))) := by
  refine for_at gmQE_ok (n := 100) (m := 2) (lv := lvQE) (fun i => [.sl 0 2 0 0 m none, .sl 1 2 0 0 m none, .v (i64 (i : Nat))]) (fun _ => hpQE m ft fc gt gc) (fun _ => True) m (fun _ => noLam) (lv3_ris rfl rfl rfl) (Nat.le_refl _) trivial fun K Q hk i hi him => ⟨noLam_ok _ _ _, ?_⟩
  rw [rndQE]
  refine good_cond (fun c1 => ?_) fun c1 => ?_
  · have c1 := of_decide_eq_true c1
    have c1' : i < m := by omega
    rw [Int.toNat_natCast, Nat.zero_add, wr_in (x := (i : Int) + 1) (by omega)]
    have e := List.all_eq_true.1 hs i (List.mem_range.2 c1')
    rw [Bool.and_eq_true] at e
    refine good_needs ?_ (good_out ⟨i + 1, ⟨rfl, c1', trivial⟩, rfl, Hsim.refl _⟩)
    simp only [ob_cons, ob_nil, and_true, decide_eq_true_eq]
    exact ⟨by omega, by omega, by omega, by omega, e.1, e.2⟩
  · have c1 := of_decide_eq_false c1
    have : i = m := by omega
    subst this
    refine good_out ⟨_, Hsim.refl _, ?_⟩
    rw [if_pos rfl]
    exact hk
def F_eqES : List SA → Option FR
  | [.row m g, .row m2 g2] => some { val := .v (.bool true), obl := [Nat.beq m2 m, allE m g, allE m g2, sameE m (itT g) (itC g) (itT g2) (itC g2), decide (m ≤ 2 ^ 40)] }
  | _ => none
def md_eqES : List Md := [.rd 2 27, .rd 2 27]
theorem ok_eqES : SpecOk Tryz.prog 23 (specR md_eqES F_eqES) := by
  refine specR_hr gmQE_ok Tryz.func23 rfl fun sas fr hF ho => ?_
  unfold F_eqES at hF
  split at hF
  · rename_i m g m2 g2
    cases hF
    simp only [ob_cons] at ho
    obtain ⟨h0, h1, h2, h3, h4, _⟩ := ho
    have h0 := Nat.eq_of_beq_eq_true h0
    subst h0
    have hm := of_decide_eq_true h4
    refine ⟨hpQE m2 (itT g) (itC g) (itT g2) (itC g2), lamQE m2 (itT g) (itC g) (itT g2) (itC g2), 100, .cons (ABeq.row fun j hj => allE_get h1 j hj) (.cons (ABeq.row fun j hj => allE_get h2 j hj) .nil), lam1 (by kernel_rfl) (sumQE m2 (itT g) (itC g) (itT g2) (itC g2) hm h3), ?_⟩
    show GoodQ (execF Tryz.prog gmQE (lamQE m2 (itT g) (itC g) (itT g2) (itC g2)) 100 Tryz.f23 [.sl 0 2 0 0 m2 none, .sl 1 2 0 0 m2 none] (hpQE m2 (itT g) (itC g) (itT g2) (itC g2)) (packK 2)) _
    rw [treeQES, bne_self_eq_false]
    refine good_needs (by simp only [ob_cons, ob_nil, and_true]; exact chk_of ⟨trivial, Hsim.refl _⟩) (good_out ⟨_, rfl, rfl, .cons (ABeq.row fun j hj => (allE_get h1 j hj).symm) (.cons (ABeq.row fun j hj => (allE_get h2 j hj).symm) .nil)⟩)
  · cases hF

end Go.Proofs.YtcadinbahmliiaaGreatDoor

/- The laws' helpers on lists of wheels: their table. Conditions: a list of wheels. -/
namespace Go.Proofs.YtcadinbahmliiaaGreatDoor
open Go.RowKit

noncomputable def gmH : Gam := ext (ext g0 30 (specR md_toW F_toW)) 32 (specR md_eqWS F_eqWS)
theorem gmH_ok : GamOk Tryz.prog gmH := ext_ok (ext_ok g0_ok ok_toW) ok_eqWS
theorem sameW_self (m : Nat) (f : Nat → Nat → Int) : sameW m f f = true := chk_of fun _ _ _ _ => rfl
end Go.Proofs.YtcadinbahmliiaaGreatDoor

/- The laws on found entries: trees. Conditions: bytes; entries and a list of wheels. -/
namespace Go.Proofs.YtcadinbahmliiaaGreatDoor
open Go.RowKit
set_option maxRecDepth 100000

noncomputable def gmXf (hit : (Nat → ByteArray) → (Nat → Int) → List Wh → Nat → Bool) : Gam := ext (ext (ext (ext (ext gmH 19 (specR md_szE F_szE)) 21 (specR md_toE F_toE)) 23 (specR md_eqES F_eqES)) 31 (specQ [] (FbfO hit))) 29 (specQ [] (FbfO hit))
theorem lawXf_h (hit : (Nat → ByteArray) → (Nat → Int) → List Wh → Nat → Bool) (m : Nat) (ft : Nat → ByteArray) (fc : Nat → Int) (n : Nat) (h : Nat → Nat → Int) (t1 t2 : TypeId) (u2 : _) (hu2 : [AB.row false m 2 (rowE ft fc) t1, AB.row false n 9 (row9 h) t2] = u2) (u5 : _) (hu5 : (549755813888 : Nat) = u5) (u6 : _) (hu6 : (0 : Nat) = u6) (u7 : _) (hu7 : [AV.v (.bool true)] = u7) (u8 : _) (hu8 : (allW n fun q ↦ row9 h (u6 + q)) = u8) (u9 : _) (hu9 : (274877906944 : Nat) = u9) (u10 : _) (hu10 : (Nat.ble (u6 + m) m) = u10) (u0 : _) (hu0 : (itT fun q ↦ rowE ft fc (u6 + q)) = u0) (u1 : _) (hu1 : (rowE u0 (itC fun q ↦ rowE ft fc (u6 + q))) = u1) (u3 : _) (hu3 : (row9 (itW fun q ↦ row9 h (u6 + q))) = u3) (u4 : _) (hu4 : (allE m fun q ↦ rowE ft fc (u6 + q)) = u4) (u11 : _) (hu11 : (hit (itT u1) (itC u1) (listW (itW u3) n)) = u11) (u12 : _) (hu12 : (szV u0 m (1048576 : Int) - (↑n : Int)) = u12) : execF Tryz.prog (gmXf hit) noLam 100 Tryz.f8 [.sl 0 2 0 0 m none, .sl 1 9 0 0 n none] [.row false m 2 (rowE ft fc) t1, .row false n 9 (row9 h) t2] (packK 2)
    = needs [u10, u4, smallZ m u0, decide (m ≤ (9223372036854775807 : Nat))] (bif decide (szV u0 m (1048576 : Int) < (0 : Int)) then Res.out .ret u7 u2 else bif decide (IntKind.wrap .i64 u12 < (0 : Int)) then Res.out .ret u7 u2 else bif decide (IntKind.wrap .i64 u12 < (0 : Int)) then Res.out .ret u7 u2 else needs [u10, u4, decide (m ≤ u5), Nat.ble (u6 + n) n, u8, decide (n ≤ u5), Nat.ble m m, Nat.beq n n, allE m u1, allW n u3, decide (m ≤ u9), decide (n ≤ u9), u10, u4, decide (m ≤ u5), Nat.ble (u6 + n) n, u8, decide (n ≤ u5), Nat.ble m m, Nat.beq n n, allE m u1, allW n u3, decide (m ≤ u9), decide (n ≤ u9)] (bif fstAt u11 m != fstAt u11 m then Res.out .ret [AV.v (.bool false)] u2 else needs [u10, u4, decide (m ≤ u5), Nat.ble m m, Nat.ble m m, Nat.beq m m, allE m u1, allE m u1, sameE m (itT u1) (itC u1) (itT u1) (itC u1), decide (m ≤ (1099511627776 : Nat)), Nat.ble (u6 + n) n, u8, decide (n ≤ u5), Nat.ble n n, Nat.ble n n, Nat.beq n n, allW n u3, allW n u3, sameW n (itW u3) (itW u3), decide (n ≤ (1099511627776 : Nat))] (Res.out .ret u7 u2))) := by
  subst hu12 hu11 hu4 hu3 hu1 hu0 hu10 hu9 hu8 hu7 hu6 hu5 hu2
  kernel_rfl
theorem lawXf (hit : (Nat → ByteArray) → (Nat → Int) → List Wh → Nat → Bool) (m : Nat) (ft : Nat → ByteArray) (fc : Nat → Int) (n : Nat) (h : Nat → Nat → Int) (t1 t2 : TypeId) : type_of% (lawXf_h hit m ft fc n h t1 t2 _ rfl _ rfl _ rfl _ rfl _ rfl _ rfl _ rfl _ rfl _ rfl _ rfl _ rfl _ rfl _ rfl) := lawXf_h hit m ft fc n h t1 t2 _ rfl _ rfl _ rfl _ rfl _ rfl _ rfl _ rfl _ rfl _ rfl _ rfl _ rfl _ rfl _ rfl

end Go.Proofs.YtcadinbahmliiaaGreatDoor

/- What is drawn: entries and a design. The laws FnFind, FnExactBookFind return true. Conditions: bytes; entries and a list of wheels. -/
namespace Go.Proofs.YtcadinbahmliiaaGreatDoor
open Go.RowKit
set_option maxRecDepth 100000

theorem gmXf_ok : GamOk Tryz.prog (gmXf hitB) := ext_ok (ext_ok (ext_ok (ext_ok (ext_ok gmH_ok ok_szE) ok_toE) ok_eqES) ok_bfI) ok_bfS
theorem yes_xbf (m : Nat) (e : Nat → ByteArray × Int) (n : Nat) (h : Nat → Nat → Int) (hm : m ≤ 9223372036854775807) (he : ∀ j, j < m → (e j).1.size ≤ 9223372036854775807) (hn : n ≤ 9223372036854775807) : ∃ Γ k, GamOk Tryz.prog Γ ∧ GoodQ (execF Tryz.prog Γ noLam k Tryz.f8 [.sl 0 2 0 0 m none, .sl 1 9 0 0 n none] [.row false m 2 (rowE (fun j => (e j).1) fun j => (e j).2) 24, .row false n 9 (row9 h) 96] (packK 2)) SaysYes := by
  refine ⟨_, 100, gmXf_ok, ?_⟩
  rw [lawXf]
  simp only [Nat.zero_add, itT_row, itC_row]
  generalize hft : (fun j => (e j).1) = ft
  generalize (fun j => (e j).2) = fc
  have hz : smallZ m ft = true := List.all_eq_true.2 fun j hj => by
    subst hft
    rw [Nat.ble_eq]
    exact he j (List.mem_range.1 hj)
  refine good_needs (by simp only [ob_cons, ob_nil, and_true, decide_eq_true_eq, ble_me, allE_row, hz, true_and]; omega) (good_cond (fun _ => good_out rfl) fun c1 => ?_)
  have c0 := of_decide_eq_false c1
  have c1 := szV_ge c0
  rw [wr_in (by omega)]
  refine good_cond (fun _ => good_out rfl) fun c2 => ?_
  rw [c2]
  have c2 := of_decide_eq_false c2
  have m40 : decide (m ≤ 1099511627776) = true := decide_eq_true (by omega)
  have m39 : decide (m ≤ 549755813888) = true := decide_eq_true (by omega)
  have m38 : decide (m ≤ 274877906944) = true := decide_eq_true (by omega)
  have n40 : decide (n ≤ 1099511627776) = true := decide_eq_true (by omega)
  have n39 : decide (n ≤ 549755813888) = true := decide_eq_true (by omega)
  have n38 : decide (n ≤ 274877906944) = true := decide_eq_true (by omega)
  simp only [m40, m39, m38, n40, n39, n38, row9_itW, allE_row, allW_row, sameW_self, sameE_self, ble_me, beq_me, needs_t, needs_nil, cond_false, bne_self_eq_false]
  exact good_out rfl

end Go.Proofs.YtcadinbahmliiaaGreatDoor

/- The frame of a law over an entry. No conditions. -/
namespace Go.Proofs.YtcadinbahmliiaaGreatDoor
open Go.ChangeShapes Go.WideShapes Go.ChangeAt Go.RowKit Go.Deep
set_option maxRecDepth 100000

section
variable {H : Type} {enc : TypeId × Value → H} {W : World}
theorem entry_elem (n : Nat) (cs : List Value) (x : DataW H × List MemPlace) (hl : cs.length = 2) (h : DataW.trod enc Tryz.prog W 0 (fun _ => true) true n 24 cs = some x) :
    ∃ (s : ByteArray) (c : Int), s.size ≤ maxLen ∧ cs = [.string s, .int .u32 c] := by
  obtain ⟨xs, n', _, _, _, hlen, hg⟩ := DataW.trod_struct Tryz.underlying24 h
  have h0 : DataW.trod enc Tryz.prog W 0 (fun _ => true) true n' 9 ((cs.drop 0).take (Tryz.prog.cellsOf 9)) = xs[0]? := hg 0 _ rfl
  have h1 : DataW.trod enc Tryz.prog W 0 (fun _ => true) true n' 22 ((cs.drop 1).take (Tryz.prog.cellsOf 22)) = xs[1]? := hg 1 _ rfl
  have c0 : Tryz.prog.cellsOf 9 = 1 := by kernel_rfl
  have c1 : Tryz.prog.cellsOf 22 = 1 := by kernel_rfl
  have hx0 : xs[0]? = some (xs[0]'(by rw [hlen]; decide)) := List.getElem?_eq_getElem _
  have hx1 : xs[1]? = some (xs[1]'(by rw [hlen]; decide)) := List.getElem?_eq_getElem _
  rw [hx0, c0] at h0
  rw [hx1, c1] at h1
  obtain ⟨s, e0, _, hs⟩ := DataW.trod_string Tryz.underlying9 h0
  obtain ⟨k, e1, _, _⟩ := DataW.trod_int Tryz.underlying22 h1
  match cs, hl with
  | [a, b], _ =>
    simp at e0 e1
    subst e0 e1
    exact ⟨s, k, hs, rfl⟩
end

end Go.Proofs.YtcadinbahmliiaaGreatDoor

/- A list of wheels that came in. No conditions. -/
namespace Go.Proofs.YtcadinbahmliiaaGreatDoor
open Go.ChangeShapes Go.WideShapes Go.ChangeAt Go.RowKit Go.Deep
set_option maxRecDepth 100000

section
variable {H : Type} {enc : TypeId × Value → H} {W : World}
theorem cyc_elemL (n : Nat) (cs : List Value) (x : DataW H × List MemPlace) (hl : cs.length = 8) (h : DataW.trod enc Tryz.prog W 0 (fun _ => true) true n 94 cs = some x) :
    ∃ f : Nat → Int, cs = [i64 (f 0), i64 (f 1), i64 (f 2), i64 (f 3), i64 (f 4), i64 (f 5), i64 (f 6), i64 (f 7)] := by
  obtain ⟨xs, n', _, _, _, hlen, hg⟩ := DataW.trod_struct Tryz.underlying94 h
  have h0 : DataW.trod enc Tryz.prog W 0 (fun _ => true) true n' 71 ((cs.drop 0).take (Tryz.prog.cellsOf 71)) = xs[0]? := hg 0 _ rfl
  have hx0 : xs[0]? = some (xs[0]'(by rw [hlen]; decide)) := List.getElem?_eq_getElem _
  rw [hx0] at h0
  obtain ⟨ys, n2, _, _, _, hlen2, hg2⟩ := DataW.trod_array Tryz.underlying71 h0
  have c44 : Tryz.prog.cellsOf 71 = 8 := by kernel_rfl
  have c3 : Tryz.prog.cellsOf 3 = 1 := by kernel_rfl
  simp only [c44, c3, List.drop_zero, Nat.mul_one, List.take_of_length_le (Nat.le_of_eq hl)] at hg2
  have each : ∀ i, i < 8 → ∃ k, (cs.drop i).take 1 = [i64 k] := by
    intro i hi
    have h1 := hg2 i hi
    have hy : ys[i]? = some (ys[i]'(by omega)) := List.getElem?_eq_getElem _
    rw [hy] at h1
    obtain ⟨k, e1, _, _⟩ := DataW.trod_int Tryz.underlying3 h1
    exact ⟨k, e1⟩
  match cs, hl with
  | [c0, c1, c2, c3, c4, c5, c6, c7], _ =>
    obtain ⟨k0, e0⟩ := each 0 (by omega)
    obtain ⟨k1, e1⟩ := each 1 (by omega)
    obtain ⟨k2, e2⟩ := each 2 (by omega)
    obtain ⟨k3, e3⟩ := each 3 (by omega)
    obtain ⟨k4, e4⟩ := each 4 (by omega)
    obtain ⟨k5, e5⟩ := each 5 (by omega)
    obtain ⟨k6, e6⟩ := each 6 (by omega)
    obtain ⟨k7, e7⟩ := each 7 (by omega)
    simp at e0 e1 e2 e3 e4 e5 e6 e7
    subst e0 e1 e2 e3 e4 e5 e6 e7
    exact ⟨v8 k0 k1 k2 k3 k4 k5 k6 k7, rfl⟩
theorem wheel_elem (n : Nat) (cs : List Value) (x : DataW H × List MemPlace) (hl : cs.length = 9) (h : DataW.trod enc Tryz.prog W 0 (fun _ => true) true n 96 cs = some x) :
    ∃ f : Nat → Int, True ∧ cs = [i64 (f 0), i64 (f 1), i64 (f 2), i64 (f 3), i64 (f 4), i64 (f 5), i64 (f 6), i64 (f 7), i64 (f 8)] := by
  obtain ⟨xs, n', _, _, _, hlen, hg⟩ := DataW.trod_struct Tryz.underlying96 h
  have h0 : DataW.trod enc Tryz.prog W 0 (fun _ => true) true n' 3 ((cs.drop 0).take (Tryz.prog.cellsOf 3)) = xs[0]? := hg 0 _ rfl
  have h1 : DataW.trod enc Tryz.prog W 0 (fun _ => true) true n' 94 ((cs.drop 1).take (Tryz.prog.cellsOf 94)) = xs[1]? := hg 1 _ rfl
  have c3 : Tryz.prog.cellsOf 3 = 1 := by kernel_rfl
  have c8 : Tryz.prog.cellsOf 94 = 8 := by kernel_rfl
  have hx0 : xs[0]? = some (xs[0]'(by rw [hlen]; decide)) := List.getElem?_eq_getElem _
  have hx1 : xs[1]? = some (xs[1]'(by rw [hlen]; decide)) := List.getElem?_eq_getElem _
  rw [hx0, c3] at h0
  rw [hx1, c8] at h1
  obtain ⟨k, e0, _, _⟩ := DataW.trod_int Tryz.underlying3 h0
  match cs, hl with
  | [c0, c1, c2, c3, c4, c5, c6, c7, c8], _ =>
    obtain ⟨f, ef⟩ := cyc_elemL _ _ _ (by simp) h1
    simp at e0 ef
    obtain ⟨rfl, rfl, rfl, rfl, rfl, rfl, rfl, rfl⟩ := ef
    subst e0
    exact ⟨whN ⟨k, ⟨f 0, f 1, f 2, f 3, f 4, f 5, f 6, f 7⟩⟩, trivial, rfl⟩
end

end Go.Proofs.YtcadinbahmliiaaGreatDoor

/- The frames of laws over a list of entries. No conditions. -/
namespace Go.Proofs.YtcadinbahmliiaaGreatDoor
open Go.ChangeShapes Go.WideShapes Go.ChangeAt Go.RowKit Go.Deep
set_option maxRecDepth 100000

section
variable {H : Type} {enc : TypeId × Value → H} {P : Program}
theorem arg_rowG {α : Type} (a0 : α) {W : World} {base s : Nat} {t e : TypeId} {v : Value} {d : DataW H} {p : List MemPlace} (ht : P.underlying t = some (.slice e)) (hc : P.cellsOf e = s) (hs : 0 < s) (hv : Value.okWide P W .any base t v)
    (h : DataW.Trod enc P W 0 (fun _ => true) true t v d p) (row : α → List Value) (ok : α → Prop) (hrow : ∀ f, (row f).length = s ∧ ∀ x ∈ row f, x.oneCell' = true)
    (he : ∀ n cs x, cs.length = s → DataW.trod enc P W 0 (fun _ => true) true n e cs = some x → ∃ f, ok f ∧ cs = row f) (tt : TypeId) (htab : TabOk (fun k => W.heap.size ≤ k) W) :
    ∃ (m : Nat) (ν : Nu) (g : Nat → α), m ≤ 9223372036854775807 ∧ (∀ j, j < m → ok (g j)) ∧ VR ν (.sl 0 s 0 0 m none) v ∧ RH (fun k => W.heap.size ≤ k) ν (fun b => ([AB.row false m s (fun j => row (g j)) tt] : List AB).getD b .gone) W ∧ ∀ i b, ν i = some b → i < 1 := by
  obtain ⟨pt, len, cap, rfl⟩ := okWide_slice ht hv
  obtain ⟨fuel, hf⟩ := h
  have empty : ∀ c, VR (fun _ => none) (.sl 0 s 0 0 0 none) (.slice pt 0 c) → ∃ (m : Nat) (ν : Nu) (g : Nat → α), m ≤ 9223372036854775807 ∧ (∀ j, j < m → ok (g j)) ∧ VR ν (.sl 0 s 0 0 m none) (.slice pt 0 c) ∧ RH (fun k => W.heap.size ≤ k) ν (fun b => ([AB.row false m s (fun j => row (g j)) tt] : List AB).getD b .gone) W ∧ ∀ i b, ν i = some b → i < 1 := by
    intro c hvr
    refine ⟨0, fun _ => none, fun _ => a0, by omega, fun j hj => by omega, hvr, ⟨fun i => ?_, fun i j b b' _ _ _ h => by simp at h, fun i b _ h => by simp at h, (fun i b h => by simp at h), htab⟩, fun i b h => by simp at h⟩
    match i with
    | 0 => exact .inl ⟨rfl, rfl, rfl⟩
    | n + 1 => trivial
  rcases open_slice ht hf with ⟨h0, _⟩ | ⟨a, len', cap', m, n, D, Pl, hcs, hb, hl, hm, hmm, hx, hi⟩
  · simp only [Value.cells] at h0
    simp at h0
    obtain ⟨rfl, rfl, rfl⟩ := h0
    exact empty 0 (by simp only [VR]; exact ⟨none, 0, rfl, by simp, Nat.le_refl _, by omega⟩)
  · simp only [Value.cells] at hcs
    simp at hcs
    obtain ⟨rfl, rfl, rfl⟩ := hcs
    simp only [if_true] at hmm
    subst hmm
    unfold maxLen at hm
    by_cases hz : m = 0
    · subst hz
      have : len = 0 := by omega
      subst this
      exact empty 0 (by simp only [VR]; exact ⟨some a, 0, rfl, by simp, Nat.le_refl _, by omega⟩)
    · have cells : ∀ i, ∃ f, i < m → ok f ∧ ∀ k, k < s → W.cell? ((a.add (i * s)).add k) = (row f)[k]? := by
        intro i
        by_cases him : i < m
        · obtain ⟨cs', h1, h2⟩ := hi i him
          rw [hc] at h1
          obtain ⟨_, h3, h4⟩ := World.cells?_some h1
          obtain ⟨f, h5, h6⟩ := he n cs' _ h3 h2
          exact ⟨f, fun _ => ⟨h5, fun k hk => by rw [h4 k hk, h6]⟩⟩
        · exact ⟨a0, fun h => absurd h him⟩
      have get : ∀ i k, i < m → k < s → ∃ x, (row (Classical.choose (cells i)))[k]? = some x := fun i k _ hk => by
        have := (hrow (Classical.choose (cells i))).1
        exact ⟨_, List.getElem?_eq_getElem (by omega)⟩
      obtain ⟨x0, hx0⟩ := get 0 0 (by omega) hs
      have c0 := ((Classical.choose_spec (cells 0)) (by omega)).2 0 hs
      rw [hx0, Nat.zero_mul] at c0
      have hspot : a.spot = none := by
        have := World.cell?_spot c0
        simpa [Addr.add] using this
      obtain ⟨bl, off, sp⟩ := a
      simp only at hspot
      subst hspot
      have e0 : ((⟨bl, off, none⟩ : Addr).add 0).add 0 = ⟨bl, off, none⟩ := by simp [Addr.add]
      rw [e0] at c0
      obtain ⟨o, ho⟩ : ∃ o, W.heap[bl]? = some o := by
        unfold World.cell? at c0
        split at c0
        · exact ⟨_, by assumption⟩
        · cases c0
      obtain ⟨l, t', fz, rfl⟩ : ∃ l t' fz, o = .cells (List.toArray l) t' fz := by
        unfold World.cell? at c0
        simp only [ho] at c0
        cases o with
        | cells c t' fz => exact ⟨c.toList, t', fz, by simp⟩
        | _ => cases c0
      refine ⟨len, fun i => if i = 0 then some ⟨bl, off, m⟩ else none, fun i => Classical.choose (cells i), by omega, fun j hj => ((Classical.choose_spec (cells j)) (by omega)).1, ?_, ⟨fun i => ?_, fun i j b b' hij hw _ h1 h2 => ?_, fun i b hw h1 => ?_, fun i b h1 => ?_, htab⟩, fun i b h1 => ?_⟩
      · simp only [VR]
        exact ⟨_, m, rfl, by simp, hl, fun _ => ⟨_, rfl, by simp⟩⟩
      · match i with
        | 0 =>
          refine .inr ⟨⟨bl, off, m⟩, l, t', fz, rfl, ho, fun h => by simp at h, hl, fun j hj => ⟨hrow _, fun k hk => ?_⟩⟩
          have := ((Classical.choose_spec (cells j)) (by omega)).2 k hk
          rw [← this]
          have e1 : ((⟨bl, off, none⟩ : Addr).add (j * s)).add k = ⟨bl, off + (j * s + k), none⟩ := by
            rw [addr_add, addr_add, Nat.add_assoc]
          rw [e1, cell_at ho]
        | n + 1 => trivial
      · match i with
        | 0 => simp [AB.wr] at hw
        | n + 1 => simp at h1
      · match i with
        | 0 => simp [AB.wr] at hw
        | n + 1 => simp at h1
      · match i with
        | 0 =>
          simp at h1
          subst h1
          exact (Array.getElem?_eq_some_iff.1 ho).1
        | n + 1 => simp at h1
      · match i with
        | 0 => omega
        | n + 1 => simp at h1
end
abbrev rowP (p : ByteArray × Int) : List Value := [.string p.1, .int .u32 p.2]
section
variable {H : Type} {enc : TypeId × Value → H} {W : World}
theorem entry_el (n : Nat) (cs : List Value) (x : DataW H × List MemPlace) (hl : cs.length = 2) (h : DataW.trod enc Tryz.prog W 0 (fun _ => true) true n 24 cs = some x) :
    ∃ f : ByteArray × Int, f.1.size ≤ 9223372036854775807 ∧ cs = rowP f := by
  obtain ⟨s, c, hs, e⟩ := entry_elem n cs x hl h
  exact ⟨(s, c), hs, e⟩
end
theorem contractEW {f : FuncId} {fn : Func} {spec : ChangeSpec} (hf : Tryz.prog.funcs[f]? = some fn) (hp : fn.params = #[39, 49]) (hr : fn.resultTypes = #[4]) (hvars : spec.vars = []) (hspec : ∀ (H : Type) (d d' : DataW H), spec.fn H [d, d'] = { results := [.lit (.bool true)], args := [d, d'] })
    (yes : ∀ (m : Nat) (e : Nat → ByteArray × Int) (n : Nat) (b : Nat → Nat → Int), m ≤ 9223372036854775807 → (∀ j, j < m → (e j).1.size ≤ 9223372036854775807) → n ≤ 9223372036854775807 → ∃ Γ k, GamOk Tryz.prog Γ ∧ GoodQ (execF Tryz.prog Γ noLam k fn [.sl 0 2 0 0 m none, .sl 1 9 0 0 n none] [.row false m 2 (fun j => rowP (e j)) 24, .row false n 9 (row9 b) 96] (packK 2)) SaysYes)
    (H : Type) (enc : TypeId × Value → H) (W : World) (base : Nat) (args : Array Value) (ds gs : List (DataW H)) (before : List MemPlace)
    (hval : ∀ (j : Nat) t v, fn.params[j]? = some t → args[j]? = some v → Value.okWide Tryz.prog W .any base t v)
    (hW : DataW.Whole enc Tryz.prog fn.params.toList spec.vars false W args.toList ds gs before) (htab : TabOk (fun k => W.heap.size ≤ k) W) :
    Calls Tryz.prog f args W fun e W' => ∃ v, e = .returned v ∧ spec.post enc Tryz.prog fn false true false false W args v W' := by
  have hW' := hW
  obtain ⟨p, q, hA0, hV, rfl, hfz, hnd⟩ := hW
  have hA : DataW.TrodAll enc Tryz.prog W 0 (fun _ => true) true fn.params.toList args.toList ds p := hA0
  rw [hp] at hA hval
  rw [hvars] at hV
  obtain ⟨v0, v1, d0, d1, p0, p1, rfl, rfl, rfl, h0, h1⟩ := trodAll_two hA
  obtain ⟨rfl, rfl⟩ := trodVars_none hV
  clear hA0 hA
  obtain ⟨m, ν, g, hm, hg, hvr, hRH, hdom⟩ := arg_rowG (H := H) ((⟨#[]⟩, 0) : ByteArray × Int) Tryz.underlying39 (by kernel_rfl) (by omega) (hval 0 39 v0 rfl rfl) h0 rowP (fun f => f.1.size ≤ 9223372036854775807) (fun f => ⟨rfl, by simp [rowP, Value.oneCell']⟩) entry_el 24 htab
  obtain ⟨n, ν2, g2, hn, _, hvr2, hRH2, hdom2⟩ := arg_row (H := H) Tryz.underlying49 (by kernel_rfl) (by omega) (hval 1 49 v1 rfl rfl) h1 (fun f => [i64 (f 0), i64 (f 1), i64 (f 2), i64 (f 3), i64 (f 4), i64 (f 5), i64 (f 6), i64 (f 7), i64 (f 8)]) (fun _ => True) (fun f => ⟨rfl, by simp [Value.oneCell']⟩) wheel_elem 96 htab
  obtain ⟨Γ, k, hΓ, hgood⟩ := yes m g n g2 hm hg hn
  have hb0 : ∀ i, BR (fun i => if i = 0 then ν 0 else if i = 1 then ν2 0 else none) i (([.row false m 2 (fun j => rowP (g j)) 24, .row false n 9 (row9 g2) 96] : List AB).getD i .gone) W := by
    intro i
    match i with
    | 0 => exact hRH.br 0
    | 1 => exact hRH2.br 0
    | i + 2 => trivial
  have hw0 : ∀ i, ((([.row false m 2 (fun j => rowP (g j)) 24, .row false n 9 (row9 g2) 96] : List AB).getD i .gone).wr = true) → False := by
    intro i hw
    match i with
    | 0 => cases hw
    | 1 => cases hw
    | i + 2 => cases hw
  have hl0 : ∀ i b, (if i = 0 then ν 0 else if i = 1 then ν2 0 else none) = some b → b.n < W.heap.size ∧ i < 2 := by
    intro i b hb
    match i with
    | 0 => exact ⟨hRH.lt 0 b (by simpa using hb), by omega⟩
    | 1 => exact ⟨hRH2.lt 0 b (by simpa using hb), by omega⟩
    | i + 2 => simp at hb
  have hcall := yes_calls hΓ (n := k) (vals := [v0, v1]) (w := W) (ν := fun i => if i = 0 then ν 0 else if i = 1 then ν2 0 else none) hf (Λ := noLam) (fun c _ => noLam_ok _ _ _) hgood
    (by
      simp only [VRs, VR, and_true] at hvr hvr2 ⊢
      exact ⟨by simpa using hvr, by simpa using hvr2⟩)
    ⟨hb0, fun i j b b' _ hw => (hw0 i hw).elim, fun i b hw => (hw0 i hw).elim, (fun i b hb => (hl0 i b hb).1), htab⟩ (fun i b hb => (hl0 i b hb).2)
  refine hcall.mono fun e W' ⟨he, hb⟩ => ?_
  subst he
  have hlt : ∀ x ∈ (p0 ++ p1), x.block < W.heap.size := fun x hx => by simpa using hW'.lt x (by simpa using hx)
  refine ⟨_, rfl, post_below (pa := (p0 ++ p1)) (pv := []) hW' ?_ ?_ ?_ (by simp) hb ?_⟩
  · intro b sp hd
    rw [hr]
    simp only [List.append_nil, hspec]
    exact trodAll_cons_mk (shut_bool Tryz.underlying4 _) trodAll_mk0
  · intro sp hsp
    rw [hp]
    simp only [List.append_nil, hspec]
    refine trodAll_mk2 (WideElems.Trod_stays laidOut (by kernel_rfl) (of_decide_eq_true (by kernel_rfl)) h0 (fun x hx => hb.same (hlt x (by simp [hx]))) fun x hx => hsp x (by simp [hx])) (WideElems.Trod_stays laidOut (by kernel_rfl) (of_decide_eq_true (by kernel_rfl)) h1 (fun x hx => hb.same (hlt x (by simp [hx]))) fun x hx => hsp x (by simp [hx]))
  · intro sp _
    rw [hvars]
    simp only [List.append_nil, hspec]
    rfl
  · exact ok_one hr rfl (okWide_bool_mk Tryz.underlying4 _)

end Go.Proofs.YtcadinbahmliiaaGreatDoor
