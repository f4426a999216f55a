/- RowDesign of the program and of the reference return the same, for whatever list of points: FnExactRowDesign returns true, and its argument reads as before. No conditions. -/
import Derived.Test.YtmdcafhnjihckaaZD0
import Derived.Test.YtmdcafhnjihckaaZD1
import Derived.Test.YtmdcafhnjihckaaZD2
import Derived.Test.YtmdcafhnjihckaaZD3
import Derived.Test.YtmdcafhnjihckaaZD4
import Derived.Test.YtmdcafhnjihckaaZD5
import Derived.Test.YtmdcafhnjihckaaZD6
import Derived.Test.YtmdcafhnjihckaaZKXr0
/- The reference's transform: trees. Conditions: a row of points. -/
namespace Go.Proofs.Ytmdcafhnjihckaa
open Go.RowKit
set_option maxRecDepth 100000

noncomputable abbrev lamTs2 (m : Nat) (f : Nat → Nat → Int) (i : Nat) (h : Nat → Nat → Int) (c : Bool) (s : Nat → Int) : Nat → Option Sum := oneL 2 (atS 54 (lvTs2 .normal) 1 (stTs2 m (-1) i 0) (hpTs2 m f i h fun _ => 0) (fun K => cond c (K .normal (mkT 0 54 [(0, .sl 0 8 0 0 m none), (1, .v (i64 (-1))), (6, .own 1 i), (7, .v (i64 m)), (8, .v (i64 i)), (9, .ptr 2 0 0 0)]) (hpTs2 m f i h s)) (K .ret (mkT 0 54 [(4, .own 1 0), (5, .v (.bool false))]) [.row false m 8 (row8 f) 31, .row true 0 8 (fun _ => []) 31])))
abbrev lvTs0 : Ex → List Nat := lv3 [0, 1, 6, 7, 8] [6] [4, 5]
abbrev stTs0 (m : Nat) (i : Nat) : List AV := [.sl 0 8 0 0 m none, .v (i64 (-1)), .own 1 i, .v (i64 m), .v (i64 i)]
abbrev hpTs0 (m : Nat) (f : Nat → Nat → Int) (i : Nat) (h : Nat → Nat → Int) : List AB := [.row false m 8 (row8 f) 31, .row true i 8 (row8 h) 31]
theorem rndTs0 (m : Nat) (f : Nat → Nat → Int) (i : Nat) (h : Nat → Nat → Int) (c : Bool) (s : Nat → Int) : execC Try.prog g0 100 (lamTs2 m f i h c s) (loopAt 0 fTs) (mkT 0 54 ((lvTs0 .normal).zip (stTs0 m i))) (hpTs0 m f i h) (leafV 54 lvTs0 1)
    = bif decide ((↑i : Int) < (↑m : Int)) then needs [chk ([AV.sl (0 : Nat) (8 : Nat) (0 : Nat) (0 : Nat) m none, AV.v (Value.int IntKind.i64 (-1 : Int)), AV.own (1 : Nat) i, AV.v (Value.int IntKind.i64 (↑m : Int)), AV.v (Value.int IntKind.i64 (↑i : Int)), AV.ptr (2 : Nat) (0 : Nat) (0 : Nat) (0 : Nat), AV.v (Value.int IntKind.i64 (0 : Int))] = stTs2 m (-1 : Int) i (0 : Nat) ∧ Hsim [AB.row false m (8 : Nat) (row8 f) (31 : TypeId), AB.row true i (8 : Nat) (row8 h) (31 : TypeId), AB.cells [AV.v (Value.int IntKind.i64 (0 : Int)), AV.v (Value.int IntKind.i64 (0 : Int)), AV.v (Value.int IntKind.i64 (0 : Int)), AV.v (Value.int IntKind.i64 (0 : Int)), AV.v (Value.int IntKind.i64 (0 : Int)), AV.v (Value.int IntKind.i64 (0 : Int)), AV.v (Value.int IntKind.i64 (0 : Int)), AV.v (Value.int IntKind.i64 (0 : Int))] (31 : Nat)] (hpTs2 m f i h fun _ ↦ (0 : Int)))] (bif c then needs [Nat.ble i i, Nat.ble (i + (1 : Nat)) (549755813888 : Nat)] (Res.out Ex.normal [AV.sl (0 : Nat) (8 : Nat) (0 : Nat) (0 : Nat) m none, AV.v (Value.int IntKind.i64 (-1 : Int)), AV.own (1 : Nat) (i + (1 : Nat)), AV.v (Value.int IntKind.i64 (↑m : Int)), AV.v (Value.int IntKind.i64 (IntKind.wrap IntKind.i64 ((↑i : Int) + (1 : Int))))] [AB.row false m (8 : Nat) (row8 f) (31 : TypeId), AB.row true (i + (1 : Nat)) (8 : Nat) (fun q ↦ [Value.int IntKind.i64 (bif Nat.blt q i then h q (0 : Nat) else s (0 : Nat)), Value.int IntKind.i64 (bif Nat.blt q i then h q (1 : Nat) else s (1 : Nat)), Value.int IntKind.i64 (bif Nat.blt q i then h q (2 : Nat) else s (2 : Nat)), Value.int IntKind.i64 (bif Nat.blt q i then h q (3 : Nat) else s (3 : Nat)), Value.int IntKind.i64 (bif Nat.blt q i then h q (4 : Nat) else s (4 : Nat)), Value.int IntKind.i64 (bif Nat.blt q i then h q (5 : Nat) else s (5 : Nat)), Value.int IntKind.i64 (bif Nat.blt q i then h q (6 : Nat) else s (6 : Nat)), Value.int IntKind.i64 (bif Nat.blt q i then h q (7 : Nat) else s (7 : Nat))]) (31 : Nat)]) else Res.out Ex.ret [AV.own (1 : Nat) (0 : Nat), AV.v (Value.bool false)] [AB.row false m (8 : Nat) (row8 f) (31 : TypeId), AB.row true (0 : Nat) (8 : Nat) (fun _ ↦ []) (31 : TypeId)]) else Res.out (Ex.exit (0 : Nat)) [AV.own (1 : Nat) i] [AB.row false m (8 : Nat) (row8 f) (31 : TypeId), AB.row true i (8 : Nat) (row8 h) (31 : TypeId)] := by kernel_rfl

theorem rndTs0e (m : Nat) (f : Nat → Nat → Int) (i : Nat) (h : Nat → Nat → Int) : execC Try.prog g0 100 (oneL 2 errS) (loopAt 0 fTs) (mkT 0 54 ((lvTs0 .normal).zip (stTs0 m i))) (hpTs0 m f i h) (leafV 54 lvTs0 1)
    = bif decide ((↑i : Int) < (↑m : Int)) then Res.err else Res.out (Ex.exit (0 : Nat)) [AV.own (1 : Nat) i] [AB.row false m (8 : Nat) (row8 f) (31 : TypeId), AB.row true i (8 : Nat) (row8 h) (31 : TypeId)] := by kernel_rfl

noncomputable abbrev lamTs0 (m : Nat) (f : Nat → Nat → Int) (h : Nat → Nat → Int) (c : Bool) : Nat → Option Sum := oneL 0 (atS 54 (lvTs0 .normal) 1 (stTs0 m 0) (hpTs0 m f 0 fun _ _ => 0) (fun K => cond c (K .normal (mkT 0 54 [(6, .own 1 m)]) (hpTs0 m f m h)) (K .ret (mkT 0 54 [(4, .own 1 0), (5, .v (.bool false))]) [.row false m 8 (row8 f) 31, .row true 0 8 (fun _ => []) 31])))
def gmTsV (rv : (Nat → Nat → Int) → Nat → Bool) : Gam := ext g0 163 (specR md_c8 (FrvO rv))
theorem treeTs (rv : (Nat → Nat → Int) → Nat → Bool) (m : Nat) (f : Nat → Nat → Int) (h : Nat → Nat → Int) (c : Bool) : execF Try.prog (gmTsV rv) (lamTs0 m f h c) 100 fTs [.sl 0 8 0 0 m none, .v (i64 (-1))] (hpIy m f) (packK 1)
    = needs [Nat.ble ((0 : Nat) + m) m, all8 m fun q ↦ row8 f ((0 : Nat) + q), decide (m ≤ (274877906944 : Nat))] (bif !rv (it8 fun q ↦ row8 f ((0 : Nat) + q)) m then Res.out Ex.ret [AV.tup [AV.own (1 : Nat) (0 : Nat), AV.v (Value.bool false)]] [AB.row false m (8 : Nat) (row8 f) (31 : TypeId), AB.row true (0 : Nat) (8 : Nat) (fun _ ↦ []) (31 : Nat)] else needs [chk ([AV.sl (0 : Nat) (8 : Nat) (0 : Nat) (0 : Nat) m none, AV.v (Value.int IntKind.i64 (-1 : Int)), AV.own (1 : Nat) (0 : Nat), AV.v (Value.int IntKind.i64 (↑m : Int)), AV.v (Value.int IntKind.i64 (0 : Int))] = stTs0 m (0 : Nat) ∧ Hsim [AB.row false m (8 : Nat) (row8 f) (31 : TypeId), AB.row true (0 : Nat) (8 : Nat) (fun _ ↦ []) (31 : Nat)] (hpTs0 m f (0 : Nat) fun x x_1 ↦ (0 : Int)))] (bif c then Res.out Ex.ret [AV.tup [AV.own (1 : Nat) m, AV.v (Value.bool true)]] [AB.row false m (8 : Nat) (row8 f) (31 : TypeId), AB.row true m (8 : Nat) (row8 h) (31 : TypeId)] else Res.out Ex.ret [AV.tup [AV.own (1 : Nat) (0 : Nat), AV.v (Value.bool false)]] [AB.row false m (8 : Nat) (row8 f) (31 : TypeId), AB.row true (0 : Nat) (8 : Nat) (fun _ ↦ []) (31 : TypeId)])) := by kernel_rfl

theorem treeTse (rv : (Nat → Nat → Int) → Nat → Bool) (m : Nat) (f : Nat → Nat → Int) : execF Try.prog (gmTsV rv) (oneL 0 errS) 100 fTs [.sl 0 8 0 0 m none, .v (i64 (-1))] (hpIy m f) (packK 1)
    = needs [Nat.ble ((0 : Nat) + m) m, all8 m fun q ↦ row8 f ((0 : Nat) + q), decide (m ≤ (274877906944 : Nat)), !rv (it8 fun q ↦ row8 f ((0 : Nat) + q)) m] (Res.out Ex.ret [AV.tup [AV.own (1 : Nat) (0 : Nat), AV.v (Value.bool false)]] [AB.row false m (8 : Nat) (row8 f) (31 : TypeId), AB.row true (0 : Nat) (8 : Nat) (fun _ ↦ []) (31 : Nat)]) := by kernel_rfl

end Go.Proofs.Ytmdcafhnjihckaa

/- The reference's transform: its word. Conditions: a row of points. -/
namespace Go.Proofs.Ytmdcafhnjihckaa
open Go.RowKit
set_option maxRecDepth 100000

theorem ag_eq2 {n j k : Int} (hn : roV n = true) (hj : 0 ≤ j ∧ j ≤ 23) (hk : 0 ≤ k ∧ k ≤ 23) :
    IntKind.wrap IntKind.i64 (IntKind.wrap IntKind.i64 (IntKind.wrap IntKind.i64 (-1 * j) * k) * IntKind.wrap IntKind.i64 (Int.tdiv 24 n)) = agC n j k := by
  have hv := roV_in hn
  obtain ⟨n', rfl⟩ := Int.eq_ofNat_of_zero_le (show 0 ≤ n by omega)
  have hq := tdiv24 (n := n') (by omega) (by omega)
  have hjk := mul_bd (x := j) (y := k) (A := 23) (B := 23) (by omega) hj.2 (by omega) hk.2
  have hjk0 := Int.mul_nonneg hj.1 hk.1
  have b2 := mul_bd (x := -(j * k)) (y := Int.tdiv 24 (n' : Int)) (A := 529) (B := 24) (by omega) (by omega) (by omega) hq.2
  rw [wr_in (x := -1 * j) (by omega), show -1 * j * k = -(j * k) by rw [Int.neg_mul, Int.one_mul, Int.neg_mul], wr_in (x := -(j * k)) (by omega), wr_in (x := Int.tdiv 24 (n' : Int)) (by omega), wr_in (by omega)]
  rfl
theorem sumF1 (a b : Nat → Int) : sumF a 1 b = plusF a b := by
  funext k
  simp only [sumF, plusF, Int.one_mul]
theorem gmTs2_ok : GamOk Try.prog (gmTs2 (fun n => n % 24) (fun a n => turnedF a n.toNat) sumF fun v => cyOk (cyOf v)) := by
  unfold gmTs2
  rw [fMd_eq, FtuO_eq, fAdd3_eq, fOkc_eq]
  exact ext_ok (ext_ok (ext_ok (ext_ok g0_ok ok_l1Mod) ok_turnedS) ok_cv) ok_l2Sum
theorem sumTs2 (f : Nat → Nat → Int) (m i : Nat) (h : Nat → Nat → Int) (hn : roV m = true) (hi : i < m) :
    SumOk Try.prog 1 (.block 2 (.loop (loopAt 2 fTs))) (atS 54 (lvTs2 .normal) 1 (stTs2 m (-1) i 0) (hpTs2 m f i h fun _ => 0) (fun K => cond (trK f m i) (K .normal (mkT 0 54 [(0, .sl 0 8 0 0 m none), (1, .v (i64 (-1))), (6, .own 1 i), (7, .v (i64 m)), (8, .v (i64 i)), (9, .ptr 2 0 0 0)]) (hpTs2 m f i h (trS f m i m))) (K .ret (mkT 0 54 [(4, .own 1 0), (5, .v (.bool false))]) [.row false m 8 (row8 f) 31, .row true 0 8 (fun _ => []) 31]))) := by
  refine for_at gmTs2_ok (n := 100) (m := 1) (lv := lvTs2) (fun k => stTs2 m (-1) i k) (fun k => hpTs2 m f i h (trS f m i k)) (fun k => noneTo (trB f m i) k = true) m (fun _ => noLam) (lv3_ris rfl rfl rfl) (Nat.le_refl _) rfl fun K Q hk k hno hkm => ⟨noLam_ok _ _ _, ?_⟩
  have hv := roV_in hn
  rw [rndTs2]
  simp only [Int.toNat_natCast, Nat.zero_add]
  refine good_cond (fun c1 => ?_) fun c1 => ?_
  · have c1 := of_decide_eq_true c1
    have c1' : k < m := by omega
    rw [ag_eq2 hn (j := (i : Int)) (k := (k : Int)) (by omega) (by omega), sumF1, wr_in (x := (k : Int) + 1) (by omega)]
    have hmod : agC (m : Int) i k % 24 ≤ 1099511627776 := by omega
    refine good_needs (by simp only [ob_cons, ob_nil, and_true, decide_eq_true_eq, Bool.not_eq_true', decide_eq_false_iff_not]; omega) (good_cond (fun q => ?_) fun q => ?_)
    · refine good_out ⟨_, Hsim.refl _, ?_⟩
      have hb : trB f m i k = true := q
      have : trK f m i = false := by
        rw [trK, Int.toNat_natCast]
        exact noneTo_no c1' hb
      rw [this] at hk
      exact hk
    · exact good_out ⟨k + 1, ⟨rfl, c1', noneTo_succ hno q⟩, rfl, Hsim.refl _⟩
  · have c1 := of_decide_eq_false c1
    have : k = m := by omega
    subst this
    refine good_out ⟨_, Hsim.refl _, ?_⟩
    rw [if_pos rfl]
    have : trK f k i = true := by
      rw [trK, Int.toNat_natCast]
      exact hno
    rw [this] at hk
    exact hk
theorem sumTs0 (f : Nat → Nat → Int) (m : Nat) (hv : rvB f m = true) :
    SumOk Try.prog 1 (.block 0 (.loop (loopAt 0 fTs))) (atS 54 (lvTs0 .normal) 1 (stTs0 m 0) (hpTs0 m f 0 fun _ _ => 0) (fun K => cond (tkB f m) (K .normal (mkT 0 54 [(6, .own 1 m)]) (hpTs0 m f m (trF f m))) (K .ret (mkT 0 54 [(4, .own 1 0), (5, .v (.bool false))]) [.row false m 8 (row8 f) 31, .row true 0 8 (fun _ => []) 31]))) := by
  have hv2 := rvB_parts hv
  have hn := roV_in hv2.1
  refine for_at g0_ok (n := 100) (m := 1) (lv := lvTs0) (fun i => stTs0 m i) (fun i => hpTs0 m f i (bif Nat.beq i 0 then (fun _ _ => 0) else trF f m)) (fun i => noneTo (tbK f m) i = true) m (fun i => bif Nat.blt i m then lamTs2 m f i (bif Nat.beq i 0 then (fun _ _ => 0) else trF f m) (trK f m i) (trS f m i m) else oneL 2 errS) (lv3_ris rfl rfl rfl) (Nat.le_refl _) rfl fun K Q hk i hno hi => ?_
  have ho : ∀ j, j < i → (bif Nat.beq i 0 then (fun _ _ => (0 : Int)) else trF f m) j = trF f m j := by
    intro j hj
    cases i with
    | zero => exact absurd hj (Nat.not_lt_zero _)
    | succ i => rfl
  by_cases hlt : i < m
  · have b : Nat.blt i m = true := by rw [Nat.blt_eq]; exact hlt
    rw [b, cond_true]
    refine ⟨lamC (c := loopAt 2 fTs) (by kernel_rfl) (sumTs2 f m i _ hv2.1 hlt), ?_⟩
    rw [rndTs0]
    refine good_true (decide_eq_true (by omega)) (good_needs (by rw [ob_cons]; exact ⟨chk_of ⟨rfl, Hsim.refl _⟩, rfl⟩) (good_cond (fun q => ?_) fun q => ?_))
    · rw [wr_in (x := (i : Int) + 1) (by omega)]
      have hb : tbK f m i = false := by rw [tbK, q]; rfl
      have hs : trV f m i = trS f m i m := by rw [trV, q, Int.toNat_natCast]; rfl
      refine good_needs (by simp only [ob_cons, ob_nil, and_true, Nat.ble_eq]; omega) (good_out ⟨i + 1, ⟨rfl, hlt, noneTo_succ hno hb⟩, rfl, .cons (ABeq.refl _) (.cons (ABeq.row fun j hj => ?_) .nil)⟩)
      rw [← hs]
      exact tr_row f m i _ ho j hj
    · have hb : tbK f m i = true := by rw [tbK, q]; rfl
      refine good_out ⟨_, Hsim.refl _, ?_⟩
      rw [show tkB f m = false from noneTo_no hlt hb] at hk
      exact hk
  · have b : Nat.blt i m = false := by
      cases hb : Nat.blt i m with
      | false => rfl
      | true => rw [Nat.blt_eq] at hb; omega
    rw [b, cond_false]
    have : i = m := by omega
    subst this
    refine ⟨lamC (c := loopAt 2 fTs) (by kernel_rfl) errS_ok, ?_⟩
    rw [rndTs0e]
    refine good_false (decide_eq_false (by omega)) (good_out ⟨hpTs0 i f i (trF f i), .cons (ABeq.refl _) (.cons (ABeq.row fun j hj => row8_congr fun k _ => by rw [ho j hj]) .nil), ?_⟩)
    rw [if_pos rfl]
    rw [show tkB f i = true from hno] at hk
    exact hk
/-- The points of the transform, or none. -/
def FtsS (rk : (Nat → Nat → Int) → Nat → Bool) (rt : (Nat → Nat → Int) → Nat → List Cy) : List SA → Option FR
  | [.row m g, .v (.int .i64 d)] => some { val := .tup [.own 0 (rt (it8 g) m).length, .v (.bool (rk (it8 g) m))], new := newG (rt (it8 g) m), obl := [all8 m g, decide (m ≤ 2 ^ 38), decide (d = -1)] }
  | _ => none
theorem ok_ts : SpecOk Try.prog 139 (specR md_cv (FtsS toK toT)) := by
  refine specR_hr (Γ := gmTsV rvB) (ext_ok g0_ok ok_rvS) Try.func139 rfl fun sas fr hF ho => ?_
  unfold FtsS at hF
  split at hF
  · rename_i m g d
    cases hF
    simp only [ob_cons] at ho
    obtain ⟨h1, h2, h3, _⟩ := ho
    have hm := of_decide_eq_true h2
    have h3 := of_decide_eq_true h3
    subst h3
    have no : toK (it8 g) m = false → GoodQ (.out .ret [.tup [.own 1 0, .v (.bool false)]] [.row false m 8 (row8 (it8 g)) 31, .row true 0 8 (fun _ => []) 31]) (GivR (abP md_cv [.row m g, .v (.int .i64 (-1))] []) { val := .tup [.own 0 (toT (it8 g) m).length, .v (.bool (toK (it8 g) m))], new := newG (toT (it8 g) m), obl := [all8 m g, decide (m ≤ 2 ^ 38), decide ((-1 : Int) = -1)] }) := fun h => by
      refine good_out ⟨_, rfl, by rw [toT_no h, h]; rfl, .cons (ABeq.row fun j hj => (all8_get h1 j hj).symm) ?_⟩
      show Hsim _ [.row true (toT (it8 g) m).length 8 (row8 (cfun (toT (it8 g) m))) 31]
      rw [toT_no h]
      exact .cons (ABeq.row fun j hj => absurd hj (Nat.not_lt_zero _)) .nil
    cases hv : rvB (it8 g) m with
    | false =>
      refine ⟨hpIy m (it8 g), oneL 0 errS, 100, .cons (ABeq.row fun j hj => all8_get h1 j hj) .nil, lam1 (c := loopAt 0 fTs) (by kernel_rfl) errS_ok, ?_⟩
      show GoodQ (execF Try.prog (gmTsV rvB) (oneL 0 errS) 100 fTs [.sl 0 8 0 0 m none, .v (i64 (-1))] (hpIy m (it8 g)) (packK 1)) _
      rw [treeTse]
      simp only [row80, rvB_row]
      exact good_needs (by simp only [ob_cons, ob_nil, and_true, decide_eq_true_eq, Nat.ble_eq, all8_row, true_and, hv, Bool.not_false]; omega) (no (by rw [toK, hv]; rfl))
    | true =>
      refine ⟨hpIy m (it8 g), lamTs0 m (it8 g) (trF (it8 g) m) (tkB (it8 g) m), 100, .cons (ABeq.row fun j hj => all8_get h1 j hj) .nil, lam1 (by kernel_rfl) (sumTs0 (it8 g) m hv), ?_⟩
      show GoodQ (execF Try.prog (gmTsV rvB) (lamTs0 m (it8 g) (trF (it8 g) m) (tkB (it8 g) m)) 100 fTs [.sl 0 8 0 0 m none, .v (i64 (-1))] (hpIy m (it8 g)) (packK 1)) _
      rw [treeTs]
      simp only [row80, rvB_row]
      refine good_needs (by simp only [ob_cons, ob_nil, and_true, decide_eq_true_eq, Nat.ble_eq, all8_row, true_and]; omega) (good_false (by rw [hv]; rfl) (good_needs (by rw [ob_cons]; exact ⟨chk_of ⟨rfl, .cons (ABeq.refl _) (.cons (ABeq.row fun j hj => absurd hj (Nat.not_lt_zero _)) .nil)⟩, rfl⟩) (good_cond (fun q => ?_) fun q => no (by rw [toK, q, Bool.and_false]))))
      have hk : toK (it8 g) m = true := by rw [toK, hv, q]; rfl
      have hl : (toT (it8 g) m).length = m := by rw [toT_yes hk, tTf, listC_length]
      refine good_out ⟨_, rfl, by rw [hl, hk]; rfl, .cons (ABeq.row fun j hj => (all8_get h1 j hj).symm) ?_⟩
      show Hsim _ [.row true (toT (it8 g) m).length 8 (row8 (cfun (toT (it8 g) m))) 31]
      rw [hl, toT_yes hk]
      exact .cons (ABeq.row fun j hj => (row8_list _ hj).symm) .nil
  · cases hF

end Go.Proofs.Ytmdcafhnjihckaa

/- Products of designs: CycTimes of both, DesignTimes of both: trees. Conditions: two lists of wheels. -/
namespace Go.Proofs.Ytmdcafhnjihckaa
open Go.RowKit
set_option maxRecDepth 100000

def gmCT (ok : (Nat → Int) → Bool) (mul : (Nat → Int) → (Nat → Int) → Nat → Int) : Gam := ext (ext g0 66 (specV (fOkc ok))) 127 (specV (fAdd2 mul))
/-- The product of two points, if they and it are valid. -/
def FctO (pr : (Nat → Int) → (Nat → Int) → Nat → Int) (ok : (Nat → Int) → (Nat → Int) → Bool) : List SA → Option FR
  | [.v (.agg ⟨[.int .i64 a0, .int .i64 a1, .int .i64 a2, .int .i64 a3, .int .i64 a4, .int .i64 a5, .int .i64 a6, .int .i64 a7]⟩), .v (.agg ⟨[.int .i64 b0, .int .i64 b1, .int .i64 b2, .int .i64 b3, .int .i64 b4, .int .i64 b5, .int .i64 b6, .int .i64 b7]⟩)] => some { val := .tup [.agg (cyC (pr (v8 a0 a1 a2 a3 a4 a5 a6 a7) (v8 b0 b1 b2 b3 b4 b5 b6 b7))), .v (.bool (ok (v8 a0 a1 a2 a3 a4 a5 a6 a7) (v8 b0 b1 b2 b3 b4 b5 b6 b7)))] }
  | _ => none
abbrev lvT2 : Ex → List Nat := lv3 [1, 6, 8, 22, 23, 24, 28, 29, 30] [1, 6, 22, 23, 24] [4, 5]
abbrev stT2 (m n k i j : Nat) : List AV := [.sl 1 9 0 0 n none, .own 2 k, .ptr 3 0 0 0, .sl 0 9 0 0 m none, .v (i64 m), .v (i64 i), .sl 1 9 0 0 n none, .v (i64 n), .v (i64 j)]
abbrev hpT0 (m : Nat) (f : Nat → Nat → Int) (n : Nat) (g : Nat → Nat → Int) (k : Nat) (h : Nat → Nat → Int) : List AB := [.row false m 9 (row9 f) 46, .row false n 9 (row9 g) 46, .row true k 9 (row9 h) 46]
abbrev hpT2 (m : Nat) (f : Nat → Nat → Int) (n : Nat) (g : Nat → Nat → Int) (k : Nat) (h : Nat → Nat → Int) (x : Nat → Int) : List AB := [.row false m 9 (row9 f) 46, .row false n 9 (row9 g) 46, .row true k 9 (row9 h) 46, .cells [.v (i64 (x 0)), .v (i64 (x 1)), .v (i64 (x 2)), .v (i64 (x 3)), .v (i64 (x 4)), .v (i64 (x 5)), .v (i64 (x 6)), .v (i64 (x 7)), .v (i64 (x 8))] 46]
abbrev hpTr (m : Nat) (f : Nat → Nat → Int) (n : Nat) (g : Nat → Nat → Int) : List AB := [.row false m 9 (row9 f) 46, .row false n 9 (row9 g) 46]
abbrev lvT0 : Ex → List Nat := lv3 [1, 6, 22, 23, 24] [6] [4, 5]
abbrev stT0 (m n k i : Nat) : List AV := [.sl 1 9 0 0 n none, .own 2 k, .sl 0 9 0 0 m none, .v (i64 m), .v (i64 i)]
noncomputable abbrev lamT2 (m : Nat) (f : Nat → Nat → Int) (n : Nat) (g : Nat → Nat → Int) (k : Nat) (h : Nat → Nat → Int) (x : Nat → Int) (i : Nat) (c : Bool) (k2 : Nat) (h2 : Nat → Nat → Int) : Nat → Option Sum := oneL 2 (atS 60 (lvT2 .normal) 2 (stT2 m n k i 0) (hpT2 m f n g k h x) (fun K => cond c (K .normal (mkT 0 60 ([1, 6, 22, 23, 24].zip (stT0 m n k2 i))) (hpT0 m f n g k2 h2)) (K .ret (mkT 0 60 [(4, .v (.slice none 0 0)), (5, .v (.bool false))]) (hpTr m f n g))))
noncomputable abbrev lamT0 (m : Nat) (f : Nat → Nat → Int) (n : Nat) (g : Nat → Nat → Int) (c : Bool) (k : Nat) (h : Nat → Nat → Int) : Nat → Option Sum := oneL 0 (atS 60 (lvT0 .normal) 2 (stT0 m n 0 0) (hpT0 m f n g 0 (wfun [])) (fun K => cond c (K .normal (mkT 0 60 [(6, .own 2 k)]) (hpT0 m f n g k h)) (K .ret (mkT 0 60 [(4, .v (.slice none 0 0)), (5, .v (.bool false))]) (hpTr m f n g))))
abbrev lvS2 : Ex → List Nat := lv3 [0, 1, 6, 7, 8] [0, 1, 6, 7] [4, 5]
abbrev stS2 (m n k i j : Nat) : List AV := [.sl 0 9 0 0 m none, .sl 1 9 0 0 n none, .own 2 k, .v (i64 i), .v (i64 j)]
abbrev lvS0 : Ex → List Nat := lv3 [0, 1, 6, 7] [6] [4, 5]
abbrev stS0 (m n k i : Nat) : List AV := [.sl 0 9 0 0 m none, .sl 1 9 0 0 n none, .own 2 k, .v (i64 i)]
abbrev hpSr (m : Nat) (f : Nat → Nat → Int) (n : Nat) (g : Nat → Nat → Int) : List AB := hpT0 m f n g 0 (wfun [])
noncomputable abbrev lamS2 (m : Nat) (f : Nat → Nat → Int) (n : Nat) (g : Nat → Nat → Int) (k : Nat) (h : Nat → Nat → Int) (i : Nat) (c : Bool) (k2 : Nat) (h2 : Nat → Nat → Int) : Nat → Option Sum := oneL 2 (atS 70 (lvS2 .normal) 2 (stS2 m n k i 0) (hpT0 m f n g k h) (fun K => cond c (K .normal (mkT 0 70 ([0, 1, 6, 7].zip (stS0 m n k2 i))) (hpT0 m f n g k2 h2)) (K .ret (mkT 0 70 [(4, .own 2 0), (5, .v (.bool false))]) (hpSr m f n g))))
noncomputable abbrev lamS0 (m : Nat) (f : Nat → Nat → Int) (n : Nat) (g : Nat → Nat → Int) (c : Bool) (k : Nat) (h : Nat → Nat → Int) : Nat → Option Sum := oneL 0 (atS 70 (lvS0 .normal) 2 (stS0 m n 0 0) (hpT0 m f n g 0 (wfun [])) (fun K => cond c (K .normal (mkT 0 70 [(6, .own 2 k)]) (hpT0 m f n g k h)) (K .ret (mkT 0 70 [(4, .own 2 0), (5, .v (.bool false))]) (hpSr m f n g))))
def gmS2 (okd : List Wh → Bool) (ti : List Wh → List Wh) (okt : List Wh → Bool) : Gam := ext (ext g0 61 (specR md_ws (FdvO okd))) 62 (specR md_ws (FtidyO ti okt))
end Go.Proofs.Ytmdcafhnjihckaa

/- Products of designs: CycTimes of both, DesignTimes of both. Conditions: two lists of wheels. -/
namespace Go.Proofs.Ytmdcafhnjihckaa
open Go.RowKit
set_option maxRecDepth 100000

def okM (a b : Nat → Int) : Bool := (cyOk (cyOf a) && cyOk (cyOf b)) && cyOk (cyOf (mulF a b))
def prF (a b : Nat → Int) : Nat → Int := bif okM a b then mulF a b else fun _ => 0
theorem gmCT_ok : GamOk Try.prog (gmCT (fun v => cyOk (cyOf v)) mulF) := by
  have e3 : fAdd2 mulF = f_times := by funext l; rfl
  unfold gmCT
  rw [fOkc_eq, e3]
  exact ext_ok (ext_ok g0_ok ok_cvI) ok_times
/-- The product of two wheels. -/
def prodW (x y : Wh) : Wh := ⟨IntKind.wrap IntKind.i64 (x.s + y.s), cyOf (prF x.r.f y.r.f)⟩
def okW2 (x y : Wh) : Bool := okM x.r.f y.r.f
def prodL (A B : List Wh) : List Wh := A.flatMap fun x => B.map (prodW x)
def okAll (A B : List Wh) : Bool := A.all fun x => B.all (okW2 x)
theorem prodL_snoc (A B : List Wh) (x : Wh) : prodL (A ++ [x]) B = prodL A B ++ B.map (prodW x) := by simp [prodL]
theorem okAll_snoc (A B : List Wh) (x : Wh) : okAll (A ++ [x]) B = (okAll A B && B.all (okW2 x)) := by simp [okAll]
theorem prodL_length (A B : List Wh) : (prodL A B).length = A.length * B.length := by
  induction A with
  | nil => simp [prodL]
  | cons x A ih =>
    have : prodL (x :: A) B = B.map (prodW x) ++ prodL A B := rfl
    rw [this, List.length_append, List.length_map, ih, List.length_cons, Nat.add_mul, Nat.one_mul, Nat.add_comm]
theorem prodL_in (A B : List Wh) : inW (prodL A B) := by
  intro w hw
  simp only [prodL, List.mem_flatMap, List.mem_map] at hw
  obtain ⟨x, _, y, _, rfl⟩ := hw
  refine cyOf_in fun k _ => ?_
  unfold prF
  cases okM x.r.f y.r.f with
  | true => exact w64_range _
  | false => show (-9223372036854775808 : Int) ≤ 0 ∧ (0 : Int) ≤ 9223372036854775807; omega
theorem okAll_no {A B : List Wh} {i : Nat} {f : Nat → Nat → Int} {m : Nat} (hA : A = listW f m) (hi : i < m) (h : B.all (okW2 (whOf (f i))) = false) : okAll A B = false := by
  subst hA
  cases e : okAll (listW f m) B with
  | false => rfl
  | true =>
    have := List.all_eq_true.1 e (whOf (f i)) (List.mem_of_getElem? (listW_get f hi))
    rw [h] at this
    cases this
theorem all_no {g : Nat → Nat → Int} {n j : Nat} {p : Wh → Bool} (hj : j < n) (h : p (whOf (g j)) = false) : (listW g n).all p = false := by
  cases e : (listW g n).all p with
  | false => rfl
  | true =>
    have := List.all_eq_true.1 e (whOf (g j)) (List.mem_of_getElem? (listW_get g hj))
    rw [h] at this
    cases this
end Go.Proofs.Ytmdcafhnjihckaa

/- DesignTimes of both. Conditions: two lists of wheels. -/
namespace Go.Proofs.Ytmdcafhnjihckaa
open Go.RowKit
set_option maxRecDepth 100000

/-- The lists are designs, and their product too. -/
def tmP (A B : List Wh) : Bool := (okD A && okD B) && okAll A B
def yesTm (A B : List Wh) : Bool := tmP A B && okT (prodL A B)
def tmT (A B : List Wh) : List Wh := tidyL (prodL A B)
def tmL (A B : List Wh) : List Wh := bif tmP A B then tidyL (prodL A B) else []
def FtmY (yes : List Wh → List Wh → Bool) (tt : List Wh → List Wh → List Wh) : List SA → Option FR
  | [.row m ga, .row n gb] => some { val := valY (tt (listW (itW ga) m) (listW (itW gb) n)), new := newY (tt (listW (itW ga) m) (listW (itW gb) n)), obl := [allW m ga, allW n gb, decide (m ≤ 2 ^ 38), decide (n ≤ 2 ^ 38), yes (listW (itW ga) m) (listW (itW gb) n)] }
  | _ => none
def FtmN (yes : List Wh → List Wh → Bool) : List SA → Option FR
  | [.row m ga, .row n gb] => some { val := valN, obl := [allW m ga, allW n gb, decide (m ≤ 2 ^ 38), decide (n ≤ 2 ^ 38), !yes (listW (itW ga) m) (listW (itW gb) n)] }
  | _ => none
def FtmS (ok : List Wh → List Wh → Bool) (tl : List Wh → List Wh → List Wh) : List SA → Option FR
  | [.row m ga, .row n gb] => some { val := .tup [.own 0 (tl (listW (itW ga) m) (listW (itW gb) n)).length, .v (.bool (ok (listW (itW ga) m) (listW (itW gb) n)))], new := [.row true (tl (listW (itW ga) m) (listW (itW gb) n)).length 9 (row9 (wfun (tl (listW (itW ga) m) (listW (itW gb) n)))) 46], obl := [allW m ga, allW n gb, decide (m ≤ 2 ^ 38), decide (n ≤ 2 ^ 38)] }
  | _ => none
theorem gmS2_ok : GamOk Try.prog (gmS2 okD tidyL okT) := by
  unfold gmS2
  rw [FtidyO_eq, FdvO_eq]
  exact ext_ok (ext_ok g0_ok ok_dv) ok_tidyS

end Go.Proofs.Ytmdcafhnjihckaa

/- RowDesign of both: trees. Conditions: a row of points. -/
namespace Go.Proofs.Ytmdcafhnjihckaa
open Go.RowKit
set_option maxRecDepth 100000

noncomputable abbrev fRdI : Func := Try.f29
noncomputable abbrev fRdS : Func := Try.f30
abbrev lvRdI : Ex → List Nat := lv3 [4, 7, 26, 27, 28] [7] [2, 3]
abbrev stRdI (m q i : Nat) : List AV := [.v (i64 m), .own 1 i, .sl 2 8 0 0 q none, .v (i64 q), .v (i64 i)]
abbrev hpRdI (m : Nat) (f : Nat → Nat → Int) (q : Nat) (c : Nat → Nat → Int) (i : Nat) (h : Nat → Nat → Int) : List AB := [.row false m 8 (row8 f) 31, .row true i 9 (row9 h) 46, .row false q 8 (row8 c) 31]
abbrev hpRdX (m : Nat) (f : Nat → Nat → Int) (q : Nat) (h : Nat → Nat → Int) : List AB := [.row false m 8 (row8 f) 31, .row true q 9 (row9 h) 46]
theorem rndRdI (m : Nat) (f : Nat → Nat → Int) (q : Nat) (c : Nat → Nat → Int) (h : Nat → Nat → Int) (i : Nat) : execC Try.prog g0 100 noLam (loopAt 0 fRdI) (mkT 0 52 ((lvRdI .normal).zip (stRdI m q i))) (hpRdI m f q c i h) (leafV 52 lvRdI 1)
    = bif decide ((↑i : Int) < (↑q : Int)) then needs [decide ((↑i : Int) < (↑q : Int)), decide ((0 : Nat) + Int.toNat (↑i : Int) < q)] (bif decide (IntKind.wrap IntKind.i64 ((2 : Int) * (↑i : Int)) > (↑m : Int)) then needs [Nat.ble i i, Nat.ble (i + (1 : Nat)) (549755813888 : Nat)] (Res.out Ex.normal [AV.v (Value.int IntKind.i64 (↑m : Int)), AV.own (1 : Nat) (i + (1 : Nat)), AV.sl (2 : Nat) (8 : Nat) (0 : Nat) (0 : Nat) q none, AV.v (Value.int IntKind.i64 (↑q : Int)), AV.v (Value.int IntKind.i64 (IntKind.wrap IntKind.i64 ((↑i : Int) + (1 : Int))))] [AB.row false m (8 : Nat) (row8 f) (31 : TypeId), AB.row true (i + (1 : Nat)) (9 : Nat) (fun q ↦ [Value.int IntKind.i64 (bif Nat.blt q i then h q (0 : Nat) else IntKind.wrap IntKind.i64 ((↑i : Int) - (↑m : Int))), Value.int IntKind.i64 (bif Nat.blt q i then h q (1 : Nat) else c ((0 : Nat) + Int.toNat (↑i : Int)) (0 : Nat)), Value.int IntKind.i64 (bif Nat.blt q i then h q (2 : Nat) else c ((0 : Nat) + Int.toNat (↑i : Int)) (1 : Nat)), Value.int IntKind.i64 (bif Nat.blt q i then h q (3 : Nat) else c ((0 : Nat) + Int.toNat (↑i : Int)) (2 : Nat)), Value.int IntKind.i64 (bif Nat.blt q i then h q (4 : Nat) else c ((0 : Nat) + Int.toNat (↑i : Int)) (3 : Nat)), Value.int IntKind.i64 (bif Nat.blt q i then h q (5 : Nat) else c ((0 : Nat) + Int.toNat (↑i : Int)) (4 : Nat)), Value.int IntKind.i64 (bif Nat.blt q i then h q (6 : Nat) else c ((0 : Nat) + Int.toNat (↑i : Int)) (5 : Nat)), Value.int IntKind.i64 (bif Nat.blt q i then h q (7 : Nat) else c ((0 : Nat) + Int.toNat (↑i : Int)) (6 : Nat)), Value.int IntKind.i64 (bif Nat.blt q i then h q (8 : Nat) else c ((0 : Nat) + Int.toNat (↑i : Int)) (7 : Nat))]) (46 : Nat), AB.row false q (8 : Nat) (row8 c) (31 : TypeId)]) else needs [Nat.ble i i, Nat.ble (i + (1 : Nat)) (549755813888 : Nat)] (Res.out Ex.normal [AV.v (Value.int IntKind.i64 (↑m : Int)), AV.own (1 : Nat) (i + (1 : Nat)), AV.sl (2 : Nat) (8 : Nat) (0 : Nat) (0 : Nat) q none, AV.v (Value.int IntKind.i64 (↑q : Int)), AV.v (Value.int IntKind.i64 (IntKind.wrap IntKind.i64 ((↑i : Int) + (1 : Int))))] [AB.row false m (8 : Nat) (row8 f) (31 : TypeId), AB.row true (i + (1 : Nat)) (9 : Nat) (fun q ↦ [Value.int IntKind.i64 (bif Nat.blt q i then h q (0 : Nat) else (↑i : Int)), Value.int IntKind.i64 (bif Nat.blt q i then h q (1 : Nat) else c ((0 : Nat) + Int.toNat (↑i : Int)) (0 : Nat)), Value.int IntKind.i64 (bif Nat.blt q i then h q (2 : Nat) else c ((0 : Nat) + Int.toNat (↑i : Int)) (1 : Nat)), Value.int IntKind.i64 (bif Nat.blt q i then h q (3 : Nat) else c ((0 : Nat) + Int.toNat (↑i : Int)) (2 : Nat)), Value.int IntKind.i64 (bif Nat.blt q i then h q (4 : Nat) else c ((0 : Nat) + Int.toNat (↑i : Int)) (3 : Nat)), Value.int IntKind.i64 (bif Nat.blt q i then h q (5 : Nat) else c ((0 : Nat) + Int.toNat (↑i : Int)) (4 : Nat)), Value.int IntKind.i64 (bif Nat.blt q i then h q (6 : Nat) else c ((0 : Nat) + Int.toNat (↑i : Int)) (5 : Nat)), Value.int IntKind.i64 (bif Nat.blt q i then h q (7 : Nat) else c ((0 : Nat) + Int.toNat (↑i : Int)) (6 : Nat)), Value.int IntKind.i64 (bif Nat.blt q i then h q (8 : Nat) else c ((0 : Nat) + Int.toNat (↑i : Int)) (7 : Nat))]) (46 : Nat), AB.row false q (8 : Nat) (row8 c) (31 : TypeId)])) else Res.out (Ex.exit (0 : Nat)) [AV.own (1 : Nat) i] [AB.row false m (8 : Nat) (row8 f) (31 : TypeId), AB.row true i (9 : Nat) (row9 h) (46 : TypeId)] := by kernel_rfl

abbrev lvRdS : Ex → List Nat := lv3 [4, 5, 6, 8] [4] [2, 3]
abbrev stRdS (m q i : Nat) : List AV := [.own 1 i, .v (i64 m), .own 2 q, .v (i64 i)]
abbrev hpRdS (m : Nat) (f : Nat → Nat → Int) (q : Nat) (c : Nat → Nat → Int) (i : Nat) (h : Nat → Nat → Int) : List AB := [.row false m 8 (row8 f) 31, .row true i 9 (row9 h) 46, .row true q 8 (row8 c) 31]
theorem rndRdS (m : Nat) (f : Nat → Nat → Int) (q : Nat) (c : Nat → Nat → Int) (h : Nat → Nat → Int) (i : Nat) : execC Try.prog g0 100 noLam (loopAt 0 fRdS) (mkT 0 51 ((lvRdS .normal).zip (stRdS m q i))) (hpRdS m f q c i h) (leafV 51 lvRdS 1)
    = bif decide ((↑i : Int) < (↑m : Int)) then bif decide (IntKind.wrap IntKind.i64 ((2 : Int) * (↑i : Int)) > (↑m : Int)) then needs [decide ((↑i : Int) < (↑q : Int)), decide (Int.toNat (↑i : Int) < q), Nat.ble i i, Nat.ble (i + (1 : Nat)) (549755813888 : Nat)] (Res.out Ex.normal [AV.own (1 : Nat) (i + (1 : Nat)), AV.v (Value.int IntKind.i64 (↑m : Int)), AV.own (2 : Nat) q, AV.v (Value.int IntKind.i64 (IntKind.wrap IntKind.i64 ((↑i : Int) + (1 : Int))))] [AB.row false m (8 : Nat) (row8 f) (31 : TypeId), AB.row true (i + (1 : Nat)) (9 : Nat) (fun q ↦ [Value.int IntKind.i64 (bif Nat.blt q i then h q (0 : Nat) else IntKind.wrap IntKind.i64 ((↑i : Int) - (↑m : Int))), Value.int IntKind.i64 (bif Nat.blt q i then h q (1 : Nat) else c (Int.toNat (↑i : Int)) (0 : Nat)), Value.int IntKind.i64 (bif Nat.blt q i then h q (2 : Nat) else c (Int.toNat (↑i : Int)) (1 : Nat)), Value.int IntKind.i64 (bif Nat.blt q i then h q (3 : Nat) else c (Int.toNat (↑i : Int)) (2 : Nat)), Value.int IntKind.i64 (bif Nat.blt q i then h q (4 : Nat) else c (Int.toNat (↑i : Int)) (3 : Nat)), Value.int IntKind.i64 (bif Nat.blt q i then h q (5 : Nat) else c (Int.toNat (↑i : Int)) (4 : Nat)), Value.int IntKind.i64 (bif Nat.blt q i then h q (6 : Nat) else c (Int.toNat (↑i : Int)) (5 : Nat)), Value.int IntKind.i64 (bif Nat.blt q i then h q (7 : Nat) else c (Int.toNat (↑i : Int)) (6 : Nat)), Value.int IntKind.i64 (bif Nat.blt q i then h q (8 : Nat) else c (Int.toNat (↑i : Int)) (7 : Nat))]) (46 : Nat), AB.row true q (8 : Nat) (row8 c) (31 : TypeId)]) else needs [decide ((↑i : Int) < (↑q : Int)), decide (Int.toNat (↑i : Int) < q), Nat.ble i i, Nat.ble (i + (1 : Nat)) (549755813888 : Nat)] (Res.out Ex.normal [AV.own (1 : Nat) (i + (1 : Nat)), AV.v (Value.int IntKind.i64 (↑m : Int)), AV.own (2 : Nat) q, AV.v (Value.int IntKind.i64 (IntKind.wrap IntKind.i64 ((↑i : Int) + (1 : Int))))] [AB.row false m (8 : Nat) (row8 f) (31 : TypeId), AB.row true (i + (1 : Nat)) (9 : Nat) (fun q ↦ [Value.int IntKind.i64 (bif Nat.blt q i then h q (0 : Nat) else (↑i : Int)), Value.int IntKind.i64 (bif Nat.blt q i then h q (1 : Nat) else c (Int.toNat (↑i : Int)) (0 : Nat)), Value.int IntKind.i64 (bif Nat.blt q i then h q (2 : Nat) else c (Int.toNat (↑i : Int)) (1 : Nat)), Value.int IntKind.i64 (bif Nat.blt q i then h q (3 : Nat) else c (Int.toNat (↑i : Int)) (2 : Nat)), Value.int IntKind.i64 (bif Nat.blt q i then h q (4 : Nat) else c (Int.toNat (↑i : Int)) (3 : Nat)), Value.int IntKind.i64 (bif Nat.blt q i then h q (5 : Nat) else c (Int.toNat (↑i : Int)) (4 : Nat)), Value.int IntKind.i64 (bif Nat.blt q i then h q (6 : Nat) else c (Int.toNat (↑i : Int)) (5 : Nat)), Value.int IntKind.i64 (bif Nat.blt q i then h q (7 : Nat) else c (Int.toNat (↑i : Int)) (6 : Nat)), Value.int IntKind.i64 (bif Nat.blt q i then h q (8 : Nat) else c (Int.toNat (↑i : Int)) (7 : Nat))]) (46 : Nat), AB.row true q (8 : Nat) (row8 c) (31 : TypeId)]) else Res.out (Ex.exit (0 : Nat)) [AV.own (1 : Nat) i] [AB.row false m (8 : Nat) (row8 f) (31 : TypeId), AB.row true i (9 : Nat) (row9 h) (46 : TypeId)] := by kernel_rfl

noncomputable abbrev lamRdI (m : Nat) (f : Nat → Nat → Int) (q : Nat) (c : Nat → Nat → Int) (h : Nat → Nat → Int) : Nat → Option Sum := oneL 0 (atS 52 (lvRdI .normal) 1 (stRdI m q 0) (hpRdI m f q c 0 fun _ _ => 0) (fun K => K .normal (mkT 0 52 [(7, .own 1 q)]) (hpRdX m f q h)))
noncomputable abbrev lamRdS (m : Nat) (f : Nat → Nat → Int) (q : Nat) (c : Nat → Nat → Int) (h : Nat → Nat → Int) : Nat → Option Sum := oneL 0 (atS 51 (lvRdS .normal) 1 (stRdS m q 0) (hpRdS m f q c 0 fun _ _ => 0) (fun K => K .normal (mkT 0 51 [(4, .own 1 m)]) (hpRdX m f m h)))
def gmRdY (okd : List Wh → Bool) (ti : List Wh → List Wh) (okt inw : List Wh → Bool) (rk : (Nat → Nat → Int) → Nat → Bool) (rt : (Nat → Nat → Int) → Nat → List Cy) : Gam := ext (gmChY okd ti okt inw) 85 (specG md_c8 (UtoO rk rt))
def gmRdN (okd : List Wh → Bool) (okt inw : List Wh → Bool) (rk : (Nat → Nat → Int) → Nat → Bool) (rt : (Nat → Nat → Int) → Nat → List Cy) : Gam := ext (gmChN okd okt inw) 85 (specG md_c8 (UtoO rk rt))
theorem treeRdY (okd : List Wh → Bool) (ti : List Wh → List Wh) (okt inw : List Wh → Bool) (rk : (Nat → Nat → Int) → Nat → Bool) (rt : (Nat → Nat → Int) → Nat → List Cy) (m : Nat) (f : Nat → Nat → Int) (q : Nat) (c : Nat → Nat → Int) (h : Nat → Nat → Int) : execF Try.prog (gmRdY okd ti okt inw rk rt) (lamRdI m f q c h) 100 fRdI [.sl 0 8 0 0 m none] (hpIy m f) (packK 1)
    = needs [Nat.ble ((0 : Nat) + m) m, all8 m fun q ↦ row8 f ((0 : Nat) + q), decide (m ≤ (274877906944 : Nat))] (bif !rk (it8 fun q ↦ row8 f ((0 : Nat) + q)) m then Res.out Ex.ret [AV.tup [AV.v (Value.slice none (0 : Nat) (0 : Nat)), AV.v (Value.bool false)]] [AB.row false m (8 : Nat) (row8 f) (31 : TypeId)] else bif decide ((↑m : Int) > (12 : Int)) then Res.out Ex.ret [AV.tup [AV.v (Value.slice none (0 : Nat) (0 : Nat)), AV.v (Value.bool false)]] [AB.row false m (8 : Nat) (row8 f) (31 : TypeId)] else needs [decide ((↑m : Int) ≤ (1099511627776 : Int)), chk ([AV.v (Value.int IntKind.i64 (↑m : Int)), AV.own (1 : Nat) (0 : Nat), AV.sl (2 : Nat) (8 : Nat) (0 : Nat) (0 : Nat) (List.length (rt (it8 fun q ↦ row8 f ((0 : Nat) + q)) m)) none, AV.v (Value.int IntKind.i64 (↑(List.length (rt (it8 fun q ↦ row8 f ((0 : Nat) + q)) m)) : Int)), AV.v (Value.int IntKind.i64 (0 : Int))] = stRdI m q (0 : Nat) ∧ Hsim [AB.row false m (8 : Nat) (row8 f) (31 : TypeId), AB.row true (0 : Nat) (9 : Nat) (fun _ ↦ [Value.int IntKind.i64 (0 : Int), Value.int IntKind.i64 (0 : Int), Value.int IntKind.i64 (0 : Int), Value.int IntKind.i64 (0 : Int), Value.int IntKind.i64 (0 : Int), Value.int IntKind.i64 (0 : Int), Value.int IntKind.i64 (0 : Int), Value.int IntKind.i64 (0 : Int), Value.int IntKind.i64 (0 : Int)]) (46 : Nat), AB.row false (List.length (rt (it8 fun q ↦ row8 f ((0 : Nat) + q)) m)) (8 : Nat) (row8 (cfun (rt (it8 fun q ↦ row8 f ((0 : Nat) + q)) m))) (31 : TypeId)] (hpRdI m f q c (0 : Nat) fun x x_1 ↦ (0 : Int))), Nat.ble q q, allW q (row9 h), decide (q ≤ (274877906944 : Nat)), inw (listW (itW (row9 h)) q), okt (listW (itW (row9 h)) q)] (Res.out Ex.ret [AV.tup [AV.sl (1 : Nat) (9 : Nat) (0 : Nat) (0 : Nat) (List.length (ti (listW (itW (row9 h)) q))) (some (List.length (ti (listW (itW (row9 h)) q)))), AV.v (Value.bool true)]] [AB.row false m (8 : Nat) (row8 f) (31 : TypeId), AB.row true (List.length (ti (listW (itW (row9 h)) q))) (9 : Nat) (row9 (wfun (ti (listW (itW (row9 h)) q)))) (46 : TypeId)])) := by kernel_rfl

theorem treeRdN (okd : List Wh → Bool) (okt inw : List Wh → Bool) (rk : (Nat → Nat → Int) → Nat → Bool) (rt : (Nat → Nat → Int) → Nat → List Cy) (m : Nat) (f : Nat → Nat → Int) (q : Nat) (c : Nat → Nat → Int) (h : Nat → Nat → Int) : execF Try.prog (gmRdN okd okt inw rk rt) (lamRdI m f q c h) 100 fRdI [.sl 0 8 0 0 m none] (hpIy m f) (packK 1)
    = needs [Nat.ble ((0 : Nat) + m) m, all8 m fun q ↦ row8 f ((0 : Nat) + q), decide (m ≤ (274877906944 : Nat))] (bif !rk (it8 fun q ↦ row8 f ((0 : Nat) + q)) m then Res.out Ex.ret [AV.tup [AV.v (Value.slice none (0 : Nat) (0 : Nat)), AV.v (Value.bool false)]] [AB.row false m (8 : Nat) (row8 f) (31 : TypeId)] else bif decide ((↑m : Int) > (12 : Int)) then Res.out Ex.ret [AV.tup [AV.v (Value.slice none (0 : Nat) (0 : Nat)), AV.v (Value.bool false)]] [AB.row false m (8 : Nat) (row8 f) (31 : TypeId)] else needs [decide ((↑m : Int) ≤ (1099511627776 : Int)), chk ([AV.v (Value.int IntKind.i64 (↑m : Int)), AV.own (1 : Nat) (0 : Nat), AV.sl (2 : Nat) (8 : Nat) (0 : Nat) (0 : Nat) (List.length (rt (it8 fun q ↦ row8 f ((0 : Nat) + q)) m)) none, AV.v (Value.int IntKind.i64 (↑(List.length (rt (it8 fun q ↦ row8 f ((0 : Nat) + q)) m)) : Int)), AV.v (Value.int IntKind.i64 (0 : Int))] = stRdI m q (0 : Nat) ∧ Hsim [AB.row false m (8 : Nat) (row8 f) (31 : TypeId), AB.row true (0 : Nat) (9 : Nat) (fun _ ↦ [Value.int IntKind.i64 (0 : Int), Value.int IntKind.i64 (0 : Int), Value.int IntKind.i64 (0 : Int), Value.int IntKind.i64 (0 : Int), Value.int IntKind.i64 (0 : Int), Value.int IntKind.i64 (0 : Int), Value.int IntKind.i64 (0 : Int), Value.int IntKind.i64 (0 : Int), Value.int IntKind.i64 (0 : Int)]) (46 : Nat), AB.row false (List.length (rt (it8 fun q ↦ row8 f ((0 : Nat) + q)) m)) (8 : Nat) (row8 (cfun (rt (it8 fun q ↦ row8 f ((0 : Nat) + q)) m))) (31 : TypeId)] (hpRdI m f q c (0 : Nat) fun x x_1 ↦ (0 : Int))), Nat.ble q q, allW q (row9 h), decide (q ≤ (274877906944 : Nat)), inw (listW (itW (row9 h)) q), !okt (listW (itW (row9 h)) q)] (Res.out Ex.ret [AV.tup [AV.v (Value.slice none (0 : Nat) (0 : Nat)), AV.v (Value.bool false)]] [AB.row false m (8 : Nat) (row8 f) (31 : TypeId)])) := by kernel_rfl

def gmRdS (ti : List Wh → List Wh) (okt : List Wh → Bool) (rk : (Nat → Nat → Int) → Nat → Bool) (rt : (Nat → Nat → Int) → Nat → List Cy) : Gam := ext (ext g0 139 (specR md_cv (FtsS rk rt))) 62 (specR md_ws (FtidyO ti okt))
theorem treeRdS (ti : List Wh → List Wh) (okt : List Wh → Bool) (rk : (Nat → Nat → Int) → Nat → Bool) (rt : (Nat → Nat → Int) → Nat → List Cy) (m : Nat) (f : Nat → Nat → Int) (q : Nat) (c : Nat → Nat → Int) (h : Nat → Nat → Int) : execF Try.prog (gmRdS ti okt rk rt) (lamRdS m f q c h) 100 fRdS [.sl 0 8 0 0 m none] (hpIy m f) (packK 1)
    = needs [Nat.ble ((0 : Nat) + m) m, all8 m fun q ↦ row8 f ((0 : Nat) + q), decide (m ≤ (274877906944 : Nat))] (bif !rk (it8 fun q ↦ row8 f ((0 : Nat) + q)) m then Res.out Ex.ret [AV.tup [AV.own (1 : Nat) (0 : Nat), AV.v (Value.bool false)]] [AB.row false m (8 : Nat) (row8 f) (31 : TypeId), AB.row true (0 : Nat) (9 : Nat) (fun _ ↦ []) (46 : Nat)] else bif decide ((↑m : Int) > (12 : Int)) then Res.out Ex.ret [AV.tup [AV.own (1 : Nat) (0 : Nat), AV.v (Value.bool false)]] [AB.row false m (8 : Nat) (row8 f) (31 : TypeId), AB.row true (0 : Nat) (9 : Nat) (fun _ ↦ []) (46 : Nat)] else needs [chk ([AV.own (1 : Nat) (0 : Nat), AV.v (Value.int IntKind.i64 (↑m : Int)), AV.own (2 : Nat) (List.length (rt (it8 fun q ↦ row8 f ((0 : Nat) + q)) m)), AV.v (Value.int IntKind.i64 (0 : Int))] = stRdS m q (0 : Nat) ∧ Hsim [AB.row false m (8 : Nat) (row8 f) (31 : TypeId), AB.row true (0 : Nat) (9 : Nat) (fun _ ↦ []) (46 : Nat), AB.row true (List.length (rt (it8 fun q ↦ row8 f ((0 : Nat) + q)) m)) (8 : Nat) (row8 (cfun (rt (it8 fun q ↦ row8 f ((0 : Nat) + q)) m))) (31 : TypeId)] (hpRdS m f q c (0 : Nat) fun x x_1 ↦ (0 : Int))), Nat.ble m m, allW m (row9 h), decide (m ≤ (274877906944 : Nat))] (Res.out Ex.ret [AV.tup [AV.own (1 : Nat) (List.length (ti (listW (itW (row9 h)) m))), AV.v (Value.bool (okt (listW (itW (row9 h)) m)))]] [AB.row false m (8 : Nat) (row8 f) (31 : TypeId), AB.row true (List.length (ti (listW (itW (row9 h)) m))) (9 : Nat) (row9 (wfun (ti (listW (itW (row9 h)) m)))) (46 : TypeId)])) := by kernel_rfl

end Go.Proofs.Ytmdcafhnjihckaa

/- RowDesign of both: their word. Conditions: a row of points. -/
namespace Go.Proofs.Ytmdcafhnjihckaa
open Go.RowKit
set_option maxRecDepth 100000

/-- The speed of a place: as near to none as it goes. -/
def spJ (m j : Nat) : Int := bif decide (2 * (j : Int) > m) then (j : Int) - m else j
def rdF (m : Nat) (c : Nat → Nat → Int) : Nat → Nat → Int := fun j k => match k with
  | 0 => spJ m j
  | k + 1 => c j k
def rwW (f : Nat → Nat → Int) (m : Nat) : List Wh := listW (rdF m (trF f m)) m
def rdP (f : Nat → Nat → Int) (m : Nat) : Bool := toK f m && decide (m ≤ 12)
def yRd (f : Nat → Nat → Int) (m : Nat) : Bool := rdP f m && okT (rwW f m)
def tRd (f : Nat → Nat → Int) (m : Nat) : List Wh := bif rdP f m then tidyL (rwW f m) else []
theorem rd_row (m : Nat) (c : Nat → Nat → Int) (i : Nat) (o : Nat → Nat → Int) (x : Int) (ho : ∀ j, j < i → o j = rdF m c j) (hx : x = spJ m i) (j : Nat) (hj : j < i + 1) : [i64 (bif Nat.blt j i then o j 0 else x), i64 (bif Nat.blt j i then o j 1 else c i 0), i64 (bif Nat.blt j i then o j 2 else c i 1), i64 (bif Nat.blt j i then o j 3 else c i 2), i64 (bif Nat.blt j i then o j 4 else c i 3), i64 (bif Nat.blt j i then o j 5 else c i 4), i64 (bif Nat.blt j i then o j 6 else c i 5), i64 (bif Nat.blt j i then o j 7 else c i 6), i64 (bif Nat.blt j i then o j 8 else c i 7)] = row9 (rdF m c) j := by
  by_cases h : j < i
  · rw [blt_yes h]
    simp only [cond_true, ho j h]
  · have : j = i := by omega
    subst this hx
    rw [blt_no]
    rfl
theorem sumRdI (m : Nat) (f c : Nat → Nat → Int) (hm : m ≤ 2 ^ 38) :
    SumOk Try.prog 1 (.block 0 (.loop (loopAt 0 fRdI))) (atS 52 (lvRdI .normal) 1 (stRdI m m 0) (hpRdI m f m c 0 fun _ _ => 0) (fun K => K .normal (mkT 0 52 [(7, .own 1 m)]) (hpRdX m f m (rdF m c)))) := by
  refine for_at g0_ok (n := 100) (m := 1) (lv := lvRdI) (fun i => stRdI m m i) (fun i => hpRdI m f m c i (bif Nat.beq i 0 then (fun _ _ => 0) else rdF m c)) (fun _ => True) m (fun _ => noLam) (lv3_ris rfl rfl rfl) (Nat.le_refl _) trivial fun K Q hk i _ hi => ⟨noLam_ok _ _ _, ?_⟩
  have ho : ∀ j, j < i → (bif Nat.beq i 0 then (fun _ _ => (0 : Int)) else rdF m c) j = rdF m c j := by
    intro j hj
    cases i with
    | zero => exact absurd hj (Nat.not_lt_zero _)
    | succ i => rfl
  rw [rndRdI]
  simp only [Int.toNat_natCast, Nat.zero_add]
  refine good_cond (fun c1 => ?_) fun c1 => ?_
  · have c1 := of_decide_eq_true c1
    have c1' : i < m := by omega
    rw [wr_in (x := (i : Int) + 1) (by omega), wr_in (x := 2 * (i : Int)) (by omega), wr_in (x := (i : Int) - m) (by omega)]
    refine good_needs (by simp only [ob_cons, ob_nil, and_true, decide_eq_true_eq]; omega) (good_cond (fun q => ?_) fun q => ?_)
    · refine good_needs (by simp only [ob_cons, ob_nil, and_true, Nat.ble_eq]; omega) (good_out ⟨i + 1, ⟨rfl, c1', trivial⟩, rfl, .cons (ABeq.refl _) (.cons (ABeq.row fun j hj => ?_) (.cons (ABeq.refl _) .nil))⟩)
      exact rd_row m c i _ _ ho (by rw [spJ, q]; rfl) j hj
    · refine good_needs (by simp only [ob_cons, ob_nil, and_true, Nat.ble_eq]; omega) (good_out ⟨i + 1, ⟨rfl, c1', trivial⟩, rfl, .cons (ABeq.refl _) (.cons (ABeq.row fun j hj => ?_) (.cons (ABeq.refl _) .nil))⟩)
      exact rd_row m c i _ _ ho (by rw [spJ, q]; rfl) j hj
  · have c1 := of_decide_eq_false c1
    have : i = m := by omega
    subst this
    refine good_out ⟨hpRdX i f i (rdF i c), .cons (ABeq.refl _) (.cons (ABeq.row fun j hj => row9_congr fun k _ => by rw [ho j hj]) .nil), ?_⟩
    rw [if_pos rfl]
    exact hk
theorem sumRdS (m : Nat) (f c : Nat → Nat → Int) (hm : m ≤ 2 ^ 38) :
    SumOk Try.prog 1 (.block 0 (.loop (loopAt 0 fRdS))) (atS 51 (lvRdS .normal) 1 (stRdS m m 0) (hpRdS m f m c 0 fun _ _ => 0) (fun K => K .normal (mkT 0 51 [(4, .own 1 m)]) (hpRdX m f m (rdF m c)))) := by
  refine for_at g0_ok (n := 100) (m := 1) (lv := lvRdS) (fun i => stRdS m m i) (fun i => hpRdS m f m c i (bif Nat.beq i 0 then (fun _ _ => 0) else rdF m c)) (fun _ => True) m (fun _ => noLam) (lv3_ris rfl rfl rfl) (Nat.le_refl _) trivial fun K Q hk i _ hi => ⟨noLam_ok _ _ _, ?_⟩
  have ho : ∀ j, j < i → (bif Nat.beq i 0 then (fun _ _ => (0 : Int)) else rdF m c) j = rdF m c j := by
    intro j hj
    cases i with
    | zero => exact absurd hj (Nat.not_lt_zero _)
    | succ i => rfl
  rw [rndRdS]
  simp only [Int.toNat_natCast, Nat.zero_add]
  refine good_cond (fun c1 => ?_) fun c1 => ?_
  · have c1 := of_decide_eq_true c1
    have c1' : i < m := by omega
    rw [wr_in (x := (i : Int) + 1) (by omega), wr_in (x := 2 * (i : Int)) (by omega), wr_in (x := (i : Int) - m) (by omega)]
    refine good_cond (fun q => ?_) fun q => ?_
    · refine good_needs (by simp only [ob_cons, ob_nil, and_true, decide_eq_true_eq, Nat.ble_eq]; omega) (good_out ⟨i + 1, ⟨rfl, c1', trivial⟩, rfl, .cons (ABeq.refl _) (.cons (ABeq.row fun j hj => ?_) (.cons (ABeq.refl _) .nil))⟩)
      exact rd_row m c i _ _ ho (by rw [spJ, q]; rfl) j hj
    · refine good_needs (by simp only [ob_cons, ob_nil, and_true, decide_eq_true_eq, Nat.ble_eq]; omega) (good_out ⟨i + 1, ⟨rfl, c1', trivial⟩, rfl, .cons (ABeq.refl _) (.cons (ABeq.row fun j hj => ?_) (.cons (ABeq.refl _) .nil))⟩)
      exact rd_row m c i _ _ ho (by rw [spJ, q]; rfl) j hj
  · have c1 := of_decide_eq_false c1
    have : i = m := by omega
    subst this
    refine good_out ⟨hpRdX i f i (rdF i c), .cons (ABeq.refl _) (.cons (ABeq.row fun j hj => row9_congr fun k _ => by rw [ho j hj]) .nil), ?_⟩
    rw [if_pos rfl]
    exact hk
theorem trS_in (f : Nat → Nat → Int) (n j : Int) : ∀ i k, -9223372036854775808 ≤ trS f n j i k ∧ trS f n j i k ≤ 9223372036854775807
  | 0, _ => by show -9223372036854775808 ≤ (0 : Int) ∧ (0 : Int) ≤ 9223372036854775807; omega
  | i + 1, k => w64_range _
theorem trV_in (f : Nat → Nat → Int) (n j : Int) (k : Nat) : -9223372036854775808 ≤ trV f n j k ∧ trV f n j k ≤ 9223372036854775807 := by
  unfold trV
  cases trK f n j with
  | true => exact trS_in f n j _ k
  | false => show -9223372036854775808 ≤ (0 : Int) ∧ (0 : Int) ≤ 9223372036854775807; omega
theorem rwW_in (f : Nat → Nat → Int) (m : Nat) : inW (rwW f m) := fun w hw => by
  obtain ⟨j, _, e⟩ := List.mem_map.1 (show w ∈ (List.range m).map fun j => whOf (rdF m (trF f m) j) from hw)
  subst e
  intro k hk
  have e2 : ∀ k, k < 8 → (whOf (rdF m (trF f m) j)).r.f k = trV f m j k := forall8 rfl rfl rfl rfl rfl rfl rfl rfl
  rw [e2 k hk]
  exact trV_in f m j k
theorem toK_in {f : Nat → Nat → Int} {m : Nat} (h : toK f m = true) : 1 ≤ m ∧ m ≤ 24 := by
  rw [toK, Bool.and_eq_true] at h
  have := roV_in (rvB_parts h.1).1
  omega
theorem toT_len {f : Nat → Nat → Int} {m : Nat} (h : toK f m = true) : (toT f m).length = m := by rw [toT_yes h, tTf, listC_length]
theorem toT_row {f : Nat → Nat → Int} {m : Nat} (h : toK f m = true) (j : Nat) (hj : j < m) : row8 (cfun (toT f m)) j = row8 (trF f m) j := by
  rw [toT_yes h]
  exact row8_list _ hj
theorem toK_row (f : Nat → Nat → Int) (m : Nat) : toK (it8 (row8 f)) m = toK f m := by rw [toK, rvB_row, tkB_row]; rfl
theorem toT_row8 (f : Nat → Nat → Int) (m : Nat) : toT (it8 (row8 f)) m = toT f m := by rw [toT, toK_row, tTf_row]; rfl
def FrdY : List SA → Option FR
  | [.row m g] => some { val := valY (tRd (it8 g) m), new := newY (tRd (it8 g) m), obl := [all8 m g, decide (m ≤ 2 ^ 38), yRd (it8 g) m] }
  | _ => none
def FrdN : List SA → Option FR
  | [.row m g] => some { val := valN, obl := [all8 m g, decide (m ≤ 2 ^ 38), !yRd (it8 g) m] }
  | _ => none
def UrdO (yes : (Nat → Nat → Int) → Nat → Bool) (tl : (Nat → Nat → Int) → Nat → List Wh) : List SA → Option UR
  | [.row m g] => some ⟨yes (it8 g) m, tl (it8 g) m, [all8 m g, decide (m ≤ 2 ^ 38)]⟩
  | _ => none
def FrdS (yes : (Nat → Nat → Int) → Nat → Bool) (tl : (Nat → Nat → Int) → Nat → List Wh) : List SA → Option FR
  | [.row m g] => some { val := .tup [.own 0 (tl (it8 g) m).length, .v (.bool (yes (it8 g) m))], new := [.row true (tl (it8 g) m).length 9 (row9 (wfun (tl (it8 g) m))) 46], obl := [all8 m g, decide (m ≤ 2 ^ 38)] }
  | _ => none
theorem tRd_no {f : Nat → Nat → Int} {m : Nat} (h : yRd f m = false) : tRd f m = [] := by
  rw [tRd]
  cases hp : rdP f m with
  | false => rfl
  | true =>
    rw [yRd, hp, Bool.true_and] at h
    exact tidyL_no h
theorem gmRdY_ok : GamOk Try.prog (gmRdY okD tidyL okT inWB toK toT) := ext_ok gmChY_ok ok_Uto
theorem gmRdN_ok : GamOk Try.prog (gmRdN okD okT inWB toK toT) := ext_ok gmChN_ok ok_Uto
theorem gmRdS_ok : GamOk Try.prog (gmRdS tidyL okT toK toT) := by
  refine ext_ok (ext_ok g0_ok ok_ts) ?_
  rw [FtidyO_eq]
  exact ok_tidyS
theorem ok_rdY : SpecOk Try.prog 29 (specR md_c8 FrdY) := by
  refine specR_hr gmRdY_ok Try.func29 rfl fun sas fr hF ho => ?_
  unfold FrdY at hF
  split at hF
  · rename_i m g
    cases hF
    simp only [ob_cons] at ho
    obtain ⟨h1, h2, h3, _⟩ := ho
    have hm := of_decide_eq_true h2
    have h3' := h3
    rw [yRd, rdP, Bool.and_eq_true, Bool.and_eq_true] at h3'
    obtain ⟨⟨hk, h12⟩, hT⟩ := h3'
    have h12 := of_decide_eq_true h12
    refine ⟨hpIy m (it8 g), lamRdI m (it8 g) m (trF (it8 g) m) (rdF m (trF (it8 g) m)), 100, .cons (ABeq.row fun j hj => all8_get h1 j hj) .nil, lam1 (by kernel_rfl) (sumRdI m (it8 g) (trF (it8 g) m) (by omega)), ?_⟩
    show GoodQ (execF Try.prog (gmRdY okD tidyL okT inWB toK toT) (lamRdI m (it8 g) m (trF (it8 g) m) (rdF m (trF (it8 g) m))) 100 fRdI [.sl 0 8 0 0 m none] (hpIy m (it8 g)) (packK 1)) _
    rw [treeRdY]
    simp only [row80, toK_row, toT_row8, row0, listW_itW]
    have eT : tRd (it8 g) m = tidyL (rwW (it8 g) m) := by rw [tRd, rdP, hk, decide_eq_true h12]; rfl
    refine good_needs (by simp only [ob_cons, ob_nil, and_true, decide_eq_true_eq, Nat.ble_eq, all8_row, true_and]; omega) (good_false (by rw [hk]; rfl) (good_false (decide_eq_false (by omega)) (good_needs ?_ (good_out ⟨_, rfl, by rw [eT]; rfl, .cons (ABeq.row fun j hj => (all8_get h1 j hj).symm) ?_⟩))))
    · simp only [ob_cons, ob_nil, and_true, decide_eq_true_eq, Nat.ble_eq, allW_row, true_and]
      refine ⟨by omega, chk_of ⟨by rw [toT_len hk]; rfl, .cons (ABeq.refl _) (.cons (ABeq.row fun j hj => absurd hj (Nat.not_lt_zero _)) (.cons ?_ .nil))⟩, by omega, by omega, chk_of (rwW_in _ _), hT⟩
      rw [toT_len hk]
      exact ABeq.row fun j hj => toT_row hk j hj
    · show Hsim _ [.row true (tRd (it8 g) m).length 9 (row9 (wfun (tRd (it8 g) m))) 46]
      rw [eT]
      exact Hsim.refl _
  · cases hF
theorem ok_rdN : SpecOk Try.prog 29 (specR md_c8 FrdN) := by
  refine specR_hr gmRdN_ok Try.func29 rfl fun sas fr hF ho => ?_
  unfold FrdN at hF
  split at hF
  · rename_i m g
    cases hF
    simp only [ob_cons] at ho
    obtain ⟨h1, h2, h3, _⟩ := ho
    have hm := of_decide_eq_true h2
    have h3 : yRd (it8 g) m = false := by simpa using h3
    have bad : GoodQ (.out .ret [.tup [.v (.slice none 0 0), .v (.bool false)]] (hpIy m (it8 g))) (GivR (abP md_c8 [.row m g] []) { val := valN, obl := [all8 m g, decide (m ≤ 2 ^ 38), !yRd (it8 g) m] }) := good_out ⟨_, rfl, rfl, .cons (ABeq.row fun j hj => (all8_get h1 j hj).symm) .nil⟩
    refine ⟨hpIy m (it8 g), lamRdI m (it8 g) m (trF (it8 g) m) (rdF m (trF (it8 g) m)), 100, .cons (ABeq.row fun j hj => all8_get h1 j hj) .nil, lam1 (by kernel_rfl) (sumRdI m (it8 g) (trF (it8 g) m) (by omega)), ?_⟩
    show GoodQ (execF Try.prog (gmRdN okD okT inWB toK toT) (lamRdI m (it8 g) m (trF (it8 g) m) (rdF m (trF (it8 g) m))) 100 fRdI [.sl 0 8 0 0 m none] (hpIy m (it8 g)) (packK 1)) _
    rw [treeRdN]
    simp only [row80, toK_row, toT_row8, row0, listW_itW]
    refine good_needs (by simp only [ob_cons, ob_nil, and_true, decide_eq_true_eq, Nat.ble_eq, all8_row, true_and]; omega) (good_cond (fun _ => bad) fun q => good_cond (fun _ => bad) fun q2 => good_needs ?_ bad)
    have hk : toK (it8 g) m = true := by simpa using q
    have h12 := of_decide_eq_false q2
    rw [yRd, rdP, hk, decide_eq_true (show m ≤ 12 by omega), Bool.true_and, Bool.true_and] at h3
    simp only [ob_cons, ob_nil, and_true, decide_eq_true_eq, Nat.ble_eq, allW_row, true_and]
    refine ⟨by omega, chk_of ⟨by rw [toT_len hk]; rfl, .cons (ABeq.refl _) (.cons (ABeq.row fun j hj => absurd hj (Nat.not_lt_zero _)) (.cons ?_ .nil))⟩, by omega, by omega, chk_of (rwW_in _ _), by rw [show okT (listW (rdF m (trF (it8 g) m)) m) = false from h3]; rfl⟩
    rw [toT_len hk]
    exact ABeq.row fun j hj => toT_row hk j hj
  · cases hF
theorem ok_Urd : SpecOk Try.prog 29 (specU md_c8 (UrdO yRd tRd)) := by
  refine specU_ok rfl ok_rdY ok_rdN fun sas u hu ho => ?_
  unfold UrdO at hu
  split at hu
  · rename_i m g
    cases hu
    simp only [ob_cons] at ho
    obtain ⟨h1, h2, _⟩ := ho
    refine ⟨rfl, ?_⟩
    cases hv : yRd (it8 g) m with
    | true =>
      left
      refine ⟨rfl, [all8 m g, decide (m ≤ 2 ^ 38), yRd (it8 g) m], rfl, ?_⟩
      simp only [ob_cons, ob_nil, and_true]
      exact ⟨h1, h2, hv⟩
    | false =>
      right
      refine ⟨rfl, tRd_no hv, [all8 m g, decide (m ≤ 2 ^ 38), !yRd (it8 g) m], rfl, ?_⟩
      simp only [ob_cons, ob_nil, and_true]
      exact ⟨h1, h2, by rw [hv]; rfl⟩
  · cases hu
theorem ok_rdS : SpecOk Try.prog 30 (specR md_c8 (FrdS yRd tRd)) := by
  refine specR_hr gmRdS_ok Try.func30 rfl fun sas fr hF ho => ?_
  unfold FrdS at hF
  split at hF
  · rename_i m g
    cases hF
    simp only [ob_cons] at ho
    obtain ⟨h1, h2, _⟩ := ho
    have hm := of_decide_eq_true h2
    have bad : rdP (it8 g) m = false → GoodQ (.out .ret [.tup [.own 1 0, .v (.bool false)]] [.row false m 8 (row8 (it8 g)) 31, .row true 0 9 (fun _ => []) 46]) (GivR (abP md_c8 [.row m g] []) { val := .tup [.own 0 (tRd (it8 g) m).length, .v (.bool (yRd (it8 g) m))], new := [.row true (tRd (it8 g) m).length 9 (row9 (wfun (tRd (it8 g) m))) 46], obl := [all8 m g, decide (m ≤ 2 ^ 38)] }) := fun h => by
      have e1 : yRd (it8 g) m = false := by rw [yRd, h]; rfl
      refine good_out ⟨_, rfl, by rw [tRd_no e1, e1]; rfl, .cons (ABeq.row fun j hj => (all8_get h1 j hj).symm) ?_⟩
      show Hsim _ [.row true (tRd (it8 g) m).length 9 (row9 (wfun (tRd (it8 g) m))) 46]
      rw [tRd_no e1]
      exact .cons (ABeq.row fun j hj => absurd hj (Nat.not_lt_zero _)) .nil
    refine ⟨hpIy m (it8 g), lamRdS m (it8 g) m (trF (it8 g) m) (rdF m (trF (it8 g) m)), 100, .cons (ABeq.row fun j hj => all8_get h1 j hj) .nil, lam1 (by kernel_rfl) (sumRdS m (it8 g) (trF (it8 g) m) (by omega)), ?_⟩
    show GoodQ (execF Try.prog (gmRdS tidyL okT toK toT) (lamRdS m (it8 g) m (trF (it8 g) m) (rdF m (trF (it8 g) m))) 100 fRdS [.sl 0 8 0 0 m none] (hpIy m (it8 g)) (packK 1)) _
    rw [treeRdS]
    simp only [row80, toK_row, toT_row8, row0, listW_itW]
    refine good_needs (by simp only [ob_cons, ob_nil, and_true, decide_eq_true_eq, Nat.ble_eq, all8_row, true_and]; omega) (good_cond (fun q => bad ?_) fun q => good_cond (fun q2 => bad ?_) fun q2 => good_needs ?_ (good_out ?_))
    · have hk : toK (it8 g) m = false := by simpa using q
      rw [rdP, hk]
      rfl
    · have q2 := of_decide_eq_true q2
      rw [rdP, decide_eq_false (show ¬ m ≤ 12 by omega), Bool.and_false]
    · have hk : toK (it8 g) m = true := by simpa using q
      simp only [ob_cons, ob_nil, and_true, decide_eq_true_eq, Nat.ble_eq, allW_row, true_and]
      refine ⟨chk_of ⟨by rw [toT_len hk]; rfl, .cons (ABeq.refl _) (.cons (ABeq.row fun j hj => absurd hj (Nat.not_lt_zero _)) (.cons ?_ .nil))⟩, by omega, by omega⟩
      rw [toT_len hk]
      exact ABeq.row fun j hj => toT_row hk j hj
    · have hk : toK (it8 g) m = true := by simpa using q
      have h12 := of_decide_eq_false q2
      have hp : rdP (it8 g) m = true := by rw [rdP, hk, decide_eq_true (show m ≤ 12 by omega)]; rfl
      have e1 : tRd (it8 g) m = tidyL (rwW (it8 g) m) := by rw [tRd, hp]; rfl
      have e2 : yRd (it8 g) m = okT (rwW (it8 g) m) := by rw [yRd, hp]; rfl
      refine ⟨_, rfl, by rw [e1, e2]; rfl, .cons (ABeq.row fun j hj => (all8_get h1 j hj).symm) ?_⟩
      show Hsim _ [.row true (tRd (it8 g) m).length 9 (row9 (wfun (tRd (it8 g) m))) 46]
      rw [e1]
      exact Hsim.refl _
  · cases hF

end Go.Proofs.Ytmdcafhnjihckaa

/- The laws' helpers on lists of wheels: trees. Conditions: a list of wheels. -/
namespace Go.Proofs.Ytmdcafhnjihckaa
open Go.RowKit
set_option maxRecDepth 100000

abbrev lvTW : Ex → List Nat := lv3 [0, 3, 4] [3] [2]
abbrev hpTW (m : Nat) (f : Nat → Nat → Int) (t : TypeId) (h : Nat → Nat → Int) : List AB := [.row false m 9 (row9 f) t, .row true m 9 (row9 h) 46]
theorem rndTW (m : Nat) (f : Nat → Nat → Int) (t : TypeId) (h : Nat → Nat → Int) (i : Nat) : execC Try.prog g0 100 noLam (loopAt 0 Try.f49) (mkT 0 23 ((lvTW .normal).zip [.sl 0 9 0 0 m none, .own 1 m, .v (i64 i)])) (hpTW m f t h) (leafV 23 lvTW 1)
    = bif decide ((↑i : Int) < (↑m : Int)) then needs [decide ((↑i : Int) < (↑m : Int)), decide ((0 : Nat) + Int.toNat (↑i : Int) < m), decide ((↑i : Int) < (↑m : Int)), decide (Int.toNat (↑i : Int) < m)] (Res.out Ex.normal [AV.sl (0 : Nat) (9 : Nat) (0 : Nat) (0 : Nat) m none, AV.own (1 : Nat) m, AV.v (Value.int IntKind.i64 (IntKind.wrap IntKind.i64 ((↑i : Int) + (1 : Int))))] [AB.row false m (9 : Nat) (row9 f) t, AB.row true m (9 : Nat) (fun q ↦ [Value.int IntKind.i64 (bif Nat.beq q (Int.toNat (↑i : Int)) then f ((0 : Nat) + Int.toNat (↑i : Int)) (0 : Nat) else h q (0 : Nat)), Value.int IntKind.i64 (bif Nat.beq q (Int.toNat (↑i : Int)) then f ((0 : Nat) + Int.toNat (↑i : Int)) (1 : Nat) else h q (1 : Nat)), Value.int IntKind.i64 (bif Nat.beq q (Int.toNat (↑i : Int)) then f ((0 : Nat) + Int.toNat (↑i : Int)) (2 : Nat) else h q (2 : Nat)), Value.int IntKind.i64 (bif Nat.beq q (Int.toNat (↑i : Int)) then f ((0 : Nat) + Int.toNat (↑i : Int)) (3 : Nat) else h q (3 : Nat)), Value.int IntKind.i64 (bif Nat.beq q (Int.toNat (↑i : Int)) then f ((0 : Nat) + Int.toNat (↑i : Int)) (4 : Nat) else h q (4 : Nat)), Value.int IntKind.i64 (bif Nat.beq q (Int.toNat (↑i : Int)) then f ((0 : Nat) + Int.toNat (↑i : Int)) (5 : Nat) else h q (5 : Nat)), Value.int IntKind.i64 (bif Nat.beq q (Int.toNat (↑i : Int)) then f ((0 : Nat) + Int.toNat (↑i : Int)) (6 : Nat) else h q (6 : Nat)), Value.int IntKind.i64 (bif Nat.beq q (Int.toNat (↑i : Int)) then f ((0 : Nat) + Int.toNat (↑i : Int)) (7 : Nat) else h q (7 : Nat)), Value.int IntKind.i64 (bif Nat.beq q (Int.toNat (↑i : Int)) then f ((0 : Nat) + Int.toNat (↑i : Int)) (8 : Nat) else h q (8 : Nat))]) (46 : TypeId)]) else Res.out (Ex.exit (0 : Nat)) [AV.own (1 : Nat) m] [AB.row false m (9 : Nat) (row9 f) t, AB.row true m (9 : Nat) (row9 h) (46 : TypeId)] := by kernel_rfl

noncomputable abbrev lamTW (m : Nat) (f : Nat → Nat → Int) (t : TypeId) : Nat → Option Sum := oneL 0 (atS 23 (lvTW .normal) 1 [.sl 0 9 0 0 m none, .own 1 m, .v (i64 (0 : Nat))] (hpTW m f t (fun j k => bif Nat.blt j 0 then f j k else 0)) (fun K => K .normal (mkT 0 23 [(3, .own 1 m)]) (hpTW m f t f)))
theorem treeTW (m : Nat) (f : Nat → Nat → Int) (t : TypeId) : execF Try.prog g0 (lamTW m f t) 100 Try.f49 [.sl 0 9 0 0 m none] [.row false m 9 (row9 f) t] (packK 1)
    = needs [decide ((↑m : Int) ≤ (↑m : Int)), decide ((↑m : Int) ≤ (1099511627776 : Int)), chk ([AV.sl (0 : Nat) (9 : Nat) (0 : Nat) (0 : Nat) m none, AV.own (1 : Nat) (Int.toNat (↑m : Int)), AV.v (Value.int IntKind.i64 (0 : Int))] = [AV.sl (0 : Nat) (9 : Nat) (0 : Nat) (0 : Nat) m none, AV.own (1 : Nat) m, AV.v (Value.int IntKind.i64 (0 : Int))] ∧ Hsim [AB.row false m (9 : Nat) (row9 f) t, AB.row true (Int.toNat (↑m : Int)) (9 : Nat) (fun _ ↦ [Value.int IntKind.i64 (0 : Int), Value.int IntKind.i64 (0 : Int), Value.int IntKind.i64 (0 : Int), Value.int IntKind.i64 (0 : Int), Value.int IntKind.i64 (0 : Int), Value.int IntKind.i64 (0 : Int), Value.int IntKind.i64 (0 : Int), Value.int IntKind.i64 (0 : Int), Value.int IntKind.i64 (0 : Int)]) (46 : Nat)] (hpTW m f t fun j k ↦ bif Nat.blt j (0 : Nat) then f j k else (0 : Int)))] (Res.out Ex.ret [AV.own (1 : Nat) m] [AB.row false m (9 : Nat) (row9 f) t, AB.row true m (9 : Nat) (row9 f) (46 : TypeId)]) := by kernel_rfl

theorem treeQW (a b : Nat → Int) : execF Try.prog g0 noLam 100 Try.f104 ([Value.agg ⟨[i64 (a 0), i64 (a 1), i64 (a 2), i64 (a 3), i64 (a 4), i64 (a 5), i64 (a 6), i64 (a 7), i64 (a 8)]⟩, Value.agg ⟨[i64 (b 0), i64 (b 1), i64 (b 2), i64 (b 3), i64 (b 4), i64 (b 5), i64 (b 6), i64 (b 7), i64 (b 8)]⟩].map .v) [] valK
    = bif a (0 : Nat) != b (0 : Nat) then Res.out Ex.ret [AV.v (Value.bool false)] [] else bif a (1 : Nat) != b (1 : Nat) then Res.out Ex.ret [AV.v (Value.bool false)] [] else bif a (2 : Nat) != b (2 : Nat) then Res.out Ex.ret [AV.v (Value.bool false)] [] else bif a (3 : Nat) != b (3 : Nat) then Res.out Ex.ret [AV.v (Value.bool false)] [] else bif a (4 : Nat) != b (4 : Nat) then Res.out Ex.ret [AV.v (Value.bool false)] [] else bif a (5 : Nat) != b (5 : Nat) then Res.out Ex.ret [AV.v (Value.bool false)] [] else bif a (6 : Nat) != b (6 : Nat) then Res.out Ex.ret [AV.v (Value.bool false)] [] else bif a (7 : Nat) != b (7 : Nat) then Res.out Ex.ret [AV.v (Value.bool false)] [] else bif a (8 : Nat) != b (8 : Nat) then Res.out Ex.ret [AV.v (Value.bool false)] [] else Res.out Ex.ret [AV.v (Value.bool true)] [] := by kernel_rfl

def f_eqW : List Value → Option (Value × List Bool)
  | [.agg ⟨[.int .i64 a0, .int .i64 a1, .int .i64 a2, .int .i64 a3, .int .i64 a4, .int .i64 a5, .int .i64 a6, .int .i64 a7, .int .i64 a8]⟩, .agg ⟨[.int .i64 b0, .int .i64 b1, .int .i64 b2, .int .i64 b3, .int .i64 b4, .int .i64 b5, .int .i64 b6, .int .i64 b7, .int .i64 b8]⟩] => some (.bool true, [decide (a0 = b0), decide (a1 = b1), decide (a2 = b2), decide (a3 = b3), decide (a4 = b4), decide (a5 = b5), decide (a6 = b6), decide (a7 = b7), decide (a8 = b8)])
  | _ => none
def gmQ : Gam := ext g0 104 (specV f_eqW)
abbrev lvQW : Ex → List Nat := lv3 [0, 1, 5] [] [4]
theorem rndQW (m : Nat) (f h : Nat → Nat → Int) (i : Nat) : execC Try.prog gmQ 100 noLam (loopAt 0 Try.f50) (mkT 0 27 ((lvQW .normal).zip [.sl 0 9 0 0 m none, .sl 1 9 0 0 m none, .v (i64 i)])) (hpQW m f h) (leafV 27 lvQW 2)
    = bif decide ((↑i : Int) < (↑m : Int)) then needs [decide ((↑i : Int) < (↑m : Int)), decide ((0 : Nat) + Int.toNat (↑i : Int) < m), decide ((↑i : Int) < (↑m : Int)), decide ((0 : Nat) + Int.toNat (↑i : Int) < m), decide (f ((0 : Nat) + Int.toNat (↑i : Int)) (0 : Nat) = h ((0 : Nat) + Int.toNat (↑i : Int)) (0 : Nat)), decide (f ((0 : Nat) + Int.toNat (↑i : Int)) (1 : Nat) = h ((0 : Nat) + Int.toNat (↑i : Int)) (1 : Nat)), decide (f ((0 : Nat) + Int.toNat (↑i : Int)) (2 : Nat) = h ((0 : Nat) + Int.toNat (↑i : Int)) (2 : Nat)), decide (f ((0 : Nat) + Int.toNat (↑i : Int)) (3 : Nat) = h ((0 : Nat) + Int.toNat (↑i : Int)) (3 : Nat)), decide (f ((0 : Nat) + Int.toNat (↑i : Int)) (4 : Nat) = h ((0 : Nat) + Int.toNat (↑i : Int)) (4 : Nat)), decide (f ((0 : Nat) + Int.toNat (↑i : Int)) (5 : Nat) = h ((0 : Nat) + Int.toNat (↑i : Int)) (5 : Nat)), decide (f ((0 : Nat) + Int.toNat (↑i : Int)) (6 : Nat) = h ((0 : Nat) + Int.toNat (↑i : Int)) (6 : Nat)), decide (f ((0 : Nat) + Int.toNat (↑i : Int)) (7 : Nat) = h ((0 : Nat) + Int.toNat (↑i : Int)) (7 : Nat)), decide (f ((0 : Nat) + Int.toNat (↑i : Int)) (8 : Nat) = h ((0 : Nat) + Int.toNat (↑i : Int)) (8 : Nat))] (Res.out Ex.normal [AV.sl (0 : Nat) (9 : Nat) (0 : Nat) (0 : Nat) m none, AV.sl (1 : Nat) (9 : Nat) (0 : Nat) (0 : Nat) m none, AV.v (Value.int IntKind.i64 (IntKind.wrap IntKind.i64 ((↑i : Int) + (1 : Int))))] [AB.row false m (9 : Nat) (row9 f) (46 : TypeId), AB.row false m (9 : Nat) (row9 h) (46 : TypeId)]) else Res.out (Ex.exit (0 : Nat)) [] [AB.row false m (9 : Nat) (row9 f) (46 : TypeId), AB.row false m (9 : Nat) (row9 h) (46 : TypeId)] := by kernel_rfl

noncomputable abbrev lamQW (m : Nat) (f h : Nat → Nat → Int) : Nat → Option Sum := oneL 0 (atS 27 (lvQW .normal) 2 [.sl 0 9 0 0 m none, .sl 1 9 0 0 m none, .v (i64 (0 : Nat))] (hpQW m f h) (fun K => K .normal (mkT 0 27 []) (hpQW m f h)))
theorem treeQS (m : Nat) (f h : Nat → Nat → Int) : execF Try.prog g0 (lamQW m f h) 100 Try.f50 [.sl 0 9 0 0 m none, .sl 1 9 0 0 m none] (hpQW m f h) (packK 2)
    = bif (↑m : Int) != (↑m : Int) then Res.out Ex.ret [AV.v (Value.bool false)] [AB.row false m (9 : Nat) (row9 f) (46 : TypeId), AB.row false m (9 : Nat) (row9 h) (46 : TypeId)] else needs [chk ([AV.sl (0 : Nat) (9 : Nat) (0 : Nat) (0 : Nat) m none, AV.sl (1 : Nat) (9 : Nat) (0 : Nat) (0 : Nat) m none, AV.v (Value.int IntKind.i64 (0 : Int))] = [AV.sl (0 : Nat) (9 : Nat) (0 : Nat) (0 : Nat) m none, AV.sl (1 : Nat) (9 : Nat) (0 : Nat) (0 : Nat) m none, AV.v (Value.int IntKind.i64 (0 : Int))] ∧ Hsim [AB.row false m (9 : Nat) (row9 f) (46 : TypeId), AB.row false m (9 : Nat) (row9 h) (46 : TypeId)] (hpQW m f h))] (Res.out Ex.ret [AV.v (Value.bool true)] [AB.row false m (9 : Nat) (row9 f) (46 : TypeId), AB.row false m (9 : Nat) (row9 h) (46 : TypeId)]) := by kernel_rfl

abbrev lvHW : Ex → List Nat := lv3 [0, 1, 5] [1] [4]
abbrev hpHW (m : Nat) (f : Nat → Nat → Int) : List AB := [.row false m 9 (row9 f) 46]
theorem rndHW (m : Nat) (f : Nat → Nat → Int) (k : Int) (i : Nat) : execC Try.prog g0 100 noLam (loopAt 0 Try.f56) (mkT 0 39 ((lvHW .normal).zip [.sl 0 9 0 0 m none, .v (i64 k), .v (i64 i)])) (hpHW m f) (leafV 39 lvHW 1)
    = bif decide ((↑i : Int) < (↑m : Int)) then needs [decide ((↑i : Int) < (↑m : Int)), decide ((0 : Nat) + Int.toNat (↑i : Int) < m)] (bif f ((0 : Nat) + Int.toNat (↑i : Int)) (0 : Nat) != k then Res.out Ex.ret [AV.v (Value.int IntKind.i64 (-1 : Int))] [AB.row false m (9 : Nat) (row9 f) (46 : TypeId)] else needs [decide ((↑i : Int) < (↑m : Int)), decide ((0 : Nat) + Int.toNat (↑i : Int) < m)] (bif f ((0 : Nat) + Int.toNat (↑i : Int)) (1 : Nat) != IntKind.wrap IntKind.i64 (k + (1 : Int)) then Res.out Ex.ret [AV.v (Value.int IntKind.i64 (-1 : Int))] [AB.row false m (9 : Nat) (row9 f) (46 : TypeId)] else needs [decide ((↑i : Int) < (↑m : Int)), decide ((0 : Nat) + Int.toNat (↑i : Int) < m)] (bif f ((0 : Nat) + Int.toNat (↑i : Int)) (2 : Nat) != IntKind.wrap IntKind.i64 (IntKind.wrap IntKind.i64 (k + (1 : Int)) + (1 : Int)) then Res.out Ex.ret [AV.v (Value.int IntKind.i64 (-1 : Int))] [AB.row false m (9 : Nat) (row9 f) (46 : TypeId)] else needs [decide ((↑i : Int) < (↑m : Int)), decide ((0 : Nat) + Int.toNat (↑i : Int) < m)] (bif f ((0 : Nat) + Int.toNat (↑i : Int)) (3 : Nat) != IntKind.wrap IntKind.i64 (IntKind.wrap IntKind.i64 (IntKind.wrap IntKind.i64 (k + (1 : Int)) + (1 : Int)) + (1 : Int)) then Res.out Ex.ret [AV.v (Value.int IntKind.i64 (-1 : Int))] [AB.row false m (9 : Nat) (row9 f) (46 : TypeId)] else needs [decide ((↑i : Int) < (↑m : Int)), decide ((0 : Nat) + Int.toNat (↑i : Int) < m)] (bif f ((0 : Nat) + Int.toNat (↑i : Int)) (4 : Nat) != IntKind.wrap IntKind.i64 (IntKind.wrap IntKind.i64 (IntKind.wrap IntKind.i64 (IntKind.wrap IntKind.i64 (k + (1 : Int)) + (1 : Int)) + (1 : Int)) + (1 : Int)) then Res.out Ex.ret [AV.v (Value.int IntKind.i64 (-1 : Int))] [AB.row false m (9 : Nat) (row9 f) (46 : TypeId)] else needs [decide ((↑i : Int) < (↑m : Int)), decide ((0 : Nat) + Int.toNat (↑i : Int) < m)] (bif f ((0 : Nat) + Int.toNat (↑i : Int)) (5 : Nat) != IntKind.wrap IntKind.i64 (IntKind.wrap IntKind.i64 (IntKind.wrap IntKind.i64 (IntKind.wrap IntKind.i64 (IntKind.wrap IntKind.i64 (k + (1 : Int)) + (1 : Int)) + (1 : Int)) + (1 : Int)) + (1 : Int)) then Res.out Ex.ret [AV.v (Value.int IntKind.i64 (-1 : Int))] [AB.row false m (9 : Nat) (row9 f) (46 : TypeId)] else needs [decide ((↑i : Int) < (↑m : Int)), decide ((0 : Nat) + Int.toNat (↑i : Int) < m)] (bif f ((0 : Nat) + Int.toNat (↑i : Int)) (6 : Nat) != IntKind.wrap IntKind.i64 (IntKind.wrap IntKind.i64 (IntKind.wrap IntKind.i64 (IntKind.wrap IntKind.i64 (IntKind.wrap IntKind.i64 (IntKind.wrap IntKind.i64 (k + (1 : Int)) + (1 : Int)) + (1 : Int)) + (1 : Int)) + (1 : Int)) + (1 : Int)) then Res.out Ex.ret [AV.v (Value.int IntKind.i64 (-1 : Int))] [AB.row false m (9 : Nat) (row9 f) (46 : TypeId)] else needs [decide ((↑i : Int) < (↑m : Int)), decide ((0 : Nat) + Int.toNat (↑i : Int) < m)] (bif f ((0 : Nat) + Int.toNat (↑i : Int)) (7 : Nat) != IntKind.wrap IntKind.i64 (IntKind.wrap IntKind.i64 (IntKind.wrap IntKind.i64 (IntKind.wrap IntKind.i64 (IntKind.wrap IntKind.i64 (IntKind.wrap IntKind.i64 (IntKind.wrap IntKind.i64 (k + (1 : Int)) + (1 : Int)) + (1 : Int)) + (1 : Int)) + (1 : Int)) + (1 : Int)) + (1 : Int)) then Res.out Ex.ret [AV.v (Value.int IntKind.i64 (-1 : Int))] [AB.row false m (9 : Nat) (row9 f) (46 : TypeId)] else needs [decide ((↑i : Int) < (↑m : Int)), decide ((0 : Nat) + Int.toNat (↑i : Int) < m)] (bif f ((0 : Nat) + Int.toNat (↑i : Int)) (8 : Nat) != IntKind.wrap IntKind.i64 (IntKind.wrap IntKind.i64 (IntKind.wrap IntKind.i64 (IntKind.wrap IntKind.i64 (IntKind.wrap IntKind.i64 (IntKind.wrap IntKind.i64 (IntKind.wrap IntKind.i64 (IntKind.wrap IntKind.i64 (k + (1 : Int)) + (1 : Int)) + (1 : Int)) + (1 : Int)) + (1 : Int)) + (1 : Int)) + (1 : Int)) + (1 : Int)) then Res.out Ex.ret [AV.v (Value.int IntKind.i64 (-1 : Int))] [AB.row false m (9 : Nat) (row9 f) (46 : TypeId)] else Res.out Ex.normal [AV.sl (0 : Nat) (9 : Nat) (0 : Nat) (0 : Nat) m none, AV.v (Value.int IntKind.i64 (IntKind.wrap IntKind.i64 (IntKind.wrap IntKind.i64 (IntKind.wrap IntKind.i64 (IntKind.wrap IntKind.i64 (IntKind.wrap IntKind.i64 (IntKind.wrap IntKind.i64 (IntKind.wrap IntKind.i64 (IntKind.wrap IntKind.i64 (IntKind.wrap IntKind.i64 (k + (1 : Int)) + (1 : Int)) + (1 : Int)) + (1 : Int)) + (1 : Int)) + (1 : Int)) + (1 : Int)) + (1 : Int)) + (1 : Int)))), AV.v (Value.int IntKind.i64 (IntKind.wrap IntKind.i64 ((↑i : Int) + (1 : Int))))] [AB.row false m (9 : Nat) (row9 f) (46 : TypeId)]))))))))) else Res.out (Ex.exit (0 : Nat)) [AV.v (Value.int IntKind.i64 k)] [AB.row false m (9 : Nat) (row9 f) (46 : TypeId)] := by kernel_rfl

noncomputable abbrev lamHW (m : Nat) (f : Nat → Nat → Int) (k k2 : Int) : Nat → Option Sum := oneL 0 (atS 39 (lvHW .normal) 1 [.sl 0 9 0 0 m none, .v (i64 k), .v (i64 (0 : Nat))] (hpHW m f) (fun K => K .normal (mkT 0 39 [(1, .v (i64 k2))]) (hpHW m f)))
theorem treeHW (m : Nat) (f : Nat → Nat → Int) (k k2 : Int) : execF Try.prog g0 (lamHW m f k k2) 100 Try.f56 [.sl 0 9 0 0 m none, .v (i64 k)] (hpHW m f) (packK 1)
    = needs [chk ([AV.sl (0 : Nat) (9 : Nat) (0 : Nat) (0 : Nat) m none, AV.v (Value.int IntKind.i64 k), AV.v (Value.int IntKind.i64 (0 : Int))] = [AV.sl (0 : Nat) (9 : Nat) (0 : Nat) (0 : Nat) m none, AV.v (Value.int IntKind.i64 k), AV.v (Value.int IntKind.i64 (0 : Int))] ∧ Hsim [AB.row false m (9 : Nat) (row9 f) (46 : TypeId)] (hpHW m f))] (Res.out Ex.ret [AV.v (Value.int IntKind.i64 k2)] [AB.row false m (9 : Nat) (row9 f) (46 : TypeId)]) := by kernel_rfl

abbrev lvMW : Ex → List Nat := lv3 [0, 1, 5] [1] [4]
abbrev hpMW (m : Nat) (f : Nat → Nat → Int) : List AB := [.row true m 9 (row9 f) 46]
abbrev wr1 (k : Int) : Int := IntKind.i64.wrap (k + 1)
def upd1 (G : Nat → List Value) (i q : Nat) (v : Value) : Nat → List Value := fun j => mergeL (Nat.beq j i) (splice (G i) q [v]) (G j)
theorem rndMo (m : Nat) (f : Nat → Nat → Int) (k : Int) (i : Nat) : execC Try.prog g0 100 noLam (loopAt 0 Try.f55) (mkT 0 35 ((lvMW .normal).zip [.own 0 m, .v (i64 k), .v (i64 i)])) (hpMW m f) (leafV 35 lvMW 1)
    = cond (decide ((i : Int) < m)) (needs ((List.range 9).flatMap fun _ => [decide ((i : Int) < m), decide (i < m)])
        (.out .normal [.own 0 m, .v (i64 (wr1 (wr1 (wr1 (wr1 (wr1 (wr1 (wr1 (wr1 (wr1 k)))))))))), .v (i64 (wr1 i))] [.row true m 9 (upd1 (upd1 (upd1 (upd1 (upd1 (upd1 (upd1 (upd1 (upd1 (row9 f) i 0 (i64 k)) i 1 (i64 (wr1 k))) i 2 (i64 (wr1 (wr1 k)))) i 3 (i64 (wr1 (wr1 (wr1 k))))) i 4 (i64 (wr1 (wr1 (wr1 (wr1 k)))))) i 5 (i64 (wr1 (wr1 (wr1 (wr1 (wr1 k))))))) i 6 (i64 (wr1 (wr1 (wr1 (wr1 (wr1 (wr1 k)))))))) i 7 (i64 (wr1 (wr1 (wr1 (wr1 (wr1 (wr1 (wr1 k))))))))) i 8 (i64 (wr1 (wr1 (wr1 (wr1 (wr1 (wr1 (wr1 (wr1 k)))))))))) 46]))
      (.out (.exit 0) [.v (i64 k)] (hpMW m f)) := by kernel_rfl
theorem rndMs (m : Nat) (f : Nat → Nat → Int) (k : Int) (i : Nat) : execC Try.prog g0 100 noLam (loopAt 0 Try.f55) (mkT 0 35 ((lvMW .normal).zip [.sl 0 9 0 0 m (some m), .v (i64 k), .v (i64 i)])) (hpMW m f) (leafV 35 lvMW 1)
    = cond (decide ((i : Int) < m)) (needs ((List.range 9).flatMap fun _ => [decide ((i : Int) < m), decide (0 + i < m)])
        (.out .normal [.sl 0 9 0 0 m (some m), .v (i64 (wr1 (wr1 (wr1 (wr1 (wr1 (wr1 (wr1 (wr1 (wr1 k)))))))))), .v (i64 (wr1 i))] [.row true m 9 (upd1 (upd1 (upd1 (upd1 (upd1 (upd1 (upd1 (upd1 (upd1 (row9 f) (0 + i) 0 (i64 k)) (0 + i) 1 (i64 (wr1 k))) (0 + i) 2 (i64 (wr1 (wr1 k)))) (0 + i) 3 (i64 (wr1 (wr1 (wr1 k))))) (0 + i) 4 (i64 (wr1 (wr1 (wr1 (wr1 k)))))) (0 + i) 5 (i64 (wr1 (wr1 (wr1 (wr1 (wr1 k))))))) (0 + i) 6 (i64 (wr1 (wr1 (wr1 (wr1 (wr1 (wr1 k)))))))) (0 + i) 7 (i64 (wr1 (wr1 (wr1 (wr1 (wr1 (wr1 (wr1 k))))))))) (0 + i) 8 (i64 (wr1 (wr1 (wr1 (wr1 (wr1 (wr1 (wr1 (wr1 k)))))))))) 46]))
      (.out (.exit 0) [.v (i64 k)] (hpMW m f)) := by kernel_rfl

noncomputable abbrev lamMW (s : AV) (m : Nat) (f h : Nat → Nat → Int) (k k2 : Int) : Nat → Option Sum := oneL 0 (atS 35 (lvMW .normal) 1 [s, .v (i64 k), .v (i64 (0 : Nat))] (hpMW m f) (fun K => K .normal (mkT 0 35 [(1, .v (i64 k2))]) (hpMW m h)))
theorem treeMo (m : Nat) (f h : Nat → Nat → Int) (k k2 : Int) : execF Try.prog g0 (lamMW (.own 0 m) m f h k k2) 100 Try.f55 [.own 0 m, .v (i64 k)] (hpMW m f) (packK 1)
    = needs [chk ([AV.own (0 : Nat) m, AV.v (Value.int IntKind.i64 k), AV.v (Value.int IntKind.i64 (0 : Int))] = [AV.own (0 : Nat) m, AV.v (Value.int IntKind.i64 k), AV.v (Value.int IntKind.i64 (0 : Int))] ∧ Hsim [AB.row true m (9 : Nat) (row9 f) (46 : TypeId)] (hpMW m f))] (Res.out Ex.ret [AV.v (Value.int IntKind.i64 k2)] [AB.row true m (9 : Nat) (row9 h) (46 : TypeId)]) := by kernel_rfl

theorem treeMs (m : Nat) (f h : Nat → Nat → Int) (k k2 : Int) : execF Try.prog g0 (lamMW (.sl 0 9 0 0 m (some m)) m f h k k2) 100 Try.f55 [.sl 0 9 0 0 m (some m), .v (i64 k)] (hpMW m f) (packK 1)
    = needs [chk ([AV.sl (0 : Nat) (9 : Nat) (0 : Nat) (0 : Nat) m (some m), AV.v (Value.int IntKind.i64 k), AV.v (Value.int IntKind.i64 (0 : Int))] = [AV.sl (0 : Nat) (9 : Nat) (0 : Nat) (0 : Nat) m (some m), AV.v (Value.int IntKind.i64 k), AV.v (Value.int IntKind.i64 (0 : Int))] ∧ Hsim [AB.row true m (9 : Nat) (row9 f) (46 : TypeId)] (hpMW m f))] (Res.out Ex.ret [AV.v (Value.int IntKind.i64 k2)] [AB.row true m (9 : Nat) (row9 h) (46 : TypeId)]) := by kernel_rfl

end Go.Proofs.Ytmdcafhnjihckaa

/- The laws' helpers on lists of wheels. Conditions: those that the words name. -/
namespace Go.Proofs.Ytmdcafhnjihckaa
open Go.RowKit
set_option maxRecDepth 100000

theorem sumTW (m : Nat) (f : Nat → Nat → Int) (t : TypeId) (hm : m ≤ 2 ^ 40) :
    SumOk Try.prog 1 (.block 0 (.loop (loopAt 0 Try.f49))) (atS 23 (lvTW .normal) 1 [.sl 0 9 0 0 m none, .own 1 m, .v (i64 (0 : Nat))] (hpTW m f t (fun j k => bif Nat.blt j 0 then f j k else 0)) (fun K => K .normal (mkT 0 23 [(3, .own 1 m)]) (hpTW m f t f))) := by
  refine for_at g0_ok (n := 100) (m := 1) (lv := lvTW) (fun i => [.sl 0 9 0 0 m none, .own 1 m, .v (i64 (i : Nat))]) (fun i => hpTW m f t (fun j k => bif Nat.blt j i then f j k else 0)) (fun _ => True) m (fun _ => noLam) (lv3_ris rfl rfl rfl) (Nat.le_refl _) trivial fun K Q hk i hi him => ⟨noLam_ok _ _ _, ?_⟩
  rw [rndTW]
  refine good_cond (fun c1 => ?_) fun c1 => ?_
  · have c1 := of_decide_eq_true c1
    have c1' : i < m := by omega
    rw [Int.toNat_natCast, Nat.zero_add, wr_in (x := (i : Int) + 1) (by omega)]
    refine good_needs (by simp only [ob_cons, ob_nil, and_true, decide_eq_true_eq]; omega) (good_out ⟨i + 1, ⟨rfl, c1', trivial⟩, rfl, .cons (ABeq.refl _) (.cons (ABeq.row fun q hq => ?_) .nil)⟩)
    show row9 (fun q k => bif Nat.beq q i then f i k else bif Nat.blt q i then f q k else 0) q = _
    refine row9_congr fun k hk9 => ?_
    by_cases e : q = i
    · rw [e, show Nat.beq i i = true from Nat.beq_refl i, blt_yes (Nat.lt_succ_self i), cond_true, cond_true]
    · rw [beq_ne e, cond_false]
      by_cases h : q < i
      · rw [blt_yes h, blt_yes (by omega : q < i + 1)]
      · have b1 : Nat.blt q i = false := by
          cases hb : Nat.blt q i with
          | false => rfl
          | true => rw [Nat.blt_eq] at hb; omega
        have b2 : Nat.blt q (i + 1) = false := by
          cases hb : Nat.blt q (i + 1) with
          | false => rfl
          | true => rw [Nat.blt_eq] at hb; omega
        rw [b1, b2]
  · have c1 := of_decide_eq_false c1
    have : i = m := by omega
    subst this
    refine good_out ⟨hpTW i f t f, .cons (ABeq.refl _) (.cons (ABeq.row fun q hq => ?_) .nil), ?_⟩
    · exact row9_congr fun k _ => by rw [blt_yes hq]; rfl
    · rw [if_pos rfl]
      exact hk
def F_toW : List SA → Option FR
  | [.row m g] => some { val := .own 0 m, new := [.row true m 9 (row9 (itW g)) 46], obl := [allW m g, decide (m ≤ 2 ^ 39)] }
  | _ => none
def md_toW : List Md := [.rd 9 109]
theorem ok_toW : SpecOk Try.prog 49 (specR md_toW F_toW) := by
  refine specR_hr g0_ok Try.func49 rfl fun sas fr hF ho => ?_
  unfold F_toW at hF
  split at hF
  · rename_i m g
    cases hF
    simp only [ob_cons] at ho
    obtain ⟨h1, h2, _⟩ := ho
    have hm := of_decide_eq_true h2
    refine ⟨[.row false m 9 (row9 (itW g)) 109], lamTW m (itW g) 109, 100, .cons (ABeq.row fun j hj => allW_get h1 j hj) .nil, lam1 (by kernel_rfl) (sumTW m (itW g) 109 (by omega)), ?_⟩
    show GoodQ (execF Try.prog g0 (lamTW m (itW g) 109) 100 Try.f49 [.sl 0 9 0 0 m none] [.row false m 9 (row9 (itW g)) 109] (packK 1)) _
    rw [treeTW]
    simp only [Int.toNat_natCast]
    refine good_needs ?_ (good_out ⟨_, rfl, rfl, .cons (ABeq.row fun j hj => (allW_get h1 j hj).symm) (Hsim.refl _)⟩)
    simp only [ob_cons, ob_nil, and_true]
    exact ⟨by simp, decide_eq_true (by omega), chk_of ⟨trivial, .cons (ABeq.refl _) (.cons (ABeq.row fun j hj => rfl) .nil)⟩⟩
  · cases hF

theorem ok_eqW : SpecOk Try.prog 104 (specV f_eqW) := by
  refine mkV (n := 100) g0_ok Try.func104 rfl fun vs v ob hF ho => ?_
  unfold f_eqW at hF
  split at hF
  · rename_i a0 a1 a2 a3 a4 a5 a6 a7 a8 b0 b1 b2 b3 b4 b5 b6 b7 b8
    cases hF
    simp only [ob_cons, decide_eq_true_eq] at ho
    obtain ⟨rfl, rfl, rfl, rfl, rfl, rfl, rfl, rfl, rfl, _⟩ := ho
    show Good (execF Try.prog g0 noLam 100 Try.f104 ([Value.agg ⟨[i64 (v9 a0 a1 a2 a3 a4 a5 a6 a7 a8 0), i64 (v9 a0 a1 a2 a3 a4 a5 a6 a7 a8 1), i64 (v9 a0 a1 a2 a3 a4 a5 a6 a7 a8 2), i64 (v9 a0 a1 a2 a3 a4 a5 a6 a7 a8 3), i64 (v9 a0 a1 a2 a3 a4 a5 a6 a7 a8 4), i64 (v9 a0 a1 a2 a3 a4 a5 a6 a7 a8 5), i64 (v9 a0 a1 a2 a3 a4 a5 a6 a7 a8 6), i64 (v9 a0 a1 a2 a3 a4 a5 a6 a7 a8 7), i64 (v9 a0 a1 a2 a3 a4 a5 a6 a7 a8 8)]⟩, Value.agg ⟨[i64 (v9 a0 a1 a2 a3 a4 a5 a6 a7 a8 0), i64 (v9 a0 a1 a2 a3 a4 a5 a6 a7 a8 1), i64 (v9 a0 a1 a2 a3 a4 a5 a6 a7 a8 2), i64 (v9 a0 a1 a2 a3 a4 a5 a6 a7 a8 3), i64 (v9 a0 a1 a2 a3 a4 a5 a6 a7 a8 4), i64 (v9 a0 a1 a2 a3 a4 a5 a6 a7 a8 5), i64 (v9 a0 a1 a2 a3 a4 a5 a6 a7 a8 6), i64 (v9 a0 a1 a2 a3 a4 a5 a6 a7 a8 7), i64 (v9 a0 a1 a2 a3 a4 a5 a6 a7 a8 8)]⟩].map .v) [] valK) _
    rw [treeQW]
    simp only [bne_self_eq_false, cond_false]
    exact one rfl
  · cases hF
theorem gmQ_ok : GamOk Try.prog gmQ := ext_ok g0_ok ok_eqW

/-- The first m wheels are the same. -/
def sameP (m : Nat) (f h : Nat → Nat → Int) : Prop := ∀ j, j < m → ∀ k, k < 9 → f j k = h j k
noncomputable def sameW (m : Nat) (f h : Nat → Nat → Int) : Bool := chk (sameP m f h)
theorem sumQW (m : Nat) (f h : Nat → Nat → Int) (hm : m ≤ 2 ^ 40) (hs : sameP m f h) :
    SumOk Try.prog 2 (.block 0 (.loop (loopAt 0 Try.f50))) (atS 27 (lvQW .normal) 2 [.sl 0 9 0 0 m none, .sl 1 9 0 0 m none, .v (i64 (0 : Nat))] (hpQW m f h) (fun K => K .normal (mkT 0 27 []) (hpQW m f h))) := by
  refine for_at gmQ_ok (n := 100) (m := 2) (lv := lvQW) (fun i => [.sl 0 9 0 0 m none, .sl 1 9 0 0 m none, .v (i64 (i : Nat))]) (fun _ => hpQW m f h) (fun _ => True) m (fun _ => noLam) (lv3_ris rfl rfl rfl) (Nat.le_refl _) trivial fun K Q hk i hi him => ⟨noLam_ok _ _ _, ?_⟩
  rw [rndQW]
  refine good_cond (fun c1 => ?_) fun c1 => ?_
  · have c1 := of_decide_eq_true c1
    have c1' : i < m := by omega
    rw [Int.toNat_natCast, Nat.zero_add, wr_in (x := (i : Int) + 1) (by omega)]
    have e := hs i c1'
    refine good_needs ?_ (good_out ⟨i + 1, ⟨rfl, c1', trivial⟩, rfl, Hsim.refl _⟩)
    simp only [ob_cons, ob_nil, and_true, decide_eq_true_eq]
    exact ⟨by omega, by omega, by omega, by omega, e 0 (by omega), e 1 (by omega), e 2 (by omega), e 3 (by omega), e 4 (by omega), e 5 (by omega), e 6 (by omega), e 7 (by omega), e 8 (by omega)⟩
  · have c1 := of_decide_eq_false c1
    have : i = m := by omega
    subst this
    refine good_out ⟨_, Hsim.refl _, ?_⟩
    rw [if_pos rfl]
    exact hk
/-- Two lists of wheels that are the same. -/
noncomputable def F_eqWS : List SA → Option FR
  | [.row m g, .row m2 g2] => some { val := .v (.bool true), obl := [Nat.beq m2 m, allW m g, allW m g2, sameW m (itW g) (itW g2), decide (m ≤ 2 ^ 40)] }
  | _ => none
theorem ok_eqWS : SpecOk Try.prog 50 (specR md_eqWS F_eqWS) := by
  refine specR_hr g0_ok Try.func50 rfl fun sas fr hF ho => ?_
  unfold F_eqWS at hF
  split at hF
  · rename_i m g m2 g2
    cases hF
    simp only [ob_cons] at ho
    obtain ⟨h0, h1, h2, h3, h4, _⟩ := ho
    have h0 := Nat.eq_of_beq_eq_true h0
    subst h0
    have hm := of_decide_eq_true h4
    refine ⟨hpQW m2 (itW g) (itW g2), lamQW m2 (itW g) (itW g2), 100, .cons (ABeq.row fun j hj => allW_get h1 j hj) (.cons (ABeq.row fun j hj => allW_get h2 j hj) .nil), lam1 (by kernel_rfl) (sumQW m2 (itW g) (itW g2) hm (of_chk h3)), ?_⟩
    show GoodQ (execF Try.prog g0 (lamQW m2 (itW g) (itW g2)) 100 Try.f50 [.sl 0 9 0 0 m2 none, .sl 1 9 0 0 m2 none] (hpQW m2 (itW g) (itW g2)) (packK 2)) _
    rw [treeQS]
    exact good_false (by simp) (good_needs (by rw [ob_cons]; exact ⟨chk_of ⟨rfl, Hsim.refl _⟩, rfl⟩) (good_out ⟨_, rfl, rfl, .cons (ABeq.row fun j hj => (allW_get h1 j hj).symm) (.cons (ABeq.row fun j hj => (allW_get h2 j hj).symm) .nil)⟩))
  · cases hF

/-- Marks, from k on. -/
def markF (k : Int) : Nat → Nat → Int := fun j c => k + 9 * (j : Int) + c
theorem sumHW (m : Nat) (f : Nat → Nat → Int) (k : Int) (hm : m ≤ 2 ^ 40) (hk0 : 0 ≤ k ∧ k ≤ 2 ^ 50) (hs : sameP m f (markF k)) :
    SumOk Try.prog 1 (.block 0 (.loop (loopAt 0 Try.f56))) (atS 39 (lvHW .normal) 1 [.sl 0 9 0 0 m none, .v (i64 (k + 9 * (0 : Nat))), .v (i64 (0 : Nat))] (hpHW m f) (fun K => K .normal (mkT 0 39 [(1, .v (i64 (k + 9 * m)))]) (hpHW m f))) := by
  refine for_at g0_ok (n := 100) (m := 1) (lv := lvHW) (fun i => [.sl 0 9 0 0 m none, .v (i64 (k + 9 * (i : Nat))), .v (i64 (i : Nat))]) (fun _ => hpHW m f) (fun _ => True) m (fun _ => noLam) (lv3_ris rfl rfl rfl) (Nat.le_refl _) trivial fun K Q hk i hi him => ⟨noLam_ok _ _ _, ?_⟩
  rw [rndHW]
  refine good_cond (fun c1 => ?_) fun c1 => ?_
  · have c1 := of_decide_eq_true c1
    have c1' : i < m := by omega
    have e1 : IntKind.wrap IntKind.i64 (k + 9 * (i : Int) + 1) = k + 9 * (i : Int) + 1 := (wr_in (by omega)).trans (by omega)
    have e2 : IntKind.wrap IntKind.i64 (k + 9 * (i : Int) + 1 + 1) = k + 9 * (i : Int) + 2 := (wr_in (by omega)).trans (by omega)
    have e3 : IntKind.wrap IntKind.i64 (k + 9 * (i : Int) + 2 + 1) = k + 9 * (i : Int) + 3 := (wr_in (by omega)).trans (by omega)
    have e4 : IntKind.wrap IntKind.i64 (k + 9 * (i : Int) + 3 + 1) = k + 9 * (i : Int) + 4 := (wr_in (by omega)).trans (by omega)
    have e5 : IntKind.wrap IntKind.i64 (k + 9 * (i : Int) + 4 + 1) = k + 9 * (i : Int) + 5 := (wr_in (by omega)).trans (by omega)
    have e6 : IntKind.wrap IntKind.i64 (k + 9 * (i : Int) + 5 + 1) = k + 9 * (i : Int) + 6 := (wr_in (by omega)).trans (by omega)
    have e7 : IntKind.wrap IntKind.i64 (k + 9 * (i : Int) + 6 + 1) = k + 9 * (i : Int) + 7 := (wr_in (by omega)).trans (by omega)
    have e8 : IntKind.wrap IntKind.i64 (k + 9 * (i : Int) + 7 + 1) = k + 9 * (i : Int) + 8 := (wr_in (by omega)).trans (by omega)
    have e9 : IntKind.wrap IntKind.i64 (k + 9 * (i : Int) + 8 + 1) = k + 9 * ((i + 1 : Nat) : Int) := (wr_in (by omega)).trans (by omega)
    rw [Int.toNat_natCast, Nat.zero_add]
    rw [e1, e2, e3, e4, e5, e6, e7, e8, e9, wr_in (x := (i : Int) + 1) (by omega)]
    have ob : obls [decide ((i : Int) < m), decide (i < m)] = true := by simp only [ob_cons, ob_nil, and_true, decide_eq_true_eq]; omega
    have e := hs i c1'
    have h0 : f i 0 = k + 9 * (i : Int) := by rw [e 0 (by omega)]; simp [markF]
    have h1 : f i 1 = k + 9 * (i : Int) + 1 := e 1 (by omega)
    have h2 : f i 2 = k + 9 * (i : Int) + 2 := e 2 (by omega)
    have h3 : f i 3 = k + 9 * (i : Int) + 3 := e 3 (by omega)
    have h4 : f i 4 = k + 9 * (i : Int) + 4 := e 4 (by omega)
    have h5 : f i 5 = k + 9 * (i : Int) + 5 := e 5 (by omega)
    have h6 : f i 6 = k + 9 * (i : Int) + 6 := e 6 (by omega)
    have h7 : f i 7 = k + 9 * (i : Int) + 7 := e 7 (by omega)
    have h8 : f i 8 = k + 9 * (i : Int) + 8 := e 8 (by omega)
    exact good_needs ob (good_false (by simp [h0]) (good_needs ob (good_false (by simp [h1]) (good_needs ob (good_false (by simp [h2]) (good_needs ob (good_false (by simp [h3]) (good_needs ob (good_false (by simp [h4]) (good_needs ob (good_false (by simp [h5]) (good_needs ob (good_false (by simp [h6]) (good_needs ob (good_false (by simp [h7]) (good_needs ob (good_false (by simp [h8]) (good_out ⟨i + 1, ⟨rfl, c1', trivial⟩, rfl, Hsim.refl _⟩))))))))))))))))))
  · have c1 := of_decide_eq_false c1
    have : i = m := by omega
    subst this
    refine good_out ⟨_, Hsim.refl _, ?_⟩
    rw [if_pos rfl]
    exact hk
/-- A list that holds the marks. -/
noncomputable def F_heldW : List SA → Option FR
  | [.row m g, .v (.int .i64 k)] => some { val := .v (i64 (k + 9 * m)), obl := [allW m g, sameW m (itW g) (markF k), decide (0 ≤ k), decide (k ≤ 2 ^ 50), decide (m ≤ 2 ^ 40)] }
  | _ => none
theorem ok_heldW : SpecOk Try.prog 56 (specR md_wv F_heldW) := by
  refine specR_hr g0_ok Try.func56 rfl fun sas fr hF ho => ?_
  unfold F_heldW at hF
  split at hF
  · rename_i m g k
    cases hF
    simp only [ob_cons] at ho
    obtain ⟨h1, h3, h4, h5, h6, _⟩ := ho
    have h4 := of_decide_eq_true h4
    have h5 := of_decide_eq_true h5
    have hm := of_decide_eq_true h6
    have e0 : k = k + 9 * ((0 : Nat) : Int) := by omega
    have hS := sumHW m (itW g) k hm ⟨h4, h5⟩ (of_chk h3)
    rw [← e0] at hS
    refine ⟨hpHW m (itW g), lamHW m (itW g) k (k + 9 * m), 100, .cons (ABeq.row fun j hj => allW_get h1 j hj) .nil, lam1 (by kernel_rfl) hS, ?_⟩
    show GoodQ (execF Try.prog g0 (lamHW m (itW g) k (k + 9 * m)) 100 Try.f56 [.sl 0 9 0 0 m none, .v (i64 k)] (hpHW m (itW g)) (packK 1)) _
    rw [treeHW]
    exact good_needs (by rw [ob_cons]; exact ⟨chk_of ⟨rfl, Hsim.refl _⟩, rfl⟩) (good_out ⟨_, rfl, rfl, .cons (ABeq.row fun j hj => (allW_get h1 j hj).symm) .nil⟩)
  · cases hF

theorem upd9 (G : Nat → List Value) (i : Nat) (v0 v1 v2 v3 v4 v5 v6 v7 v8 : Value) (h : ∃ a : Nat → Int, G i = [i64 (a 0), i64 (a 1), i64 (a 2), i64 (a 3), i64 (a 4), i64 (a 5), i64 (a 6), i64 (a 7), i64 (a 8)]) (j : Nat) :
    (upd1 (upd1 (upd1 (upd1 (upd1 (upd1 (upd1 (upd1 (upd1 G i 0 v0) i 1 v1) i 2 v2) i 3 v3) i 4 v4) i 5 v5) i 6 v6) i 7 v7) i 8 v8) j = if j = i then [v0, v1, v2, v3, v4, v5, v6, v7, v8] else G j := by
  obtain ⟨a, ha⟩ := h
  have b1 : Nat.beq i i = true := Nat.beq_refl i
  by_cases e : j = i
  · subst e
    simp only [upd1, mergeL_eq, b1, cond_true, ha, if_pos]
    rfl
  · simp only [upd1, mergeL_eq, beq_ne e, cond_false, if_neg e]
/-- Marked below i. -/
def mkF (k : Int) (f : Nat → Nat → Int) (i : Nat) : Nat → Nat → Int := fun j c => bif Nat.blt j i then markF k j c else f j c
theorem sumMo (m : Nat) (f : Nat → Nat → Int) (k : Int) (hm : m ≤ 2 ^ 40) (hk0 : 0 ≤ k ∧ k ≤ 2 ^ 50) :
    SumOk Try.prog 1 (.block 0 (.loop (loopAt 0 Try.f55))) (atS 35 (lvMW .normal) 1 [.own 0 m, .v (i64 (k + 9 * (0 : Nat))), .v (i64 (0 : Nat))] (hpMW m f) (fun K => K .normal (mkT 0 35 [(1, .v (i64 (k + 9 * m)))]) (hpMW m (markF k)))) := by
  refine for_at g0_ok (n := 100) (m := 1) (lv := lvMW) (fun i => [.own 0 m, .v (i64 (k + 9 * (i : Nat))), .v (i64 (i : Nat))]) (fun i => hpMW m (mkF k f i)) (fun _ => True) m (fun _ => noLam) (lv3_ris rfl rfl rfl) (Nat.le_refl _) trivial fun K Q hk i hi him => ⟨noLam_ok _ _ _, ?_⟩
  rw [rndMo]
  refine good_cond (fun c1 => ?_) fun c1 => ?_
  · have c1 := of_decide_eq_true c1
    have c1' : i < m := by omega
    have e1 : IntKind.wrap IntKind.i64 (k + 9 * (i : Int) + 1) = k + 9 * (i : Int) + 1 := (wr_in (by omega)).trans (by omega)
    have e2 : IntKind.wrap IntKind.i64 (k + 9 * (i : Int) + 1 + 1) = k + 9 * (i : Int) + 2 := (wr_in (by omega)).trans (by omega)
    have e3 : IntKind.wrap IntKind.i64 (k + 9 * (i : Int) + 2 + 1) = k + 9 * (i : Int) + 3 := (wr_in (by omega)).trans (by omega)
    have e4 : IntKind.wrap IntKind.i64 (k + 9 * (i : Int) + 3 + 1) = k + 9 * (i : Int) + 4 := (wr_in (by omega)).trans (by omega)
    have e5 : IntKind.wrap IntKind.i64 (k + 9 * (i : Int) + 4 + 1) = k + 9 * (i : Int) + 5 := (wr_in (by omega)).trans (by omega)
    have e6 : IntKind.wrap IntKind.i64 (k + 9 * (i : Int) + 5 + 1) = k + 9 * (i : Int) + 6 := (wr_in (by omega)).trans (by omega)
    have e7 : IntKind.wrap IntKind.i64 (k + 9 * (i : Int) + 6 + 1) = k + 9 * (i : Int) + 7 := (wr_in (by omega)).trans (by omega)
    have e8 : IntKind.wrap IntKind.i64 (k + 9 * (i : Int) + 7 + 1) = k + 9 * (i : Int) + 8 := (wr_in (by omega)).trans (by omega)
    have e9 : IntKind.wrap IntKind.i64 (k + 9 * (i : Int) + 8 + 1) = k + 9 * ((i + 1 : Nat) : Int) := (wr_in (by omega)).trans (by omega)
    simp only [wr1]
    rw [e1, e2, e3, e4, e5, e6, e7, e8, e9, wr_in (x := (i : Int) + 1) (by omega)]
    refine good_needs (by simp [obls, List.all_flatMap, c1']) (good_out ⟨i + 1, ⟨rfl, c1', trivial⟩, rfl, .cons (ABeq.row fun j hj => ?_) .nil⟩)
    rw [upd9 _ _ _ _ _ _ _ _ _ _ _ ⟨mkF k f i i, rfl⟩]
    by_cases e : j = i
    · subst e
      rw [if_pos rfl]
      simp only [row9, mkF, blt_yes (Nat.lt_succ_self j), cond_true, markF]
      simp
    · rw [if_neg e]
      refine row9_congr fun c _ => ?_
      have b2 : Nat.blt j (i + 1) = Nat.blt j i := by
        rw [Bool.eq_iff_iff, Nat.blt_eq, Nat.blt_eq]
        omega
      simp only [mkF, b2]
  · have c1 := of_decide_eq_false c1
    have : i = m := by omega
    subst this
    refine good_out ⟨hpMW i (markF k), .cons (ABeq.row fun q hq => ?_) .nil, ?_⟩
    · exact row9_congr fun c _ => by simp only [mkF, blt_yes hq, cond_true]
    · rw [if_pos rfl]
      exact hk
theorem sumMs (m : Nat) (f : Nat → Nat → Int) (k : Int) (hm : m ≤ 2 ^ 40) (hk0 : 0 ≤ k ∧ k ≤ 2 ^ 50) :
    SumOk Try.prog 1 (.block 0 (.loop (loopAt 0 Try.f55))) (atS 35 (lvMW .normal) 1 [.sl 0 9 0 0 m (some m), .v (i64 (k + 9 * (0 : Nat))), .v (i64 (0 : Nat))] (hpMW m f) (fun K => K .normal (mkT 0 35 [(1, .v (i64 (k + 9 * m)))]) (hpMW m (markF k)))) := by
  refine for_at g0_ok (n := 100) (m := 1) (lv := lvMW) (fun i => [.sl 0 9 0 0 m (some m), .v (i64 (k + 9 * (i : Nat))), .v (i64 (i : Nat))]) (fun i => hpMW m (mkF k f i)) (fun _ => True) m (fun _ => noLam) (lv3_ris rfl rfl rfl) (Nat.le_refl _) trivial fun K Q hk i hi him => ⟨noLam_ok _ _ _, ?_⟩
  rw [rndMs]
  refine good_cond (fun c1 => ?_) fun c1 => ?_
  · have c1 := of_decide_eq_true c1
    have c1' : i < m := by omega
    have e1 : IntKind.wrap IntKind.i64 (k + 9 * (i : Int) + 1) = k + 9 * (i : Int) + 1 := (wr_in (by omega)).trans (by omega)
    have e2 : IntKind.wrap IntKind.i64 (k + 9 * (i : Int) + 1 + 1) = k + 9 * (i : Int) + 2 := (wr_in (by omega)).trans (by omega)
    have e3 : IntKind.wrap IntKind.i64 (k + 9 * (i : Int) + 2 + 1) = k + 9 * (i : Int) + 3 := (wr_in (by omega)).trans (by omega)
    have e4 : IntKind.wrap IntKind.i64 (k + 9 * (i : Int) + 3 + 1) = k + 9 * (i : Int) + 4 := (wr_in (by omega)).trans (by omega)
    have e5 : IntKind.wrap IntKind.i64 (k + 9 * (i : Int) + 4 + 1) = k + 9 * (i : Int) + 5 := (wr_in (by omega)).trans (by omega)
    have e6 : IntKind.wrap IntKind.i64 (k + 9 * (i : Int) + 5 + 1) = k + 9 * (i : Int) + 6 := (wr_in (by omega)).trans (by omega)
    have e7 : IntKind.wrap IntKind.i64 (k + 9 * (i : Int) + 6 + 1) = k + 9 * (i : Int) + 7 := (wr_in (by omega)).trans (by omega)
    have e8 : IntKind.wrap IntKind.i64 (k + 9 * (i : Int) + 7 + 1) = k + 9 * (i : Int) + 8 := (wr_in (by omega)).trans (by omega)
    have e9 : IntKind.wrap IntKind.i64 (k + 9 * (i : Int) + 8 + 1) = k + 9 * ((i + 1 : Nat) : Int) := (wr_in (by omega)).trans (by omega)
    simp only [wr1, Nat.zero_add]
    rw [e1, e2, e3, e4, e5, e6, e7, e8, e9, wr_in (x := (i : Int) + 1) (by omega)]
    refine good_needs (by simp [obls, List.all_flatMap, c1']) (good_out ⟨i + 1, ⟨rfl, c1', trivial⟩, rfl, .cons (ABeq.row fun j hj => ?_) .nil⟩)
    rw [upd9 _ _ _ _ _ _ _ _ _ _ _ ⟨mkF k f i i, rfl⟩]
    by_cases e : j = i
    · subst e
      rw [if_pos rfl]
      simp only [row9, mkF, blt_yes (Nat.lt_succ_self j), cond_true, markF]
      simp
    · rw [if_neg e]
      refine row9_congr fun c _ => ?_
      have b2 : Nat.blt j (i + 1) = Nat.blt j i := by
        rw [Bool.eq_iff_iff, Nat.blt_eq, Nat.blt_eq]
        omega
      simp only [mkF, b2]
  · have c1 := of_decide_eq_false c1
    have : i = m := by omega
    subst this
    refine good_out ⟨hpMW i (markF k), .cons (ABeq.row fun q hq => ?_) .nil, ?_⟩
    · exact row9_congr fun c _ => by simp only [mkF, blt_yes hq, cond_true]
    · rw [if_pos rfl]
      exact hk
def F_markW : List AV → List AB → Option HR
  | [.own 0 m, .v (.int .i64 k)], [.row true n 9 g t] => some { val := .v (i64 (k + 9 * m)), out := [.row true m 9 (row9 (markF k)) t], obl := [Nat.beq n m, Nat.beq t 46, allW m g, decide (0 ≤ k), decide (k ≤ 2 ^ 50), decide (m ≤ 2 ^ 40)] }
  | [.sl 0 9 0 0 m (some c), .v (.int .i64 k)], [.row true n 9 g t] => some { val := .v (i64 (k + 9 * m)), out := [.row true m 9 (row9 (markF k)) t], obl := [Nat.beq n m, Nat.beq c m, Nat.beq t 46, allW m g, decide (0 ≤ k), decide (k ≤ 2 ^ 50), decide (m ≤ 2 ^ 40)] }
  | _, _ => none
theorem ok_markW : SpecOk Try.prog 55 (specH [] F_markW) := by
  refine specH_ok g0_ok Try.func55 rfl fun avs H hr hF ho => ?_
  unfold F_markW at hF
  split at hF
  · rename_i m k n g t
    cases hF
    simp only [ob_cons] at ho
    obtain ⟨h0, ht, h1, h4, h5, h6, _⟩ := ho
    have h0 := Nat.eq_of_beq_eq_true h0
    have ht := Nat.eq_of_beq_eq_true ht
    have h4 := of_decide_eq_true h4
    have h5 := of_decide_eq_true h5
    have hm := of_decide_eq_true h6
    subst ht h0
    have e0 : k = k + 9 * ((0 : Nat) : Int) := by omega
    have hS := sumMo n (itW g) k hm ⟨h4, h5⟩
    rw [← e0] at hS
    refine ⟨hpMW n (itW g), lamMW (.own 0 n) n (itW g) (markF k) k (k + 9 * n), 100, .cons (ABeq.row fun j hj => allW_get h1 j hj) .nil, lam1 (by kernel_rfl) hS, ?_⟩
    show GoodQ (execF Try.prog g0 (lamMW (.own 0 n) n (itW g) (markF k) k (k + 9 * n)) 100 Try.f55 [.own 0 n, .v (i64 k)] (hpMW n (itW g)) (packK 1)) _
    rw [treeMo]
    exact good_needs (by rw [ob_cons]; exact ⟨chk_of ⟨rfl, Hsim.refl _⟩, rfl⟩) (good_out ⟨rfl, Hsim.refl _⟩)
  · rename_i m c k n g t
    cases hF
    simp only [ob_cons] at ho
    obtain ⟨h0, hc, ht, h1, h4, h5, h6, _⟩ := ho
    have h0 := Nat.eq_of_beq_eq_true h0
    have ht := Nat.eq_of_beq_eq_true ht
    have hc := Nat.eq_of_beq_eq_true hc
    have h4 := of_decide_eq_true h4
    have h5 := of_decide_eq_true h5
    have hm := of_decide_eq_true h6
    subst ht hc h0
    have e0 : k = k + 9 * ((0 : Nat) : Int) := by omega
    have hS := sumMs n (itW g) k hm ⟨h4, h5⟩
    rw [← e0] at hS
    refine ⟨hpMW n (itW g), lamMW (.sl 0 9 0 0 n (some n)) n (itW g) (markF k) k (k + 9 * n), 100, .cons (ABeq.row fun j hj => allW_get h1 j hj) .nil, lam1 (by kernel_rfl) hS, ?_⟩
    show GoodQ (execF Try.prog g0 (lamMW (.sl 0 9 0 0 n (some n)) n (itW g) (markF k) k (k + 9 * n)) 100 Try.f55 [.sl 0 9 0 0 n (some n), .v (i64 k)] (hpMW n (itW g)) (packK 1)) _
    rw [treeMs]
    exact good_needs (by rw [ob_cons]; exact ⟨chk_of ⟨rfl, Hsim.refl _⟩, rfl⟩) (good_out ⟨rfl, Hsim.refl _⟩)
  · cases hF

end Go.Proofs.Ytmdcafhnjihckaa

/- The laws' helpers on lists of wheels: their table. Conditions: a list of wheels. -/
namespace Go.Proofs.Ytmdcafhnjihckaa
open Go.RowKit

noncomputable def gmH : Gam := ext (ext (ext (ext g0 49 (specR md_toW F_toW)) 50 (specR md_eqWS F_eqWS)) 55 (specH [] F_markW)) 56 (specR md_wv F_heldW)
theorem gmH_ok : GamOk Try.prog gmH := ext_ok (ext_ok (ext_ok (ext_ok g0_ok ok_toW) ok_eqWS) ok_markW) ok_heldW
theorem sameW_self (m : Nat) (f : Nat → Nat → Int) : sameW m f f = true := chk_of fun _ _ _ _ => rfl
theorem sameW_zero (f h : Nat → Nat → Int) : sameW 0 f h = true := chk_of fun _ hj => absurd hj (Nat.not_lt_zero _)
theorem sameW_row (m : Nat) (f : Nat → Nat → Int) : sameW m (itW (row9 f)) f = true := chk_of fun j _ k hk => itW_row f j k hk

end Go.Proofs.Ytmdcafhnjihckaa

/- Squares in two parts of 64 bits; signs. Plain numbers. -/
namespace Go.Proofs.Ytmdcafhnjihckaa
open Go.RowKit

abbrev U (n : Int) : Int := IntKind.u64.wrap n
theorem u64_in {n : Int} (h0 : 0 ≤ n) (h1 : n < 18446744073709551616) : U n = n := by
  have : U n = n % 18446744073709551616 := by simp [U, IntKind.wrap, IntKind.signed, IntKind.bits]
  rw [this]; omega
theorem u64_mod (n : Int) : U n = n % 18446744073709551616 := by simp [U, IntKind.wrap, IntKind.signed, IntKind.bits]

abbrev maskU (x : Int) : Int := U ↑(BitVec.ofInt IntKind.u64.bits x &&& BitVec.ofInt IntKind.u64.bits 4294967295).toNat
theorem maskU_eq {x : Int} (h0 : 0 ≤ x) (h1 : x < 18446744073709551616) : maskU x = x % 4294967296 := by
  obtain ⟨k, rfl⟩ := Int.eq_ofNat_of_zero_le h0
  have e : (BitVec.ofInt IntKind.u64.bits (k : Int) &&& BitVec.ofInt IntKind.u64.bits 4294967295).toNat = k % 4294967296 := by
    rw [BitVec.toNat_and]
    simp only [BitVec.toNat_ofInt, IntKind.bits]
    have e1 : ((k : Int) % ((2 ^ 64 : Nat) : Int)).toNat = k := by omega
    have e2 : ((4294967295 : Int) % ((2 ^ 64 : Nat) : Int)).toNat = 2 ^ 32 - 1 := by decide
    rw [e1, e2, Nat.and_two_pow_sub_one_eq_mod]
  show U _ = _
  rw [e, u64_in (by omega) (by omega)]
  omega

abbrev shrU (x : Int) (n : Int) : Int := x.fdiv (2 ^ min n.toNat IntKind.u64.bits)
theorem shr32 (x : Int) : shrU x 32 = x / 4294967296 := by
  show x.fdiv 4294967296 = _
  rw [Int.fdiv_eq_ediv_of_nonneg _ (by decide)]
theorem shr31 (x : Int) : shrU x 31 = x / 2147483648 := by
  show x.fdiv 2147483648 = _
  rw [Int.fdiv_eq_ediv_of_nonneg _ (by decide)]
theorem shr63 (x : Int) : shrU x 63 = x / 9223372036854775808 := by
  show x.fdiv 9223372036854775808 = _
  rw [Int.fdiv_eq_ediv_of_nonneg _ (by decide)]

theorem mul_bound {a b : Int} {m : Int} (ha : 0 ≤ a) (hb : 0 ≤ b) (ha1 : a ≤ m) (hb1 : b ≤ m) : 0 ≤ a * b ∧ a * b ≤ m * m :=
  ⟨Int.mul_nonneg ha hb, Int.mul_le_mul ha1 hb1 hb (by omega)⟩

/-- The square, by halves. -/
theorem sq_parts {x : Int} (h0 : 0 ≤ x) (h1 : x < 18446744073709551616) :
    let lo := x % 4294967296
    let hi := x / 4294967296
    let mid := U (lo * hi)
    let out := U (lo * lo)
    let sum := U (out + U (mid * 8589934592))
    let top := U (U (hi * hi) + mid / 2147483648)
    sum = x * x % 18446744073709551616 ∧ (if sum < out then U (top + 1) else top) = x * x / 18446744073709551616 := by
  intro lo hi mid out sum top
  have hlo0 : 0 ≤ lo := Int.emod_nonneg _ (by decide)
  have hlo1 : lo ≤ 4294967295 := by show x % 4294967296 ≤ _; omega
  have hhi0 : 0 ≤ hi := by show 0 ≤ x / 4294967296; omega
  have hhi1 : hi ≤ 4294967295 := by show x / 4294967296 ≤ _; omega
  have hx : x = hi * 4294967296 + lo := by show x = x / 4294967296 * 4294967296 + x % 4294967296; omega
  have hxx : x * x = (hi * hi) * 18446744073709551616 + (lo * hi) * 8589934592 + lo * lo := by
    rw [hx]
    simp only [Int.add_mul, Int.mul_add]
    rw [Int.mul_comm (hi * 4294967296) lo, ← Int.mul_assoc lo hi, show hi * 4294967296 * (hi * 4294967296) = hi * hi * 18446744073709551616 by
      rw [Int.mul_assoc, Int.mul_left_comm 4294967296 hi 4294967296, ← Int.mul_assoc]; rfl]
    omega
  obtain ⟨A0, A1⟩ := mul_bound hlo0 hlo0 hlo1 hlo1
  obtain ⟨B0, B1⟩ := mul_bound hlo0 hhi0 hlo1 hhi1
  obtain ⟨C0, C1⟩ := mul_bound hhi0 hhi0 hhi1 hhi1
  have hmid : mid = lo * hi := u64_in B0 (by omega)
  have hout : out = lo * lo := u64_in A0 (by omega)
  have hC : U (hi * hi) = hi * hi := u64_in C0 (by omega)
  have hsum : sum = (lo * lo + lo * hi * 8589934592 % 18446744073709551616) % 18446744073709551616 := by
    show U (out + U (mid * 8589934592)) = _
    rw [hout, hmid, u64_mod, u64_mod]
  have htop : top = hi * hi + lo * hi / 2147483648 := by
    show U (U (hi * hi) + mid / 2147483648) = _
    rw [hC, hmid]
    exact u64_in (by omega) (by omega)
  rw [htop, hsum, hout, hxx, u64_mod]
  generalize lo * lo = A at *
  generalize lo * hi = B at *
  generalize hi * hi = C at *
  clear hxx hmid hout hC hsum htop
  constructor
  · omega
  · split <;> omega

/-- The product, by halves. -/
theorem mul_parts {x y : Int} (h0 : 0 ≤ x) (h1 : x < 18446744073709551616) (k0 : 0 ≤ y) (k1 : y < 18446744073709551616) :
    let x0 := x % 4294967296
    let x1 := x / 4294967296
    let y0 := y % 4294967296
    let y1 := y / 4294967296
    let t := U (U (x1 * y0) + U (x0 * y0) / 4294967296)
    U (U (U (x1 * y1) + t / 4294967296) + U (t % 4294967296 + U (x0 * y1)) / 4294967296) = x * y / 18446744073709551616 ∧ 0 ≤ t ∧ t < 18446744073709551616 := by
  intro x0 x1 y0 y1 t
  have a0 : 0 ≤ x0 := Int.emod_nonneg _ (by decide)
  have a1 : x0 ≤ 4294967295 := by show x % 4294967296 ≤ _; omega
  have b0 : 0 ≤ x1 := by show 0 ≤ x / 4294967296; omega
  have b1 : x1 ≤ 4294967295 := by show x / 4294967296 ≤ _; omega
  have c0 : 0 ≤ y0 := Int.emod_nonneg _ (by decide)
  have c1 : y0 ≤ 4294967295 := by show y % 4294967296 ≤ _; omega
  have d0 : 0 ≤ y1 := by show 0 ≤ y / 4294967296; omega
  have d1 : y1 ≤ 4294967295 := by show y / 4294967296 ≤ _; omega
  have hx : x = x1 * 4294967296 + x0 := by show x = x / 4294967296 * 4294967296 + x % 4294967296; omega
  have hy : y = y1 * 4294967296 + y0 := by show y = y / 4294967296 * 4294967296 + y % 4294967296; omega
  have hxy : x * y = (x1 * y1) * 18446744073709551616 + (x1 * y0 + x0 * y1) * 4294967296 + x0 * y0 := by
    rw [hx, hy]
    simp only [Int.add_mul, Int.mul_add]
    rw [show x1 * 4294967296 * (y1 * 4294967296) = x1 * y1 * 18446744073709551616 by
      rw [Int.mul_assoc, Int.mul_left_comm 4294967296 y1 4294967296, ← Int.mul_assoc]; rfl, show x1 * 4294967296 * y0 = x1 * y0 * 4294967296 by rw [Int.mul_assoc, Int.mul_comm 4294967296 y0, Int.mul_assoc], ← Int.mul_assoc x0 y1]
    omega
  obtain ⟨A0, A1⟩ := mul_bound a0 c0 a1 c1
  obtain ⟨B0, B1⟩ := mul_bound b0 c0 b1 c1
  obtain ⟨C0, C1⟩ := mul_bound a0 d0 a1 d1
  obtain ⟨D0, D1⟩ := mul_bound b0 d0 b1 d1
  have ht : t = x1 * y0 + x0 * y0 / 4294967296 := by
    show U (U (x1 * y0) + U (x0 * y0) / 4294967296) = _
    rw [u64_in B0 (by omega), u64_in A0 (by omega), u64_in (by omega) (by omega)]
  rw [ht, hxy, u64_in C0 (by omega), u64_in D0 (by omega)]
  generalize x0 * y0 = A at *
  generalize x1 * y0 = B at *
  generalize x0 * y1 = C at *
  generalize x1 * y1 = D at *
  clear hxy ht t
  refine ⟨?_, by omega, by omega⟩
  rw [u64_in (n := (B + A / 4294967296) % 4294967296 + C) (by omega) (by omega), u64_in (n := D + (B + A / 4294967296) / 4294967296) (by omega) (by omega), u64_in (by omega) (by omega)]
  omega

theorem size_eq {x : Int} (h0 : -9223372036854775808 ≤ x) (h1 : x ≤ 9223372036854775807) : U (if W (0 - x) > x then W (0 - x) else x) = (x.natAbs : Int) := by
  by_cases hx : x = -9223372036854775808
  · subst hx; rfl
  · rw [w64_in (x := 0 - x) (by omega) (by omega)]
    split
    · rw [u64_in (by omega) (by omega)]; omega
    · rw [u64_in (by omega) (by omega)]; omega

end Go.Proofs.Ytmdcafhnjihckaa

/- Signs: the functions on words of 64 bits. No conditions but bounds. -/
namespace Go.Proofs.Ytmdcafhnjihckaa
open Go.RowKit
set_option maxRecDepth 100000

theorem f_bool {v : Value} {x y : Bool} (h : outV (rv (.bool x)) = some v) (e : x = y) : outV (rv (.bool y)) = some v := e ▸ h

def f_nanI : List Value → Option (Value × List Bool)
  | [.int .i64 x] => some (.bool false, [])
  | _ => none

def f_nanU : List Value → Option (Value × List Bool)
  | [.int .u64 x] => some (.bool false, [])
  | _ => none

def f_cmpI : List Value → Option (Value × List Bool)
  | [.int .i64 x, .int .i64 y] => some (.int .i64 (sgZ x y), [])
  | _ => none

def f_cmpU : List Value → Option (Value × List Bool)
  | [.int .u64 x, .int .u64 y] => some (.int .i64 (sgZ x y), [])
  | _ => none

def f_size : List Value → Option (Value × List Bool)
  | [.int .i64 x] => some (.int .u64 (x.natAbs : Int), [inR x (-9223372036854775808) 9223372036854775807])
  | _ => none

def f_l3Size : List Value → Option (Value × List Bool)
  | [.int .i64 x] => some (.int .u64 (x.natAbs : Int), [inR x (-9223372036854775808) 9223372036854775807])
  | _ => none

def f_l3Square : List Value → Option (Value × List Bool)
  | [.int .u64 x] => some (.tuple #[.int .u64 (x * x / 18446744073709551616), .int .u64 (x * x % 18446744073709551616)], [decide (0 ≤ x), decide (x < 18446744073709551616)])
  | _ => none

def f_mul64 : List Value → Option (Value × List Bool)
  | [.int .u64 x, .int .u64 y] => some (.tuple #[.int .u64 (x * y / 18446744073709551616), .int .u64 (U (x * y))], [decide (0 ≤ x), decide (x < 18446744073709551616), decide (0 ≤ y), decide (y < 18446744073709551616)])
  | _ => none

end Go.Proofs.Ytmdcafhnjihckaa

/- The sign of x + y root 2. Plain numbers. -/
namespace Go.Proofs.Ytmdcafhnjihckaa
open Go.RowKit

theorem no_root : ∀ (n x y : Nat), x ≤ n → x * x = 2 * (y * y) → x = 0
  | 0, x, y, h, _ => by omega
  | n + 1, x, y, h, e => by
    rcases Nat.eq_zero_or_pos x with hx | hx
    · exact hx
    · exfalso
      have h2 : x % 2 = 0 := by
        have : (x * x) % 2 = 0 := by omega
        rw [Nat.mul_mod] at this
        rcases Nat.mod_two_eq_zero_or_one x with h | h
        · exact h
        · rw [h] at this; simp at this
      obtain ⟨a, rfl⟩ : ∃ a, x = 2 * a := ⟨x / 2, by omega⟩
      have e1 : y * y = 2 * (a * a) := by
        have : 2 * a * (2 * a) = 4 * (a * a) := by rw [Nat.mul_mul_mul_comm]
        omega
      have ha : a * a < y * y := by
        have : 0 < a * a := Nat.mul_pos (by omega) (by omega)
        omega
      have hy : y * y < 2 * a * (2 * a) := by
        have : 2 * a * (2 * a) = 4 * (a * a) := by rw [Nat.mul_mul_mul_comm]
        have : 0 < a * a := Nat.mul_pos (by omega) (by omega)
        omega
      have hlt : y < 2 * a := by
        rcases Nat.lt_or_ge y (2 * a) with h | h
        · exact h
        · have := Nat.mul_le_mul h h; omega
      have := no_root n y a (by omega) e1
      subst this
      omega

/-- The sign of x + y root 2. -/
def sg2 (x y : Int) : Int :=
  if 0 ≤ x ∧ 0 ≤ y then (if x = 0 ∧ y = 0 then 0 else 1)
  else if x ≤ 0 ∧ y ≤ 0 then -1
  else if x < 0 then (if x * x > 2 * (y * y) then -1 else 1)
  else (if x * x > 2 * (y * y) then 1 else -1)

abbrev topU (h l : Int) : Int := U ↑(BitVec.ofInt IntKind.u64.bits (U (h * 2)) ||| BitVec.ofInt IntKind.u64.bits (shrU l 63)).toNat
theorem topU_eq {h l : Int} (h0 : 0 ≤ h) (h1 : h * 2 < 18446744073709551616) (l0 : 0 ≤ l) (l1 : l < 18446744073709551616) : topU h l = h * 2 + l / 9223372036854775808 := by
  obtain ⟨a, rfl⟩ := Int.eq_ofNat_of_zero_le h0
  obtain ⟨b, hb⟩ := Int.eq_ofNat_of_zero_le (a := l / 9223372036854775808) (by omega)
  have hb2 : b < 2 := by omega
  show U _ = _
  rw [shr63, u64_in (n := (a : Int) * 2) (by omega) h1, hb]
  have e : (BitVec.ofInt IntKind.u64.bits ((a : Int) * 2) ||| BitVec.ofInt IntKind.u64.bits (b : Int)).toNat = a * 2 + b := by
    rw [BitVec.toNat_or]
    simp only [BitVec.toNat_ofInt, IntKind.bits]
    have e1 : (((a : Int) * 2) % ((2 ^ 64 : Nat) : Int)).toNat = a * 2 := by omega
    have e2 : ((b : Int) % ((2 ^ 64 : Nat) : Int)).toNat = b := by omega
    rw [e1, e2]
    have := Nat.shiftLeft_add_eq_or_of_lt (i := 1) (b := b) (by omega) a
    rw [Nat.shiftLeft_eq] at this
    simpa using this.symm
  rw [e, u64_in (by omega) (by omega)]
  omega

/-- Squares of 64 bits against twice squares. -/
theorem sq_cmp {x y : Int} (hx0 : -9223372036854775808 ≤ x) (hx1 : x ≤ 9223372036854775807) (hy0 : -9223372036854775808 ≤ y) (hy1 : y ≤ 9223372036854775807) :
    let X : Int := x.natAbs
    let Y : Int := y.natAbs
    let hx := X * X / 18446744073709551616
    let lx := X * X % 18446744073709551616
    let hy := Y * Y / 18446744073709551616
    let ly := Y * Y % 18446744073709551616
    let top := topU hy ly
    let rest := U (ly * 2)
    (hx > top ∨ (hx = top ∧ lx > rest) ↔ x * x > 2 * (y * y)) ∧ (hx = top ∧ lx = rest ↔ x * x = 2 * (y * y)) := by
  intro X Y hx lx hy ly top rest
  have eX : X * X = x * x := by show (x.natAbs : Int) * x.natAbs = _; exact Int.natAbs_mul_self
  have eY : Y * Y = y * y := by show (y.natAbs : Int) * y.natAbs = _; exact Int.natAbs_mul_self
  have bY : 0 ≤ Y * Y ∧ Y * Y ≤ 9223372036854775808 * 9223372036854775808 := mul_bound (by show (0 : Int) ≤ (y.natAbs : Int); omega) (by show (0 : Int) ≤ (y.natAbs : Int); omega) (by show (y.natAbs : Int) ≤ _; omega) (by show (y.natAbs : Int) ≤ _; omega)
  have bX : 0 ≤ X * X ∧ X * X ≤ 9223372036854775808 * 9223372036854775808 := mul_bound (by show (0 : Int) ≤ (x.natAbs : Int); omega) (by show (0 : Int) ≤ (x.natAbs : Int); omega) (by show (x.natAbs : Int) ≤ _; omega) (by show (x.natAbs : Int) ≤ _; omega)
  have ht : top = hy * 2 + ly / 9223372036854775808 := topU_eq (by show 0 ≤ Y * Y / _; omega) (by show Y * Y / 18446744073709551616 * 2 < _; omega) (by show 0 ≤ Y * Y % _; omega) (by show Y * Y % 18446744073709551616 < _; omega)
  have hr : rest = (ly * 2) % 18446744073709551616 := u64_mod _
  rw [ht, hr, ← eX, ← eY]
  simp only [hx, lx, hy, ly]
  generalize X * X = P at *
  generalize Y * Y = R at *
  clear ht hr eX eY
  omega

theorem no_root_int {x y : Int} (h : x * x = 2 * (y * y)) : x = 0 := by
  have e : x.natAbs * x.natAbs = 2 * (y.natAbs * y.natAbs) := by
    have h1 : ((x.natAbs * x.natAbs : Nat) : Int) = ((2 * (y.natAbs * y.natAbs) : Nat) : Int) := by
      push_cast
      rw [Int.natAbs_mul_self', Int.natAbs_mul_self']
      exact h
    exact_mod_cast h1
  have := no_root _ _ _ (Nat.le_refl _) e
  omega

theorem sgZ_cases (a b : Int) : (a < b ∧ sgZ a b = -1) ∨ (a = b ∧ sgZ a b = 0) ∨ (a > b ∧ sgZ a b = 1) := by
  unfold sgZ
  by_cases h1 : a < b
  · exact .inl ⟨h1, by rw [decide_eq_true h1]; rfl⟩
  · by_cases h2 : a > b
    · exact .inr (.inr ⟨h2, by rw [decide_eq_false h1, decide_eq_true h2]; rfl⟩)
    · exact .inr (.inl ⟨by omega, by rw [decide_eq_false h1, decide_eq_false h2]; rfl⟩)

theorem beqI (a b : Int) : (a == b) = decide (a = b) := by
  by_cases h : a = b
  · subst h; simp
  · simp [h]

/-- By the signs of both, and then by the squares. -/
theorem signA_eq {x y : Int} {u1 u2 v1 v2 : Int} (h1 : u1 > v1 ∨ (u1 = v1 ∧ u2 > v2) ↔ x * x > 2 * (y * y)) (h2 : u1 = v1 ∧ u2 = v2 ↔ x * x = 2 * (y * y)) :
    (bif sgZ x 0 == sgZ y 0 then sgZ x 0 else bif sgZ y 0 == 0 then sgZ x 0 else bif sgZ x 0 == 0 then sgZ y 0 else
      bif sgZ u1 v1 != 0 then (bif sgZ u1 v1 == 1 then sgZ x 0 else bif sgZ u1 v1 == -1 then sgZ y 0 else 0) else
      bif sgZ u2 v2 != 0 then (bif sgZ u2 v2 == 1 then sgZ x 0 else bif sgZ u2 v2 == -1 then sgZ y 0 else 0) else 0) = sg2 x y := by
  have h3 : x * x = 2 * (y * y) → x = 0 := no_root_int
  unfold sg2
  generalize x * x = P at *
  generalize y * y = R at *
  rcases sgZ_cases x 0 with ⟨a1, a2⟩ | ⟨a1, a2⟩ | ⟨a1, a2⟩ <;> rcases sgZ_cases y 0 with ⟨b1, b2⟩ | ⟨b1, b2⟩ | ⟨b1, b2⟩ <;> rw [a2, b2] <;>
    first
      | (simp only [show ((-1 : Int) == -1) = true from rfl, show ((0 : Int) == 0) = true from rfl, show ((1 : Int) == 1) = true from rfl, show ((-1 : Int) == 0) = false from rfl, show ((-1 : Int) == 1) = false from rfl, show ((1 : Int) == 0) = false from rfl, show ((1 : Int) == -1) = false from rfl, show ((0 : Int) == 1) = false from rfl, show ((0 : Int) == -1) = false from rfl, cond_true, cond_false]
         repeat' split
         all_goals omega)
      | (rcases sgZ_cases u1 v1 with ⟨c1, c2⟩ | ⟨c1, c2⟩ | ⟨c1, c2⟩ <;> rcases sgZ_cases u2 v2 with ⟨d1, d2⟩ | ⟨d1, d2⟩ | ⟨d1, d2⟩ <;> rw [c2, d2] <;>
          simp only [bne, show ((-1 : Int) == -1) = true from rfl, show ((0 : Int) == 0) = true from rfl, show ((1 : Int) == 1) = true from rfl, show ((-1 : Int) == 0) = false from rfl, show ((-1 : Int) == 1) = false from rfl, show ((1 : Int) == 0) = false from rfl, show ((1 : Int) == -1) = false from rfl, show ((0 : Int) == 1) = false from rfl, show ((0 : Int) == -1) = false from rfl, cond_true, cond_false, Bool.not_true, Bool.not_false] <;>
          (repeat' split) <;> omega)

theorem flat_eq {x y : Int} (h : 0 ≤ x ∧ 0 ≤ y ∨ x ≤ 0 ∧ y ≤ 0) :
    (if (if IntKind.i64.wrap ((if (if x < 1 then x else 1) > -1 then (if x < 1 then x else 1) else -1) + (if (if y < 1 then y else 1) > -1 then (if y < 1 then y else 1) else -1)) > -1 then IntKind.i64.wrap ((if (if x < 1 then x else 1) > -1 then (if x < 1 then x else 1) else -1) + (if (if y < 1 then y else 1) > -1 then (if y < 1 then y else 1) else -1)) else -1) < 1 then
      (if IntKind.i64.wrap ((if (if x < 1 then x else 1) > -1 then (if x < 1 then x else 1) else -1) + (if (if y < 1 then y else 1) > -1 then (if y < 1 then y else 1) else -1)) > -1 then IntKind.i64.wrap ((if (if x < 1 then x else 1) > -1 then (if x < 1 then x else 1) else -1) + (if (if y < 1 then y else 1) > -1 then (if y < 1 then y else 1) else -1)) else -1) else 1) = sg2 x y := by
  have e : ∀ z : Int, (if (if z < 1 then z else 1) > -1 then (if z < 1 then z else 1) else -1) = (if z < 0 then -1 else if z = 0 then 0 else 1) := by
    intro z
    repeat' split
    all_goals omega
  rw [e x, e y]
  have w : ∀ n : Int, -2 ≤ n → n ≤ 2 → IntKind.i64.wrap n = n := fun n h1 h2 => w64_in (by omega) (by omega)
  rw [w _ (by repeat' split; all_goals omega) (by repeat' split; all_goals omega)]
  unfold sg2
  generalize x * x = P at *
  generalize y * y = R at *
  repeat' split
  all_goals omega

end Go.Proofs.Ytmdcafhnjihckaa

/- The sign of x + y root 2, by the program and by the reference. No conditions but bounds. -/
namespace Go.Proofs.Ytmdcafhnjihckaa
open Go.RowKit
set_option maxRecDepth 100000

def fMul (hi : Int → Int → Int) : List Value → Option (Value × List Bool)
  | [.int .u64 x, .int .u64 y] => some (.tuple #[.int .u64 (hi x y), .int .u64 (U (x * y))], [])
  | _ => none
def fSq (hi lo : Int → Int) : List Value → Option (Value × List Bool)
  | [.int .u64 x] => some (.tuple #[.int .u64 (hi x), .int .u64 (lo x)], [])
  | _ => none
def fSz (sz : Int → Int) : List Value → Option (Value × List Bool)
  | [.int .i64 x] => some (.int .u64 (sz x), [])
  | _ => none
def fSg (sg : Int → Int) : List Value → Option (Value × List Bool)
  | [.int .i64 x] => some (.int .i64 (sg x), [])
  | _ => none
def fCu (cu : Int → Int → Int) : List Value → Option (Value × List Bool)
  | [.int .u64 x, .int .u64 y] => some (.int .i64 (cu x y), [])
  | _ => none

def rawHi (x y : Int) : Int := U (U (U (shrU x 32 * shrU y 32) + shrU (U (U (shrU x 32 * maskU y) + shrU (U (maskU x * maskU y)) 32)) 32) + shrU (U (maskU (U (U (shrU x 32 * maskU y) + shrU (U (maskU x * maskU y)) 32)) + U (maskU x * shrU y 32))) 32)
def rawSz (x : Int) : Int := U (if W (0 - x) > x then W (0 - x) else x)
def rawLo (x : Int) : Int := U (U (maskU x * maskU x) + U (U (maskU x * shrU x 32) * 8589934592))
def rawTop (x : Int) : Int := bif decide (U (U (maskU x * maskU x) + U (U (maskU x * shrU x 32) * 8589934592)) < U (maskU x * maskU x)) then U (U (U (shrU x 32 * shrU x 32) + shrU (U (maskU x * shrU x 32)) 31) + 1) else U (U (shrU x 32 * shrU x 32) + shrU (U (maskU x * shrU x 32)) 31)

theorem rawHi_eq {x : Int} (h0 : 0 ≤ x) (h1 : x < 18446744073709551616) : rawHi x x = x * x / 18446744073709551616 := by
  obtain ⟨p1, p2, p3⟩ := mul_parts h0 h1 h0 h1
  unfold rawHi
  simp only [shr32]
  rw [maskU_eq h0 h1, maskU_eq p2 p3, p1]
theorem rawLo_eq {x : Int} (h0 : 0 ≤ x) (h1 : x < 18446744073709551616) : rawLo x = x * x % 18446744073709551616 := by
  unfold rawLo
  rw [maskU_eq h0 h1, shr32]
  exact (sq_parts h0 h1).1
theorem rawTop_eq {x : Int} (h0 : 0 ≤ x) (h1 : x < 18446744073709551616) : rawTop x = x * x / 18446744073709551616 := by
  unfold rawTop
  rw [maskU_eq h0 h1, shr32, shr31]
  rw [← (sq_parts h0 h1).2, Bool.cond_decide]
theorem rawSz_eq {x : Int} (h0 : -9223372036854775808 ≤ x) (h1 : x ≤ 9223372036854775807) : rawSz x = x.natAbs := size_eq h0 h1

abbrev ri (x : Int) : Res := rv (.int .i64 x)
abbrev mnI (a : Int) : Int := if a < 1 then a else 1
abbrev mxI (a : Int) : Int := if a > -1 then a else -1
abbrev flatI (x y : Int) : Int := mnI (mxI (IntKind.i64.wrap (mxI (mnI x) + mxI (mnI y))))
abbrev cmpB (x y : Int) (hi lo sz : Int → Int) (s : Int) : Res := cond (decide (hi (sz x) > topU (hi (sz y)) (lo (sz y)))) (ri s) (cond (hi (sz x) == topU (hi (sz y)) (lo (sz y))) (cond (decide (lo (sz x) > U (lo (sz y) * 2))) (ri s) (ri (IntKind.i64.wrap (0 - s)))) (ri (IntKind.i64.wrap (0 - s))))
abbrev tailB (x y : Int) (hi lo sz : Int → Int) : Res := cond (decide (x < 0)) (cmpB x y hi lo sz (-1)) (cmpB x y hi lo sz 1)
theorem topU_raw {x y : Int} (hx : inR x (-9223372036854775808) 9223372036854775807 = true) (hy : inR y (-9223372036854775808) 9223372036854775807 = true) {u1 v1 u2 v2 : Int}
    (e1 : u1 = (x.natAbs : Int) * x.natAbs / 18446744073709551616) (e2 : v1 = topU ((y.natAbs : Int) * y.natAbs / 18446744073709551616) ((y.natAbs : Int) * y.natAbs % 18446744073709551616)) (e3 : u2 = (x.natAbs : Int) * x.natAbs % 18446744073709551616) (e4 : v2 = U ((y.natAbs : Int) * y.natAbs % 18446744073709551616 * 2)) :
    (u1 > v1 ∨ (u1 = v1 ∧ u2 > v2) ↔ x * x > 2 * (y * y)) ∧ (u1 = v1 ∧ u2 = v2 ↔ x * x = 2 * (y * y)) := by
  have hx := inR_iff.1 hx
  have hy := inR_iff.1 hy
  subst e1 e2 e3 e4
  exact sq_cmp hx.1 hx.2 hy.1 hy.2

def f_two : List Value → Option (Value × List Bool)
  | [.int .i64 x, .int .i64 y] => some (.int .i64 (sg2 x y), [inR x (-9223372036854775808) 9223372036854775807, inR y (-9223372036854775808) 9223372036854775807])
  | _ => none

theorem nat_in {x : Int} (hx : inR x (-9223372036854775808) 9223372036854775807 = true) : (0 : Int) ≤ (x.natAbs : Int) ∧ (x.natAbs : Int) < 18446744073709551616 := by
  have hx := inR_iff.1 hx
  omega

theorem two_eq {x y : Int} {u1 u2 v1 v2 : Int} (h1 : u1 > v1 ∨ (u1 = v1 ∧ u2 > v2) ↔ x * x > 2 * (y * y)) (s : Int) (hs : s = 1 ∨ s = -1) :
    (bif decide (u1 > v1) then s else bif u1 == v1 then (bif decide (u2 > v2) then s else IntKind.i64.wrap (0 - s)) else IntKind.i64.wrap (0 - s)) = if x * x > 2 * (y * y) then s else 0 - s := by
  have hw : IntKind.i64.wrap (0 - s) = 0 - s := by rcases hs with rfl | rfl <;> rfl
  rw [hw, beqI]
  generalize x * x = P at *
  generalize y * y = R at *
  simp only [Bool.cond_decide]
  repeat' split
  all_goals first | rfl | (exfalso; omega)

end Go.Proofs.Ytmdcafhnjihckaa

/- The sign of a surd, by the program and by the reference. No conditions but bounds. -/
namespace Go.Proofs.Ytmdcafhnjihckaa
open Go.RowKit
set_option maxRecDepth 100000

def fTwo (two : Int → Int → Int) (ob : Int → Bool) : List Value → Option (Value × List Bool)
  | [.int .i64 x, .int .i64 y] => some (.int .i64 (two x y), [ob x, ob y])
  | _ => none
abbrev i64B (x : Int) : Bool := inR x (-9223372036854775808) 9223372036854775807
theorem fTwo_eq : fTwo sg2 i64B = f_two := by
  funext vs
  unfold fTwo f_two
  rfl
theorem i64B_W (x : Int) : i64B (W x) = true := inR_iff.2 (w64_range x)

def gmT (two : Int → Int → Int) (ob : Int → Bool) (f : FuncId) : Gam := ext g0 f (specV (fTwo two ob))
abbrev xq (s : Nat → Int) : Int := W (W (W (W (s 0 * s 0) + W (W (2 * s 1) * s 1)) - W (W (3 * s 2) * s 2)) - W (W (6 * s 3) * s 3))
abbrev yq (s : Nat → Int) : Int := W (W (W (2 * s 0) * s 1) - W (W (6 * s 2) * s 3))
theorem gmT_ok {f : FuncId} (h : SpecOk Try.prog f (specV f_two)) : GamOk Try.prog (gmT sg2 i64B f) := ext_ok g0_ok (fTwo_eq ▸ h)

theorem sg2_range (x y : Int) : sg2 x y = -1 ∨ sg2 x y = 0 ∨ sg2 x y = 1 := by
  unfold sg2
  repeat' split
  all_goals omega

/-- The sign of a surd. -/
def sgn4 (s : Nat → Int) : Int := if sg2 (s 0) (s 1) = sg2 (s 2) (s 3) ∨ sg2 (s 2) (s 3) = 0 then sg2 (s 0) (s 1) else if sg2 (s 0) (s 1) = 0 then sg2 (s 2) (s 3) else sg2 (s 0) (s 1) * sg2 (xq s) (yq s)
theorem sgn4_range (s : Nat → Int) : sgn4 s = -1 ∨ sgn4 s = 0 ∨ sgn4 s = 1 := by
  have h1 := sg2_range (s 0) (s 1)
  have h2 := sg2_range (s 2) (s 3)
  have h3 := sg2_range (xq s) (yq s)
  unfold sgn4
  generalize sg2 (s 0) (s 1) = p at *
  generalize sg2 (s 2) (s 3) = q at *
  generalize sg2 (xq s) (yq s) = r at *
  rcases h1 with rfl | rfl | rfl <;> rcases h2 with rfl | rfl | rfl <;> rcases h3 with rfl | rfl | rfl <;> decide

theorem good_needsV {bs : List Bool} {r : Res} {x : Value} (h : obls bs = true) (k : Good r x) : Good (needs bs r) x := by
  induction bs with
  | nil => exact k
  | cons b bs ih =>
    have : b = true ∧ obls bs = true := by simpa [obls] using h
    rw [this.1]
    exact ⟨(ih this.2).out⟩

def f_sgn : List Value → Option (Value × List Bool)
  | [.agg ⟨[.int .i64 s0, .int .i64 s1, .int .i64 s2, .int .i64 s3]⟩] => some (.int .i64 (sgn4 (v4 s0 s1 s2 s3)), [i64B s0, i64B s1, i64B s2, i64B s3])
  | _ => none

end Go.Proofs.Ytmdcafhnjihckaa

/- PolyValid, by the program and by the reference. Conditions: a list of points. -/
namespace Go.Proofs.Ytmdcafhnjihckaa
open Go.RowKit
set_option maxRecDepth 100000

def okP (a : Nat → Nat → Int) (j : Nat) : Bool := smallF (a j) (-100) 100
def okBp (a : Nat → Nat → Int) (n : Nat) : Bool := (List.range n).all fun j => okP a j
theorem okBp_get {a : Nat → Nat → Int} {n j : Nat} (h : okBp a n = true) (hj : j < n) : okP a j = true := List.all_eq_true.1 h j (by simpa using hj)
theorem okB_succ {a : Nat → Nat → Int} {n : Nat} (h : okBp a n = true) (h1 : okP a n = true) : okBp a (n + 1) = true := by
  unfold okBp
  rw [List.range_succ, List.all_append]
  simp only [List.all_cons, List.all_nil, Bool.and_true, Bool.and_eq_true]
  exact ⟨h, h1⟩
theorem okB_no {a : Nat → Nat → Int} {n j : Nat} (hj : j < n) (h1 : okP a j = false) : okBp a n = false := by
  cases h : okBp a n with
  | false => rfl
  | true => rw [okBp_get h hj] at h1; cases h1

/-- A list of points, read from its start. -/
structure PV where
  m : Nat
  n : Nat
  g : Nat → List Value
  t : TypeId
abbrev slP (m : Nat) : AV := .sl 0 8 0 0 m none
def hpPV (s : PV) : List AB := [.row false s.m 8 (rowC (itC s.g)) s.t]
def prePV (s : PV) : List Bool := [Nat.beq s.n s.m, allC s.m s.g, decide (s.m ≤ 2 ^ 38)]

abbrev lvV : Ex → List Nat := lv3 [0, 3] [0] [2]
def decV : List AV → List AB → Option PV
  | [.sl 0 8 0 0 m none, .v (.int .i64 0)], [.row false n 8 g t] => some ⟨m, n, g, t⟩
  | _, _ => none
def stV (s : PV) (i : Nat) : List (Nat × AV) := [(0, slP s.m), (3, .v (i64 i))]

def outV' (s : PV) (K : Kont) : Res := cond (okBp (itC s.g) s.m) (K .normal (mkT 0 19 [(0, slP s.m)]) (hpPV s)) (K .ret (mkT 0 19 [(2, .v (.bool false))]) (hpPV s))
theorem pv_ok {s : PV} (ho : obls (prePV s) = true) : s.n = s.m ∧ (∀ j, j < s.m → s.g j = rowC (itC s.g) j) ∧ s.m ≤ 2 ^ 38 := by
  simp only [prePV, ob_cons, decide_eq_true_eq] at ho
  exact ⟨Nat.eq_of_beq_eq_true ho.1, allC_get ho.2.1, ho.2.2.1⟩

def f_valid (a : Nat → Nat → Int) (m : Nat) : Bool := okBp a m && inR m 1 48
def F_valid : List SA → Option FR
  | [.row m g] => some { val := .v (.bool (f_valid (itC g) m)), obl := [allC m g, decide (m ≤ 2 ^ 38)] }
  | _ => none
def md_list : List Md := [.rd 8 31]

/-- The place of the first that is not small. -/
def badAt (a : Nat → Nat → Int) (m : Nat) : Int := match (List.range m).find? fun j => !okP a j with
  | some j => (j : Int)
  | none => -1
theorem badAt_ge (a : Nat → Nat → Int) (m : Nat) : decide (badAt a m ≥ 0) = !okBp a m := by
  unfold badAt okBp
  cases h : (List.range m).find? fun j => !okP a j with
  | none =>
    have : (List.range m).all (fun j => okP a j) = true := by
      rw [List.all_eq_true]
      intro j hj
      have := List.find?_eq_none.1 h j hj
      simpa using this
    rw [this]
    rfl
  | some j =>
    have h1 := List.find?_some h
    have h2 := List.mem_of_find?_eq_some h
    have : (List.range m).all (fun j => okP a j) = false := by
      cases hb : (List.range m).all (fun j => okP a j) with
      | false => rfl
      | true => have := List.all_eq_true.1 hb j h2; simp [this] at h1
    rw [this]
    simp
theorem badAt_at {a : Nat → Nat → Int} {m i : Nat} (h : okBp a i = true) (hi : i < m) (h1 : okP a i = false) : badAt a m = i := by
  have : (List.range m).find? (fun j => !okP a j) = some i := by
    rw [List.find?_range_eq_some]
    refine ⟨by simp [h1], by simpa using hi, fun j hj => ?_⟩
    simp [okBp_get h hj]
  rw [badAt, this]
theorem badAt_no {a : Nat → Nat → Int} {m : Nat} (h : okBp a m = true) : badAt a m = -1 := by
  have : (List.range m).find? (fun j => !okP a j) = none := by
    rw [List.find?_eq_none]
    intro j hj
    simp [okBp_get h (by simpa using hj)]
  rw [badAt, this]

abbrev lvX : Ex → List Nat := lv3 [0, 1, 7, 8] [] [4]
def decX : List AV → List AB → Option (PV × Nat × FuncId)
  | [.sl 0 8 0 0 m none, .v (.func (.func f) ⟨[]⟩ ⟨[]⟩), .v (.int .i64 (.ofNat k)), .v (.int .i64 0)], [.row false n 8 g t] => some (⟨m, n, g, t⟩, k, f)
  | _, _ => none
def outX (s : PV × Nat × FuncId) (K : Kont) : Res := cond (okBp (itC s.1.g) s.1.m) (K .normal (mkT 0 19 []) (hpPV s.1)) (K .ret (mkT 0 19 [(4, .v (i64 (badAt (itC s.1.g) s.1.m)))]) (hpPV s.1))
noncomputable abbrev fIF : Func := Try.f175
def md_ifp : List Md := [.rd 8 31, .val]
end Go.Proofs.Ytmdcafhnjihckaa

/- l8Steps: the steps of a polygon, by the reference. Conditions: a list of points. -/
namespace Go.Proofs.Ytmdcafhnjihckaa
open Go.RowKit
set_option maxRecDepth 100000

theorem steps_alike (a : Nat → Nat → Int) (m j : Nat) : rowC (fun j => sumF (a ((j + 1) % m)) (-1) (a j)) j = rowC (stepsF a m) j := by
  have : ∀ k, sumF (a ((j + 1) % m)) (-1) (a j) k = stepsF a m j k := by
    intro k
    show W (a ((j + 1) % m) k + -1 * a j k) = W (a ((j + 1) % m) k + W (a j k * -1))
    rw [w64_add_r, Int.mul_comm]
  simp only [rowC, this]

/-- The next place round the list. -/
theorem next_at {i m : Nat} (hi : i < m) (hm : m ≤ 2 ^ 38) : (IntKind.i64.wrap ((i : Int) + 1)).tmod m = (((i + 1) % m : Nat) : Int) := by
  have : IntKind.i64.wrap ((i : Int) + 1) = ((i + 1 : Nat) : Int) := by
    rw [show IntKind.i64.wrap ((i : Int) + 1) = W ((i : Int) + 1) from rfl, w64_in (by omega) (by omega)]; omega
  rw [this]
  exact (Int.ofNat_tmod _ _).symm

abbrev lvL : Ex → List Nat := lv3 [0, 3, 4] [3] []
def decL : List AV → List AB → Option PV
  | [.sl 0 8 0 0 m none, .own 1 0, .v (.int .i64 0)], [.row false n 8 g t, .row true 0 8 _ 31] => some ⟨m, n, g, t⟩
  | _, _ => none
def stL (s : PV) (i : Nat) : List (Nat × AV) := [(0, slP s.m), (3, .own 1 i), (4, .v (i64 i))]
def hpL (s : PV) (i : Nat) : List AB := [.row false s.m 8 (rowC (itC s.g)) s.t, .row true i 8 (rowC (stepsF (itC s.g) s.m)) 31]
def outL (s : PV) (K : Kont) : Res := K .normal (mkT 0 29 [(3, .own 1 s.m)]) (hpL s s.m)
end Go.Proofs.Ytmdcafhnjihckaa

/- The abstract machine, 22: one case of a word. No conditions. -/
namespace Go.Proofs.Ytmdcafhnjihckaa
open Go.RowKit

theorem specR_case {P : Program} {f : FuncId} {mds : List Md} {F F' : List SA → Option FR} (h : SpecOk P f (specR mds F))
    (hF : ∀ sas fr, F' sas = some fr → obls fr.obl = true → ∃ ob, F sas = some { fr with obl := ob } ∧ obls ob = true) : SpecOk P f (specR mds F') := by
  refine ⟨h.1, fun avs H base δ ν vals w hS ho hv hr hlt hfree hsep => ?_⟩
  unfold specR at hS
  split at hS
  · rename_i xs hxs
    split at hS
    · rename_i fr hFr
      split at hS
      · rename_i av hav
        cases hc : ((!hasWr mds || nodupB ((ixC mds xs).filterMap id)) && fr.new.all isRowT && Nat.beq (abP mds (xs.map (·.sa)) fr.put).length (abC mds (xs.map (·.sa))).length) with
        | false => rw [hc] at hS; cases hS
        | true =>
          rw [hc] at hS
          simp only [cond_true, Option.some.injEq] at hS
          subst hS
          have ho' : obls (xs.flatMap (·.ob)) = true ∧ obls fr.obl = true := by simpa [obls, List.all_append] using ho
          obtain ⟨ob, e1, e2⟩ := hF _ _ hFr ho'.2
          have hS2 : specR mds F avs H base = some { val := av, rd := (ixC mds xs).filterMap id, put := putC (ixC mds xs) (abP mds (xs.map (·.sa)) fr.put), new := fr.new, obl := xs.flatMap (·.ob) ++ ob } := by
            unfold specR
            rw [hxs]
            simp only [e1, hav]
            rw [hc]
            rfl
          refine (h.2 avs H base _ ν vals w hS2 (by simpa [obls, List.all_append] using And.intro ho'.1 e2) hv hr hlt hfree hsep).mono ?_
          rintro e w' ⟨v, ν', rfl, d⟩
          exact ⟨v, ν', rfl, d.le, d.dom, d.val, d.put, d.new, d.os, d.tape, d.output, d.size, d.block, d.fresh, d.apart⟩
      · cases hS
    · cases hS
  · cases hS

end Go.Proofs.Ytmdcafhnjihckaa

/- The bends. Conditions: a list of points. -/
namespace Go.Proofs.Ytmdcafhnjihckaa
open Go.RowKit
set_option maxRecDepth 100000

/-- PolyValid where it says b. -/
def F_validB (b : Bool) : List SA → Option FR
  | [.row m g] => some { val := .v (.bool b), obl := [allC m g, decide (m ≤ 2 ^ 38), f_valid (itC g) m == b] }
  | _ => none
theorem validB_of {f : FuncId} (h : SpecOk Try.prog f (specR md_list F_valid)) (b : Bool) : SpecOk Try.prog f (specR md_list (F_validB b)) := by
  refine specR_case h fun sas fr hF ho => ?_
  unfold F_validB at hF
  split at hF
  · rename_i m g
    cases hF
    simp only [ob_cons] at ho
    refine ⟨[allC m g, decide (m ≤ 2 ^ 38)], ?_, by simp only [ob_cons, ob_nil, and_true]; exact ⟨ho.1, ho.2.1⟩⟩
    have : f_valid (itC g) m = b := by simpa using ho.2.2.1
    simp only [F_valid, this]
  · cases hF

abbrev w4 (s : Nat → Int) : Nat → Int := v4 (s 0) (s 1) (s 2) (s 3)
def crossW (p q : Nat → Int) : Nat → Int := imF (mulF (mirF (w8 p)) (w8 q))
def bendV (p q : Nat → Int) : Int := sgn4 (w4 (crossW p q))
/-- The bends of the steps b. -/
def bendsF (b : Nat → Nat → Int) (m : Nat) : Nat → Int := fun i => bendV (b ((i + m - 1) % m)) (b i)
theorem cross_in (p q : Nat → Int) (k : Nat) : i64B (crossW p q k) = true := i64B_W _

/-- The place before, round the list. -/
theorem prev_at {i m : Nat} (hi : i < m) (hm : m ≤ 2 ^ 38) : (IntKind.i64.wrap (IntKind.i64.wrap ((i : Int) + m) - 1)).tmod m = (((i + m - 1) % m : Nat) : Int) := by
  have e1 : IntKind.i64.wrap ((i : Int) + m) = ((i + m : Nat) : Int) := by
    rw [show IntKind.i64.wrap ((i : Int) + m) = W ((i : Int) + m) from rfl, w64_in (by omega) (by omega)]; omega
  have e2 : IntKind.i64.wrap (((i + m : Nat) : Int) - 1) = ((i + m - 1 : Nat) : Int) := by
    rw [show IntKind.i64.wrap (((i + m : Nat) : Int) - 1) = W (((i + m : Nat) : Int) - 1) from rfl, w64_in (by omega) (by omega)]; omega
  rw [e1, e2]
  exact (Int.ofNat_tmod _ _).symm

structure PB where
  m : Nat
  m' : Nat
  k : Nat
  gb : Nat → List Value
  n : Nat
  g : Nat → List Value
  t : TypeId
abbrev prI (i m : Int) : Int := (IntKind.i64.wrap (IntKind.i64.wrap (i + m) - 1)).tmod m
abbrev lvB : Ex → List Nat := lv3 [4, 5, 6, 7] [4] []
def stB (s : PB) (i : Nat) : List (Nat × AV) := [(4, .own 1 i), (5, .own 2 s.m), (6, .v (i64 s.m)), (7, .v (i64 i))]
def hpB (s : PB) (i : Nat) : List AB := [.row false s.n 8 s.g s.t, .row true i 1 (rowI (bendsF (itC s.gb) s.m)) 3, .row true s.m 8 (rowC (itC s.gb)) 31]
def preB (s : PB) : List Bool := [Nat.beq s.m' s.m, Nat.beq s.k s.m, allC s.m s.gb, decide (s.m ≤ 2 ^ 38)]
def decB : List AV → List AB → Option PB
  | [.own 1 0, .own 2 m, .v (.int .i64 (.ofNat k)), .v (.int .i64 0)], [.row false n 8 g t, .row true 0 1 _ 3, .row true m' 8 gb 31] => some ⟨m, m', k, gb, n, g, t⟩
  | _, _ => none
def outB (s : PB) (K : Kont) : Res := K .normal (mkT 0 41 [(4, .own 1 s.m)]) [.row false s.n 8 s.g s.t, .row true s.m 1 (rowI (bendsF (itC s.gb) s.m)) 3]
theorem zero_row (a : Nat → Nat → Int) : (fun q => rowC a (0 + q)) = rowC a := by
  funext q
  rw [Nat.zero_add]

def F_bendsY : List SA → Option FR
  | [.row m g] => some { val := .tup [.own 0 m, .v (.bool true)], new := [.row true m 1 (rowI (bendsF (stepsF (itC g) m) m)) 3], obl := [allC m g, decide (m ≤ 2 ^ 38), f_valid (itC g) m == true] }
  | _ => none

theorem valid_pos {a : Nat → Nat → Int} {m : Nat} (h : (f_valid a m == true) = true) : 0 < m := by
  have : f_valid a m = true := by simpa using h
  simp only [f_valid, Bool.and_eq_true] at this
  have := inR_iff.1 this.2
  omega

end Go.Proofs.Ytmdcafhnjihckaa

/- bends; PolyBends of both, where the list is a polygon. Conditions: a list of points. -/
namespace Go.Proofs.Ytmdcafhnjihckaa
open Go.RowKit
set_option maxRecDepth 100000
abbrev lvA : Ex → List Nat := lv3 [3, 4, 12, 13, 14] [4] []
def stA (s : PB) (i : Nat) : List (Nat × AV) := [(3, .own 1 s.m), (4, .own 2 i), (12, .own 1 s.m), (13, .v (i64 s.m)), (14, .v (i64 i))]
def hpA (s : PB) (i : Nat) : List AB := [.row false s.n 8 s.g s.t, .row true s.m 8 (rowC (itC s.gb)) 31, .row true i 1 (rowI (bendsF (itC s.gb) s.m)) 3]
def decA : List AV → List AB → Option (PB × Nat)
  | [.own 1 m, .own 2 0, .own 1 k', .v (.int .i64 (.ofNat k)), .v (.int .i64 0)], [.row false n 8 g t, .row true m' 8 gb 31, .row true 0 1 _ 3] => some (⟨m, m', k, gb, n, g, t⟩, k')
  | _, _ => none
def preA (s : PB × Nat) : List Bool := Nat.beq s.2 s.1.m :: preB s.1
def outA (s : PB × Nat) (K : Kont) : Res := K .normal (mkT 0 38 [(4, .own 1 s.1.m)]) [.row false s.1.n 8 s.1.g s.1.t, .row true s.1.m 1 (rowI (bendsF (itC s.1.gb) s.1.m)) 3]
/-- The bends of a list. -/
def F_bends : List SA → Option FR
  | [.row m g] => some { val := .own 0 m, new := [.row true m 1 (rowI (bendsF (stepsF (itC g) m) m)) 3], obl := [allC m g, decide (0 < m), decide (m ≤ 2 ^ 38)] }
  | _ => none
end Go.Proofs.Ytmdcafhnjihckaa

/- PolyBends of both, in each case. Conditions: a list of points. -/
namespace Go.Proofs.Ytmdcafhnjihckaa
open Go.RowKit
set_option maxRecDepth 100000

/-- Not a polygon: the reference's. -/
def F_bendsSN : List SA → Option FR
  | [.row m g] => some { val := .tup [.own 0 0, .v (.bool false)], new := [.row true 0 1 (fun _ => []) 3], obl := [allC m g, decide (m ≤ 2 ^ 38), f_valid (itC g) m == false] }
  | _ => none
/-- Not a polygon: the program's. -/
def F_bendsN : List SA → Option FR
  | [.row m g] => some { val := .tup [.v (.slice none 0 0), .v (.bool false)], obl := [allC m g, decide (m ≤ 2 ^ 38), f_valid (itC g) m == false] }
  | _ => none

end Go.Proofs.Ytmdcafhnjihckaa

/- Loops over slices: heldIntS as the pattern. -/
namespace Go.Proofs.Ytmdcafhnjihckaa
open Go.RowKit
set_option maxRecDepth 100000

/-- The first n elements are k, k+1, .. -/
def upB (a : Nat → Int) (k : Int) (n : Nat) : Bool := (List.range n).all fun j => decide (a j = k + j)

structure HI where
  m : Nat
  n : Nat
  k : Int
  kv : Int
  i : Nat
  g : Nat → List Value
  t : TypeId
abbrev lvHI : Ex → List Nat := lv3 [0, 1, 5] [0, 1] [4]
def decHI : List AV → List AB → Option HI
  | [.sl 0 1 0 0 m none, .v (.int .i64 k), .v (.int .i64 0)], [.row false n 1 g t] => some ⟨m, n, k, k, 0, g, t⟩
  | _, _ => none
def stHI (s : HI) : List (Nat × AV) := [(0, .sl 0 1 0 0 s.m none), (1, .v (i64 s.kv)), (5, .v (i64 s.i))]
def hpHI (s : HI) : List AB := [.row false s.m 1 (rowI (itI s.g)) s.t]
def preHI (s : HI) : List Bool := [Nat.beq s.n s.m, allI s.m s.g, decide (0 ≤ s.k), decide (s.k ≤ 2 ^ 40), decide (s.m ≤ 2 ^ 40)]
def outHI (s : HI) (K : Kont) : Res := cond (upB (itI s.g) s.k s.m) (K .normal (mkT 0 21 [(0, .sl 0 1 0 0 s.m none), (1, .v (i64 (s.k + s.m)))]) (hpHI s)) (K .ret (mkT 0 21 [(4, .v (i64 (-1)))]) (hpHI s))
theorem upB_get {a : Nat → Int} {k : Int} {n : Nat} (h : upB a k n = true) {j : Nat} (hj : j < n) : a j = k + j := by
  simpa using List.all_eq_true.1 h j (by simpa using hj)
theorem upB_succ {a : Nat → Int} {k : Int} {n : Nat} (h : upB a k n = true) (h1 : a n = k + n) : upB a k (n + 1) = true := by
  unfold upB
  rw [List.range_succ, List.all_append]
  simp only [List.all_cons, List.all_nil, Bool.and_true, Bool.and_eq_true]
  exact ⟨h, by simpa using h1⟩
theorem upB_no {a : Nat → Int} {k : Int} {n j : Nat} (hj : j < n) (h1 : a j ≠ k + j) : upB a k n = false := by
  cases h : upB a k n with
  | false => rfl
  | true => exact (h1 (upB_get h hj)).elim

def F_heldIntS : List SA → Option FR
  | [.row m g, .v (.int .i64 k)] => some { val := .v (i64 (cond (upB (itI g) k m) (k + m) (-1))), obl := [allI m g, decide (0 ≤ k), decide (k ≤ 2 ^ 40), decide (m ≤ 2 ^ 40)] }
  | _ => none
def md_heldIntS : List Md := [.rd 1 3, .val]

end Go.Proofs.Ytmdcafhnjihckaa

/- The law's own helpers on whole numbers. Conditions: those that each word names. -/
namespace Go.Proofs.Ytmdcafhnjihckaa
open Go.RowKit
set_option maxRecDepth 100000

def sameI (m : Nat) (a b : Nat → Int) : Bool := (List.range m).all fun j => decide (a j = b j)
theorem sameI_get {m : Nat} {a b : Nat → Int} (h : sameI m a b = true) {j : Nat} (hj : j < m) : a j = b j := by
  simpa using List.all_eq_true.1 h j (by simpa using hj)

structure EI where
  m : Nat
  n : Nat
  m2 : Nat
  n2 : Nat
  g : Nat → List Value
  g2 : Nat → List Value
  t : TypeId
  t2 : TypeId
abbrev lvE : Ex → List Nat := lv3 [0, 1, 5] [] [4]
def decE : List AV → List AB → Option EI
  | [.sl 0 1 0 0 m none, .sl 1 1 0 0 m2 none, .v (.int .i64 0)], [.row false n 1 g t, .row false n2 1 g2 t2] => some ⟨m, n, m2, n2, g, g2, t, t2⟩
  | _, _ => none
def stE (s : EI) (i : Nat) : List (Nat × AV) := [(0, .sl 0 1 0 0 s.m none), (1, .sl 1 1 0 0 s.m none), (5, .v (i64 i))]
def hpE (s : EI) : List AB := [.row false s.m 1 (rowI (itI s.g)) s.t, .row false s.m 1 (rowI (itI s.g2)) s.t2]
def preE (s : EI) : List Bool := [Nat.beq s.n s.m, Nat.beq s.m2 s.m, Nat.beq s.n2 s.m, allI s.m s.g, allI s.m s.g2, sameI s.m (itI s.g) (itI s.g2), decide (s.m ≤ 2 ^ 40)]
def outE (s : EI) (K : Kont) : Res := K .normal (mkT 0 26 []) (hpE s)
/-- Two slices that are equal. -/
def F_eqIntS : List SA → Option FR
  | [.row m g, .row m2 g2] => some { val := .v (.bool true), obl := [Nat.beq m2 m, allI m g, allI m g2, sameI m (itI g) (itI g2), decide (m ≤ 2 ^ 40)] }
  | _ => none
def md_eqIntS : List Md := [.rd 1 3, .rd 1 3]
end Go.Proofs.Ytmdcafhnjihckaa

/- markIntS. Conditions: those that the word names. -/
namespace Go.Proofs.Ytmdcafhnjihckaa
open Go.RowKit
set_option maxRecDepth 100000

structure MKI where
  m : Nat
  n : Nat
  k : Int
  g : Nat → List Value
  t : TypeId
abbrev lvM : Ex → List Nat := lv3 [0, 1, 5] [1] []
def decM : List AV → List AB → Option MKI
  | [.own 0 m, .v (.int .i64 k), .v (.int .i64 0)], [.row true n 1 g t] => some ⟨m, n, k, g, t⟩
  | _, _ => none
/-- Marked up to i. -/
def mkG (s : MKI) (i : Nat) : Nat → List Value := fun j => bif Nat.blt j i then [i64 (s.k + j)] else rowI (itI s.g) j
def stM (s : MKI) (i : Nat) : List (Nat × AV) := [(0, .own 0 s.m), (1, .v (i64 (bif Nat.beq i 0 then s.k else s.k + i))), (5, .v (i64 i))]
def hpM (s : MKI) (i : Nat) : List AB := [.row true s.m 1 (mkG s i) s.t]
def preM (s : MKI) : List Bool := [Nat.beq s.n s.m, allI s.m s.g, decide (0 ≤ s.k), decide (s.k ≤ 2 ^ 40), decide (s.m ≤ 2 ^ 40)]
def outM (s : MKI) (K : Kont) : Res := K .normal (mkT 0 19 [(1, .v (i64 (s.k + s.m)))]) [.row true s.m 1 (fun j => [i64 (s.k + j)]) s.t]
def F_markIntS : List SA → Option FR
  | [.own m n g, .v (.int .i64 k)] => some { val := .v (i64 (k + m)), put := [fun j => [i64 (k + j)]], obl := [Nat.beq n m, allI m g, decide (0 ≤ k), decide (k ≤ 2 ^ 40), decide (m ≤ 2 ^ 40)] }
  | _ => none
def md_markIntS : List Md := [.wr 1 3, .val]
end Go.Proofs.Ytmdcafhnjihckaa

/- toCycS: a new list of points. Conditions: a list of points. -/
namespace Go.Proofs.Ytmdcafhnjihckaa
open Go.RowKit
set_option maxRecDepth 100000

abbrev lvC : Ex → List Nat := lv3 [0, 3, 4] [3] []
structure TC where
  m : Nat
  n : Nat
  g : Nat → List Value
  t : TypeId
  m1 : Nat
  n1 : Nat
  G : Nat → List Value
def decC : List AV → List AB → Option TC
  | [.sl 0 8 0 0 m none, .own 1 m1, .v (.int .i64 0)], [.row false n 8 g t, .row true n1 8 G 31] => some ⟨m, n, g, t, m1, n1, G⟩
  | _, _ => none
def toG (a : Nat → Nat → Int) (G : Nat → List Value) (i : Nat) : Nat → List Value := fun j => bif Nat.blt j i then rowC a j else G j
theorem blt_self (j : Nat) : Nat.blt j j = false := by
  cases hb : Nat.blt j j with
  | false => rfl
  | true => rw [Nat.blt_eq] at hb; omega
theorem rndC (m : Nat) (a : Nat → Nat → Int) (t : TypeId) (G : Nat → List Value) (i : Nat) : execC Try.prog g0 100 noLam (loopAt 0 Try.f52) (mkT 0 23 [(0, slP m), (3, .own 1 m), (4, .v (i64 i))]) [.row false m 8 (rowC a) t, .row true m 8 G 31] (leafK lvC 1)
    = cond (decide ((i : Int) < m)) (needs [decide ((i : Int) < m), decide (0 + i < m), decide ((i : Int) < m), decide (i < m)]
        (.out .normal (mkT 0 23 [(0, slP m), (3, .own 1 m), (4, .v (i64 (IntKind.i64.wrap ((i : Int) + 1))))]) [.row false m 8 (rowC a) t, .row true m 8 (fun q => mergeL (Nat.beq q i) (splice (G i) 0 (rowC a (0 + i))) (G q)) 31]))
      (.out (.exit 0) (mkT 0 23 [(3, .own 1 m)]) [.row false m 8 (rowC a) t, .row true m 8 G 31]) := by kernel_rfl

def stC (s : TC) (i : Nat) : List (Nat × AV) := [(0, slP s.m), (3, .own 1 s.m), (4, .v (i64 i))]
def hpC (s : TC) (i : Nat) : List AB := [.row false s.m 8 (rowC (itC s.g)) s.t, .row true s.m 8 (toG (itC s.g) s.G i) 31]
def preC (s : TC) : List Bool := [Nat.beq s.n s.m, Nat.beq s.m1 s.m, Nat.beq s.n1 s.m, allC s.m s.g, allC s.m s.G, decide (s.m ≤ 2 ^ 40)]
def outC (s : TC) (K : Kont) : Res := K .normal (mkT 0 23 [(3, .own 1 s.m)]) [.row false s.m 8 (rowC (itC s.g)) s.t, .row true s.m 8 (rowC (itC s.g)) 31]
theorem sumC : SumOk Try.prog 1 (.block 0 (.loop (loopAt 0 Try.f52))) (loopS 23 [0, 3, 4] decC preC outC) := by
  refine mkFor g0_ok (n := 100) (m := 1) (lv := lvC) (Λ := noLam) stC hpC (fun _ _ => True) (fun s => s.m) rfl (noLam_ok _ _ _) (Nat.le_refl _) ?_ ?_
  · intro avs H s hd ho
    unfold decC at hd
    split at hd
    · rename_i m m1 n g t n1 G
      cases hd
      simp only [preC, ob_cons, decide_eq_true_eq] at ho
      obtain ⟨h0, h1, h2, h3, _⟩ := ho
      have h0 := Nat.eq_of_beq_eq_true h0
      have h1 := Nat.eq_of_beq_eq_true h1
      have h2 := Nat.eq_of_beq_eq_true h2
      subst h0 h1 h2
      exact ⟨[.row false _ 8 g t, .row true _ 8 G 31], by kernel_rfl, .cons (ABeq.row fun j hj => allC_get h3 j hj) (.cons (ABeq.row fun j hj => rfl) .nil), trivial⟩
    · cases hd
  · intro s K Q ho hk i _ him
    simp only [preC, ob_cons, decide_eq_true_eq] at ho
    obtain ⟨_, _, _, _, h4, h5, _⟩ := ho
    show GoodQ (execC Try.prog g0 100 noLam (loopAt 0 Try.f52) (mkT 0 23 [(0, slP s.m), (3, .own 1 s.m), (4, .v (i64 i))]) [.row false s.m 8 (rowC (itC s.g)) s.t, .row true s.m 8 (toG (itC s.g) s.G i) 31] (leafK lvC 1)) _
    rw [rndC, Nat.zero_add]
    refine good_cond (fun hc => ?_) fun hc => ?_
    · have hc := of_decide_eq_true hc
      have hc' : i < s.m := by omega
      refine good_needs (by simp only [ob_cons, ob_nil, and_true, decide_eq_true_eq]; omega) (good_out ⟨hc', ?_, .cons (ABeq.refl _) (.cons (ABeq.row fun j hj => ?_) .nil), trivial⟩)
      · rw [show IntKind.i64.wrap ((i : Int) + 1) = W ((i : Int) + 1) from rfl, w64_in (x := (i : Int) + 1) (by omega) (by omega)]
        rfl
      · by_cases e : j = i
        · subst e
          have b1 : Nat.beq j j = true := Nat.beq_refl j
          have b3 : Nat.blt j (j + 1) = true := by rw [Nat.blt_eq]; omega
          simp only [toG, mergeL_eq, b1, blt_self, b3, cond_true, cond_false]
          rw [allC_get h4 j hc']
          rfl
        · have b1 : Nat.beq j i = false := by
            cases hb : Nat.beq j i with
            | false => rfl
            | true => exact (e (Nat.eq_of_beq_eq_true hb)).elim
          have b2 : Nat.blt j (i + 1) = Nat.blt j i := by
            rw [Bool.eq_iff_iff, Nat.blt_eq, Nat.blt_eq]
            omega
          simp only [toG, mergeL_eq, b1, b2, cond_false]
    · have hc := of_decide_eq_false hc
      have : i = s.m := by omega
      subst this
      refine good_out ⟨[.row false s.m 8 (rowC (itC s.g)) s.t, .row true s.m 8 (rowC (itC s.g)) 31], .cons (ABeq.refl _) (.cons (ABeq.row fun j hj => ?_) .nil), ?_⟩
      · have b3 : Nat.blt j s.m = true := by rw [Nat.blt_eq]; exact hj
        simp only [toG, b3, cond_true]
      · rw [if_pos rfl]
        exact hk

def F_toCycS : List SA → Option FR
  | [.row m g] => some { val := .own 0 m, new := [.row true m 8 (rowC (itC g)) 31], obl := [allC m g, decide (m ≤ 2 ^ 40)] }
  | _ => none
def md_toCycS : List Md := [.rd 8 107]
theorem ok_toCycS : SpecOk Try.prog 52 (specR md_toCycS F_toCycS) := by
  refine mkR (n := 100) (Λ := oneL 0 (loopS 23 [0, 3, 4] decC preC outC)) g0_ok Try.func52 rfl fun sas fr hF ho => ?_
  unfold F_toCycS at hF
  split at hF
  · rename_i m g
    cases hF
    simp only [ob_cons] at ho
    obtain ⟨h1, h2, _⟩ := ho
    have h2' := of_decide_eq_true h2
    refine ⟨[.row false m 8 (rowC (itC g)) 107], .cons (ABeq.row fun j hj => allC_get h1 j hj) .nil, lam1 (by kernel_rfl) sumC, ?_⟩
    have e : execF Try.prog g0 (oneL 0 (loopS 23 [0, 3, 4] decC preC outC)) 100 Try.f52 (avC 0 md_toCycS [.row m g]) [.row false m 8 (rowC (itC g)) 107] (packK 1)
      = needs [decide ((m : Int) ≤ m), decide ((m : Int) ≤ 1099511627776), Nat.beq m m, Nat.beq m m, Nat.beq m m, allC m (rowC (itC g)), allC m zC, decide (m ≤ 2 ^ 40)] (.out .ret [.own 1 m] [.row false m 8 (rowC (itC g)) 107, .row true m 8 (rowC (itC (rowC (itC g)))) 31]) := by kernel_rfl
    rw [show ([AB.row false m 8 (rowC (itC g)) 107]).length = 1 from rfl, e]
    refine good_needs ?_ (good_out ⟨_, rfl, rfl, .cons (ABeq.row fun j hj => (allC_get h1 j hj).symm) (.cons (ABeq.row fun j hj => rfl) .nil)⟩)
    simp only [ob_cons, ob_nil, allC_of (m := m) (a := itC g) fun j _ => rfl, allC_of (m := m) (a := fun _ _ => 0) (g := zC) fun j _ => rfl, h2, beq_me, and_self, and_true, true_and, decide_eq_true_eq]
    omega
  · cases hF

end Go.Proofs.Ytmdcafhnjihckaa

/- eqCyc, eqCycS, where the points are equal. -/
namespace Go.Proofs.Ytmdcafhnjihckaa
open Go.RowKit
set_option maxRecDepth 100000

def sameC (a b : Nat → Int) : Bool := decide (a 0 = b 0) && decide (a 1 = b 1) && decide (a 2 = b 2) && decide (a 3 = b 3) && decide (a 4 = b 4) && decide (a 5 = b 5) && decide (a 6 = b 6) && decide (a 7 = b 7)
def f_eqCyc : List Value → Option (Value × List Bool)
  | [.agg ⟨[.int .i64 a0, .int .i64 a1, .int .i64 a2, .int .i64 a3, .int .i64 a4, .int .i64 a5, .int .i64 a6, .int .i64 a7]⟩, .agg ⟨[.int .i64 b0, .int .i64 b1, .int .i64 b2, .int .i64 b3, .int .i64 b4, .int .i64 b5, .int .i64 b6, .int .i64 b7]⟩] => some (.bool true, [sameC (v8 a0 a1 a2 a3 a4 a5 a6 a7) (v8 b0 b1 b2 b3 b4 b5 b6 b7)])
  | _ => none
theorem treeE (a b : Nat → Int) : execF Try.prog g0 noLam 100 Try.f106 ([cyv a, cyv b].map .v) [] valK
    = cond (a 0 != b 0) (rv (.bool false)) (cond (a 1 != b 1) (rv (.bool false)) (cond (a 2 != b 2) (rv (.bool false)) (cond (a 3 != b 3) (rv (.bool false)) (cond (a 4 != b 4) (rv (.bool false)) (cond (a 5 != b 5) (rv (.bool false)) (cond (a 6 != b 6) (rv (.bool false)) (cond (a 7 != b 7) (rv (.bool false)) (rv (.bool true))))))))) := by kernel_rfl
theorem ok_eqCyc : SpecOk Try.prog 106 (specV f_eqCyc) := by
  refine mkV (n := 100) g0_ok Try.func106 rfl fun vs v ob hF ho => ?_
  unfold f_eqCyc at hF
  split at hF
  · rename_i a0 a1 a2 a3 a4 a5 a6 a7 b0 b1 b2 b3 b4 b5 b6 b7
    cases hF
    show Good (execF Try.prog g0 noLam 100 Try.f106 ([cyv (v8 a0 a1 a2 a3 a4 a5 a6 a7), cyv (v8 b0 b1 b2 b3 b4 b5 b6 b7)].map .v) [] valK) _
    rw [treeE]
    generalize v8 a0 a1 a2 a3 a4 a5 a6 a7 = a at *
    generalize v8 b0 b1 b2 b3 b4 b5 b6 b7 = b at *
    have ho : sameC a b = true := by simpa [obls] using ho
    simp only [sameC, Bool.and_eq_true, decide_eq_true_eq] at ho
    obtain ⟨⟨⟨⟨⟨⟨⟨h0, h1⟩, h2⟩, h3⟩, h4⟩, h5⟩, h6⟩, h7⟩ := ho
    rw [h0, h1, h2, h3, h4, h5, h6, h7]
    refine gives_of ?_
    simp [outV_cond, outV_rv]
  · cases hF

def gm_e : Gam := ext g0 106 (specV f_eqCyc)
theorem gm_e_ok : GamOk Try.prog gm_e := ext_ok g0_ok ok_eqCyc
def sameL (m : Nat) (a b : Nat → Nat → Int) : Bool := (List.range m).all fun j => sameC (w8 (a j)) (w8 (b j))
theorem sameL_get {m : Nat} {a b : Nat → Nat → Int} (h : sameL m a b = true) {j : Nat} (hj : j < m) : sameC (w8 (a j)) (w8 (b j)) = true := List.all_eq_true.1 h j (by simpa using hj)

structure EC where
  m : Nat
  n : Nat
  m2 : Nat
  n2 : Nat
  g : Nat → List Value
  g2 : Nat → List Value
  t : TypeId
  t2 : TypeId
abbrev lvQ : Ex → List Nat := lv3 [0, 1, 5] [] [4]
def decQ : List AV → List AB → Option EC
  | [.sl 0 8 0 0 m none, .sl 1 8 0 0 m2 none, .v (.int .i64 0)], [.row false n 8 g t, .row false n2 8 g2 t2] => some ⟨m, n, m2, n2, g, g2, t, t2⟩
  | _, _ => none
def stQ (s : EC) (i : Nat) : List (Nat × AV) := [(0, .sl 0 8 0 0 s.m none), (1, .sl 1 8 0 0 s.m none), (5, .v (i64 i))]
def hpQ (s : EC) : List AB := [.row false s.m 8 (rowC (itC s.g)) s.t, .row false s.m 8 (rowC (itC s.g2)) s.t2]
def preQ (s : EC) : List Bool := [Nat.beq s.n s.m, Nat.beq s.m2 s.m, Nat.beq s.n2 s.m, allC s.m s.g, allC s.m s.g2, sameL s.m (itC s.g) (itC s.g2), decide (s.m ≤ 2 ^ 40)]
def outQ (s : EC) (K : Kont) : Res := K .normal (mkT 0 27 []) (hpQ s)
theorem rndQ (s : EC) (i : Nat) : execC Try.prog gm_e 100 noLam (loopAt 0 Try.f53) (mkT 0 27 (stQ s i)) (hpQ s) (leafK lvQ 2)
    = cond (decide ((i : Int) < s.m)) (needs [decide ((i : Int) < s.m), decide (0 + i < s.m), decide ((i : Int) < s.m), decide (0 + i < s.m)]
        (needs [sameC (w8 (itC s.g (0 + i))) (w8 (itC s.g2 (0 + i)))] (.out .normal (mkT 0 27 [(0, .sl 0 8 0 0 s.m none), (1, .sl 1 8 0 0 s.m none), (5, .v (i64 (IntKind.i64.wrap ((i : Int) + 1))))]) (hpQ s))))
      (.out (.exit 0) (mkT 0 27 []) (hpQ s)) := by kernel_rfl

theorem sumQ : SumOk Try.prog 2 (.block 0 (.loop (loopAt 0 Try.f53))) (loopS 27 [0, 1, 5] decQ preQ outQ) := by
  refine mkFor gm_e_ok (n := 100) (m := 2) (lv := lvQ) (Λ := noLam) stQ (fun s _ => hpQ s) (fun _ _ => True) (fun s => s.m) rfl (noLam_ok _ _ _) (Nat.le_refl _) ?_ ?_
  · intro avs H s hd ho
    unfold decQ at hd
    split at hd
    · rename_i m m2 n g t n2 g2 t2
      cases hd
      simp only [preQ, ob_cons, decide_eq_true_eq] at ho
      obtain ⟨h0, h1, h2, h3, h4, h5, h6, _⟩ := ho
      have h0 := Nat.eq_of_beq_eq_true h0
      have h1 := Nat.eq_of_beq_eq_true h1
      have h2 := Nat.eq_of_beq_eq_true h2
      subst h0 h1 h2
      exact ⟨[.row false _ 8 g t, .row false _ 8 g2 t2], by kernel_rfl, .cons (ABeq.row fun j hj => allC_get h3 j hj) (.cons (ABeq.row fun j hj => allC_get h4 j hj) .nil), trivial⟩
    · cases hd
  · intro s K Q ho hk i _ him
    simp only [preQ, ob_cons, decide_eq_true_eq] at ho
    obtain ⟨_, _, _, _, _, h5, h6, _⟩ := ho
    have h6 : s.m ≤ 2 ^ 40 := h6
    show GoodQ (execC Try.prog gm_e 100 noLam (loopAt 0 Try.f53) (mkT 0 27 (stQ s i)) (hpQ s) (leafK lvQ 2)) _
    rw [rndQ, Nat.zero_add]
    refine good_cond (fun h1 => ?_) fun h1 => ?_
    · have h1 := of_decide_eq_true h1
      have h1' : i < s.m := by omega
      refine good_needs (by simp only [ob_cons, ob_nil, and_true, decide_eq_true_eq]; omega) (good_needs (by simp only [ob_cons, ob_nil, and_true]; exact sameL_get h5 h1') (good_out ⟨h1', ?_, Hsim.refl _, trivial⟩))
      rw [show IntKind.i64.wrap ((i : Int) + 1) = W ((i : Int) + 1) from rfl, w64_in (x := (i : Int) + 1) (by omega) (by omega)]
      rfl
    · refine good_out ⟨_, Hsim.refl _, ?_⟩
      rw [if_pos rfl]
      exact hk

/-- Two slices that are equal. -/
def F_eqCycS : List SA → Option FR
  | [.row m g, .row m2 g2] => some { val := .v (.bool true), obl := [Nat.beq m2 m, allC m g, allC m g2, sameL m (itC g) (itC g2), decide (m ≤ 2 ^ 40)] }
  | _ => none
def md_eqCycS : List Md := [.rd 8 31, .rd 8 31]
theorem ok_eqCycS : SpecOk Try.prog 53 (specR md_eqCycS F_eqCycS) := by
  refine mkR (n := 100) (Λ := oneL 0 (loopS 27 [0, 1, 5] decQ preQ outQ)) gm_e_ok Try.func53 rfl fun sas fr hF ho => ?_
  unfold F_eqCycS at hF
  split at hF
  · rename_i m g m2 g2
    cases hF
    simp only [ob_cons] at ho
    obtain ⟨h0, h1, h2, h3, h4, _⟩ := ho
    have h0 := Nat.eq_of_beq_eq_true h0
    subst h0
    refine ⟨[.row false m2 8 (rowC (itC g)) 31, .row false m2 8 (rowC (itC g2)) 31], .cons (ABeq.row fun j hj => allC_get h1 j hj) (.cons (ABeq.row fun j hj => allC_get h2 j hj) .nil), lam1 (by kernel_rfl) sumQ, ?_⟩
    have e : execF Try.prog gm_e (oneL 0 (loopS 27 [0, 1, 5] decQ preQ outQ)) 100 Try.f53 (avC 0 md_eqCycS [.row m2 g, .row m2 g2]) [.row false m2 8 (rowC (itC g)) 31, .row false m2 8 (rowC (itC g2)) 31] (packK 2)
      = cond ((m2 : Int) != m2) (.out .ret [.v (.bool false)] [.row false m2 8 (rowC (itC g)) 31, .row false m2 8 (rowC (itC g2)) 31])
        (needs [Nat.beq m2 m2, Nat.beq m2 m2, Nat.beq m2 m2, allC m2 (rowC (itC g)), allC m2 (rowC (itC g2)), sameL m2 (itC g) (itC g2), decide (m2 ≤ 2 ^ 40)] (.out .ret [.v (.bool true)] [.row false m2 8 (rowC (itC g)) 31, .row false m2 8 (rowC (itC g2)) 31])) := by kernel_rfl
    rw [show ([AB.row false m2 8 (rowC (itC g)) 31, AB.row false m2 8 (rowC (itC g2)) 31]).length = 2 from rfl, e]
    refine good_false (by simp) (good_needs (by simp only [ob_cons, ob_nil, allC_of (m := m2) (a := itC g) fun j _ => rfl, allC_of (m := m2) (a := itC g2) fun j _ => rfl, h3, h4, beq_me, and_self]) (good_out ⟨_, rfl, rfl, .cons (ABeq.row fun j hj => (allC_get h1 j hj).symm) (.cons (ABeq.row fun j hj => (allC_get h2 j hj).symm) .nil)⟩))
  · cases hF

end Go.Proofs.Ytmdcafhnjihckaa

/- markCycS. Conditions: those that the word names. -/
namespace Go.Proofs.Ytmdcafhnjihckaa
open Go.RowKit
set_option maxRecDepth 100000

abbrev wr1c (k : Int) : Int := IntKind.i64.wrap (k + 1)
abbrev lvN : Ex → List Nat := lv3 [0, 1, 5] [1] []
/-- Eight marks from k on. -/
abbrev marks (k : Int) : List Value := [i64 k, i64 (wr1c k), i64 (wr1c (wr1c k)), i64 (wr1c (wr1c (wr1c k))), i64 (wr1c (wr1c (wr1c (wr1c k)))), i64 (wr1c (wr1c (wr1c (wr1c (wr1c k))))), i64 (wr1c (wr1c (wr1c (wr1c (wr1c (wr1c k)))))), i64 (wr1c (wr1c (wr1c (wr1c (wr1c (wr1c (wr1c k)))))))]
def upd1c (G : Nat → List Value) (i q : Nat) (v : Value) : Nat → List Value := fun j => mergeL (Nat.beq j i) (splice (G i) q [v]) (G j)
theorem rndN (m : Nat) (k : Int) (G : Nat → List Value) (t : TypeId) (i : Nat) : execC Try.prog g0 100 noLam (loopAt 0 Try.f54) (mkT 0 27 [(0, .own 0 m), (1, .v (i64 k)), (5, .v (i64 i))]) [.row true m 8 G t] (leafK lvN 1)
    = cond (decide ((i : Int) < m)) (needs ((List.range 8).flatMap fun _ => [decide ((i : Int) < m), decide (i < m)])
        (.out .normal (mkT 0 27 [(0, .own 0 m), (1, .v (i64 (wr1c (wr1c (wr1c (wr1c (wr1c (wr1c (wr1c (wr1c k)))))))))), (5, .v (i64 (wr1c i)))]) [.row true m 8
          (upd1c (upd1c (upd1c (upd1c (upd1c (upd1c (upd1c (upd1c G i 0 (i64 k)) i 1 (i64 (wr1c k))) i 2 (i64 (wr1c (wr1c k)))) i 3 (i64 (wr1c (wr1c (wr1c k))))) i 4 (i64 (wr1c (wr1c (wr1c (wr1c k)))))) i 5 (i64 (wr1c (wr1c (wr1c (wr1c (wr1c k))))))) i 6 (i64 (wr1c (wr1c (wr1c (wr1c (wr1c (wr1c k)))))))) i 7 (i64 (wr1c (wr1c (wr1c (wr1c (wr1c (wr1c (wr1c k))))))))) t]))
      (.out (.exit 0) (mkT 0 27 [(1, .v (i64 k))]) [.row true m 8 G t]) := by kernel_rfl

theorem wr1_in {k : Int} (h0 : 0 ≤ k) (h1 : k ≤ 2 ^ 60) : wr1c k = k + 1 := by
  rw [show wr1c k = W (k + 1) from rfl, w64_in (by omega) (by omega)]
abbrev mark8 (k : Int) : List Value := [i64 k, i64 (k + 1), i64 (k + 2), i64 (k + 3), i64 (k + 4), i64 (k + 5), i64 (k + 6), i64 (k + 7)]
structure MKC where
  m : Nat
  n : Nat
  k : Int
  g : Nat → List Value
  t : TypeId
def decN : List AV → List AB → Option MKC
  | [.own 0 m, .v (.int .i64 k), .v (.int .i64 0)], [.row true n 8 g t] => some ⟨m, n, k, g, t⟩
  | _, _ => none
def mkN (s : MKC) (i : Nat) : Nat → List Value := fun j => bif Nat.blt j i then mark8 (s.k + 8 * j) else rowC (itC s.g) j
def stN (s : MKC) (i : Nat) : List (Nat × AV) := [(0, .own 0 s.m), (1, .v (i64 (bif Nat.beq i 0 then s.k else s.k + 8 * i))), (5, .v (i64 i))]
def hpN (s : MKC) (i : Nat) : List AB := [.row true s.m 8 (mkN s i) s.t]
def preN (s : MKC) : List Bool := [Nat.beq s.n s.m, allC s.m s.g, decide (0 ≤ s.k), decide (s.k ≤ 2 ^ 40), decide (s.m ≤ 2 ^ 40)]
def outN (s : MKC) (K : Kont) : Res := K .normal (mkT 0 27 [(1, .v (i64 (s.k + 8 * s.m)))]) [.row true s.m 8 (fun j => mark8 (s.k + 8 * j)) s.t]

theorem upd8 (G : Nat → List Value) (i : Nat) (v0 v1 v2 v3 v4 v5 v6 v7 : Value) (h : ∃ a : Nat → Int, G i = [i64 (a 0), i64 (a 1), i64 (a 2), i64 (a 3), i64 (a 4), i64 (a 5), i64 (a 6), i64 (a 7)]) (j : Nat) :
    (upd1c (upd1c (upd1c (upd1c (upd1c (upd1c (upd1c (upd1c G i 0 v0) i 1 v1) i 2 v2) i 3 v3) i 4 v4) i 5 v5) i 6 v6) i 7 v7) j = if j = i then [v0, v1, v2, v3, v4, v5, v6, v7] else G j := by
  obtain ⟨a, ha⟩ := h
  have b1 : Nat.beq i i = true := Nat.beq_refl i
  by_cases e : j = i
  · subst e
    simp only [upd1c, mergeL_eq, b1, cond_true, ha, if_pos]
    rfl
  · have b2 : Nat.beq j i = false := by
      cases hb : Nat.beq j i with
      | false => rfl
      | true => exact (e (Nat.eq_of_beq_eq_true hb)).elim
    simp only [upd1c, mergeL_eq, b2, cond_false, if_neg e]

theorem sumN : SumOk Try.prog 1 (.block 0 (.loop (loopAt 0 Try.f54))) (loopS 27 [0, 1, 5] decN preN outN) := by
  refine mkFor g0_ok (n := 100) (m := 1) (lv := lvN) (Λ := noLam) stN hpN (fun _ _ => True) (fun s => s.m) rfl (noLam_ok _ _ _) (Nat.le_refl _) ?_ ?_
  · intro avs H s hd ho
    unfold decN at hd
    split at hd
    · rename_i m k n g t
      cases hd
      simp only [preN, ob_cons, decide_eq_true_eq] at ho
      obtain ⟨h0, h1, _⟩ := ho
      have h0 := Nat.eq_of_beq_eq_true h0
      subst h0
      exact ⟨[.row true _ 8 g t], by kernel_rfl, .cons (ABeq.row fun j hj => allC_get h1 j hj) .nil, trivial⟩
    · cases hd
  · intro s K Q ho hk i _ him
    simp only [preN, ob_cons, decide_eq_true_eq] at ho
    obtain ⟨_, h1, h2, h3, h4, _⟩ := ho
    have hkv : (bif Nat.beq i 0 then s.k else s.k + 8 * i) = s.k + 8 * i := by
      cases i with
      | zero => simp
      | succ i => rfl
    show GoodQ (execC Try.prog g0 100 noLam (loopAt 0 Try.f54) (mkT 0 27 [(0, .own 0 s.m), (1, .v (i64 (bif Nat.beq i 0 then s.k else s.k + 8 * i))), (5, .v (i64 i))]) [.row true s.m 8 (mkN s i) s.t] (leafK lvN 1)) _
    rw [rndN, hkv]
    refine good_cond (fun hc => ?_) fun hc => ?_
    · have hc := of_decide_eq_true hc
      have hc' : i < s.m := by omega
      have e1 : wr1c (s.k + 8 * i) = s.k + 8 * i + 1 := wr1_in (by omega) (by omega)
      have e2 : wr1c (s.k + 8 * i + 1) = s.k + 8 * i + 2 := by rw [wr1_in (by omega) (by omega)]; omega
      have e3 : wr1c (s.k + 8 * i + 2) = s.k + 8 * i + 3 := by rw [wr1_in (by omega) (by omega)]; omega
      have e4 : wr1c (s.k + 8 * i + 3) = s.k + 8 * i + 4 := by rw [wr1_in (by omega) (by omega)]; omega
      have e5 : wr1c (s.k + 8 * i + 4) = s.k + 8 * i + 5 := by rw [wr1_in (by omega) (by omega)]; omega
      have e6 : wr1c (s.k + 8 * i + 5) = s.k + 8 * i + 6 := by rw [wr1_in (by omega) (by omega)]; omega
      have e7 : wr1c (s.k + 8 * i + 6) = s.k + 8 * i + 7 := by rw [wr1_in (by omega) (by omega)]; omega
      have e8 : wr1c (s.k + 8 * i + 7) = s.k + 8 * ((i + 1 : Nat) : Int) := by rw [wr1_in (by omega) (by omega)]; omega
      have e9 : wr1c (i : Int) = ((i + 1 : Nat) : Int) := by rw [wr1_in (by omega) (by omega)]; omega
      rw [e1, e2, e3, e4, e5, e6, e7, e8, e9]
      refine good_needs (by simp [obls, List.all_flatMap, hc']) (good_out ⟨hc', rfl, ?_, trivial⟩)
      refine .cons (ABeq.row fun j hj => ?_) .nil
      rw [upd8 _ _ _ _ _ _ _ _ _ _ ⟨itC s.g i, by simp only [mkN, blt_self, cond_false]⟩]
      by_cases e : j = i
      · subst e
        have b3 : Nat.blt j (j + 1) = true := by rw [Nat.blt_eq]; omega
        rw [if_pos rfl]
        simp only [mkN, b3, cond_true]
      · have b2 : Nat.blt j (i + 1) = Nat.blt j i := by
          rw [Bool.eq_iff_iff, Nat.blt_eq, Nat.blt_eq]
          omega
        rw [if_neg e]
        simp only [mkN, b2]
    · have hc := of_decide_eq_false hc
      have : i = s.m := by omega
      subst this
      refine good_out ⟨[.row true s.m 8 (fun j => mark8 (s.k + 8 * j)) s.t], .cons (ABeq.row fun j hj => ?_) .nil, ?_⟩
      · have b3 : Nat.blt j s.m = true := by rw [Nat.blt_eq]; exact hj
        simp only [mkN, b3, cond_true]
      · rw [if_pos rfl]
        exact hk

def F_markCycS : List SA → Option FR
  | [.own m n g, .v (.int .i64 k)] => some { val := .v (i64 (k + 8 * m)), put := [fun j => mark8 (k + 8 * j)], obl := [Nat.beq n m, allC m g, decide (0 ≤ k), decide (k ≤ 2 ^ 40), decide (m ≤ 2 ^ 40)] }
  | _ => none
def md_markCycS : List Md := [.wr 8 31, .val]
theorem ok_markCycS : SpecOk Try.prog 54 (specR md_markCycS F_markCycS) := by
  refine mkR (n := 100) (Λ := oneL 0 (loopS 27 [0, 1, 5] decN preN outN)) g0_ok Try.func54 rfl fun sas fr hF ho => ?_
  unfold F_markCycS at hF
  split at hF
  · rename_i m n g k
    cases hF
    simp only [ob_cons] at ho
    obtain ⟨h0, h1, h2, h3, h4, _⟩ := ho
    have h0 := Nat.eq_of_beq_eq_true h0
    subst h0
    refine ⟨[.row true n 8 (rowC (itC g)) 31], .cons (ABeq.row fun j hj => allC_get h1 j hj) .nil, lam1 (by kernel_rfl) sumN, ?_⟩
    have e : execF Try.prog g0 (oneL 0 (loopS 27 [0, 1, 5] decN preN outN)) 100 Try.f54 (avC 0 md_markCycS [.own n n g, .v (.int .i64 k)]) [.row true n 8 (rowC (itC g)) 31] (packK 1)
      = needs [Nat.beq n n, allC n (rowC (itC g)), decide (0 ≤ k), decide (k ≤ 2 ^ 40), decide (n ≤ 2 ^ 40)] (.out .ret [.v (i64 (k + 8 * n))] [.row true n 8 (fun j => mark8 (k + 8 * j)) 31]) := by kernel_rfl
    rw [show ([AB.row true n 8 (rowC (itC g)) 31]).length = 1 from rfl, e]
    refine good_needs (by simp only [ob_cons, ob_nil, allC_of (m := n) (a := itC g) fun j _ => rfl, h2, h3, h4, beq_me, and_self]) (good_out ⟨_, rfl, rfl, .cons (ABeq.row fun j hj => ?_) .nil⟩)
    have b3 : Nat.blt j n = true := by rw [Nat.blt_eq]; exact hj
    simp only [b3, cond_true]
  · cases hF

end Go.Proofs.Ytmdcafhnjihckaa

/- FnExactRowDesign: the whole. Conditions: a row of points. -/
namespace Go.Proofs.Ytmdcafhnjihckaa
open Go.RowKit
set_option maxRecDepth 100000

noncomputable def gmHC : Gam := ext (ext (ext gmH 52 (specR md_toCycS F_toCycS)) 53 (specR md_eqCycS F_eqCycS)) 54 (specR md_markCycS F_markCycS)
theorem gmHC_ok : GamOk Try.prog gmHC := ext_ok (ext_ok (ext_ok gmH_ok ok_toCycS) ok_eqCycS) ok_markCycS
def FrdYo (yes : (Nat → Nat → Int) → Nat → Bool) (tl : (Nat → Nat → Int) → Nat → List Wh) : List SA → Option FR
  | [.row m g] => some { val := valY (tl (it8 g) m), new := newY (tl (it8 g) m), obl := [all8 m g, decide (m ≤ 2 ^ 38), yes (it8 g) m] }
  | _ => none
def FrdNo (yes : (Nat → Nat → Int) → Nat → Bool) : List SA → Option FR
  | [.row m g] => some { val := valN, obl := [all8 m g, decide (m ≤ 2 ^ 38), !yes (it8 g) m] }
  | _ => none
noncomputable def gmXdY (yes : (Nat → Nat → Int) → Nat → Bool) (tl : (Nat → Nat → Int) → Nat → List Wh) : Gam := ext (ext gmHC 30 (specR md_c8 (FrdS yes tl))) 29 (specR md_c8 (FrdYo yes tl))
noncomputable def gmXdN (yes : (Nat → Nat → Int) → Nat → Bool) (tl : (Nat → Nat → Int) → Nat → List Wh) : Gam := ext (ext gmHC 30 (specR md_c8 (FrdS yes tl))) 29 (specR md_c8 (FrdNo yes))
theorem lawXdY (yes : (Nat → Nat → Int) → Nat → Bool) (tl : (Nat → Nat → Int) → Nat → List Wh) (m : Nat) (f : Nat → Nat → Int) (t : TypeId) : execF Try.prog (gmXdY yes tl) noLam 100 Try.f12 [.sl 0 8 0 0 m none] [.row false m 8 (row8 f) t] (packK 1)
    = bif decide (IntKind.wrap IntKind.i64 ((1048576 : Int) - (↑m : Int)) < (0 : Int)) then Res.out Ex.ret [AV.v (Value.bool true)] [AB.row false m (8 : Nat) (row8 f) t] else bif decide (IntKind.wrap IntKind.i64 ((1048576 : Int) - (↑m : Int)) < (0 : Int)) then Res.out Ex.ret [AV.v (Value.bool true)] [AB.row false m (8 : Nat) (row8 f) t] else needs [Nat.ble ((0 : Nat) + m) m, allC m fun q ↦ row8 f ((0 : Nat) + q), decide (m ≤ (1099511627776 : Nat)), Nat.ble m m, all8 m (rowC (itC fun q ↦ row8 f ((0 : Nat) + q))), decide (m ≤ (274877906944 : Nat)), Nat.ble ((0 : Nat) + m) m, allC m fun q ↦ row8 f ((0 : Nat) + q), decide (m ≤ (1099511627776 : Nat)), Nat.ble m m, all8 m (rowC (itC fun q ↦ row8 f ((0 : Nat) + q))), decide (m ≤ (274877906944 : Nat)), yes (it8 (rowC (itC fun q ↦ row8 f ((0 : Nat) + q)))) m, Nat.ble ((0 : Nat) + List.length (tl (it8 (rowC (itC fun q ↦ row8 f ((0 : Nat) + q)))) m)) (List.length (tl (it8 (rowC (itC fun q ↦ row8 f ((0 : Nat) + q)))) m)), Nat.ble (List.length (tl (it8 (rowC (itC fun q ↦ row8 f ((0 : Nat) + q)))) m)) (List.length (tl (it8 (rowC (itC fun q ↦ row8 f ((0 : Nat) + q)))) m)), Nat.beq (List.length (tl (it8 (rowC (itC fun q ↦ row8 f ((0 : Nat) + q)))) m)) (List.length (tl (it8 (rowC (itC fun q ↦ row8 f ((0 : Nat) + q)))) m)), allW (List.length (tl (it8 (rowC (itC fun q ↦ row8 f ((0 : Nat) + q)))) m)) fun q ↦ row9 (wfun (tl (it8 (rowC (itC fun q ↦ row8 f ((0 : Nat) + q)))) m)) ((0 : Nat) + q), allW (List.length (tl (it8 (rowC (itC fun q ↦ row8 f ((0 : Nat) + q)))) m)) (row9 (wfun (tl (it8 (rowC (itC fun q ↦ row8 f ((0 : Nat) + q)))) m))), sameW (List.length (tl (it8 (rowC (itC fun q ↦ row8 f ((0 : Nat) + q)))) m)) (itW fun q ↦ row9 (wfun (tl (it8 (rowC (itC fun q ↦ row8 f ((0 : Nat) + q)))) m)) ((0 : Nat) + q)) (itW (row9 (wfun (tl (it8 (rowC (itC fun q ↦ row8 f ((0 : Nat) + q)))) m)))), decide (List.length (tl (it8 (rowC (itC fun q ↦ row8 f ((0 : Nat) + q)))) m) ≤ (1099511627776 : Nat))] (bif !true == yes (it8 (rowC (itC fun q ↦ row8 f ((0 : Nat) + q)))) m then Res.out Ex.ret [AV.v (Value.bool false)] [AB.row false m (8 : Nat) (row8 f) t] else needs [Nat.ble ((0 : Nat) + m) m, allC m fun q ↦ row8 f ((0 : Nat) + q), decide (m ≤ (1099511627776 : Nat)), Nat.ble m m, Nat.ble m m, Nat.beq m m, allC m (rowC (itC fun q ↦ row8 f ((0 : Nat) + q))), allC m (rowC (itC fun q ↦ row8 f ((0 : Nat) + q))), sameL m (itC (rowC (itC fun q ↦ row8 f ((0 : Nat) + q)))) (itC (rowC (itC fun q ↦ row8 f ((0 : Nat) + q)))), decide (m ≤ (1099511627776 : Nat)), Nat.ble m m, Nat.beq m m, allC m (rowC (itC fun q ↦ row8 f ((0 : Nat) + q))), decide (m ≤ (1099511627776 : Nat)), Nat.ble ((0 : Nat) + List.length (tl (it8 (rowC (itC fun q ↦ row8 f ((0 : Nat) + q)))) m)) (List.length (tl (it8 (rowC (itC fun q ↦ row8 f ((0 : Nat) + q)))) m)), Nat.ble (List.length (tl (it8 (rowC (itC fun q ↦ row8 f ((0 : Nat) + q)))) m)) (List.length (tl (it8 (rowC (itC fun q ↦ row8 f ((0 : Nat) + q)))) m)), Nat.beq (List.length (tl (it8 (rowC (itC fun q ↦ row8 f ((0 : Nat) + q)))) m)) (List.length (tl (it8 (rowC (itC fun q ↦ row8 f ((0 : Nat) + q)))) m)), allW (List.length (tl (it8 (rowC (itC fun q ↦ row8 f ((0 : Nat) + q)))) m)) fun q ↦ row9 (wfun (tl (it8 (rowC (itC fun q ↦ row8 f ((0 : Nat) + q)))) m)) ((0 : Nat) + q), allW (List.length (tl (it8 (rowC (itC fun q ↦ row8 f ((0 : Nat) + q)))) m)) (row9 (wfun (tl (it8 (rowC (itC fun q ↦ row8 f ((0 : Nat) + q)))) m))), sameW (List.length (tl (it8 (rowC (itC fun q ↦ row8 f ((0 : Nat) + q)))) m)) (itW fun q ↦ row9 (wfun (tl (it8 (rowC (itC fun q ↦ row8 f ((0 : Nat) + q)))) m)) ((0 : Nat) + q)) (itW (row9 (wfun (tl (it8 (rowC (itC fun q ↦ row8 f ((0 : Nat) + q)))) m)))), decide (List.length (tl (it8 (rowC (itC fun q ↦ row8 f ((0 : Nat) + q)))) m) ≤ (1099511627776 : Nat))] (bif !true == yes (it8 (rowC (itC fun q ↦ row8 f ((0 : Nat) + q)))) m then Res.out Ex.ret [AV.v (Value.bool false)] [AB.row false m (8 : Nat) (row8 f) t] else needs [Nat.beq (List.length (tl (it8 (rowC (itC fun q ↦ row8 f ((0 : Nat) + q)))) m)) (List.length (tl (it8 (rowC (itC fun q ↦ row8 f ((0 : Nat) + q)))) m)), Nat.beq (List.length (tl (it8 (rowC (itC fun q ↦ row8 f ((0 : Nat) + q)))) m)) (List.length (tl (it8 (rowC (itC fun q ↦ row8 f ((0 : Nat) + q)))) m)), allW (List.length (tl (it8 (rowC (itC fun q ↦ row8 f ((0 : Nat) + q)))) m)) (row9 (wfun (tl (it8 (rowC (itC fun q ↦ row8 f ((0 : Nat) + q)))) m))), decide (List.length (tl (it8 (rowC (itC fun q ↦ row8 f ((0 : Nat) + q)))) m) ≤ (1099511627776 : Nat)), Nat.ble ((0 : Nat) + List.length (tl (it8 (rowC (itC fun q ↦ row8 f ((0 : Nat) + q)))) m)) (List.length (tl (it8 (rowC (itC fun q ↦ row8 f ((0 : Nat) + q)))) m)), allW (List.length (tl (it8 (rowC (itC fun q ↦ row8 f ((0 : Nat) + q)))) m)) fun q ↦ row9 (markF (1 : Int)) ((0 : Nat) + q), sameW (List.length (tl (it8 (rowC (itC fun q ↦ row8 f ((0 : Nat) + q)))) m)) (itW fun q ↦ row9 (markF (1 : Int)) ((0 : Nat) + q)) (markF (1 : Int)), decide (List.length (tl (it8 (rowC (itC fun q ↦ row8 f ((0 : Nat) + q)))) m) ≤ (1099511627776 : Nat))] (bif (1 : Int) + (9 : Int) * (↑(List.length (tl (it8 (rowC (itC fun q ↦ row8 f ((0 : Nat) + q)))) m)) : Int) != (1 : Int) + (9 : Int) * (↑(List.length (tl (it8 (rowC (itC fun q ↦ row8 f ((0 : Nat) + q)))) m)) : Int) then Res.out Ex.ret [AV.v (Value.bool false)] [AB.row false m (8 : Nat) (row8 f) t] else needs [Nat.ble ((0 : Nat) + m) m, allC m fun q ↦ row8 f ((0 : Nat) + q), decide (m ≤ (1099511627776 : Nat)), Nat.ble m m, all8 m (rowC (itC fun q ↦ row8 f ((0 : Nat) + q))), decide (m ≤ (274877906944 : Nat)), yes (it8 (rowC (itC fun q ↦ row8 f ((0 : Nat) + q)))) m, Nat.ble ((0 : Nat) + List.length (tl (it8 (rowC (itC fun q ↦ row8 f ((0 : Nat) + q)))) m)) (List.length (tl (it8 (rowC (itC fun q ↦ row8 f ((0 : Nat) + q)))) m)), Nat.ble (List.length (tl (it8 (rowC (itC fun q ↦ row8 f ((0 : Nat) + q)))) m)) (List.length (tl (it8 (rowC (itC fun q ↦ row8 f ((0 : Nat) + q)))) m)), Nat.beq (List.length (tl (it8 (rowC (itC fun q ↦ row8 f ((0 : Nat) + q)))) m)) (List.length (tl (it8 (rowC (itC fun q ↦ row8 f ((0 : Nat) + q)))) m)), allW (List.length (tl (it8 (rowC (itC fun q ↦ row8 f ((0 : Nat) + q)))) m)) fun q ↦ row9 (wfun (tl (it8 (rowC (itC fun q ↦ row8 f ((0 : Nat) + q)))) m)) ((0 : Nat) + q), allW (List.length (tl (it8 (rowC (itC fun q ↦ row8 f ((0 : Nat) + q)))) m)) (row9 (wfun (tl (it8 (rowC (itC fun q ↦ row8 f ((0 : Nat) + q)))) m))), sameW (List.length (tl (it8 (rowC (itC fun q ↦ row8 f ((0 : Nat) + q)))) m)) (itW fun q ↦ row9 (wfun (tl (it8 (rowC (itC fun q ↦ row8 f ((0 : Nat) + q)))) m)) ((0 : Nat) + q)) (itW (row9 (wfun (tl (it8 (rowC (itC fun q ↦ row8 f ((0 : Nat) + q)))) m)))), decide (List.length (tl (it8 (rowC (itC fun q ↦ row8 f ((0 : Nat) + q)))) m) ≤ (1099511627776 : Nat))] (bif !true == yes (it8 (rowC (itC fun q ↦ row8 f ((0 : Nat) + q)))) m then Res.out Ex.ret [AV.v (Value.bool false)] [AB.row false m (8 : Nat) (row8 f) t] else needs [Nat.ble ((0 : Nat) + List.length (tl (it8 (rowC (itC fun q ↦ row8 f ((0 : Nat) + q)))) m)) (List.length (tl (it8 (rowC (itC fun q ↦ row8 f ((0 : Nat) + q)))) m)), allW (List.length (tl (it8 (rowC (itC fun q ↦ row8 f ((0 : Nat) + q)))) m)) fun q ↦ row9 (markF (1 : Int)) ((0 : Nat) + q), sameW (List.length (tl (it8 (rowC (itC fun q ↦ row8 f ((0 : Nat) + q)))) m)) (itW fun q ↦ row9 (markF (1 : Int)) ((0 : Nat) + q)) (markF (1 : Int)), decide (List.length (tl (it8 (rowC (itC fun q ↦ row8 f ((0 : Nat) + q)))) m) ≤ (1099511627776 : Nat))] (bif (1 : Int) + (9 : Int) * (↑(List.length (tl (it8 (rowC (itC fun q ↦ row8 f ((0 : Nat) + q)))) m)) : Int) != (1 : Int) + (9 : Int) * (↑(List.length (tl (it8 (rowC (itC fun q ↦ row8 f ((0 : Nat) + q)))) m)) : Int) then Res.out Ex.ret [AV.v (Value.bool false)] [AB.row false m (8 : Nat) (row8 f) t] else Res.out Ex.ret [AV.v (Value.bool true)] [AB.row false m (8 : Nat) (row8 f) t]))))) := by kernel_rfl

theorem lawXdN (yes : (Nat → Nat → Int) → Nat → Bool) (tl : (Nat → Nat → Int) → Nat → List Wh) (m : Nat) (f : Nat → Nat → Int) (t : TypeId) : execF Try.prog (gmXdN yes tl) noLam 100 Try.f12 [.sl 0 8 0 0 m none] [.row false m 8 (row8 f) t] (packK 1)
    = bif decide (IntKind.wrap IntKind.i64 ((1048576 : Int) - (↑m : Int)) < (0 : Int)) then Res.out Ex.ret [AV.v (Value.bool true)] [AB.row false m (8 : Nat) (row8 f) t] else bif decide (IntKind.wrap IntKind.i64 ((1048576 : Int) - (↑m : Int)) < (0 : Int)) then Res.out Ex.ret [AV.v (Value.bool true)] [AB.row false m (8 : Nat) (row8 f) t] else needs [Nat.ble ((0 : Nat) + m) m, allC m fun q ↦ row8 f ((0 : Nat) + q), decide (m ≤ (1099511627776 : Nat)), Nat.ble m m, all8 m (rowC (itC fun q ↦ row8 f ((0 : Nat) + q))), decide (m ≤ (274877906944 : Nat)), Nat.ble ((0 : Nat) + m) m, allC m fun q ↦ row8 f ((0 : Nat) + q), decide (m ≤ (1099511627776 : Nat)), Nat.ble m m, all8 m (rowC (itC fun q ↦ row8 f ((0 : Nat) + q))), decide (m ≤ (274877906944 : Nat)), !yes (it8 (rowC (itC fun q ↦ row8 f ((0 : Nat) + q)))) m, Nat.ble (List.length (tl (it8 (rowC (itC fun q ↦ row8 f ((0 : Nat) + q)))) m)) (List.length (tl (it8 (rowC (itC fun q ↦ row8 f ((0 : Nat) + q)))) m)), Nat.beq (List.length (tl (it8 (rowC (itC fun q ↦ row8 f ((0 : Nat) + q)))) m)) (0 : Nat), sameW (0 : Nat) (itW fun _ ↦ []) (itW (row9 (wfun (tl (it8 (rowC (itC fun q ↦ row8 f ((0 : Nat) + q)))) m))))] (bif !false == yes (it8 (rowC (itC fun q ↦ row8 f ((0 : Nat) + q)))) m then Res.out Ex.ret [AV.v (Value.bool false)] [AB.row false m (8 : Nat) (row8 f) t] else needs [Nat.ble ((0 : Nat) + m) m, allC m fun q ↦ row8 f ((0 : Nat) + q), decide (m ≤ (1099511627776 : Nat)), Nat.ble m m, Nat.ble m m, Nat.beq m m, allC m (rowC (itC fun q ↦ row8 f ((0 : Nat) + q))), allC m (rowC (itC fun q ↦ row8 f ((0 : Nat) + q))), sameL m (itC (rowC (itC fun q ↦ row8 f ((0 : Nat) + q)))) (itC (rowC (itC fun q ↦ row8 f ((0 : Nat) + q)))), decide (m ≤ (1099511627776 : Nat)), Nat.ble m m, Nat.beq m m, allC m (rowC (itC fun q ↦ row8 f ((0 : Nat) + q))), decide (m ≤ (1099511627776 : Nat)), Nat.ble (List.length (tl (it8 (rowC (itC fun q ↦ row8 f ((0 : Nat) + q)))) m)) (List.length (tl (it8 (rowC (itC fun q ↦ row8 f ((0 : Nat) + q)))) m)), Nat.beq (List.length (tl (it8 (rowC (itC fun q ↦ row8 f ((0 : Nat) + q)))) m)) (0 : Nat), sameW (0 : Nat) (itW fun _ ↦ []) (itW (row9 (wfun (tl (it8 (rowC (itC fun q ↦ row8 f ((0 : Nat) + q)))) m))))] (bif !false == yes (it8 (rowC (itC fun q ↦ row8 f ((0 : Nat) + q)))) m then Res.out Ex.ret [AV.v (Value.bool false)] [AB.row false m (8 : Nat) (row8 f) t] else needs [sameW (0 : Nat) (itW fun _ ↦ []) (markF (1 : Int)), Nat.ble ((0 : Nat) + m) m, allC m fun q ↦ row8 f ((0 : Nat) + q), decide (m ≤ (1099511627776 : Nat)), Nat.ble m m, all8 m (rowC (itC fun q ↦ row8 f ((0 : Nat) + q))), decide (m ≤ (274877906944 : Nat)), !yes (it8 (rowC (itC fun q ↦ row8 f ((0 : Nat) + q)))) m, Nat.ble (List.length (tl (it8 (rowC (itC fun q ↦ row8 f ((0 : Nat) + q)))) m)) (List.length (tl (it8 (rowC (itC fun q ↦ row8 f ((0 : Nat) + q)))) m)), Nat.beq (List.length (tl (it8 (rowC (itC fun q ↦ row8 f ((0 : Nat) + q)))) m)) (0 : Nat), sameW (0 : Nat) (itW fun _ ↦ []) (itW (row9 (wfun (tl (it8 (rowC (itC fun q ↦ row8 f ((0 : Nat) + q)))) m))))] (bif !false == yes (it8 (rowC (itC fun q ↦ row8 f ((0 : Nat) + q)))) m then Res.out Ex.ret [AV.v (Value.bool false)] [AB.row false m (8 : Nat) (row8 f) t] else needs [sameW (0 : Nat) (itW fun _ ↦ []) (markF (1 : Int))] (Res.out Ex.ret [AV.v (Value.bool true)] [AB.row false m (8 : Nat) (row8 f) t])))) := by kernel_rfl

theorem tidyL_le12 (L : List Wh) : (tidyL L).length ≤ 12 := by
  cases h : okT L with
  | true => exact tidyL_len h
  | false => rw [tidyL_no h]; exact Nat.zero_le _
theorem tRd_len (f : Nat → Nat → Int) (m : Nat) : (tRd f m).length ≤ 12 := by
  rw [tRd]
  cases rdP f m with
  | true => exact tidyL_le12 _
  | false => exact Nat.zero_le _
theorem row8C (f : Nat → Nat → Int) : rowC (itC fun q => row8 f (0 + q)) = row8 f := by rw [row80]; rfl
theorem allC_row8 (m : Nat) (f : Nat → Nat → Int) : allC m (row8 f) = true := allC_of (a := f) fun _ _ => rfl
theorem sameL_me (m : Nat) (a : Nat → Nat → Int) : sameL m a a = true := by simp [sameL, sameC]
theorem yes_xrd (m : Nat) (f : Nat → Nat → Int) (t : TypeId) (hm : m ≤ 9223372036854775807) : ∃ Γ, GamOk Try.prog Γ ∧ GoodQ (execF Try.prog Γ noLam 100 Try.f12 [.sl 0 8 0 0 m none] [.row false m 8 (row8 f) t] (packK 1)) SaysYes := by
  have e1 : IntKind.wrap IntKind.i64 ((1048576 : Int) - (m : Int)) = 1048576 - m := wr_in (by omega)
  have gY : GamOk Try.prog (gmXdY yRd tRd) := ext_ok (ext_ok gmHC_ok ok_rdS) ok_rdY
  have gN : GamOk Try.prog (gmXdN yRd tRd) := ext_ok (ext_ok gmHC_ok ok_rdS) ok_rdN
  by_cases hb : m ≤ 1048576
  · have c1 : decide ((1048576 : Int) - m < 0) = false := decide_eq_false (by omega)
    have b40 : decide (m ≤ 1099511627776) = true := decide_eq_true (by omega)
    have b38 : decide (m ≤ 274877906944) = true := decide_eq_true (by omega)
    have hl := tRd_len (it8 (row8 f)) m
    have hno := tRd_no (f := it8 (row8 f)) (m := m)
    cases hv : yRd (it8 (row8 f)) m with
    | true =>
      refine ⟨_, gY, ?_⟩
      rw [lawXdY]
      rw [row8C]
      generalize tRd (it8 (row8 f)) m = T at hl
      have bT : decide (T.length ≤ 1099511627776) = true := decide_eq_true (by omega)
      simp only [row0, row80, row9_itW, listW_itW, hv, e1, c1, bT, b40, b38, allC_row8, all8_row, sameL_me, allW_row, sameW_self, sameW_row, ble_me, beq_me, needs_t, needs_nil, cond_true, cond_false, Nat.zero_add, bne_self_eq_false, beq_self_eq_true, Bool.not_true]
      exact good_out rfl
    | false =>
      refine ⟨_, gN, ?_⟩
      rw [lawXdN]
      rw [row8C]
      rw [hno hv]
      simp only [row0, row80, row9_itW, listW_itW, hv, e1, c1, b40, b38, allC_row8, all8_row, sameL_me, allW_row, sameW_self, sameW_zero, List.length_nil, ble_me, beq_me, needs_t, needs_nil, cond_true, cond_false, Nat.zero_add, bne_self_eq_false, beq_self_eq_true, Bool.not_false, Bool.not_true]
      exact good_out rfl
  · refine ⟨_, gN, ?_⟩
    rw [lawXdN, e1, show decide ((1048576 : Int) - m < 0) = true from decide_eq_true (by omega)]
    exact good_out rfl

end Go.Proofs.Ytmdcafhnjihckaa

/- RowDesign of the program and of the reference return the same, for whatever list of points: FnExactRowDesign returns true, and its argument reads as before. No conditions. -/
namespace Go.Proofs.Ytmdcafhnjihckaa
open Go.ChangeShapes Go.WideShapes Go.ChangeAt Go.RowKit

set_option maxRecDepth 100000 in
theorem xrd_lifted (os : Os) (started : os.Started) (H : Type) (enc : TypeId × Value → H) :
    ReturnsInHanded {} Try.checked os 12 .any (Rows.fnExactRowDesignSpec.pre6 enc Try.prog Try.f12 Rows.fnExactRowDesignRow.domain false) (Rows.fnExactRowDesignSpec.post enc Try.prog Try.f12 false true false false) := by
  refine returnsInHanded_of_change (C := Try.checked) own started (by kernel_rfl) Try.func12
    (ChangeSpec.witness6 (enc := enc) (C := Try.checked) false ⟨#[], #[.slice none 0 0], []⟩ 8 (by kernel_rfl) (by kernel_rfl) (by kernel_rfl) (by kernel_rfl)) ?_
  intro W base args ds gs before hval hW _ _
  exact contractC (spec := Rows.fnExactRowDesignSpec) Try.func12 rfl rfl rfl (fun _ _ => rfl) (fun m a hm => (yes_xrd m a 31 hm).elim fun Γ h => ⟨Γ, 100, h⟩) H enc W base args ds gs before hval hW

set_option maxRecDepth 100000 in
theorem xrd_f1 : Rows.fnExactRowDesignRow.wf (OpenSpec.ofChange Rows.fnExactRowDesignSpec) = true := by kernel_rfl
set_option maxRecDepth 100000 in
theorem xrd_f2 : (Rows.fnExactRowDesignRow.inPlace == Try.prog.inPlace 12) = true := by kernel_rfl
set_option maxRecDepth 100000 in
theorem xrd_f3 : (Rows.fnExactRowDesignRow.unfollowed == Try.prog.unfollowed 12) = true := by kernel_rfl
set_option maxRecDepth 100000 in
theorem xrd_f4 : (Rows.fnExactRowDesignRow.recurses == Try.prog.recurses 12) = true := by kernel_rfl
set_option maxRecDepth 100000 in
theorem xrd_f5 : (Rows.fnExactRowDesignRow.named == Try.prog.varsNamed 12) = true := by kernel_rfl
set_option maxRecDepth 100000 in
theorem xrd_f6 : Try.prog.funcNamed Rows.fnExactRowDesignRow.func = some 12 := by kernel_rfl
theorem xrd_f7 : (Rows.fnExactRowDesignRow.lifted == Try.prog.liftsFinal) = true := jfG
theorem xrd_f8 : (Try.prog.make == some Rows.fnExactRowDesignRow.make) = true := jfH
theorem xrd_f9 : (Rows.fnExactRowDesignRow.plainKeys == Try.prog.plainKeys) = true := jfI
set_option maxRecDepth 100000 in
theorem xrd_joined : joinedFacts Try.prog 12 Try.f12 Rows.fnExactRowDesignSpec Rows.fnExactRowDesignRow = true := by
  unfold joinedFacts
  rw [jfA, jfB, jfC, jfD, jfE, jfF, xrd_f1, xrd_f2, xrd_f3, xrd_f4, xrd_f5, xrd_f7, xrd_f8, xrd_f9]
  kernel_rfl

theorem xrd_holds : Rows.FnExactRowDesignSaid :=
  OpenClaim.holds_of_wide 12 Try.f12 rfl rfl rfl rfl rfl rfl rfl ⟨rfl, rfl, rfl, rfl, rfl⟩ rfl rfl rfl rfl rfl xrd_f6 Try.func12 xrd_joined
    (of_decide_eq_true (by kernel_rfl)) (by unfold Func.isWrapper; first | (rw [if_pos (by decide +kernel)]; kernel_rfl) | (rw [if_neg (by decide +kernel)]; exact ⟨rfl, rfl⟩))
    (fun os started H enc _ => xrd_lifted os started H enc)
#print axioms xrd_holds
end Go.Proofs.Ytmdcafhnjihckaa
