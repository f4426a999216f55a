/- SurdNorm, SurdAdd, RowSquares of both: their trees. Conditions: a list of points. -/
import Derived.Test.YtoligfhcogligaaZS0
import Derived.Test.YtoligfhcogligaaZS1
import Derived.Test.YtoligfhcogligaaZS2
import Derived.Test.YtoligfhcogligaaZS3
import Derived.Test.YtoligfhcogligaaZS4
import Derived.Test.YtoligfhcogligaaZS5
import Derived.Test.YtoligfhcogligaaZKPe70
import Derived.Test.YtoligfhcogligaaZKPe71
import Derived.Test.YtoligfhcogligaaZKPe72
/- RowOf of both: trees. Conditions: a list of wheels, a number. -/
namespace Go.Proofs.Ytoligfhcogligaa
open Go.RowKit
set_option maxRecDepth 100000

noncomputable abbrev fRS : Func := Try.f87
def gmRO (dv : (Nat → Nat → Int) → Int → Nat → Nat → Int) (dk : (Nat → Nat → Int) → Int → Nat → Bool) : Gam := ext g0 120 (specR md_wv (FDAo dv dk))
def gmRV (okd : List Wh → Bool) : Gam := ext gm_l6In 119 (specR md_ws (FdvO okd))
abbrev hpRO (m : Nat) (f : Nat → Nat → Int) (i : Nat) (h : Nat → Nat → Int) : List AB := [.row false m 9 (row9 f) 111, .row true i 8 (row8 h) 40]
abbrev hpR1 (m : Nat) (f : Nat → Nat → Int) : List AB := [.row false m 9 (row9 f) 111]
abbrev lvRI : Ex → List Nat := lv3 [0, 1, 6, 20, 21] [6] [4, 5]
abbrev stRI (m n i : Nat) : List AV := [.sl 0 9 0 0 m none, .v (i64 n), .own 1 i, .v (i64 n), .v (i64 i)]
noncomputable abbrev lamRI (m : Nat) (f : Nat → Nat → Int) (n : Nat) (c : Bool) (h : Nat → Nat → Int) : Nat → Option Sum := oneL 0 (atS 41 (lvRI .normal) 1 (stRI m n 0) (hpRO m f 0 fun _ _ => 0) (fun K => cond c (K .normal (mkT 0 41 [(6, .own 1 n)]) (hpRO m f n h)) (K .ret (mkT 0 41 [(4, .v (.slice none 0 0)), (5, .v (.bool false))]) (hpR1 m f))))
abbrev lvRS : Ex → List Nat := lv3 [0, 1, 6, 7] [6] [4, 5]
abbrev stRS (m n i : Nat) : List AV := [.sl 0 9 0 0 m none, .v (i64 n), .own 1 i, .v (i64 i)]
theorem rndRS (dv : (Nat → Nat → Int) → Int → Nat → Nat → Int) (dk : (Nat → Nat → Int) → Int → Nat → Bool) (m : Nat) (f : Nat → Nat → Int) (n : Nat) (h : Nat → Nat → Int) (i : Nat) : execC Try.prog (gmRO dv dk) 100 noLam (loopAt 0 fRS) (mkT 0 42 ((lvRS .normal).zip (stRS m n i))) (hpRO m f i h) (leafV 42 lvRS 1)
    = bif decide ((↑i : Int) < (↑n : Int)) then needs [!decide ((↑n : Int) = (0 : Int)), Nat.ble ((0 : Nat) + m) m, allW m fun q ↦ row9 f ((0 : Nat) + q), decide (m ≤ (274877906944 : Nat))] (bif !dk (itW fun q ↦ row9 f ((0 : Nat) + q)) (IntKind.wrap IntKind.i64 ((↑i : Int) * IntKind.wrap IntKind.i64 (Int.tdiv (24 : Int) (↑n : Int)))) m then Res.out Ex.ret [AV.own (1 : Nat) (0 : Nat), AV.v (Value.bool false)] [AB.row false m (9 : Nat) (row9 f) (111 : TypeId), AB.row true (0 : Nat) (8 : Nat) (fun _ ↦ []) (40 : Nat)] else needs [Nat.ble i i, Nat.ble (i + (1 : Nat)) (549755813888 : Nat)] (Res.out Ex.normal [AV.sl (0 : Nat) (9 : Nat) (0 : Nat) (0 : Nat) m none, AV.v (Value.int IntKind.i64 (↑n : Int)), AV.own (1 : Nat) (i + (1 : Nat)), AV.v (Value.int IntKind.i64 (IntKind.wrap IntKind.i64 ((↑i : Int) + (1 : Int))))] [AB.row false m (9 : Nat) (row9 f) (111 : TypeId), AB.row true (i + (1 : Nat)) (8 : Nat) (fun q ↦ [Value.int IntKind.i64 (bif Nat.blt q i then h q (0 : Nat) else dv (itW fun q ↦ row9 f ((0 : Nat) + q)) (IntKind.wrap IntKind.i64 ((↑i : Int) * IntKind.wrap IntKind.i64 (Int.tdiv (24 : Int) (↑n : Int)))) m (0 : Nat)), Value.int IntKind.i64 (bif Nat.blt q i then h q (1 : Nat) else dv (itW fun q ↦ row9 f ((0 : Nat) + q)) (IntKind.wrap IntKind.i64 ((↑i : Int) * IntKind.wrap IntKind.i64 (Int.tdiv (24 : Int) (↑n : Int)))) m (1 : Nat)), Value.int IntKind.i64 (bif Nat.blt q i then h q (2 : Nat) else dv (itW fun q ↦ row9 f ((0 : Nat) + q)) (IntKind.wrap IntKind.i64 ((↑i : Int) * IntKind.wrap IntKind.i64 (Int.tdiv (24 : Int) (↑n : Int)))) m (2 : Nat)), Value.int IntKind.i64 (bif Nat.blt q i then h q (3 : Nat) else dv (itW fun q ↦ row9 f ((0 : Nat) + q)) (IntKind.wrap IntKind.i64 ((↑i : Int) * IntKind.wrap IntKind.i64 (Int.tdiv (24 : Int) (↑n : Int)))) m (3 : Nat)), Value.int IntKind.i64 (bif Nat.blt q i then h q (4 : Nat) else dv (itW fun q ↦ row9 f ((0 : Nat) + q)) (IntKind.wrap IntKind.i64 ((↑i : Int) * IntKind.wrap IntKind.i64 (Int.tdiv (24 : Int) (↑n : Int)))) m (4 : Nat)), Value.int IntKind.i64 (bif Nat.blt q i then h q (5 : Nat) else dv (itW fun q ↦ row9 f ((0 : Nat) + q)) (IntKind.wrap IntKind.i64 ((↑i : Int) * IntKind.wrap IntKind.i64 (Int.tdiv (24 : Int) (↑n : Int)))) m (5 : Nat)), Value.int IntKind.i64 (bif Nat.blt q i then h q (6 : Nat) else dv (itW fun q ↦ row9 f ((0 : Nat) + q)) (IntKind.wrap IntKind.i64 ((↑i : Int) * IntKind.wrap IntKind.i64 (Int.tdiv (24 : Int) (↑n : Int)))) m (6 : Nat)), Value.int IntKind.i64 (bif Nat.blt q i then h q (7 : Nat) else dv (itW fun q ↦ row9 f ((0 : Nat) + q)) (IntKind.wrap IntKind.i64 ((↑i : Int) * IntKind.wrap IntKind.i64 (Int.tdiv (24 : Int) (↑n : Int)))) m (7 : Nat))]) (40 : Nat)])) else Res.out (Ex.exit (0 : Nat)) [AV.own (1 : Nat) i] [AB.row false m (9 : Nat) (row9 f) (111 : TypeId), AB.row true i (8 : Nat) (row8 h) (40 : TypeId)] := by kernel_rfl

noncomputable abbrev lamRS (m : Nat) (f : Nat → Nat → Int) (n : Nat) (c : Bool) (h : Nat → Nat → Int) : Nat → Option Sum := oneL 0 (atS 42 (lvRS .normal) 1 (stRS m n 0) (hpRO m f 0 fun _ _ => 0) (fun K => cond c (K .normal (mkT 0 42 [(6, .own 1 n)]) (hpRO m f n h)) (K .ret (mkT 0 42 [(4, .own 1 0), (5, .v (.bool false))]) (hpRO m f 0 fun _ _ => 0))))
theorem treeRS (okd : List Wh → Bool) (m : Nat) (f : Nat → Nat → Int) (x : Int) (n : Nat) (c : Bool) (h : Nat → Nat → Int) : execF Try.prog (gmRV okd) (lamRS m f n c h) 100 fRS [.sl 0 9 0 0 m none, .v (i64 x)] (hpR1 m f) (packK 1)
    = bif decide (x ≥ (1 : Int)) then bif decide (x ≤ (24 : Int)) then needs [!decide (x = (0 : Int))] (bif !Int.tmod (24 : Int) x == (0 : Int) then Res.out Ex.ret [AV.tup [AV.own (1 : Nat) (0 : Nat), AV.v (Value.bool false)]] [AB.row false m (9 : Nat) (row9 f) (111 : TypeId), AB.row true (0 : Nat) (8 : Nat) (fun _ ↦ []) (40 : Nat)] else needs [Nat.ble ((0 : Nat) + m) m, allW m fun q ↦ row9 f ((0 : Nat) + q), decide (m ≤ (549755813888 : Nat))] (bif !okd (listW (itW fun q ↦ row9 f ((0 : Nat) + q)) m) then Res.out Ex.ret [AV.tup [AV.own (1 : Nat) (0 : Nat), AV.v (Value.bool false)]] [AB.row false m (9 : Nat) (row9 f) (111 : TypeId), AB.row true (0 : Nat) (8 : Nat) (fun _ ↦ []) (40 : Nat)] else needs [chk ([AV.sl (0 : Nat) (9 : Nat) (0 : Nat) (0 : Nat) m none, AV.v (Value.int IntKind.i64 x), AV.own (1 : Nat) (0 : Nat), AV.v (Value.int IntKind.i64 (0 : Int))] = stRS m n (0 : Nat) ∧ Hsim [AB.row false m (9 : Nat) (row9 f) (111 : TypeId), AB.row true (0 : Nat) (8 : Nat) (fun _ ↦ []) (40 : Nat)] (hpRO m f (0 : Nat) fun _ _ ↦ (0 : Int)))] (bif c then Res.out Ex.ret [AV.tup [AV.own (1 : Nat) n, AV.v (Value.bool true)]] [AB.row false m (9 : Nat) (row9 f) (111 : TypeId), AB.row true n (8 : Nat) (row8 h) (40 : TypeId)] else Res.out Ex.ret [AV.tup [AV.own (1 : Nat) (0 : Nat), AV.v (Value.bool false)]] [AB.row false m (9 : Nat) (row9 f) (111 : TypeId), AB.row true (0 : Nat) (8 : Nat) (row8 fun _ _ ↦ (0 : Int)) (40 : TypeId)]))) else Res.out Ex.ret [AV.tup [AV.own (1 : Nat) (0 : Nat), AV.v (Value.bool false)]] [AB.row false m (9 : Nat) (row9 f) (111 : TypeId), AB.row true (0 : Nat) (8 : Nat) (fun _ ↦ []) (40 : Nat)] else Res.out Ex.ret [AV.tup [AV.own (1 : Nat) (0 : Nat), AV.v (Value.bool false)]] [AB.row false m (9 : Nat) (row9 f) (111 : TypeId), AB.row true (0 : Nat) (8 : Nat) (fun _ ↦ []) (40 : Nat)] := by kernel_rfl

end Go.Proofs.Ytoligfhcogligaa

/- RowOf of both: its word. Conditions: a list of wheels, a number. -/
namespace Go.Proofs.Ytoligfhcogligaa
open Go.RowKit
set_option maxRecDepth 100000

/-- The points in turn. -/
def roF (f : Nat → Nat → Int) (m : Nat) (x : Int) : Nat → Nat → Int := fun j => daV f ((j : Int) * Int.tdiv 24 x) m
def rwB (f : Nat → Nat → Int) (m : Nat) (x : Int) (j : Nat) : Bool := !daOk f ((j : Int) * Int.tdiv 24 x) m
def roV (x : Int) : Bool := decide (x ≥ 1) && (decide (x ≤ 24) && (Int.tmod 24 x == 0))
def roK (f : Nat → Nat → Int) (m : Nat) (x : Int) : Bool := roV x && (okD (listW f m) && noneTo (rwB f m x) x.toNat)
def roT (f : Nat → Nat → Int) (m : Nat) (x : Int) : List Cy := bif roK f m x then listC (roF f m x) x.toNat else []
theorem roV_in {x : Int} (h : roV x = true) : 1 ≤ x ∧ x ≤ 24 := by
  rw [roV, Bool.and_eq_true, Bool.and_eq_true, decide_eq_true_eq, decide_eq_true_eq] at h
  exact ⟨h.1, h.2.1⟩
theorem tdiv24 {n : Nat} (h0 : 1 ≤ n) (h1 : n ≤ 24) : 0 ≤ Int.tdiv 24 (n : Int) ∧ Int.tdiv 24 (n : Int) ≤ 24 := by
  rw [Int.tdiv_eq_ediv_of_nonneg (by omega)]
  exact ⟨Int.ediv_nonneg (by omega) (by omega), Int.ediv_le_self _ (by omega)⟩
theorem ro_mul {i n : Nat} (hi : i < n) (hn : n ≤ 24) : IntKind.wrap IntKind.i64 ((i : Int) * IntKind.wrap IntKind.i64 (Int.tdiv 24 (n : Int))) = (i : Int) * Int.tdiv 24 (n : Int) := by
  have h := tdiv24 (n := n) (by omega) hn
  have hm := mul_bd (x := (i : Int)) (y := Int.tdiv 24 (n : Int)) (A := 24) (B := 24) (by omega) (by omega) (by omega) h.2
  rw [wr_in (x := Int.tdiv 24 (n : Int)) (by omega), wr_in (by omega)]
theorem gmRO_ok : GamOk Try.prog (gmRO daV daOk) := by
  refine ext_ok g0_ok ?_
  rw [FDAo_eq]
  exact ok_DA
theorem gmRV_ok : GamOk Try.prog (gmRV okD) := by
  unfold gmRV
  rw [FdvO_eq]
  exact ext_ok gm_l6In_ok ok_dv
theorem ro_row (f : Nat → Nat → Int) (m n i : Nat) (o : Nat → Nat → Int) (ho : ∀ j, j < i → o j = roF f m n j) (j : Nat) (hj : j < i + 1) : [i64 (bif Nat.blt j i then o j 0 else daV f ((i : Int) * Int.tdiv 24 (n : Int)) m 0), i64 (bif Nat.blt j i then o j 1 else daV f ((i : Int) * Int.tdiv 24 (n : Int)) m 1), i64 (bif Nat.blt j i then o j 2 else daV f ((i : Int) * Int.tdiv 24 (n : Int)) m 2), i64 (bif Nat.blt j i then o j 3 else daV f ((i : Int) * Int.tdiv 24 (n : Int)) m 3), i64 (bif Nat.blt j i then o j 4 else daV f ((i : Int) * Int.tdiv 24 (n : Int)) m 4), i64 (bif Nat.blt j i then o j 5 else daV f ((i : Int) * Int.tdiv 24 (n : Int)) m 5), i64 (bif Nat.blt j i then o j 6 else daV f ((i : Int) * Int.tdiv 24 (n : Int)) m 6), i64 (bif Nat.blt j i then o j 7 else daV f ((i : Int) * Int.tdiv 24 (n : Int)) m 7)] = row8 (roF f m n) j := by
  by_cases h : j < i
  · rw [blt_yes h]
    simp only [cond_true, ho j h]
  · have : j = i := by omega
    subst this
    rw [blt_no]
    rfl
theorem sumRS (m : Nat) (f : Nat → Nat → Int) (n : Nat) (hm : m ≤ 2 ^ 38) (hn : n ≤ 24) :
    SumOk Try.prog 1 (.block 0 (.loop (loopAt 0 fRS))) (atS 42 (lvRS .normal) 1 (stRS m n 0) (hpRO m f 0 fun _ _ => 0) (fun K => cond (noneTo (rwB f m n) n) (K .normal (mkT 0 42 [(6, .own 1 n)]) (hpRO m f n (roF f m n))) (K .ret (mkT 0 42 [(4, .own 1 0), (5, .v (.bool false))]) (hpRO m f 0 fun _ _ => 0)))) := by
  refine for_at gmRO_ok (n := 100) (m := 1) (lv := lvRS) (fun i => stRS m n i) (fun i => hpRO m f i (bif Nat.beq i 0 then (fun _ _ => 0) else roF f m n)) (fun i => noneTo (rwB f m n) i = true) n (fun _ => noLam) (lv3_ris rfl rfl rfl) (Nat.le_refl _) rfl fun K Q hk i hno hi => ⟨noLam_ok _ _ _, ?_⟩
  have ho : ∀ j, j < i → (bif Nat.beq i 0 then (fun _ _ => (0 : Int)) else roF f m n) j = roF f m n j := by
    intro j hj
    cases i with
    | zero => exact absurd hj (Nat.not_lt_zero _)
    | succ i => rfl
  rw [rndRS]
  simp only [row0, daOk_row, daV_row]
  refine good_cond (fun c1 => ?_) fun c1 => ?_
  · have c1 := of_decide_eq_true c1
    have c1' : i < n := by omega
    rw [ro_mul c1' hn, wr_in (x := (i : Int) + 1) (by omega)]
    refine good_needs (by simp only [ob_cons, ob_nil, and_true, Bool.not_eq_true', decide_eq_false_iff_not, decide_eq_true_eq, Nat.ble_eq, allW_row, true_and]; omega) (good_cond (fun q => ?_) fun q => good_needs (by simp only [ob_cons, ob_nil, and_true, Nat.ble_eq]; omega) (good_out ⟨i + 1, ⟨rfl, c1', noneTo_succ hno q⟩, rfl, .cons (ABeq.refl _) (.cons (ABeq.row fun j hj => ?_) .nil)⟩))
    · refine good_out ⟨hpRO m f 0 fun _ _ => 0, .cons (ABeq.refl _) (.cons (ABeq.row fun j hj => absurd hj (Nat.not_lt_zero _)) .nil), ?_⟩
      rw [noneTo_no c1' q] at hk
      exact hk
    · exact ro_row f m n i _ ho j hj
  · have c1 := of_decide_eq_false c1
    have : i = n := by omega
    subst this
    refine good_out ⟨hpRO m f i (roF f m i), .cons (ABeq.refl _) (.cons (ABeq.row fun j hj => row8_congr fun k _ => by rw [ho j hj]) .nil), ?_⟩
    rw [if_pos rfl]
    rw [hno] at hk
    exact hk

def FroY : List SA → Option FR
  | [.row m g, .v (.int .i64 x)] => some { val := valG (roT (itW g) m x), new := newG (roT (itW g) m x), obl := [allW m g, decide (m ≤ 2 ^ 38), roK (itW g) m x] }
  | _ => none
def FroN : List SA → Option FR
  | [.row m g, .v (.int .i64 x)] => some { val := valN, obl := [allW m g, decide (m ≤ 2 ^ 38), !roK (itW g) m x] }
  | _ => none
def UroO (rk : (Nat → Nat → Int) → Nat → Int → Bool) (rt : (Nat → Nat → Int) → Nat → Int → List Cy) : List SA → Option PtR
  | [.row m g, .v (.int .i64 x)] => some ⟨rk (itW g) m x, rt (itW g) m x, [allW m g, decide (m ≤ 2 ^ 38)]⟩
  | _ => none
def FroS (rk : (Nat → Nat → Int) → Nat → Int → Bool) (rt : (Nat → Nat → Int) → Nat → Int → List Cy) : List SA → Option FR
  | [.row m g, .v (.int .i64 x)] => some { val := .tup [.own 0 (rt (itW g) m x).length, .v (.bool (rk (itW g) m x))], new := newG (rt (itW g) m x), obl := [allW m g, decide (m ≤ 2 ^ 38)] }
  | _ => none
theorem roK_parts {f : Nat → Nat → Int} {m : Nat} {x : Int} (h : roK f m x = true) : roV x = true ∧ okD (listW f m) = true ∧ noneTo (rwB f m x) x.toNat = true := by
  rw [roK, Bool.and_eq_true, Bool.and_eq_true] at h
  exact ⟨h.1, h.2.1, h.2.2⟩
theorem roV_parts {x : Int} (h : roV x = true) : decide (x ≥ 1) = true ∧ decide (x ≤ 24) = true ∧ (Int.tmod 24 x == 0) = true := by
  rw [roV, Bool.and_eq_true, Bool.and_eq_true] at h
  exact ⟨h.1, h.2.1, h.2.2⟩
theorem roT_yes {f : Nat → Nat → Int} {m : Nat} {x : Int} (h : roK f m x = true) : roT f m x = listC (roF f m x) x.toNat := by rw [roT, h]; rfl
theorem roT_no {f : Nat → Nat → Int} {m : Nat} {x : Int} (h : roK f m x = false) : roT f m x = [] := by rw [roT, h]; rfl
theorem roT_len (f : Nat → Nat → Int) (m : Nat) (x : Int) : (roT f m x).length ≤ 24 := by
  cases h : roK f m x with
  | true =>
    have := roV_in (roK_parts h).1
    rw [roT_yes h, listC_length]
    omega
  | false => rw [roT_no h]; exact Nat.zero_le _
theorem rs_le {x : Int} (_ : x ≥ 1) (h : Int.tmod 24 x = 0) : x ≤ 24 := by
  by_cases hx : x ≤ 24
  · exact hx
  · exfalso
    rw [Int.tmod_eq_emod_of_nonneg (by omega), Int.emod_eq_of_lt (by omega) (by omega)] at h
    omega
theorem ro_fin {m : Nat} {g : Nat → List Value} {x : Int} {n : Nat} (h1 : allW m g = true) (hk : roK (itW g) m x = true) (hx : x = n) : Hsim (hpRO m (itW g) n (roF (itW g) m n)) ([.row false m 9 g 111] ++ newG (roT (itW g) m x)) ∧ (roT (itW g) m x).length = n := by
  subst hx
  have e := roT_yes hk
  rw [Int.toNat_natCast] at e
  have hl : (roT (itW g) m n).length = n := by rw [e, listC_length]
  refine ⟨.cons (ABeq.row fun j hj => (allW_get h1 j hj).symm) ?_, hl⟩
  show Hsim _ [.row true (roT (itW g) m n).length 8 (row8 (cfun (roT (itW g) m n))) 40]
  rw [hl, e]
  exact .cons (ABeq.row fun j hj => (row8_list _ hj).symm) .nil
theorem ok_roS : SpecOk Try.prog 87 (specR md_wv (FroS roK roT)) := by
  refine specR_hr gmRV_ok Try.func87 rfl fun sas fr hF ho => ?_
  unfold FroS at hF
  split at hF
  · rename_i m g x
    cases hF
    simp only [ob_cons] at ho
    obtain ⟨h1, h2, _⟩ := ho
    have hm := of_decide_eq_true h2
    obtain ⟨n, hn, hn2⟩ : ∃ n : Nat, n ≤ 24 ∧ (roV x = true → x = n) := by
      cases hv : roV x with
      | true => have := roV_in hv; exact ⟨x.toNat, by omega, fun _ => by omega⟩
      | false => exact ⟨0, by omega, fun h => by cases h⟩
    refine ⟨hpR1 m (itW g), lamRS m (itW g) n (noneTo (rwB (itW g) m n) n) (roF (itW g) m n), 100, .cons (ABeq.row fun j hj => allW_get h1 j hj) .nil, lam1 (by kernel_rfl) (sumRS m (itW g) n hm hn), ?_⟩
    show GoodQ (execF Try.prog (gmRV okD) (lamRS m (itW g) n (noneTo (rwB (itW g) m n) n) (roF (itW g) m n)) 100 fRS [.sl 0 9 0 0 m none, .v (i64 x)] (hpR1 m (itW g)) (packK 1)) _
    rw [treeRS]
    simp only [row0, listW_itW]
    have no : ∀ (o : Nat → List Value), roK (itW g) m x = false → GoodQ (.out .ret [.tup [.own 1 0, .v (.bool false)]] [.row false m 9 (row9 (itW g)) 111, .row true 0 8 o 40]) (GivR (abP md_wv [.row m g, .v (.int .i64 x)] []) { val := .tup [.own 0 (roT (itW g) m x).length, .v (.bool (roK (itW g) m x))], new := newG (roT (itW g) m x), obl := [allW m g, decide (m ≤ 2 ^ 38)] }) := by
      intro o h
      rw [roT_no h, h]
      exact good_out ⟨_, rfl, rfl, .cons (ABeq.row fun j hj => (allW_get h1 j hj).symm) (.cons (ABeq.row fun j hj => absurd hj (Nat.not_lt_zero _)) .nil)⟩
    refine good_cond (fun c1 => good_cond (fun c0 => ?_) fun c0 => no _ (by rw [roK, roV, c0, Bool.false_and, Bool.and_false]; rfl)) fun c1 => no _ (by rw [roK, roV, c1]; rfl)
    have c1' := of_decide_eq_true c1
    refine good_needs (by simp only [ob_cons, ob_nil, and_true, Bool.not_eq_true', decide_eq_false_iff_not]; omega) (good_cond (fun c2 => no _ ?_) fun c2 => ?_)
    · have c2 : (Int.tmod 24 x == 0) = false := by simpa using c2
      rw [roK, roV, c2, Bool.and_false, Bool.and_false]
      rfl
    · have c2 : (Int.tmod 24 x == 0) = true := by simpa using c2
      have hv : roV x = true := by rw [roV, c1, c2, c0]; rfl
      have e := hn2 hv
      subst e
      refine good_needs (by simp only [ob_cons, ob_nil, and_true, decide_eq_true_eq, Nat.ble_eq, allW_row, true_and]; omega) (good_cond (fun c3 => no _ ?_) fun c3 => good_needs ?_ (good_cond (fun c4 => ?_) fun c4 => no _ ?_))
      · have c3 : okD (listW (itW g) m) = false := by simpa using c3
        rw [roK, c3, hv]
        rfl
      · simp only [ob_cons, ob_nil, and_true]
        exact chk_of ⟨rfl, .cons (ABeq.refl _) (.cons (ABeq.row fun j hj => absurd hj (Nat.not_lt_zero _)) .nil)⟩
      · have c3 : okD (listW (itW g) m) = true := by simpa using c3
        have hk : roK (itW g) m n = true := by
          rw [roK, c3, hv, Int.toNat_natCast, c4]
          rfl
        obtain ⟨e1, e2⟩ := ro_fin h1 hk rfl
        exact good_out ⟨_, rfl, by rw [e2, hk]; rfl, e1⟩
      · have c3 : okD (listW (itW g) m) = true := by simpa using c3
        rw [roK, c3, hv, Int.toNat_natCast, c4]
        rfl
  · cases hF

end Go.Proofs.Ytoligfhcogligaa

/- The program's RowShift, of a valid row. Conditions: a valid row, a number. -/
namespace Go.Proofs.Ytoligfhcogligaa
open Go.RowKit
set_option maxRecDepth 100000

noncomputable abbrev fIC : Func := Try.f101
abbrev fnIy : AV := .v (.func (.func 111) ⟨[]⟩ ⟨[]⟩)
abbrev lvIy : Ex → List Nat := lv3 [0, 1, 7, 8] [] [4]
abbrev hpIy (m : Nat) (f : Nat → Nat → Int) : List AB := [.row false m 8 (row8 f) 40]
def gmIy (ok : (Nat → Int) → Bool) : Gam := ext g0 112 (specV (fOkc ok))
theorem rndIy (ok : (Nat → Int) → Bool) (m : Nat) (f : Nat → Nat → Int) (i : Nat) : execC Try.prog (gmIy ok) 100 noLam (loopAt 0 fIC) (mkT 0 19 ((lvIy .normal).zip [.sl 0 8 0 0 m none, fnIy, .v (i64 m), .v (i64 i)])) (hpIy m f) (leafV 19 lvIy 1)
    = bif decide ((↑i : Int) < (↑m : Int)) then needs [decide ((↑i : Int) < (↑m : Int)), decide ((0 : Nat) + Int.toNat (↑i : Int) < m)] (bif !ok (w8 (f ((0 : Nat) + Int.toNat (↑i : Int)))) then Res.out Ex.ret [AV.v (Value.int IntKind.i64 (↑i : Int))] [AB.row false m (8 : Nat) (row8 f) (40 : TypeId)] else Res.out Ex.normal [AV.sl (0 : Nat) (8 : Nat) (0 : Nat) (0 : Nat) m none, AV.v (Value.func (Fn.func (111 : FuncId)) (Array.mk []) (Array.mk [])), AV.v (Value.int IntKind.i64 (↑m : Int)), AV.v (Value.int IntKind.i64 (IntKind.wrap IntKind.i64 ((↑i : Int) + (1 : Int))))] [AB.row false m (8 : Nat) (row8 f) (40 : TypeId)]) else Res.out (Ex.exit (0 : Nat)) [] [AB.row false m (8 : Nat) (row8 f) (40 : TypeId)] := by kernel_rfl

noncomputable abbrev lamIy (m : Nat) (f : Nat → Nat → Int) : Nat → Option Sum := oneL 0 (atS 19 (lvIy .normal) 1 [.sl 0 8 0 0 m none, fnIy, .v (i64 m), .v (i64 (0 : Nat))] (hpIy m f) (fun K => K .normal (mkT 0 19 []) (hpIy m f)))
theorem treeIy (m : Nat) (f : Nat → Nat → Int) : execF Try.prog g0 (lamIy m f) 100 fIC [.sl 0 8 0 0 m none, fnIy] (hpIy m f) (packK 1)
    = needs [chk ([AV.sl (0 : Nat) (8 : Nat) (0 : Nat) (0 : Nat) m none, AV.v (Value.func (Fn.func (111 : FuncId)) (Array.mk []) (Array.mk [])), AV.v (Value.int IntKind.i64 (↑m : Int)), AV.v (Value.int IntKind.i64 (0 : Int))] = [AV.sl (0 : Nat) (8 : Nat) (0 : Nat) (0 : Nat) m none, fnIy, AV.v (Value.int IntKind.i64 (↑m : Int)), AV.v (Value.int IntKind.i64 (0 : Int))] ∧ Hsim [AB.row false m (8 : Nat) (row8 f) (40 : TypeId)] (hpIy m f))] (Res.out Ex.ret [AV.v (Value.int IntKind.i64 (-1 : Int))] [AB.row false m (8 : Nat) (row8 f) (40 : TypeId)]) := by kernel_rfl

/-- Where all points are valid, none is found. -/
def FidY (ok : (Nat → Int) → Bool) : List SA → Option FR
  | [.row m g, .v (.func (.func f) ⟨[]⟩ ⟨[]⟩)] => some { val := .v (i64 (-1)), obl := [Nat.beq f 111, all8 m g, decide (m ≤ 2 ^ 38), (List.range m).all fun j => ok (it8 g j)] }
  | _ => none
def md_ic : List Md := [.rd 8 40, .val]
noncomputable abbrev fRh : Func := Try.f37
abbrev lvRh : Ex → List Nat := lv3 [0, 1, 6, 20, 21] [6] [4, 5]
abbrev stRh (m : Nat) (x : Int) (i : Nat) : List AV := [.sl 0 8 0 0 m none, .v (i64 x), .own 1 i, .v (i64 m), .v (i64 i)]
abbrev hpRh (m : Nat) (f : Nat → Nat → Int) (i : Nat) (h : Nat → Nat → Int) : List AB := [.row false m 8 (row8 f) 40, .row true i 8 (row8 h) 40]
theorem rndRh (m : Nat) (f : Nat → Nat → Int) (x : Int) (h : Nat → Nat → Int) (i : Nat) : execC Try.prog g0 100 noLam (loopAt 0 fRh) (mkT 0 38 ((lvRh .normal).zip (stRh m x i))) (hpRh m f i h) (leafV 38 lvRh 1)
    = bif decide ((↑i : Int) < (↑m : Int)) then needs [!decide ((↑m : Int) = (0 : Int)), decide ((0 : Int) ≤ Int.tmod (IntKind.wrap IntKind.i64 ((↑i : Int) + x)) (↑m : Int)), decide (Int.tmod (IntKind.wrap IntKind.i64 ((↑i : Int) + x)) (↑m : Int) < (↑m : Int)), decide ((0 : Nat) + Int.toNat (Int.tmod (IntKind.wrap IntKind.i64 ((↑i : Int) + x)) (↑m : Int)) < m), Nat.ble i i, Nat.ble (i + (1 : Nat)) (549755813888 : Nat)] (Res.out Ex.normal [AV.sl (0 : Nat) (8 : Nat) (0 : Nat) (0 : Nat) m none, AV.v (Value.int IntKind.i64 x), AV.own (1 : Nat) (i + (1 : Nat)), AV.v (Value.int IntKind.i64 (↑m : Int)), AV.v (Value.int IntKind.i64 (IntKind.wrap IntKind.i64 ((↑i : Int) + (1 : Int))))] [AB.row false m (8 : Nat) (row8 f) (40 : TypeId), AB.row true (i + (1 : Nat)) (8 : Nat) (fun q ↦ [Value.int IntKind.i64 (bif Nat.blt q i then h q (0 : Nat) else f ((0 : Nat) + Int.toNat (Int.tmod (IntKind.wrap IntKind.i64 ((↑i : Int) + x)) (↑m : Int))) (0 : Nat)), Value.int IntKind.i64 (bif Nat.blt q i then h q (1 : Nat) else f ((0 : Nat) + Int.toNat (Int.tmod (IntKind.wrap IntKind.i64 ((↑i : Int) + x)) (↑m : Int))) (1 : Nat)), Value.int IntKind.i64 (bif Nat.blt q i then h q (2 : Nat) else f ((0 : Nat) + Int.toNat (Int.tmod (IntKind.wrap IntKind.i64 ((↑i : Int) + x)) (↑m : Int))) (2 : Nat)), Value.int IntKind.i64 (bif Nat.blt q i then h q (3 : Nat) else f ((0 : Nat) + Int.toNat (Int.tmod (IntKind.wrap IntKind.i64 ((↑i : Int) + x)) (↑m : Int))) (3 : Nat)), Value.int IntKind.i64 (bif Nat.blt q i then h q (4 : Nat) else f ((0 : Nat) + Int.toNat (Int.tmod (IntKind.wrap IntKind.i64 ((↑i : Int) + x)) (↑m : Int))) (4 : Nat)), Value.int IntKind.i64 (bif Nat.blt q i then h q (5 : Nat) else f ((0 : Nat) + Int.toNat (Int.tmod (IntKind.wrap IntKind.i64 ((↑i : Int) + x)) (↑m : Int))) (5 : Nat)), Value.int IntKind.i64 (bif Nat.blt q i then h q (6 : Nat) else f ((0 : Nat) + Int.toNat (Int.tmod (IntKind.wrap IntKind.i64 ((↑i : Int) + x)) (↑m : Int))) (6 : Nat)), Value.int IntKind.i64 (bif Nat.blt q i then h q (7 : Nat) else f ((0 : Nat) + Int.toNat (Int.tmod (IntKind.wrap IntKind.i64 ((↑i : Int) + x)) (↑m : Int))) (7 : Nat))]) (40 : Nat)]) else Res.out (Ex.exit (0 : Nat)) [AV.own (1 : Nat) i] [AB.row false m (8 : Nat) (row8 f) (40 : TypeId), AB.row true i (8 : Nat) (row8 h) (40 : TypeId)] := by kernel_rfl

noncomputable abbrev lamRh (m : Nat) (f : Nat → Nat → Int) (x : Int) (h : Nat → Nat → Int) : Nat → Option Sum := oneL 0 (atS 38 (lvRh .normal) 1 (stRh m x 0) (hpRh m f 0 fun _ _ => 0) (fun K => K .normal (mkT 0 38 [(6, .own 1 m)]) (hpRh m f m h)))
def gmRh (ok : (Nat → Int) → Bool) : Gam := ext gm_within 101 (specR md_ic (FidY ok))
theorem treeRh (ok : (Nat → Int) → Bool) (m : Nat) (f : Nat → Nat → Int) (x : Int) (h : Nat → Nat → Int) : execF Try.prog (gmRh ok) (lamRh m f x h) 100 fRh [.sl 0 8 0 0 m none, .v (i64 x)] (hpIy m f) (packK 1)
    = bif decide ((↑m : Int) ≥ (1 : Int)) then needs [!decide ((↑m : Int) = (0 : Int))] (bif Int.tmod (24 : Int) (↑m : Int) == (0 : Int) then needs [Nat.ble ((0 : Nat) + m) m, all8 m fun q ↦ row8 f ((0 : Nat) + q), decide (m ≤ (274877906944 : Nat)), List.all (List.range m) fun j ↦ ok (it8 (fun q ↦ row8 f ((0 : Nat) + q)) j)] (bif !inR x (0 : Int) (23 : Int) then Res.out Ex.ret [AV.tup [AV.v (Value.slice none (0 : Nat) (0 : Nat)), AV.v (Value.bool false)]] [AB.row false m (8 : Nat) (row8 f) (40 : TypeId)] else needs [decide ((↑m : Int) ≤ (1099511627776 : Int)), chk ([AV.sl (0 : Nat) (8 : Nat) (0 : Nat) (0 : Nat) m none, AV.v (Value.int IntKind.i64 x), AV.own (1 : Nat) (0 : Nat), AV.v (Value.int IntKind.i64 (↑m : Int)), AV.v (Value.int IntKind.i64 (0 : Int))] = stRh m x (0 : Nat) ∧ Hsim [AB.row false m (8 : Nat) (row8 f) (40 : TypeId), AB.row true (0 : Nat) (8 : Nat) (fun _ ↦ [Value.int IntKind.i64 (0 : Int), Value.int IntKind.i64 (0 : Int), Value.int IntKind.i64 (0 : Int), Value.int IntKind.i64 (0 : Int), Value.int IntKind.i64 (0 : Int), Value.int IntKind.i64 (0 : Int), Value.int IntKind.i64 (0 : Int), Value.int IntKind.i64 (0 : Int)]) (40 : Nat)] (hpRh m f (0 : Nat) fun x x_1 ↦ (0 : Int)))] (Res.out Ex.ret [AV.tup [AV.own (1 : Nat) m, AV.v (Value.bool true)]] [AB.row false m (8 : Nat) (row8 f) (40 : TypeId), AB.row true m (8 : Nat) (row8 h) (40 : TypeId)])) else Res.out Ex.ret [AV.tup [AV.v (Value.slice none (0 : Nat) (0 : Nat)), AV.v (Value.bool false)]] [AB.row false m (8 : Nat) (row8 f) (40 : TypeId)]) else Res.out Ex.ret [AV.tup [AV.v (Value.slice none (0 : Nat) (0 : Nat)), AV.v (Value.bool false)]] [AB.row false m (8 : Nat) (row8 f) (40 : TypeId)] := by kernel_rfl

end Go.Proofs.Ytoligfhcogligaa

/- The program's RowShift, of a valid row: its word. Conditions: a valid row, a number. -/
namespace Go.Proofs.Ytoligfhcogligaa
open Go.RowKit
set_option maxRecDepth 100000

def cvB (f : Nat → Nat → Int) (m : Nat) : Bool := (List.range m).all fun j => cyOk (cyOf (f j))
theorem cvB_at {f : Nat → Nat → Int} {m i : Nat} (h : cvB f m = true) (hi : i < m) : cyOk (cyOf (f i)) = true := List.all_eq_true.1 h i (by simpa using hi)
theorem gmIy_ok : GamOk Try.prog (gmIy (fun v => cyOk (cyOf v))) := by
  unfold gmIy
  rw [fOkc_eq]
  exact ext_ok g0_ok ok_cvI
theorem sumIy (m : Nat) (f : Nat → Nat → Int) (hm : m ≤ 2 ^ 40) (hv : cvB f m = true) :
    SumOk Try.prog 1 (.block 0 (.loop (loopAt 0 fIC))) (atS 19 (lvIy .normal) 1 [.sl 0 8 0 0 m none, fnIy, .v (i64 m), .v (i64 (0 : Nat))] (hpIy m f) (fun K => K .normal (mkT 0 19 []) (hpIy m f))) := by
  refine for_at gmIy_ok (n := 100) (m := 1) (lv := lvIy) (fun i => [.sl 0 8 0 0 m none, fnIy, .v (i64 m), .v (i64 (i : Nat))]) (fun _ => hpIy m f) (fun _ => True) m (fun _ => noLam) (lv3_ris rfl rfl rfl) (Nat.le_refl _) trivial fun K Q hk i _ hi => ⟨noLam_ok _ _ _, ?_⟩
  rw [rndIy]
  refine good_cond (fun c1 => ?_) fun c1 => ?_
  · have c1 := of_decide_eq_true c1
    have c1' : i < m := by omega
    rw [show 0 + Int.toNat (i : Int) = i by omega, wr_in (x := (i : Int) + 1) (by omega)]
    refine good_needs (by simp only [ob_cons, ob_nil, and_true, decide_eq_true_eq]; omega) (good_false ?_ (good_out ⟨i + 1, ⟨rfl, c1', trivial⟩, rfl, Hsim.refl _⟩))
    have := cvB_at hv c1'
    show (!cyOk (cyOf (f i))) = false
    rw [this]
    rfl
  · have c1 := of_decide_eq_false c1
    have : i = m := by omega
    subst this
    refine good_out ⟨_, Hsim.refl _, ?_⟩
    rw [if_pos rfl]
    exact hk
theorem ok_idY : SpecOk Try.prog 101 (specR md_ic (FidY fun v => cyOk (cyOf v))) := by
  refine specR_hr g0_ok Try.func101 rfl fun sas fr hF ho => ?_
  unfold FidY at hF
  split at hF
  · rename_i m g fi
    cases hF
    simp only [ob_cons] at ho
    obtain ⟨h0, h1, h2, h3, _⟩ := ho
    have h0 := Nat.eq_of_beq_eq_true h0
    subst h0
    have hm := of_decide_eq_true h2
    refine ⟨hpIy m (it8 g), lamIy m (it8 g), 100, .cons (ABeq.row fun j hj => all8_get h1 j hj) .nil, lam1 (by kernel_rfl) (sumIy m (it8 g) (by omega) h3), ?_⟩
    show GoodQ (execF Try.prog g0 (lamIy m (it8 g)) 100 fIC [.sl 0 8 0 0 m none, fnIy] (hpIy m (it8 g)) (packK 1)) _
    rw [treeIy]
    exact good_needs (by rw [ob_cons]; exact ⟨chk_of ⟨rfl, Hsim.refl _⟩, rfl⟩) (good_out ⟨_, rfl, rfl, .cons (ABeq.row fun j hj => (all8_get h1 j hj).symm) .nil⟩)
  · cases hF
/-- The row that begins further on. -/
def rhF (f : Nat → Nat → Int) (m : Nat) (x : Int) : Nat → Nat → Int := fun j => f (Int.tmod ((j : Int) + x) m).toNat
theorem sumRh (m : Nat) (f : Nat → Nat → Int) (x : Int) (hm : m ≤ 24) (hx : 0 ≤ x ∧ x ≤ 23) :
    SumOk Try.prog 1 (.block 0 (.loop (loopAt 0 fRh))) (atS 38 (lvRh .normal) 1 (stRh m x 0) (hpRh m f 0 fun _ _ => 0) (fun K => K .normal (mkT 0 38 [(6, .own 1 m)]) (hpRh m f m (rhF f m x)))) := by
  refine for_at g0_ok (n := 100) (m := 1) (lv := lvRh) (fun i => stRh m x i) (fun i => hpRh m f i (bif Nat.beq i 0 then (fun _ _ => 0) else rhF f m x)) (fun _ => True) m (fun _ => noLam) (lv3_ris rfl rfl rfl) (Nat.le_refl _) trivial fun K Q hk i _ hi => ⟨noLam_ok _ _ _, ?_⟩
  have ho : ∀ j, j < i → (bif Nat.beq i 0 then (fun _ _ => (0 : Int)) else rhF f m x) j = rhF f m x j := by
    intro j hj
    cases i with
    | zero => exact absurd hj (Nat.not_lt_zero _)
    | succ i => rfl
  rw [rndRh]
  refine good_cond (fun c1 => ?_) fun c1 => ?_
  · have c1 := of_decide_eq_true c1
    have c1' : i < m := by omega
    have b1 := tmod_in (x := (i : Int) + x) (l := m) (by omega) (by omega)
    rw [wr_in (x := (i : Int) + x) (by omega), wr_in (x := (i : Int) + 1) (by omega), Nat.zero_add]
    refine good_needs (by simp only [ob_cons, ob_nil, and_true, Bool.not_eq_true', decide_eq_false_iff_not, decide_eq_true_eq, Nat.ble_eq]; omega) (good_out ⟨i + 1, ⟨rfl, c1', trivial⟩, rfl, .cons (ABeq.refl _) (.cons (ABeq.row fun j hj => ?_) .nil)⟩)
    by_cases h : j < i
    · rw [blt_yes h]
      simp only [cond_true, ho j h]
      rfl
    · have : j = i := by omega
      subst this
      rw [blt_no]
      rfl
  · have c1 := of_decide_eq_false c1
    have : i = m := by omega
    subst this
    refine good_out ⟨hpRh i f i (rhF f i x), .cons (ABeq.refl _) (.cons (ABeq.row fun j hj => row8_congr fun k _ => by rw [ho j hj]) .nil), ?_⟩
    rw [if_pos rfl]
    exact hk
/-- A valid row, shifted. -/
def FrhY (rv : (Nat → Nat → Int) → Nat → Bool) (rh : (Nat → Nat → Int) → Nat → Int → Nat → Nat → Int) : List SA → Option FR
  | [.row m g, .v (.int .i64 x)] => some { val := .tup [.own 0 m, .v (.bool true)], new := [.row true m 8 (row8 (rh (it8 g) m x)) 40], obl := [all8 m g, rv (it8 g) m, inR x 0 23] }
  | _ => none
def rvB (f : Nat → Nat → Int) (m : Nat) : Bool := roV m && cvB f m
def md_cv : List Md := [.rd 8 40, .val]
theorem gmRh_ok : GamOk Try.prog (gmRh (fun v => cyOk (cyOf v))) := ext_ok gm_within_ok ok_idY
theorem ok_rhY : SpecOk Try.prog 37 (specR md_cv (FrhY rvB rhF)) := by
  refine specR_hr gmRh_ok Try.func37 rfl fun sas fr hF ho => ?_
  unfold FrhY at hF
  split at hF
  · rename_i m g x
    cases hF
    simp only [ob_cons] at ho
    obtain ⟨h1, h2, h3, _⟩ := ho
    rw [rvB, Bool.and_eq_true] at h2
    have hv := roV_in h2.1
    have hx := inR_iff.1 h3
    refine ⟨hpIy m (it8 g), lamRh m (it8 g) x (rhF (it8 g) m x), 100, .cons (ABeq.row fun j hj => all8_get h1 j hj) .nil, lam1 (by kernel_rfl) (sumRh m (it8 g) x (by omega) hx), ?_⟩
    show GoodQ (execF Try.prog (gmRh fun v => cyOk (cyOf v)) (lamRh m (it8 g) x (rhF (it8 g) m x)) 100 fRh [.sl 0 8 0 0 m none, .v (i64 x)] (hpIy m (it8 g)) (packK 1)) _
    rw [treeRh]
    simp only [row80]
    have p := roV_parts h2.1
    refine good_true p.1 (good_needs (by simp only [ob_cons, ob_nil, and_true, Bool.not_eq_true', decide_eq_false_iff_not]; omega) (good_true p.2.2 (good_needs ?_ (good_false (by rw [h3]; rfl) (good_needs ?_ (good_out ⟨_, rfl, rfl, .cons (ABeq.row fun j hj => (all8_get h1 j hj).symm) (Hsim.refl _)⟩))))))
    · simp only [ob_cons, ob_nil, and_true, decide_eq_true_eq, Nat.ble_eq, all8_row, true_and]
      exact ⟨by omega, by omega, h2.2⟩
    · simp only [ob_cons, ob_nil, and_true, decide_eq_true_eq]
      exact ⟨by omega, chk_of ⟨rfl, .cons (ABeq.refl _) (.cons (ABeq.row fun j hj => absurd hj (Nat.not_lt_zero _)) .nil)⟩⟩
  · cases hF

end Go.Proofs.Ytoligfhcogligaa

/- The program's transform: what is turned, what is added. Conditions: a row of points, numbers. -/
namespace Go.Proofs.Ytoligfhcogligaa
open Go.RowKit
set_option maxRecDepth 100000

abbrev hpT (m : Nat) (f : Nat → Nat → Int) (d j n : Int) : List AB := [.cells [.sl 4 8 0 0 m none] 23, .cells [.v (i64 d)] 3, .cells [.v (i64 j)] 3, .cells [.v (i64 n)] 3, .row false m 8 (row8 f) 40]
end Go.Proofs.Ytoligfhcogligaa

/- A callee that leaves what it reads as it was: its word, by its view, without a way back for its memory. No conditions. -/
namespace Go.Proofs.Ytoligfhcogligaa
open Go.RowKit

mutual
/-- Its slices are not empty. -/
def posA : AV → Bool
  | .sl _ _ _ _ len _ => Nat.blt 0 len
  | .agg cs => posAs cs
  | .tup cs => posAs cs
  | .fn _ cs => posAs cs
  | _ => true
def posAs : List AV → Bool
  | [] => true
  | a :: al => posA a && posAs al
end
def posB : AB → Bool
  | .cells cs _ => posAs cs
  | _ => true
mutual
theorem VR.unren {keep : List Nat} {ν ν' : Nu} (h : ∀ j b, keepNu keep ν j = some b → ν' j = some b) : ∀ {a a' : AV} {x y : Value}, renA keep a = some a' → posA a = true → VR ν a x → VR ν' a' y → VR ν a y
  | .v _, a', _, _, hs, _, _, hv => by
    simp only [renA, Option.some.injEq] at hs
    subst hs
    simpa only [VR] using hv
  | .ptr .., a', _, _, hs, _, hx, hv => by
    simp only [renA, Option.map_eq_some_iff] at hs
    obtain ⟨q, hq, rfl⟩ := hs
    simp only [VR] at hx hv ⊢
    obtain ⟨b, h1, h2⟩ := hv
    obtain ⟨c, h3, _⟩ := hx
    have := h q c (by simp [keepNu, idxOf_get hq, h3])
    rw [h1, Option.some.injEq] at this
    subst this
    exact ⟨b, h3, h2⟩
  | .sl .., a', _, _, hs, hp, hx, hv => by
    simp only [renA, Option.map_eq_some_iff] at hs
    obtain ⟨q, hq, rfl⟩ := hs
    simp only [posA, Nat.blt_eq] at hp
    simp only [VR] at hx hv ⊢
    obtain ⟨p, c, h1, h2, h3, h4⟩ := hv
    obtain ⟨_, c0, _, _, g3, g4⟩ := hx
    refine ⟨p, c, h1, h2, h3, fun hc => ?_⟩
    obtain ⟨b, h5, h6⟩ := h4 hc
    obtain ⟨b0, g5, _⟩ := g4 (by omega)
    have := h q b0 (by simp [keepNu, idxOf_get hq, g5])
    rw [h5, Option.some.injEq] at this
    subst this
    exact ⟨b, g5, h6⟩
  | .own .., a', _, _, hs, _, hx, hv => by
    simp only [renA, Option.map_eq_some_iff] at hs
    obtain ⟨q, hq, rfl⟩ := hs
    simp only [VR] at hx hv ⊢
    obtain ⟨b, h1, h2⟩ := hv
    obtain ⟨c, h3, _⟩ := hx
    have := h q c (by simp [keepNu, idxOf_get hq, h3])
    rw [h1, Option.some.injEq] at this
    subst this
    exact ⟨b, h3, h2⟩
  | .agg _, a', _, _, hs, hp, hx, hv => by
    simp only [renA, Option.map_eq_some_iff] at hs
    obtain ⟨q, hq, rfl⟩ := hs
    simp only [posA] at hp
    simp only [VR] at hx hv ⊢
    obtain ⟨l, h1, h2⟩ := hv
    obtain ⟨l0, _, h3⟩ := hx
    exact ⟨l, h1, VRs.unren h hq hp h3 h2⟩
  | .tup _, a', _, _, hs, hp, hx, hv => by
    simp only [renA, Option.map_eq_some_iff] at hs
    obtain ⟨q, hq, rfl⟩ := hs
    simp only [posA] at hp
    simp only [VR] at hx hv ⊢
    obtain ⟨l, h1, h2⟩ := hv
    obtain ⟨l0, _, h3⟩ := hx
    exact ⟨l, h1, VRs.unren h hq hp h3 h2⟩
  | .fn _ _, a', _, _, hs, hp, hx, hv => by
    simp only [renA, Option.map_eq_some_iff] at hs
    obtain ⟨q, hq, rfl⟩ := hs
    simp only [posA] at hp
    simp only [VR] at hx hv ⊢
    obtain ⟨l, h1, h2⟩ := hv
    obtain ⟨l0, _, h3⟩ := hx
    exact ⟨l, h1, VRs.unren h hq hp h3 h2⟩
  | .dead, _, _, _, _, _, _, _ => by simp only [VR]
theorem VRs.unren {keep : List Nat} {ν ν' : Nu} (h : ∀ j b, keepNu keep ν j = some b → ν' j = some b) : ∀ {al al' : List AV} {xs ys : List Value}, renAs keep al = some al' → posAs al = true → VRs ν al xs → VRs ν' al' ys → VRs ν al ys
  | [], al', _, ys, hs, _, _, hv => by
    simp only [renAs, Option.some.injEq] at hs
    subst hs
    cases ys with
    | nil => simp only [VRs]
    | cons => simp only [VRs] at hv
  | a :: al, al', xs, ys, hs, hp, hx, hv => by
    simp only [renAs] at hs
    split at hs
    case h_2 => cases hs
    rename_i x xs' h1 h2
    cases hs
    cases ys with
    | nil => simp only [VRs] at hv
    | cons y ys =>
      cases xs with
      | nil => simp only [VRs] at hx
      | cons x0 xs =>
        simp only [VRs] at hx hv ⊢
        simp only [posAs, Bool.and_eq_true] at hp
        exact ⟨VR.unren h h1 hp.1 hx.1 hv.1, VRs.unren h h2 hp.2 hx.2 hv.2⟩
end

structure QRd where
  val : AV
  obl : List Bool := []
/-- A callee's word, by its view: its memory is as it was. -/
def specQ (ros : List Bool) (F : List AV → List AB → Option QRd) : Spec := fun avs H _ =>
  match viewH ros avs H with
  | some q => match F q.2.1 q.2.2 with
    | some kr => match mapA (fun _ => none) kr.val with
      | some v => some { val := v, rd := q.1, put := putH q.1 q.2.2 (q.1.map fun i => H.getD i .gone), new := [], obl := kr.obl ++ q.1.map fun i => posB (H.getD i .gone) }
      | none => none
    | none => none
  | none => none
def GivQ (kr : QRd) (H : List AB) : Ex → List AV → List AB → Prop := fun _ l He => l = [kr.val] ∧ Hsim He H
theorem specQ_ok {Γ : Gam} (hΓ : GamOk Try.prog Γ) {f : FuncId} {fn : Func} {ros : List Bool} {F : List AV → List AB → Option QRd} (hf : Try.prog.funcs[f]? = some fn) (hb : fn.body.isSome = true)
    (h : ∀ avs H kr, F avs H = some kr → obls kr.obl = true → ∃ (H0 : List AB) (Λ : Nat → Option Sum) (n : Nat), Hsim H H0 ∧ (∀ c, fn.body = some c → LamOk Try.prog H0.length Λ c) ∧ GoodQ (execF Try.prog Γ Λ n fn avs H0 (packK H0.length)) (GivQ kr H)) : SpecOk Try.prog f (specQ ros F) := by
  refine ⟨fun args w => enters f fn hf hb args w, fun avs H base δ ν vals w hS ho hv hbr hlt hfree hsep => ?_⟩
  unfold specQ at hS
  split at hS
  case h_2 => cases hS
  rename_i q hq
  split at hS
  case h_2 => cases hS
  rename_i hr hF
  split at hS
  case h_2 => cases hS
  rename_i v hval
  simp only [Option.some.injEq] at hS
  subst hS
  unfold viewH at hq
  generalize reach H 400 [] (idxAs avs) = keep at *
  split at hq
  case h_2 => cases hq
  rename_i avs' H1 hra hrb
  cases hnd : nodupB keep with
  | false => rw [hnd] at hq; cases hq
  | true =>
  rw [hnd] at hq
  simp only [cond_true, Option.some.injEq] at hq
  subst hq
  simp only at hval hF hbr hsep ho hfree ⊢
  have ho2 : obls hr.obl = true ∧ obls (keep.map fun i => posB (H.getD i .gone)) = true := by
    unfold obls at ho ⊢
    rw [List.all_append, Bool.and_eq_true] at ho
    exact ho
  obtain ⟨ho, hpos⟩ := ho2
  obtain ⟨hl1, hg1⟩ := renBs_get hrb
  have hlHc : (roL ros H1).length = keep.length := by rw [roL_length, hl1]
  have nuAt : ∀ {j i}, keep[j]? = some i → keepNu keep ν j = ν i := fun hj => by simp [keepNu, hj]
  have ofNu : ∀ {j b}, keepNu keep ν j = some b → ∃ i, keep[j]? = some i ∧ ν i = some b := by
    intro j b hb
    unfold keepNu at hb
    split at hb
    · rename_i i hi; exact ⟨i, hi, hb⟩
    · cases hb
  have ren_marks : ∀ {b b' : AB}, renB keep b = some b' → b'.wr = b.wr ∧ b'.live = b.live := by
    intro b b' hb
    cases b with
    | cells cs t => simp only [renB, Option.map_eq_some_iff] at hb; obtain ⟨q, _, rfl⟩ := hb; exact ⟨rfl, rfl⟩
    | row => simp only [renB, Option.some.injEq] at hb; subst hb; exact ⟨rfl, rfl⟩
    | gone => simp only [renB, Option.some.injEq] at hb; subst hb; exact ⟨rfl, rfl⟩
  -- the callee's block j is the caller's block keep j
  have view : ∀ {j i}, keep[j]? = some i → ∃ b1, H1[j]? = some b1 ∧ renB keep (H.getD i .gone) = some b1 ∧ (roL ros H1)[j]? = some (roB (ros.getD j false) b1) := by
    intro j i hj
    obtain ⟨b1, e1, e2⟩ := hg1 j i hj
    exact ⟨b1, e1, e2, by rw [roL_get, e1]; rfl⟩
  have wrOf : ∀ {j i}, keep[j]? = some i → ((roL ros H1).getD j .gone).wr = true → (H.getD i .gone).wr = true := by
    intro j i hj hw
    obtain ⟨b1, _, e2, e3⟩ := view hj
    have : (roL ros H1).getD j .gone = roB (ros.getD j false) b1 := by simp [List.getD_eq_getElem?_getD, e3]
    rw [this] at hw
    rw [← (ren_marks e2).1]
    exact roB_wr hw
  have liveOf : ∀ {j i}, keep[j]? = some i → ((roL ros H1).getD j .gone).live = true → (H.getD i .gone).live = true := by
    intro j i hj hw
    obtain ⟨b1, _, e2, e3⟩ := view hj
    have : (roL ros H1).getD j .gone = roB (ros.getD j false) b1 := by simp [List.getD_eq_getElem?_getD, e3]
    rw [this, roB_live] at hw
    rw [← (ren_marks e2).2]
    exact hw
  have roSame : ∀ {r : Bool} {b : AB}, (roB r b).wr = true → roB r b = b := by
    intro r b hw
    cases b with
    | cells => cases r <;> rfl
    | gone => cases r <;> rfl
    | row rw n wd g t => cases r <;> cases rw <;> first | rfl | cases hw
  have inPut : ∀ {j i}, keep[j]? = some i → ((roL ros H1).getD j .gone).wr = true → (i, H.getD i .gone) ∈ putH keep (roL ros H1) (keep.map fun i => H.getD i .gone) := by
    intro j i hj hw
    have hjl : j < keep.length := (List.getElem?_eq_some_iff.1 hj).1
    have hh : (roL ros H1)[j]? = some ((roL ros H1)[j]'(by omega)) := List.getElem?_eq_getElem _
    refine putH_of hj hh (by rw [List.getElem?_map, hj]; rfl) ?_
    have : (roL ros H1).getD j .gone = (roL ros H1)[j]'(by omega) := by simp [List.getD_eq_getElem?_getD, hh]
    rw [← this]; exact hw
  let M : Nat → Prop := fun k => w.heap.size ≤ k ∨ ∃ j b, ((roL ros H1).getD j .gone).wr = true ∧ keepNu keep ν j = some b ∧ b.n = k
  have hRH : RH M (keepNu keep ν) (fun b => (roL ros H1).getD b .gone) w := by
    refine ⟨fun j => ?_, fun i j b b' hne hw hlv hb hb' => ?_, fun i b hw hb => .inr ⟨i, b, hw, hb, rfl⟩, fun i b hb => ?_⟩
    · cases hj : keep[j]? with
      | none =>
        have : (roL ros H1).getD j .gone = .gone := by
          rw [List.getD_eq_getElem?_getD, List.getElem?_eq_none]
          · rfl
          · rw [hlHc]
            exact List.getElem?_eq_none_iff.1 hj
        simp only [this]
        trivial
      | some i =>
        obtain ⟨b1, e1, e2, e3⟩ := view hj
        have : (roL ros H1).getD j .gone = roB (ros.getD j false) b1 := by simp [List.getD_eq_getElem?_getD, e3]
        simp only [this]
        refine roB_br ?_
        have hbi := hbr i (List.mem_of_getElem? hj)
        have hν := nuAt hj
        cases hi : H.getD i .gone with
        | cells cs t =>
          rw [hi] at e2 hbi
          simp only [renB, Option.map_eq_some_iff] at e2
          obtain ⟨cs', h1, h2⟩ := e2
          rw [← h2]
          obtain ⟨b, l, g1, g2, g3, g4⟩ := hbi
          exact ⟨b, l, by rw [hν]; exact g1, g2, g3, g4.ren h1⟩
        | row rw' n wd g t =>
          rw [hi] at e2 hbi
          simp only [renB, Option.some.injEq] at e2
          rw [← e2]
          rcases hbi with ⟨g1, g2, g3⟩ | ⟨b, l, t', fz, g1, g2⟩
          · exact .inl ⟨g1, g2, by rw [hν]; exact g3⟩
          · exact .inr ⟨b, l, t', fz, by rw [hν]; exact g1, g2⟩
        | gone =>
          rw [hi] at e2
          simp only [renB, Option.some.injEq] at e2
          rw [← e2]
          trivial
    · obtain ⟨i', hi, e1⟩ := ofNu hb
      obtain ⟨j', hj, e2⟩ := ofNu hb'
      have hp := inPut hi hw
      refine hsep i' _ j' b b' hp (List.mem_of_getElem? hj) (fun e => ?_) (liveOf hj hlv) e1 e2
      subst e
      exact hne (nodupB_ne hnd i j i' hi hj)
    · obtain ⟨i', _, e1⟩ := ofNu hb
      exact hlt i' b e1
  obtain ⟨H0, Λ, n, hsim, hL, hG⟩ := h avs' (roL ros H1) hr hF ho
  have hl0 : H0.length = keep.length := by rw [← hsim.length, hlHc]
  have hdom0 : ∀ i b, keepNu keep ν i = some b → i < H0.length := by
    intro i b hb
    obtain ⟨i', hi, _⟩ := ofNu hb
    rw [hl0]
    exact (List.getElem?_eq_some_iff.1 hi).1
  refine (calls_pack hΓ mixed enters hf hL (fun k hk => Or.inl hk) hG.out (hv.ren hra) (hRH.sim hsim) hdom0).mono ?_
  rintro e w' ⟨vv, av, He, ν', rfl, ⟨hav, hHe⟩, hvr, hRH', hfr, hle, hdom'⟩
  simp only [List.cons.injEq, and_true] at hav
  subst hav
  have hRH2 := hRH'.sim hHe
  -- a block that may be written has a place
  have wrNu : ∀ {j : Nat}, ((roL ros H1).getD j .gone).wr = true → ∃ b, keepNu keep ν j = some b := by
    intro j hw
    have : BR (keepNu keep ν) j ((roL ros H1).getD j .gone) w := hRH.br j
    cases hb : (roL ros H1).getD j .gone with
    | cells cs t => rw [hb] at this; obtain ⟨b, l, e1, _⟩ := this; exact ⟨b, e1⟩
    | row rw' n wd g t =>
      rw [hb] at this hw
      rcases this with ⟨e1, _⟩ | ⟨b, l, t', fz, e1, _⟩
      · simp only [AB.wr] at hw
        rw [e1] at hw
        cases hw
      · exact ⟨b, e1⟩
    | gone => rw [hb] at hw; cases hw
  have mp : ∀ i i' b, (fun _ : Nat => (none : Option Nat)) i = some i' → ν' i = some b → ν i' = some b := fun i i' b h1 _ => by cases h1
  refine ⟨vv, ν, rfl, ⟨fun i b hb => hb, fun i h1 h2 => (h2 h1).elim, hvr.map mp hval, fun i b hl => ?_, fun j b hj => by simp at hj, hfr.os, hfr.tape, hfr.output, hfr.size, fun k hk hne => ?_, fun j b hj _ => absurd hj (Nat.not_lt_zero _), fun j j' b b' hne hj => absurd hj (Nat.not_lt_zero _)⟩⟩
  · obtain ⟨j, hh, e1, e2, e3, e4⟩ := putH_mem (lookB_mem hl)
    rw [List.getElem?_map, e1] at e3
    simp only [Option.map_some, Option.some.injEq] at e3
    subst e3
    obtain ⟨b1, _, v2, v3⟩ := view e1
    rw [e2, Option.some.injEq] at v3
    subst v3
    have hb1 := roSame e4
    rw [hb1] at e2
    have hout : BR ν' j b1 w' := by
      have := hRH2.br j
      simp only [List.getD_eq_getElem?_getD, e2, Option.getD_some] at this
      exact this
    have hin := hbr i (List.mem_of_getElem? e1)
    have hp : posB (H.getD i .gone) = true := by
      unfold obls at hpos
      rw [List.all_eq_true] at hpos
      exact hpos _ (List.mem_map.2 ⟨i, List.mem_of_getElem? e1, rfl⟩)
    rw [hb1] at e4
    have back : ∀ {b}, ν i = some b → ν' j = some b := fun hb => hle _ _ (by rw [nuAt e1]; exact hb)
    cases hi : H.getD i .gone with
    | cells cs t =>
      rw [hi] at v2 hin hp
      simp only [renB, Option.map_eq_some_iff] at v2
      obtain ⟨cs', h1, h2⟩ := v2
      rw [← h2] at hout
      obtain ⟨b, l, g1, g2, g3, g4⟩ := hin
      obtain ⟨b', l', f1, f2, f3, f4⟩ := hout
      have := back g1
      rw [f1, Option.some.injEq] at this
      subst this
      exact ⟨b', l', g1, f2, f3, VRs.unren hle h1 hp g4 f4⟩
    | row rw' n wd g t =>
      rw [hi] at v2 hin
      simp only [renB, Option.some.injEq] at v2
      rw [← v2] at hout e4
      simp only [AB.wr] at e4
      rcases hin with ⟨g1, _⟩ | ⟨b, l, t', fz, g1, _⟩
      · rw [g1] at e4; cases e4
      · rcases hout with ⟨f1, _⟩ | ⟨b', l', t2, fz2, f1, f2⟩
        · rw [f1] at e4; cases e4
        · have := back g1
          rw [f1, Option.some.injEq] at this
          subst this
          exact .inr ⟨b', l', t2, fz2, g1, f2⟩
    | gone =>
      rw [hi] at v2
      simp only [renB, Option.some.injEq] at v2
      rw [← v2] at e4
      cases e4
  · refine hfr.block k hk fun hM => ?_
    rcases hM with hM | ⟨j, b, hw, hb, e⟩
    · omega
    · obtain ⟨i, hi, e1⟩ := ofNu hb
      exact hne _ b (inPut hi hw) e1 e

end Go.Proofs.Ytoligfhcogligaa

/- The program's transform: trees. Conditions: a row of points, numbers. -/
namespace Go.Proofs.Ytoligfhcogligaa
open Go.RowKit
set_option maxRecDepth 100000

/-- What the closure turns: the word's angle is a whole number. -/
def agC (n j k : Int) : Int := -(j * k) * Int.tdiv 24 n
def Ft1O (tu : (Nat → Int) → Int → Nat → Int) : List AV → List AB → Option QRd
  | [.v (.int .i64 k), .ptr 0 0 0 0, .ptr 1 0 0 0, .ptr 2 0 0 0, .ptr 3 0 0 0], [.cells [.sl 4 8 0 0 m none] ta, .cells [.v (.int .i64 d)] tb, .cells [.v (.int .i64 j)] tc, .cells [.v (.int .i64 n)] td, .row false m2 8 g te] =>
    some { val := .agg (cyC (tu (w8 (it8 g k.toNat)) (agC n j k))), obl := [decide (0 ≤ k), decide (k < m), decide (k ≤ 23), Nat.beq m m2, all8 m g, (List.range m).all fun i => inB (w8 (it8 g i)), decide (d = -1), inR j 0 23, roV n, Nat.beq ta 23, Nat.beq tb 3, Nat.beq tc 3, Nat.beq td 3, Nat.beq te 40] }
  | _, _ => none
abbrev lvSO : Ex → List Nat := lv3 [1, 4, 6, 9, 10] [4, 6] [4, 5]
abbrev hpSOt (m : Nat) (f : Nat → Nat → Int) (d j n : Int) (z s : Nat → Int) : List AB := [.cells [.sl 4 8 0 0 m none] 23, .cells [.v (i64 d)] 3, .cells [.v (i64 j)] 3, .cells [.v (i64 n)] 3, .row false m 8 (row8 f) 40, .cells (cyC z) 40, .cells (cyC s) 40]
abbrev lvTr : Ex → List Nat := lv3 [2, 3, 6, 7, 15, 16] [7] [4, 5]
abbrev stTr (n : Int) (i : Nat) : List AV := [.ptr 1 0 0 0, .ptr 2 0 0 0, .ptr 3 0 0 0, .own 4 i, .v (i64 n), .v (i64 i)]
abbrev hpTr8 (m : Nat) (f : Nat → Nat → Int) (d n : Int) (i : Nat) (h : Nat → Nat → Int) : List AB := [.row false m 8 (row8 f) 40, .cells [.sl 0 8 0 0 m none] 23, .cells [.v (i64 d)] 3, .cells [.v (i64 n)] 3, .row true i 8 (row8 h) 40]
noncomputable abbrev lamTr (m : Nat) (f : Nat → Nat → Int) (d n : Int) (q : Nat) (h : Nat → Nat → Int) (c : Bool) : Nat → Option Sum := oneL 0 (atS 33 (lvTr .normal) 1 (stTr n 0) (hpTr8 m f d n 0 fun _ _ => 0) (fun K => cond c (K .normal (mkT 0 33 [(7, .own 1 q)]) [.row false m 8 (row8 f) 40, .row true q 8 (row8 h) 40]) (K .ret (mkT 0 33 [(4, .v (.slice none 0 0)), (5, .v (.bool false))]) [.row false m 8 (row8 f) 40])))
end Go.Proofs.Ytoligfhcogligaa

/- The program's transform: the closure, and sums of turned points. Conditions: a row of points, numbers. -/
namespace Go.Proofs.Ytoligfhcogligaa
open Go.RowKit
set_option maxRecDepth 100000

/-- Two ways to the angle. -/
theorem ag_eq {n j k : Int} (hn : roV n = true) (hj : 0 ≤ j ∧ j ≤ 23) (hk : 0 ≤ k ∧ k ≤ 23) :
    IntKind.wrap IntKind.i64 (Int.tmod (IntKind.wrap IntKind.i64 (IntKind.wrap IntKind.i64 (-1 * j) * k)) n * IntKind.wrap IntKind.i64 (Int.tdiv 24 n)) % 24 = agC n j k % 24
    ∧ inR (IntKind.wrap IntKind.i64 (Int.tmod (IntKind.wrap IntKind.i64 (IntKind.wrap IntKind.i64 (-1 * j) * k)) n * IntKind.wrap IntKind.i64 (Int.tdiv 24 n))) (-9223372036854775808) 9223372036854775807 = true := by
  have hv := roV_in hn
  have hz := (roV_parts hn).2.2
  have hz : Int.tmod 24 n = 0 := by simpa using hz
  obtain ⟨n', rfl⟩ := Int.eq_ofNat_of_zero_le (show 0 ≤ n by omega)
  have hq := tdiv24 (n := n') (by omega) (by omega)
  have h24 : (n' : Int) * Int.tdiv 24 n' = 24 := by
    have := Int.tmod_add_mul_tdiv 24 (n' : Int)
    omega
  have hjk := mul_bd (x := j) (y := k) (A := 23) (B := 23) (by omega) hj.2 (by omega) hk.2
  have hjk0 := Int.mul_nonneg hj.1 hk.1
  rw [wr_in (x := -1 * j) (by omega), show -1 * j * k = -(j * k) by rw [Int.neg_mul, Int.one_mul, Int.neg_mul], wr_in (x := -(j * k)) (by omega), wr_in (x := Int.tdiv 24 (n' : Int)) (by omega)]
  have e1 := Int.tmod_add_mul_tdiv (-(j * k)) (n' : Int)
  have e2 : Int.tmod (-(j * k)) n' = -(Int.tmod (j * k) n') := Int.neg_tmod ..
  have b1 : 0 ≤ Int.tmod (j * k) n' ∧ Int.tmod (j * k) n' < n' := by
    rw [Int.tmod_eq_emod_of_nonneg hjk0]
    exact ⟨Int.emod_nonneg _ (by omega), Int.emod_lt_of_pos _ (by omega)⟩
  have b2 := mul_bd (x := Int.tmod (j * k) n') (y := Int.tdiv 24 (n' : Int)) (A := 24) (B := 24) (by omega) (by omega) (by omega) hq.2
  have e3 : Int.tmod (-(j * k)) n' * Int.tdiv 24 n' = -(Int.tmod (j * k) n' * Int.tdiv 24 n') := by rw [e2, Int.neg_mul]
  rw [wr_in (by omega)]
  refine ⟨?_, inR_iff.2 (by omega)⟩
  unfold agC
  rw [show -(j * k) * Int.tdiv 24 n' = Int.tmod (-(j * k)) n' * Int.tdiv 24 n' + 24 * Int.tdiv (-(j * k)) n' by
    conv => lhs; rw [← e1]
    rw [Int.add_mul, Int.mul_assoc, Int.mul_comm (Int.tdiv (-(j * k)) n') (Int.tdiv 24 n'), ← Int.mul_assoc, h24]]
  rw [Int.add_mul_emod_self_left]
/-- Sums of turned points, so far. -/
def trS (f : Nat → Nat → Int) (n j : Int) : Nat → Nat → Int
  | 0 => fun _ => 0
  | k + 1 => plusF (w8 (trS f n j k)) (w8 (tuF (w8 (f k)) (agC n j k)))
def trB (f : Nat → Nat → Int) (n j : Int) (k : Nat) : Bool := !cyOk (cyOf (trS f n j (k + 1)))
def trK (f : Nat → Nat → Int) (n j : Int) : Bool := noneTo (trB f n j) n.toNat
def trV (f : Nat → Nat → Int) (n j : Int) : Nat → Int := bif trK f n j then trS f n j n.toNat else fun _ => 0
theorem trS_row (f : Nat → Nat → Int) (n j : Int) : ∀ k, trS (it8 (row8 f)) n j k = trS f n j k
  | 0 => rfl
  | k + 1 => by rw [trS, trS, trS_row f n j k]; rfl
theorem trK_row (f : Nat → Nat → Int) (n j : Int) : trK (it8 (row8 f)) n j = trK f n j := by
  unfold trK trB
  simp only [trS_row]
theorem trV_row (f : Nat → Nat → Int) (n j : Int) : trV (it8 (row8 f)) n j = trV f n j := by
  unfold trV
  rw [trK_row, trS_row]
end Go.Proofs.Ytoligfhcogligaa

/- Single points of both. Conditions: a point. -/
namespace Go.Proofs.Ytoligfhcogligaa
open Go.RowKit
set_option maxRecDepth 100000

/-- The roots, as single numbers. -/
def rtR : Nat → Nat
  | 0 => 1065353216
  | 1 => 1064781546
  | 2 => 1063105495
  | 3 => 1060439283
  | 4 => 1056964608
  | 5 => 1048871918
  | 6 => 0
  | _ => 3196355566
def rtM : Nat → Nat
  | 0 => 0
  | 1 => 1048871918
  | 2 => 1056964608
  | 3 => 1060439283
  | 4 => 1063105495
  | 5 => 1064781546
  | 6 => 1065353216
  | _ => 1064781546
def pdR (a : Nat → Int) (k : Nat) : Option Nat := FloatKind.f32.format.mul (FloatKind.f32.nearest (a k)) (rtR k)
def pdM (a : Nat → Int) (k : Nat) : Option Nat := FloatKind.f32.format.mul (FloatKind.f32.nearest (a k)) (rtM k)
def smR (a : Nat → Int) : Nat → Nat
  | 0 => 0
  | k + 1 => (FloatKind.f32.format.add (smR a k) ((pdR a k).getD 0)).getD 0
def smM (a : Nat → Int) : Nat → Nat
  | 0 => 0
  | k + 1 => (FloatKind.f32.format.add (smM a k) ((pdM a k).getD 0)).getD 0
def obS (a : Nat → Int) : List Bool := (List.range 8).flatMap fun k => [(pdR a k).isSome, (pdM a k).isSome, (FloatKind.f32.format.add (smR a k) ((pdR a k).getD 0)).isSome, (FloatKind.f32.format.add (smM a k) ((pdM a k).getD 0)).isSome]
def gmCv (ok : (Nat → Int) → Bool) : Gam := ext g0 115 (specV (fOkc ok))
end Go.Proofs.Ytoligfhcogligaa

/- RowValid, TransformOf of both: trees. Conditions: a row of points. -/
namespace Go.Proofs.Ytoligfhcogligaa
open Go.RowKit
set_option maxRecDepth 100000

noncomputable abbrev lamIg (m : Nat) (f : Nat → Nat → Int) (c : Bool) (x : Int) : Nat → Option Sum := oneL 0 (atS 19 (lvIy .normal) 1 [.sl 0 8 0 0 m none, fnIy, .v (i64 m), .v (i64 (0 : Nat))] (hpIy m f) (fun K => cond c (K .normal (mkT 0 19 []) (hpIy m f)) (K .ret (mkT 0 19 [(4, .v (i64 x))]) (hpIy m f))))
theorem treeIg (m : Nat) (f : Nat → Nat → Int) (c : Bool) (x : Int) : execF Try.prog g0 (lamIg m f c x) 100 fIC [.sl 0 8 0 0 m none, fnIy] (hpIy m f) (packK 1)
    = needs [chk ([AV.sl (0 : Nat) (8 : Nat) (0 : Nat) (0 : Nat) m none, AV.v (Value.func (Fn.func (111 : FuncId)) (Array.mk []) (Array.mk [])), AV.v (Value.int IntKind.i64 (↑m : Int)), AV.v (Value.int IntKind.i64 (0 : Int))] = [AV.sl (0 : Nat) (8 : Nat) (0 : Nat) (0 : Nat) m none, fnIy, AV.v (Value.int IntKind.i64 (↑m : Int)), AV.v (Value.int IntKind.i64 (0 : Int))] ∧ Hsim [AB.row false m (8 : Nat) (row8 f) (40 : TypeId)] (hpIy m f))] (bif c then Res.out Ex.ret [AV.v (Value.int IntKind.i64 (-1 : Int))] [AB.row false m (8 : Nat) (row8 f) (40 : TypeId)] else Res.out Ex.ret [AV.v (Value.int IntKind.i64 x)] [AB.row false m (8 : Nat) (row8 f) (40 : TypeId)]) := by kernel_rfl

def FicO (o : (Nat → Nat → Int) → Nat → Int) : List SA → Option FR
  | [.row m g, .v (.func (.func f) ⟨[]⟩ ⟨[]⟩)] => some { val := .v (i64 (o (it8 g) m)), obl := [Nat.beq f 111, all8 m g, decide (m ≤ 2 ^ 38)] }
  | _ => none
def gmRvI (o : (Nat → Nat → Int) → Nat → Int) : Gam := ext gm_within 101 (specR md_ic (FicO o))
theorem treeRvI (o : (Nat → Nat → Int) → Nat → Int) (m : Nat) (f : Nat → Nat → Int) : execF Try.prog (gmRvI o) noLam 100 Try.f79 [.sl 0 8 0 0 m none] (hpIy m f) (packK 1)
    = bif decide ((↑m : Int) ≥ (1 : Int)) then needs [!decide ((↑m : Int) = (0 : Int))] (bif Int.tmod (24 : Int) (↑m : Int) == (0 : Int) then needs [Nat.ble ((0 : Nat) + m) m, all8 m fun q ↦ row8 f ((0 : Nat) + q), decide (m ≤ (274877906944 : Nat))] (Res.out Ex.ret [AV.v (Value.bool !decide (o (it8 fun q ↦ row8 f ((0 : Nat) + q)) m ≥ (0 : Int)))] [AB.row false m (8 : Nat) (row8 f) (40 : TypeId)]) else Res.out Ex.ret [AV.v (Value.bool false)] [AB.row false m (8 : Nat) (row8 f) (40 : TypeId)]) else Res.out Ex.ret [AV.v (Value.bool false)] [AB.row false m (8 : Nat) (row8 f) (40 : TypeId)] := by kernel_rfl

def md_c8 : List Md := [.rd 8 40]
def FrvO (rv : (Nat → Nat → Int) → Nat → Bool) : List SA → Option FR
  | [.row m g] => some { val := .v (.bool (rv (it8 g) m)), obl := [all8 m g, decide (m ≤ 2 ^ 38)] }
  | _ => none
noncomputable abbrev fRvS : Func := Try.f82
abbrev lvRv : Ex → List Nat := lv3 [0, 3] [0] [2]
theorem rndRvS (ok : (Nat → Int) → Bool) (m : Nat) (f : Nat → Nat → Int) (i : Nat) : execC Try.prog (gmCv ok) 100 noLam (loopAt 0 fRvS) (mkT 0 19 ((lvRv .normal).zip [.sl 0 8 0 0 m none, .v (i64 i)])) (hpIy m f) (leafV 19 lvRv 1)
    = bif decide ((↑i : Int) < (↑m : Int)) then needs [decide ((↑i : Int) < (↑m : Int)), decide ((0 : Nat) + Int.toNat (↑i : Int) < m)] (bif !ok (w8 (f ((0 : Nat) + Int.toNat (↑i : Int)))) then Res.out Ex.ret [AV.v (Value.bool false)] [AB.row false m (8 : Nat) (row8 f) (40 : TypeId)] else Res.out Ex.normal [AV.sl (0 : Nat) (8 : Nat) (0 : Nat) (0 : Nat) m none, AV.v (Value.int IntKind.i64 (IntKind.wrap IntKind.i64 ((↑i : Int) + (1 : Int))))] [AB.row false m (8 : Nat) (row8 f) (40 : TypeId)]) else Res.out (Ex.exit (0 : Nat)) [AV.sl (0 : Nat) (8 : Nat) (0 : Nat) (0 : Nat) m none] [AB.row false m (8 : Nat) (row8 f) (40 : TypeId)] := by kernel_rfl

noncomputable abbrev lamRv (m : Nat) (f : Nat → Nat → Int) (c : Bool) : Nat → Option Sum := oneL 0 (atS 19 (lvRv .normal) 1 [.sl 0 8 0 0 m none, .v (i64 (0 : Nat))] (hpIy m f) (fun K => cond c (K .normal (mkT 0 19 [(0, .sl 0 8 0 0 m none)]) (hpIy m f)) (K .ret (mkT 0 19 [(2, .v (.bool false))]) (hpIy m f))))
theorem treeRvS (m : Nat) (f : Nat → Nat → Int) (c : Bool) : execF Try.prog gm_l6In (lamRv m f c) 100 fRvS [.sl 0 8 0 0 m none] (hpIy m f) (packK 1)
    = needs [chk ([AV.sl (0 : Nat) (8 : Nat) (0 : Nat) (0 : Nat) m none, AV.v (Value.int IntKind.i64 (0 : Int))] = [AV.sl (0 : Nat) (8 : Nat) (0 : Nat) (0 : Nat) m none, AV.v (Value.int IntKind.i64 (0 : Int))] ∧ Hsim [AB.row false m (8 : Nat) (row8 f) (40 : TypeId)] (hpIy m f))] (bif c then bif decide ((↑m : Int) ≥ (1 : Int)) then bif decide ((↑m : Int) ≤ (24 : Int)) then needs [!decide ((↑m : Int) = (0 : Int))] (Res.out Ex.ret [AV.v (Value.bool (Int.tmod (24 : Int) (↑m : Int) == (0 : Int)))] [AB.row false m (8 : Nat) (row8 f) (40 : TypeId)]) else Res.out Ex.ret [AV.v (Value.bool false)] [AB.row false m (8 : Nat) (row8 f) (40 : TypeId)] else Res.out Ex.ret [AV.v (Value.bool false)] [AB.row false m (8 : Nat) (row8 f) (40 : TypeId)] else Res.out Ex.ret [AV.v (Value.bool false)] [AB.row false m (8 : Nat) (row8 f) (40 : TypeId)]) := by kernel_rfl

def FtrY (rv tk : (Nat → Nat → Int) → Nat → Bool) (tT : (Nat → Nat → Int) → Nat → List Cy) : List SA → Option FR
  | [.row m g, .v (.int .i64 d)] => some { val := valG (tT (it8 g) m), new := newG (tT (it8 g) m), obl := [all8 m g, decide (d = -1), rv (it8 g) m, tk (it8 g) m] }
  | _ => none
def FtrN (rv tk : (Nat → Nat → Int) → Nat → Bool) : List SA → Option FR
  | [.row m g, .v (.int .i64 d)] => some { val := valN, obl := [all8 m g, decide (d = -1), rv (it8 g) m, !tk (it8 g) m] }
  | _ => none
def gmTs2 (md : Int → Int) (tu : (Nat → Int) → Int → Nat → Int) (ad : (Nat → Int) → Int → (Nat → Int) → Nat → Int) (ok : (Nat → Int) → Bool) : Gam := ext (ext (ext (ext g0 98 (specV (fMd md))) 132 (specR [.val, .val] (FtuO tu))) 115 (specV (fOkc ok))) 74 (specV (fAdd3 ad))
abbrev lvTs2 : Ex → List Nat := lv3 [0, 1, 6, 7, 8, 9, 10] [0, 1, 6, 7, 8, 9] [4, 5]
abbrev stTs2 (m : Nat) (d : Int) (i : Nat) (k : Nat) : List AV := [.sl 0 8 0 0 m none, .v (i64 d), .own 1 i, .v (i64 m), .v (i64 i), .ptr 2 0 0 0, .v (i64 k)]
abbrev hpTs2 (m : Nat) (f : Nat → Nat → Int) (i : Nat) (h : Nat → Nat → Int) (s : Nat → Int) : List AB := [.row false m 8 (row8 f) 40, .row true i 8 (row8 h) 40, .cells (cyC s) 40]
end Go.Proofs.Ytoligfhcogligaa

/- RowValid of both; the program's transform and TransformOf. Conditions: a row of points. -/
namespace Go.Proofs.Ytoligfhcogligaa
open Go.RowKit
set_option maxRecDepth 100000

def bdC (f : Nat → Nat → Int) (i : Nat) : Bool := !cyOk (cyOf (f i))
theorem bdC_cv (f : Nat → Nat → Int) (m : Nat) : noneTo (bdC f) m = cvB f m := by
  unfold noneTo cvB bdC
  simp only [Bool.not_not]
theorem bdC_row (f : Nat → Nat → Int) (m : Nat) : fstAt (bdC (it8 (row8 f))) m = fstAt (bdC f) m := fstAt_congr fun _ _ => rfl
theorem cvB_row (f : Nat → Nat → Int) (m : Nat) : cvB (it8 (row8 f)) m = cvB f m := rfl
theorem rvB_row (f : Nat → Nat → Int) (m : Nat) : rvB (it8 (row8 f)) m = rvB f m := rfl
theorem sumIg (m : Nat) (f : Nat → Nat → Int) (hm : m ≤ 2 ^ 40) :
    SumOk Try.prog 1 (.block 0 (.loop (loopAt 0 fIC))) (atS 19 (lvIy .normal) 1 [.sl 0 8 0 0 m none, fnIy, .v (i64 m), .v (i64 (0 : Nat))] (hpIy m f) (fun K => cond (noneTo (bdC f) m) (K .normal (mkT 0 19 []) (hpIy m f)) (K .ret (mkT 0 19 [(4, .v (i64 (fstAt (bdC f) m)))]) (hpIy m f)))) := by
  refine for_at gmIy_ok (n := 100) (m := 1) (lv := lvIy) (fun i => [.sl 0 8 0 0 m none, fnIy, .v (i64 m), .v (i64 (i : Nat))]) (fun _ => hpIy m f) (fun i => noneTo (bdC f) i = true) m (fun _ => noLam) (lv3_ris rfl rfl rfl) (Nat.le_refl _) rfl fun K Q hk i hi him => ⟨noLam_ok _ _ _, ?_⟩
  rw [rndIy]
  simp only [Int.toNat_natCast, Nat.zero_add]
  refine good_cond (fun c1 => ?_) fun c1 => ?_
  · have c1 := of_decide_eq_true c1
    have c1' : i < m := by omega
    rw [wr_in (x := (i : Int) + 1) (by omega)]
    refine good_needs (by simp only [ob_cons, ob_nil, and_true, decide_eq_true_eq]; omega) (good_cond (fun q => ?_) fun q => ?_)
    · have hb : bdC f i = true := q
      refine good_out ⟨_, Hsim.refl _, ?_⟩
      rw [noneTo_no c1' hb, fstAt_at hi c1' hb] at hk
      exact hk
    · have hb : bdC f i = false := q
      exact good_out ⟨i + 1, ⟨rfl, c1', noneTo_succ hi hb⟩, rfl, Hsim.refl _⟩
  · have c1 := of_decide_eq_false c1
    have : i = m := by omega
    subst this
    refine good_out ⟨_, Hsim.refl _, ?_⟩
    rw [if_pos rfl]
    rw [hi] at hk
    exact hk
theorem ok_ic : SpecOk Try.prog 101 (specR md_ic (FicO fun f m => fstAt (bdC f) m)) := by
  refine specR_hr g0_ok Try.func101 rfl fun sas fr hF ho => ?_
  unfold FicO at hF
  split at hF
  · rename_i m g fi
    cases hF
    simp only [ob_cons] at ho
    obtain ⟨h0, h1, h2, _⟩ := ho
    have h0 := Nat.eq_of_beq_eq_true h0
    subst h0
    have hm := of_decide_eq_true h2
    refine ⟨hpIy m (it8 g), lamIg m (it8 g) (noneTo (bdC (it8 g)) m) (fstAt (bdC (it8 g)) m), 100, .cons (ABeq.row fun j hj => all8_get h1 j hj) .nil, lam1 (by kernel_rfl) (sumIg m (it8 g) (by omega)), ?_⟩
    show GoodQ (execF Try.prog g0 (lamIg m (it8 g) (noneTo (bdC (it8 g)) m) (fstAt (bdC (it8 g)) m)) 100 fIC [.sl 0 8 0 0 m none, fnIy] (hpIy m (it8 g)) (packK 1)) _
    rw [treeIg]
    refine good_needs (by rw [ob_cons]; exact ⟨chk_of ⟨rfl, Hsim.refl _⟩, rfl⟩) (good_cond (fun q => ?_) fun q => ?_)
    · exact good_out ⟨_, rfl, by show [AV.v (i64 (-1))] = [AV.v (i64 (fstAt (bdC (it8 g)) m))]; rw [fstAt_no q], .cons (ABeq.row fun j hj => (all8_get h1 j hj).symm) .nil⟩
    · exact good_out ⟨_, rfl, rfl, .cons (ABeq.row fun j hj => (all8_get h1 j hj).symm) .nil⟩
  · cases hF
theorem ok_rvI : SpecOk Try.prog 79 (specR md_c8 (FrvO rvB)) := by
  refine specR_hr (Γ := gmRvI fun f m => fstAt (bdC f) m) (ext_ok gm_within_ok ok_ic) Try.func79 rfl fun sas fr hF ho => ?_
  unfold FrvO at hF
  split at hF
  · rename_i m g
    cases hF
    simp only [ob_cons] at ho
    obtain ⟨h1, h2, _⟩ := ho
    have hm := of_decide_eq_true h2
    have fin : ∀ b, rvB (it8 g) m = b → GoodQ (.out .ret [.v (.bool b)] (hpIy m (it8 g))) (GivR (abP md_c8 [.row m g] []) { val := .v (.bool (rvB (it8 g) m)), obl := [all8 m g, decide (m ≤ 2 ^ 38)] }) := fun b hb =>
      good_out ⟨_, rfl, by rw [hb], .cons (ABeq.row fun j hj => (all8_get h1 j hj).symm) .nil⟩
    refine ⟨hpIy m (it8 g), noLam, 100, .cons (ABeq.row fun j hj => all8_get h1 j hj) .nil, noLam' _, ?_⟩
    show GoodQ (execF Try.prog (gmRvI fun f m => fstAt (bdC f) m) noLam 100 Try.f79 [.sl 0 8 0 0 m none] (hpIy m (it8 g)) (packK 1)) _
    rw [treeRvI]
    simp only [row80, bdC_row]
    refine good_cond (fun c1 => ?_) fun c1 => fin false (by rw [rvB, roV, c1]; rfl)
    have c1' := of_decide_eq_true c1
    refine good_needs (by simp only [ob_cons, ob_nil, and_true, Bool.not_eq_true', decide_eq_false_iff_not]; omega) (good_cond (fun c2 => ?_) fun c2 => fin false (by rw [rvB, roV, c2, Bool.and_false, Bool.and_false]; rfl))
    refine good_needs (by simp only [ob_cons, ob_nil, and_true, decide_eq_true_eq, Nat.ble_eq, all8_row, true_and]; omega) (fin _ ?_)
    rw [fstAt_ge, Bool.not_not, bdC_cv, rvB, roV, c1, c2, decide_eq_true (rs_le c1' (beq_iff_eq.1 c2))]
    rfl
  · cases hF
theorem gmCv_ok : GamOk Try.prog (gmCv fun v => cyOk (cyOf v)) := by
  unfold gmCv
  rw [fOkc_eq]
  exact ext_ok g0_ok ok_cv
theorem sumRv (m : Nat) (f : Nat → Nat → Int) (hm : m ≤ 2 ^ 40) :
    SumOk Try.prog 1 (.block 0 (.loop (loopAt 0 fRvS))) (atS 19 (lvRv .normal) 1 [.sl 0 8 0 0 m none, .v (i64 (0 : Nat))] (hpIy m f) (fun K => cond (noneTo (bdC f) m) (K .normal (mkT 0 19 [(0, .sl 0 8 0 0 m none)]) (hpIy m f)) (K .ret (mkT 0 19 [(2, .v (.bool false))]) (hpIy m f)))) := by
  refine for_at gmCv_ok (n := 100) (m := 1) (lv := lvRv) (fun i => [.sl 0 8 0 0 m none, .v (i64 (i : Nat))]) (fun _ => hpIy m f) (fun i => noneTo (bdC f) i = true) m (fun _ => noLam) (lv3_ris rfl rfl rfl) (Nat.le_refl _) rfl fun K Q hk i hi him => ⟨noLam_ok _ _ _, ?_⟩
  rw [rndRvS]
  simp only [Int.toNat_natCast, Nat.zero_add]
  refine good_cond (fun c1 => ?_) fun c1 => ?_
  · have c1 := of_decide_eq_true c1
    have c1' : i < m := by omega
    rw [wr_in (x := (i : Int) + 1) (by omega)]
    refine good_needs (by simp only [ob_cons, ob_nil, and_true, decide_eq_true_eq]; omega) (good_cond (fun q => ?_) fun q => ?_)
    · have hb : bdC f i = true := q
      refine good_out ⟨_, Hsim.refl _, ?_⟩
      rw [noneTo_no c1' hb] at hk
      exact hk
    · have hb : bdC f i = false := q
      exact good_out ⟨i + 1, ⟨rfl, c1', noneTo_succ hi hb⟩, rfl, Hsim.refl _⟩
  · have c1 := of_decide_eq_false c1
    have : i = m := by omega
    subst this
    refine good_out ⟨_, Hsim.refl _, ?_⟩
    rw [if_pos rfl]
    rw [hi] at hk
    exact hk
theorem ok_rvS : SpecOk Try.prog 82 (specR md_c8 (FrvO rvB)) := by
  refine specR_hr gm_l6In_ok Try.func82 rfl fun sas fr hF ho => ?_
  unfold FrvO at hF
  split at hF
  · rename_i m g
    cases hF
    simp only [ob_cons] at ho
    obtain ⟨h1, h2, _⟩ := ho
    have hm := of_decide_eq_true h2
    have fin : ∀ b, rvB (it8 g) m = b → GoodQ (.out .ret [.v (.bool b)] (hpIy m (it8 g))) (GivR (abP md_c8 [.row m g] []) { val := .v (.bool (rvB (it8 g) m)), obl := [all8 m g, decide (m ≤ 2 ^ 38)] }) := fun b hb =>
      good_out ⟨_, rfl, by rw [hb], .cons (ABeq.row fun j hj => (all8_get h1 j hj).symm) .nil⟩
    refine ⟨hpIy m (it8 g), lamRv m (it8 g) (noneTo (bdC (it8 g)) m), 100, .cons (ABeq.row fun j hj => all8_get h1 j hj) .nil, lam1 (by kernel_rfl) (sumRv m (it8 g) (by omega)), ?_⟩
    show GoodQ (execF Try.prog gm_l6In (lamRv m (it8 g) (noneTo (bdC (it8 g)) m)) 100 fRvS [.sl 0 8 0 0 m none] (hpIy m (it8 g)) (packK 1)) _
    rw [treeRvS]
    refine good_needs (by rw [ob_cons]; exact ⟨chk_of ⟨rfl, Hsim.refl _⟩, rfl⟩) (good_cond (fun q => ?_) fun q => fin false (by rw [rvB, ← bdC_cv, q, Bool.and_false]))
    have e : rvB (it8 g) m = roV m := by rw [rvB, ← bdC_cv, q, Bool.and_true]
    refine good_cond (fun c1 => ?_) fun c1 => fin false (by rw [e, roV, c1]; rfl)
    have c1' := of_decide_eq_true c1
    refine good_cond (fun c2 => ?_) fun c2 => fin false (by rw [e, roV, c1, c2]; rfl)
    exact good_needs (by simp only [ob_cons, ob_nil, and_true, Bool.not_eq_true', decide_eq_false_iff_not]; omega) (fin _ (by rw [e, roV, c1, c2]; rfl))
  · cases hF

def trF (f : Nat → Nat → Int) (n : Int) : Nat → Nat → Int := fun j => trV f n j
theorem trF_row (f : Nat → Nat → Int) (n : Int) : trF (it8 (row8 f)) n = trF f n := by
  funext j
  exact trV_row f n j
/-- All sums are points. -/
def tbK (f : Nat → Nat → Int) (m : Nat) (j : Nat) : Bool := !trK f m j
def tkB (f : Nat → Nat → Int) (m : Nat) : Bool := noneTo (tbK f m) m
def tTf (f : Nat → Nat → Int) (m : Nat) : List Cy := listC (trF f m) m
def toK (f : Nat → Nat → Int) (m : Nat) : Bool := rvB f m && tkB f m
def toT (f : Nat → Nat → Int) (m : Nat) : List Cy := bif toK f m then tTf f m else []
theorem tkB_row (f : Nat → Nat → Int) (m : Nat) : tkB (it8 (row8 f)) m = tkB f m := by
  unfold tkB tbK
  simp only [trK_row]
theorem tTf_row (f : Nat → Nat → Int) (m : Nat) : tTf (it8 (row8 f)) m = tTf f m := by
  unfold tTf
  rw [trF_row]
theorem cv_inB {f : Nat → Nat → Int} {m : Nat} (h : cvB f m = true) (i : Nat) (hi : i < m) : inB (w8 (f i)) = true := smallF_iff.2 fun k hk => by
  have := smallF_iff.1 (cvB_at h hi) k hk
  have e : (cyOf (f i)).f k = w8 (f i) k := by
    match k, hk with
    | 0, _ => rfl
    | 1, _ => rfl
    | 2, _ => rfl
    | 3, _ => rfl
    | 4, _ => rfl
    | 5, _ => rfl
    | 6, _ => rfl
    | 7, _ => rfl
  omega
theorem rvB_parts {f : Nat → Nat → Int} {m : Nat} (h : rvB f m = true) : roV m = true ∧ cvB f m = true := by
  rw [rvB, Bool.and_eq_true] at h
  exact h
theorem tr_row (f : Nat → Nat → Int) (m i : Nat) (o : Nat → Nat → Int) (ho : ∀ j, j < i → o j = trF f m j) (j : Nat) (hj : j < i + 1) : [i64 (bif Nat.blt j i then o j 0 else trV f m i 0), i64 (bif Nat.blt j i then o j 1 else trV f m i 1), i64 (bif Nat.blt j i then o j 2 else trV f m i 2), i64 (bif Nat.blt j i then o j 3 else trV f m i 3), i64 (bif Nat.blt j i then o j 4 else trV f m i 4), i64 (bif Nat.blt j i then o j 5 else trV f m i 5), i64 (bif Nat.blt j i then o j 6 else trV f m i 6), i64 (bif Nat.blt j i then o j 7 else trV f m i 7)] = row8 (trF f m) j := by
  by_cases h : j < i
  · rw [blt_yes h]
    simp only [cond_true, ho j h]
  · have : j = i := by omega
    subst this
    rw [blt_no]
    rfl
def FtoY : List SA → Option FR
  | [.row m g] => some { val := valG (toT (it8 g) m), new := newG (toT (it8 g) m), obl := [all8 m g, decide (m ≤ 2 ^ 38), toK (it8 g) m] }
  | _ => none
def FtoN : List SA → Option FR
  | [.row m g] => some { val := valN, obl := [all8 m g, decide (m ≤ 2 ^ 38), !toK (it8 g) m] }
  | _ => none
def UtoO (rk : (Nat → Nat → Int) → Nat → Bool) (rt : (Nat → Nat → Int) → Nat → List Cy) : List SA → Option PtR
  | [.row m g] => some ⟨rk (it8 g) m, rt (it8 g) m, [all8 m g, decide (m ≤ 2 ^ 38)]⟩
  | _ => none
theorem toT_no {f : Nat → Nat → Int} {m : Nat} (h : toK f m = false) : toT f m = [] := by rw [toT, h]; rfl
theorem toT_yes {f : Nat → Nat → Int} {m : Nat} (h : toK f m = true) : toT f m = tTf f m := by rw [toT, h]; rfl
end Go.Proofs.Ytoligfhcogligaa

/- bends; PolyBends of both, where the list is a polygon. Conditions: a list of points. -/
namespace Go.Proofs.Ytoligfhcogligaa
open Go.RowKit
set_option maxRecDepth 100000
abbrev lvA : Ex → List Nat := lv3 [3, 4, 12, 13, 14] [4] []
def stA (s : PB) (i : Nat) : List (Nat × AV) := [(3, .own 1 s.m), (4, .own 2 i), (12, .own 1 s.m), (13, .v (i64 s.m)), (14, .v (i64 i))]
def hpA (s : PB) (i : Nat) : List AB := [.row false s.n 8 s.g s.t, .row true s.m 8 (rowC (itC s.gb)) 40, .row true i 1 (rowI (bendsF (itC s.gb) s.m)) 3]
def decA : List AV → List AB → Option (PB × Nat)
  | [.own 1 m, .own 2 0, .own 1 k', .v (.int .i64 (.ofNat k)), .v (.int .i64 0)], [.row false n 8 g t, .row true m' 8 gb 40, .row true 0 1 _ 3] => some (⟨m, m', k, gb, n, g, t⟩, k')
  | _, _ => none
def preA (s : PB × Nat) : List Bool := Nat.beq s.2 s.1.m :: preB s.1
def outA (s : PB × Nat) (K : Kont) : Res := K .normal (mkT 0 38 [(4, .own 1 s.1.m)]) [.row false s.1.n 8 s.1.g s.1.t, .row true s.1.m 1 (rowI (bendsF (itC s.1.gb) s.1.m)) 3]
theorem rndA (m : Nat) (b : Nat → Nat → Int) (n : Nat) (g : Nat → List Value) (t : TypeId) (G : Nat → List Value) (i : Nat) : execC Try.prog gm_y 100 noLam (loopAt 0 Try.f42) (mkT 0 38 [(3, .own 1 m), (4, .own 2 i), (12, .own 1 m), (13, .v (i64 m)), (14, .v (i64 i))]) [.row false n 8 g t, .row true m 8 (rowC b) 40, .row true i 1 G 3] (leafK lvA 1)
    = cond (decide ((i : Int) < m)) (needs [decide ((i : Int) < m), decide (i < m), !decide ((m : Int) = 0), decide (0 ≤ prI i m), decide (prI i m < m), decide ((prI i m).toNat < m), i64B (crossW (b (prI i m).toNat) (b i) 0), i64B (crossW (b (prI i m).toNat) (b i) 1), i64B (crossW (b (prI i m).toNat) (b i) 2), i64B (crossW (b (prI i m).toNat) (b i) 3), Nat.ble i i, Nat.ble (i + 1) 549755813888]
        (.out .normal (mkT 0 38 [(3, .own 1 m), (4, .own 2 (i + 1)), (12, .own 1 m), (13, .v (i64 m)), (14, .v (i64 (IntKind.i64.wrap ((i : Int) + 1))))]) [.row false n 8 g t, .row true m 8 (rowC b) 40, .row true (i + 1) 1 (snocR G i 1 [i64 (bendV (b (prI i m).toNat) (b i))]) 3]))
      (.out (.exit 0) (mkT 0 38 [(4, .own 1 i)]) [.row false n 8 g t, .row true i 1 G 3]) := by kernel_rfl

theorem sumA : SumOk Try.prog 1 (.block 0 (.loop (loopAt 0 Try.f42))) (loopS 38 [3, 4, 12, 13, 14] decA preA outA) := by
  refine mkFor gm_y_ok (n := 100) (m := 1) (lv := lvA) (Λ := noLam) (fun s => stA s.1) (fun s => hpA s.1) (fun _ _ => True) (fun s => s.1.m) rfl (noLam_ok _ _ _) (Nat.le_refl _) ?_ ?_
  · intro avs H s hd ho
    unfold decA at hd
    split at hd
    · rename_i m k' k n g t m' gb G
      cases hd
      simp only [preA, preB, ob_cons, decide_eq_true_eq] at ho
      obtain ⟨h0, h1, h2, h3, h4, _⟩ := ho
      have h0 := Nat.eq_of_beq_eq_true h0
      have h1 := Nat.eq_of_beq_eq_true h1
      have h2 := Nat.eq_of_beq_eq_true h2
      subst h0 h1 h2
      exact ⟨[.row false n 8 g t, .row true _ 8 gb 40, .row true 0 1 G 3], by kernel_rfl, .cons (ABeq.refl _) (.cons (ABeq.row fun j hj => allC_get h3 j hj) (.cons (ABeq.row fun j hj => by omega) .nil)), trivial⟩
    · cases hd
  · rintro ⟨s, k'⟩ K Q ho hk i _ him
    simp only [preA, preB, ob_cons, decide_eq_true_eq] at ho
    obtain ⟨_, _, _, _, hm, _⟩ := ho
    simp only at him
    show GoodQ (execC Try.prog gm_y 100 noLam (loopAt 0 Try.f42) (mkT 0 38 [(3, .own 1 s.m), (4, .own 2 i), (12, .own 1 s.m), (13, .v (i64 s.m)), (14, .v (i64 i))]) [.row false s.n 8 s.g s.t, .row true s.m 8 (rowC (itC s.gb)) 40, .row true i 1 (rowI (bendsF (itC s.gb) s.m)) 3] (leafK lvA 1)) _
    rw [rndA]
    refine good_cond (fun h1 => ?_) fun h1 => ?_
    · have h1 := of_decide_eq_true h1
      have h1' : i < s.m := by omega
      have hml : (i + s.m - 1) % s.m < s.m := Nat.mod_lt _ (by omega)
      rw [show prI (i : Int) s.m = _ from prev_at h1' hm]
      simp only [Int.toNat_natCast]
      refine good_needs (by simp only [ob_cons, ob_nil, cross_in, and_true, true_and, decide_eq_true_eq, Bool.not_eq_true', decide_eq_false_iff_not, Nat.ble_eq]; omega) (good_out ⟨h1', ?_, ?_, trivial⟩)
      · rw [show IntKind.i64.wrap ((i : Int) + 1) = W ((i : Int) + 1) from rfl, w64_in (x := (i : Int) + 1) (by omega) (by omega)]
        rfl
      · refine .cons (ABeq.refl _) (.cons (ABeq.refl _) (.cons (ABeq.row fun j hj => ?_) .nil))
        rcases Nat.lt_or_ge j i with h | h
        · rw [snocR_lt h]
        · have : j = i := by omega
          subst this
          rw [snocR_eq (by simp)]
          rfl
    · have h1 := of_decide_eq_false h1
      have : i = s.m := by omega
      subst this
      refine good_out ⟨_, Hsim.refl _, ?_⟩
      rw [if_pos rfl]
      exact hk

/-- The bends of a list. -/
def F_bends : List SA → Option FR
  | [.row m g] => some { val := .own 0 m, new := [.row true m 1 (rowI (bendsF (stepsF (itC g) m) m)) 3], obl := [allC m g, decide (0 < m), decide (m ≤ 2 ^ 38)] }
  | _ => none
theorem ok_bends : SpecOk Try.prog 42 (specR md_list F_bends) := by
  refine mkR (n := 100) (Λ := oneL 0 (loopS 38 [3, 4, 12, 13, 14] decA preA outA)) gm_y_ok Try.func42 rfl fun sas fr hF ho => ?_
  unfold F_bends at hF
  split at hF
  · rename_i m g
    cases hF
    simp only [ob_cons] at ho
    obtain ⟨h1, h3, h2, _⟩ := ho
    have h2' := of_decide_eq_true h2
    refine ⟨[.row false m 8 (rowC (itC g)) 40], .cons (ABeq.row fun j hj => allC_get h1 j hj) .nil, lam1 (by kernel_rfl) sumA, ?_⟩
    have e : execF Try.prog gm_y (oneL 0 (loopS 38 [3, 4, 12, 13, 14] decA preA outA)) 100 Try.f42 (avC 0 md_list [.row m g]) [.row false m 8 (rowC (itC g)) 40] (packK 1)
      = needs [Nat.ble (0 + m) m, allC m (fun q => rowC (itC g) (0 + q)), decide (0 < m), decide (m ≤ 2 ^ 38), decide ((m : Int) ≤ 1099511627776),
          Nat.beq m m, Nat.beq m m, Nat.beq m m, allC m (rowC (stepsF (itC fun q => rowC (itC g) (0 + q)) m)), decide (m ≤ 2 ^ 38)]
        (.out .ret [.own 1 m] [.row false m 8 (rowC (itC g)) 40, .row true m 1 (rowI (bendsF (itC (rowC (stepsF (itC fun q => rowC (itC g) (0 + q)) m))) m)) 3]) := by kernel_rfl
    rw [show ([AB.row false m 8 (rowC (itC g)) 40]).length = 1 from rfl, e, zero_row]
    refine good_needs ?_ (good_out ⟨_, rfl, rfl, .cons (ABeq.row fun j hj => (allC_get h1 j hj).symm) (.cons (ABeq.row fun j hj => ?_) .nil)⟩)
    · simp only [ob_cons, ob_nil, allC_of (m := m) (a := itC g) fun j _ => rfl, allC_of (m := m) (a := stepsF (itC (rowC (itC g))) m) fun j _ => rfl, h2, h3, beq_me, and_self, and_true, true_and, Nat.zero_add, Nat.ble_eq, Nat.le_refl, decide_eq_true_eq]
      omega
    · kernel_rfl
  · cases hF

end Go.Proofs.Ytoligfhcogligaa

/- PolyBends of both, in each case. Conditions: a list of points. -/
namespace Go.Proofs.Ytoligfhcogligaa
open Go.RowKit
set_option maxRecDepth 100000

def gm_yb : Gam := ext gm_y 42 (specR md_list F_bends)
theorem gm_yb_ok : GamOk Try.prog gm_yb := ext_ok gm_y_ok ok_bends

theorem ok_bendsY : SpecOk Try.prog 12 (specR md_list F_bendsY) := by
  refine mkR (n := 100) (Λ := noLam) gm_yb_ok Try.func12 rfl fun sas fr hF ho => ?_
  unfold F_bendsY at hF
  split at hF
  · rename_i m g
    cases hF
    simp only [ob_cons] at ho
    obtain ⟨h1, h2, h3, _⟩ := ho
    refine ⟨[.row false m 8 (rowC (itC g)) 40], .cons (ABeq.row fun j hj => allC_get h1 j hj) .nil, noLam' _, ?_⟩
    have e : execF Try.prog gm_yb noLam 100 Try.f12 (avC 0 md_list [.row m g]) [.row false m 8 (rowC (itC g)) 40] (packK 1)
      = needs [Nat.ble (0 + m) m, allC m (fun q => rowC (itC g) (0 + q)), decide (m ≤ 2 ^ 38), f_valid (itC fun q => rowC (itC g) (0 + q)) m == true, Nat.ble (0 + m) m, allC m (fun q => rowC (itC g) (0 + q)), decide (0 < m), decide (m ≤ 2 ^ 38)]
        (.out .ret [.tup [.own 1 m, .v (.bool true)]] [.row false m 8 (rowC (itC g)) 40, .row true m 1 (rowI (bendsF (stepsF (itC fun q => rowC (itC g) (0 + q)) m) m)) 3]) := by kernel_rfl
    rw [show ([AB.row false m 8 (rowC (itC g)) 40]).length = 1 from rfl, e, zero_row]
    have hpos := valid_pos h3
    refine good_needs ?_ (good_out ⟨_, rfl, rfl, .cons (ABeq.row fun j hj => (allC_get h1 j hj).symm) (.cons (ABeq.row fun j hj => ?_) .nil)⟩)
    · simp only [ob_cons, ob_nil, allC_of (m := m) (a := itC g) fun j _ => rfl, h2, and_self, and_true, true_and, Nat.zero_add, Nat.ble_eq, Nat.le_refl, decide_eq_true_eq]
      exact ⟨h3, hpos⟩
    · kernel_rfl
  · cases hF

/-- Not a polygon: the reference's. -/
def F_bendsSN : List SA → Option FR
  | [.row m g] => some { val := .tup [.own 0 0, .v (.bool false)], new := [.row true 0 1 (fun _ => []) 3], obl := [allC m g, decide (m ≤ 2 ^ 38), f_valid (itC g) m == false] }
  | _ => none
/-- Not a polygon: the program's. -/
def F_bendsN : List SA → Option FR
  | [.row m g] => some { val := .tup [.v (.slice none 0 0), .v (.bool false)], obl := [allC m g, decide (m ≤ 2 ^ 38), f_valid (itC g) m == false] }
  | _ => none

theorem ok_bendsSN : SpecOk Try.prog 13 (specR md_list F_bendsSN) := by
  refine mkR (n := 100) (Λ := noLam) gm_n_ok Try.func13 rfl fun sas fr hF ho => ?_
  unfold F_bendsSN at hF
  split at hF
  · rename_i m g
    cases hF
    simp only [ob_cons] at ho
    obtain ⟨h1, h2, h3, _⟩ := ho
    refine ⟨[.row false m 8 (rowC (itC g)) 40], .cons (ABeq.row fun j hj => allC_get h1 j hj) .nil, noLam' _, ?_⟩
    have e : execF Try.prog gm_n noLam 100 Try.f13 (avC 0 md_list [.row m g]) [.row false m 8 (rowC (itC g)) 40] (packK 1)
      = needs [Nat.ble (0 + m) m, allC m (fun q => rowC (itC g) (0 + q)), decide (m ≤ 2 ^ 38), f_valid (itC fun q => rowC (itC g) (0 + q)) m == false]
        (.out .ret [.tup [.own 1 0, .v (.bool false)]] [.row false m 8 (rowC (itC g)) 40, .row true 0 1 (fun _ => []) 3]) := by kernel_rfl
    rw [show ([AB.row false m 8 (rowC (itC g)) 40]).length = 1 from rfl, e, zero_row]
    refine good_needs ?_ (good_out ⟨_, rfl, rfl, .cons (ABeq.row fun j hj => (allC_get h1 j hj).symm) (.cons (ABeq.refl _) .nil)⟩)
    simp only [ob_cons, ob_nil, allC_of (m := m) (a := itC g) fun j _ => rfl, h2, and_true, true_and, Nat.zero_add, Nat.ble_eq, Nat.le_refl]
    exact h3
  · cases hF

theorem ok_bendsN : SpecOk Try.prog 12 (specR md_list F_bendsN) := by
  refine mkR (n := 100) (Λ := noLam) gm_n_ok Try.func12 rfl fun sas fr hF ho => ?_
  unfold F_bendsN at hF
  split at hF
  · rename_i m g
    cases hF
    simp only [ob_cons] at ho
    obtain ⟨h1, h2, h3, _⟩ := ho
    refine ⟨[.row false m 8 (rowC (itC g)) 40], .cons (ABeq.row fun j hj => allC_get h1 j hj) .nil, noLam' _, ?_⟩
    have e : execF Try.prog gm_n noLam 100 Try.f12 (avC 0 md_list [.row m g]) [.row false m 8 (rowC (itC g)) 40] (packK 1)
      = needs [Nat.ble (0 + m) m, allC m (fun q => rowC (itC g) (0 + q)), decide (m ≤ 2 ^ 38), f_valid (itC fun q => rowC (itC g) (0 + q)) m == false]
        (.out .ret [.tup [.v (.slice none 0 0), .v (.bool false)]] [.row false m 8 (rowC (itC g)) 40]) := by kernel_rfl
    rw [show ([AB.row false m 8 (rowC (itC g)) 40]).length = 1 from rfl, e, zero_row]
    refine good_needs ?_ (good_out ⟨_, rfl, rfl, .cons (ABeq.row fun j hj => (allC_get h1 j hj).symm) .nil⟩)
    simp only [ob_cons, ob_nil, allC_of (m := m) (a := itC g) fun j _ => rfl, h2, and_true, true_and, Nat.zero_add, Nat.ble_eq, Nat.le_refl]
    exact h3
  · cases hF

end Go.Proofs.Ytoligfhcogligaa

/- PolyTurns: its rounds. Conditions: what the callees return is left open. -/
namespace Go.Proofs.Ytoligfhcogligaa
open Go.RowKit
set_option maxRecDepth 100000

def fUp (up : (Nat → Int) → Bool) : List Value → Option (Value × List Bool)
  | [.agg ⟨[.int .i64 a0, .int .i64 a1, .int .i64 a2, .int .i64 a3, .int .i64 a4, .int .i64 a5, .int .i64 a6, .int .i64 a7]⟩] => some (.bool (up (v8 a0 a1 a2 a3 a4 a5 a6 a7)), [])
  | _ => none
def fAl (al : (Nat → Int) → (Nat → Int) → Nat → Int) : List Value → Option (Value × List Bool)
  | [.agg ⟨[.int .i64 a0, .int .i64 a1, .int .i64 a2, .int .i64 a3, .int .i64 a4, .int .i64 a5, .int .i64 a6, .int .i64 a7]⟩, .agg ⟨[.int .i64 b0, .int .i64 b1, .int .i64 b2, .int .i64 b3, .int .i64 b4, .int .i64 b5, .int .i64 b6, .int .i64 b7]⟩] => some (sdv (al (v8 a0 a1 a2 a3 a4 a5 a6 a7) (v8 b0 b1 b2 b3 b4 b5 b6 b7)), [])
  | _ => none
def fMi (mi : (Nat → Int) → Nat → Int) : List Value → Option (Value × List Bool)
  | [.agg ⟨[.int .i64 a0, .int .i64 a1, .int .i64 a2, .int .i64 a3, .int .i64 a4, .int .i64 a5, .int .i64 a6, .int .i64 a7]⟩] => some (cyv (mi (v8 a0 a1 a2 a3 a4 a5 a6 a7)), [])
  | _ => none
def fTi (ti : (Nat → Int) → (Nat → Int) → Nat → Int) : List Value → Option (Value × List Bool)
  | [.agg ⟨[.int .i64 a0, .int .i64 a1, .int .i64 a2, .int .i64 a3, .int .i64 a4, .int .i64 a5, .int .i64 a6, .int .i64 a7]⟩, .agg ⟨[.int .i64 b0, .int .i64 b1, .int .i64 b2, .int .i64 b3, .int .i64 b4, .int .i64 b5, .int .i64 b6, .int .i64 b7]⟩] => some (cyv (ti (v8 a0 a1 a2 a3 a4 a5 a6 a7) (v8 b0 b1 b2 b3 b4 b5 b6 b7)), [])
  | _ => none
def fRe (re : (Nat → Int) → Nat → Int) : List Value → Option (Value × List Bool)
  | [.agg ⟨[.int .i64 a0, .int .i64 a1, .int .i64 a2, .int .i64 a3, .int .i64 a4, .int .i64 a5, .int .i64 a6, .int .i64 a7]⟩] => some (sdv (re (v8 a0 a1 a2 a3 a4 a5 a6 a7)), [])
  | _ => none
def fSn (sg : (Nat → Int) → Int) (ob : Int → Bool) : List Value → Option (Value × List Bool)
  | [.agg ⟨[.int .i64 s0, .int .i64 s1, .int .i64 s2, .int .i64 s3]⟩] => some (.int .i64 (sg (v4 s0 s1 s2 s3)), [ob s0, ob s1, ob s2, ob s3])
  | _ => none

def gmTIt (up : (Nat → Int) → Bool) (al : (Nat → Int) → (Nat → Int) → Nat → Int) (sg : (Nat → Int) → Int) (ob : Int → Bool) : Gam := ext (ext (ext g0 52 (specV (fUp up))) 50 (specV (fAl al))) 51 (specV (fSn sg ob))
def gmTS (up : (Nat → Int) → Bool) (cr : (Nat → Int) → (Nat → Int) → Nat → Int) (mi re : (Nat → Int) → Nat → Int) (ti : (Nat → Int) → (Nat → Int) → Nat → Int) (sg : (Nat → Int) → Int) (ob : Int → Bool) : Gam :=
  ext (ext (ext (ext (ext (ext g0 56 (specV (fUp up))) 45 (specV (fAl cr))) 55 (specV (fMi mi))) 54 (specV (fTi ti))) 53 (specV (fRe re))) 44 (specV (fSn sg ob))

abbrev lvTIt : Ex → List Nat := lv3 [4, 5, 16, 17, 18] [5] [2, 3]
abbrev lvTS : Ex → List Nat := lv3 [4, 5, 6, 7] [6] [2, 3]
theorem rndTIt (up : (Nat → Int) → Bool) (al : (Nat → Int) → (Nat → Int) → Nat → Int) (sg : (Nat → Int) → Int) (ob : Int → Bool) (n : Nat) (g : Nat → List Value) (t : TypeId) (m : Nat) (b : Nat → Nat → Int) (bf : Nat → Int) (i : Nat) (sm : Int) : execC Try.prog (gmTIt up al sg ob) 100 noLam (loopAt 0 Try.f17) (mkT 0 82 ((lvTIt .normal).zip [.own 1 m, .v (i64 sm), .own 2 m, .v (i64 m), .v (i64 i)])) [.row false n 8 g t, .row true m 8 (rowC b) 40, .row true m 1 (rowI bf) 3] (leafV 82 lvTIt 1)
    = bif decide ((↑i : Int) < (↑m : Int)) then needs [decide ((↑i : Int) < (↑m : Int)), decide (Int.toNat (↑i : Int) < m), !decide ((↑m : Int) = (0 : Int)), decide ((0 : Int) ≤ Int.tmod (IntKind.wrap IntKind.i64 (IntKind.wrap IntKind.i64 ((↑i : Int) + (↑m : Int)) - (1 : Int))) (↑m : Int)), decide (Int.tmod (IntKind.wrap IntKind.i64 (IntKind.wrap IntKind.i64 ((↑i : Int) + (↑m : Int)) - (1 : Int))) (↑m : Int) < (↑m : Int)), decide (Int.toNat (Int.tmod (IntKind.wrap IntKind.i64 (IntKind.wrap IntKind.i64 ((↑i : Int) + (↑m : Int)) - (1 : Int))) (↑m : Int)) < m), decide ((↑i : Int) < (↑m : Int)), decide (Int.toNat (↑i : Int) < m)] (bif b (Int.toNat (↑i : Int)) (0 : Nat) == (0 : Int) && (b (Int.toNat (↑i : Int)) (1 : Nat) == (0 : Int) && (b (Int.toNat (↑i : Int)) (2 : Nat) == (0 : Int) && (b (Int.toNat (↑i : Int)) (3 : Nat) == (0 : Int) && (b (Int.toNat (↑i : Int)) (4 : Nat) == (0 : Int) && (b (Int.toNat (↑i : Int)) (5 : Nat) == (0 : Int) && (b (Int.toNat (↑i : Int)) (6 : Nat) == (0 : Int) && (b (Int.toNat (↑i : Int)) (7 : Nat) == (0 : Int) && true))))))) && true then Res.out Ex.ret [AV.v (Value.int IntKind.i64 (0 : Int)), AV.v (Value.bool false)] [AB.row false n (8 : Nat) g t] else bif bf (Int.toNat (↑i : Int)) == (0 : Int) then needs [ob (al (w8 (b (Int.toNat (Int.tmod (IntKind.wrap IntKind.i64 (IntKind.wrap IntKind.i64 ((↑i : Int) + (↑m : Int)) - (1 : Int))) (↑m : Int))))) (w8 (b (Int.toNat (↑i : Int)))) (0 : Nat)), ob (al (w8 (b (Int.toNat (Int.tmod (IntKind.wrap IntKind.i64 (IntKind.wrap IntKind.i64 ((↑i : Int) + (↑m : Int)) - (1 : Int))) (↑m : Int))))) (w8 (b (Int.toNat (↑i : Int)))) (1 : Nat)), ob (al (w8 (b (Int.toNat (Int.tmod (IntKind.wrap IntKind.i64 (IntKind.wrap IntKind.i64 ((↑i : Int) + (↑m : Int)) - (1 : Int))) (↑m : Int))))) (w8 (b (Int.toNat (↑i : Int)))) (2 : Nat)), ob (al (w8 (b (Int.toNat (Int.tmod (IntKind.wrap IntKind.i64 (IntKind.wrap IntKind.i64 ((↑i : Int) + (↑m : Int)) - (1 : Int))) (↑m : Int))))) (w8 (b (Int.toNat (↑i : Int)))) (3 : Nat))] (bif decide (sg (w4 (al (w8 (b (Int.toNat (Int.tmod (IntKind.wrap IntKind.i64 (IntKind.wrap IntKind.i64 ((↑i : Int) + (↑m : Int)) - (1 : Int))) (↑m : Int))))) (w8 (b (Int.toNat (↑i : Int)))))) < (0 : Int)) then Res.out Ex.ret [AV.v (Value.int IntKind.i64 (0 : Int)), AV.v (Value.bool false)] [AB.row false n (8 : Nat) g t] else bif bf (Int.toNat (↑i : Int)) == (1 : Int) then bif !up (w8 (b (Int.toNat (Int.tmod (IntKind.wrap IntKind.i64 (IntKind.wrap IntKind.i64 ((↑i : Int) + (↑m : Int)) - (1 : Int))) (↑m : Int))))) then bif up (w8 (b (Int.toNat (↑i : Int)))) then Res.out Ex.normal [AV.own (1 : Nat) m, AV.v (Value.int IntKind.i64 (IntKind.wrap IntKind.i64 (sm + (1 : Int)))), AV.own (2 : Nat) m, AV.v (Value.int IntKind.i64 (↑m : Int)), AV.v (Value.int IntKind.i64 (IntKind.wrap IntKind.i64 ((↑i : Int) + (1 : Int))))] [AB.row false n (8 : Nat) g t, AB.row true m (8 : Nat) (rowC b) (40 : TypeId), AB.row true m (1 : Nat) (rowI bf) (3 : TypeId)] else bif bf (Int.toNat (↑i : Int)) == (-1 : Int) then bif up (w8 (b (Int.toNat (Int.tmod (IntKind.wrap IntKind.i64 (IntKind.wrap IntKind.i64 ((↑i : Int) + (↑m : Int)) - (1 : Int))) (↑m : Int))))) then bif !up (w8 (b (Int.toNat (↑i : Int)))) then Res.out Ex.normal [AV.own (1 : Nat) m, AV.v (Value.int IntKind.i64 (IntKind.wrap IntKind.i64 (sm - (1 : Int)))), AV.own (2 : Nat) m, AV.v (Value.int IntKind.i64 (↑m : Int)), AV.v (Value.int IntKind.i64 (IntKind.wrap IntKind.i64 ((↑i : Int) + (1 : Int))))] [AB.row false n (8 : Nat) g t, AB.row true m (8 : Nat) (rowC b) (40 : TypeId), AB.row true m (1 : Nat) (rowI bf) (3 : TypeId)] else Res.out Ex.normal [AV.own (1 : Nat) m, AV.v (Value.int IntKind.i64 sm), AV.own (2 : Nat) m, AV.v (Value.int IntKind.i64 (↑m : Int)), AV.v (Value.int IntKind.i64 (IntKind.wrap IntKind.i64 ((↑i : Int) + (1 : Int))))] [AB.row false n (8 : Nat) g t, AB.row true m (8 : Nat) (rowC b) (40 : TypeId), AB.row true m (1 : Nat) (rowI bf) (3 : TypeId)] else Res.out Ex.normal [AV.own (1 : Nat) m, AV.v (Value.int IntKind.i64 sm), AV.own (2 : Nat) m, AV.v (Value.int IntKind.i64 (↑m : Int)), AV.v (Value.int IntKind.i64 (IntKind.wrap IntKind.i64 ((↑i : Int) + (1 : Int))))] [AB.row false n (8 : Nat) g t, AB.row true m (8 : Nat) (rowC b) (40 : TypeId), AB.row true m (1 : Nat) (rowI bf) (3 : TypeId)] else Res.out Ex.normal [AV.own (1 : Nat) m, AV.v (Value.int IntKind.i64 sm), AV.own (2 : Nat) m, AV.v (Value.int IntKind.i64 (↑m : Int)), AV.v (Value.int IntKind.i64 (IntKind.wrap IntKind.i64 ((↑i : Int) + (1 : Int))))] [AB.row false n (8 : Nat) g t, AB.row true m (8 : Nat) (rowC b) (40 : TypeId), AB.row true m (1 : Nat) (rowI bf) (3 : TypeId)] else bif bf (Int.toNat (↑i : Int)) == (-1 : Int) then bif up (w8 (b (Int.toNat (Int.tmod (IntKind.wrap IntKind.i64 (IntKind.wrap IntKind.i64 ((↑i : Int) + (↑m : Int)) - (1 : Int))) (↑m : Int))))) then bif !up (w8 (b (Int.toNat (↑i : Int)))) then Res.out Ex.normal [AV.own (1 : Nat) m, AV.v (Value.int IntKind.i64 (IntKind.wrap IntKind.i64 (sm - (1 : Int)))), AV.own (2 : Nat) m, AV.v (Value.int IntKind.i64 (↑m : Int)), AV.v (Value.int IntKind.i64 (IntKind.wrap IntKind.i64 ((↑i : Int) + (1 : Int))))] [AB.row false n (8 : Nat) g t, AB.row true m (8 : Nat) (rowC b) (40 : TypeId), AB.row true m (1 : Nat) (rowI bf) (3 : TypeId)] else Res.out Ex.normal [AV.own (1 : Nat) m, AV.v (Value.int IntKind.i64 sm), AV.own (2 : Nat) m, AV.v (Value.int IntKind.i64 (↑m : Int)), AV.v (Value.int IntKind.i64 (IntKind.wrap IntKind.i64 ((↑i : Int) + (1 : Int))))] [AB.row false n (8 : Nat) g t, AB.row true m (8 : Nat) (rowC b) (40 : TypeId), AB.row true m (1 : Nat) (rowI bf) (3 : TypeId)] else Res.out Ex.normal [AV.own (1 : Nat) m, AV.v (Value.int IntKind.i64 sm), AV.own (2 : Nat) m, AV.v (Value.int IntKind.i64 (↑m : Int)), AV.v (Value.int IntKind.i64 (IntKind.wrap IntKind.i64 ((↑i : Int) + (1 : Int))))] [AB.row false n (8 : Nat) g t, AB.row true m (8 : Nat) (rowC b) (40 : TypeId), AB.row true m (1 : Nat) (rowI bf) (3 : TypeId)] else Res.out Ex.normal [AV.own (1 : Nat) m, AV.v (Value.int IntKind.i64 sm), AV.own (2 : Nat) m, AV.v (Value.int IntKind.i64 (↑m : Int)), AV.v (Value.int IntKind.i64 (IntKind.wrap IntKind.i64 ((↑i : Int) + (1 : Int))))] [AB.row false n (8 : Nat) g t, AB.row true m (8 : Nat) (rowC b) (40 : TypeId), AB.row true m (1 : Nat) (rowI bf) (3 : TypeId)] else bif bf (Int.toNat (↑i : Int)) == (-1 : Int) then bif up (w8 (b (Int.toNat (Int.tmod (IntKind.wrap IntKind.i64 (IntKind.wrap IntKind.i64 ((↑i : Int) + (↑m : Int)) - (1 : Int))) (↑m : Int))))) then bif !up (w8 (b (Int.toNat (↑i : Int)))) then Res.out Ex.normal [AV.own (1 : Nat) m, AV.v (Value.int IntKind.i64 (IntKind.wrap IntKind.i64 (sm - (1 : Int)))), AV.own (2 : Nat) m, AV.v (Value.int IntKind.i64 (↑m : Int)), AV.v (Value.int IntKind.i64 (IntKind.wrap IntKind.i64 ((↑i : Int) + (1 : Int))))] [AB.row false n (8 : Nat) g t, AB.row true m (8 : Nat) (rowC b) (40 : TypeId), AB.row true m (1 : Nat) (rowI bf) (3 : TypeId)] else Res.out Ex.normal [AV.own (1 : Nat) m, AV.v (Value.int IntKind.i64 sm), AV.own (2 : Nat) m, AV.v (Value.int IntKind.i64 (↑m : Int)), AV.v (Value.int IntKind.i64 (IntKind.wrap IntKind.i64 ((↑i : Int) + (1 : Int))))] [AB.row false n (8 : Nat) g t, AB.row true m (8 : Nat) (rowC b) (40 : TypeId), AB.row true m (1 : Nat) (rowI bf) (3 : TypeId)] else Res.out Ex.normal [AV.own (1 : Nat) m, AV.v (Value.int IntKind.i64 sm), AV.own (2 : Nat) m, AV.v (Value.int IntKind.i64 (↑m : Int)), AV.v (Value.int IntKind.i64 (IntKind.wrap IntKind.i64 ((↑i : Int) + (1 : Int))))] [AB.row false n (8 : Nat) g t, AB.row true m (8 : Nat) (rowC b) (40 : TypeId), AB.row true m (1 : Nat) (rowI bf) (3 : TypeId)] else Res.out Ex.normal [AV.own (1 : Nat) m, AV.v (Value.int IntKind.i64 sm), AV.own (2 : Nat) m, AV.v (Value.int IntKind.i64 (↑m : Int)), AV.v (Value.int IntKind.i64 (IntKind.wrap IntKind.i64 ((↑i : Int) + (1 : Int))))] [AB.row false n (8 : Nat) g t, AB.row true m (8 : Nat) (rowC b) (40 : TypeId), AB.row true m (1 : Nat) (rowI bf) (3 : TypeId)]) else bif bf (Int.toNat (↑i : Int)) == (1 : Int) then bif !up (w8 (b (Int.toNat (Int.tmod (IntKind.wrap IntKind.i64 (IntKind.wrap IntKind.i64 ((↑i : Int) + (↑m : Int)) - (1 : Int))) (↑m : Int))))) then bif up (w8 (b (Int.toNat (↑i : Int)))) then Res.out Ex.normal [AV.own (1 : Nat) m, AV.v (Value.int IntKind.i64 (IntKind.wrap IntKind.i64 (sm + (1 : Int)))), AV.own (2 : Nat) m, AV.v (Value.int IntKind.i64 (↑m : Int)), AV.v (Value.int IntKind.i64 (IntKind.wrap IntKind.i64 ((↑i : Int) + (1 : Int))))] [AB.row false n (8 : Nat) g t, AB.row true m (8 : Nat) (rowC b) (40 : TypeId), AB.row true m (1 : Nat) (rowI bf) (3 : TypeId)] else bif bf (Int.toNat (↑i : Int)) == (-1 : Int) then bif up (w8 (b (Int.toNat (Int.tmod (IntKind.wrap IntKind.i64 (IntKind.wrap IntKind.i64 ((↑i : Int) + (↑m : Int)) - (1 : Int))) (↑m : Int))))) then bif !up (w8 (b (Int.toNat (↑i : Int)))) then Res.out Ex.normal [AV.own (1 : Nat) m, AV.v (Value.int IntKind.i64 (IntKind.wrap IntKind.i64 (sm - (1 : Int)))), AV.own (2 : Nat) m, AV.v (Value.int IntKind.i64 (↑m : Int)), AV.v (Value.int IntKind.i64 (IntKind.wrap IntKind.i64 ((↑i : Int) + (1 : Int))))] [AB.row false n (8 : Nat) g t, AB.row true m (8 : Nat) (rowC b) (40 : TypeId), AB.row true m (1 : Nat) (rowI bf) (3 : TypeId)] else Res.out Ex.normal [AV.own (1 : Nat) m, AV.v (Value.int IntKind.i64 sm), AV.own (2 : Nat) m, AV.v (Value.int IntKind.i64 (↑m : Int)), AV.v (Value.int IntKind.i64 (IntKind.wrap IntKind.i64 ((↑i : Int) + (1 : Int))))] [AB.row false n (8 : Nat) g t, AB.row true m (8 : Nat) (rowC b) (40 : TypeId), AB.row true m (1 : Nat) (rowI bf) (3 : TypeId)] else Res.out Ex.normal [AV.own (1 : Nat) m, AV.v (Value.int IntKind.i64 sm), AV.own (2 : Nat) m, AV.v (Value.int IntKind.i64 (↑m : Int)), AV.v (Value.int IntKind.i64 (IntKind.wrap IntKind.i64 ((↑i : Int) + (1 : Int))))] [AB.row false n (8 : Nat) g t, AB.row true m (8 : Nat) (rowC b) (40 : TypeId), AB.row true m (1 : Nat) (rowI bf) (3 : TypeId)] else Res.out Ex.normal [AV.own (1 : Nat) m, AV.v (Value.int IntKind.i64 sm), AV.own (2 : Nat) m, AV.v (Value.int IntKind.i64 (↑m : Int)), AV.v (Value.int IntKind.i64 (IntKind.wrap IntKind.i64 ((↑i : Int) + (1 : Int))))] [AB.row false n (8 : Nat) g t, AB.row true m (8 : Nat) (rowC b) (40 : TypeId), AB.row true m (1 : Nat) (rowI bf) (3 : TypeId)] else bif bf (Int.toNat (↑i : Int)) == (-1 : Int) then bif up (w8 (b (Int.toNat (Int.tmod (IntKind.wrap IntKind.i64 (IntKind.wrap IntKind.i64 ((↑i : Int) + (↑m : Int)) - (1 : Int))) (↑m : Int))))) then bif !up (w8 (b (Int.toNat (↑i : Int)))) then Res.out Ex.normal [AV.own (1 : Nat) m, AV.v (Value.int IntKind.i64 (IntKind.wrap IntKind.i64 (sm - (1 : Int)))), AV.own (2 : Nat) m, AV.v (Value.int IntKind.i64 (↑m : Int)), AV.v (Value.int IntKind.i64 (IntKind.wrap IntKind.i64 ((↑i : Int) + (1 : Int))))] [AB.row false n (8 : Nat) g t, AB.row true m (8 : Nat) (rowC b) (40 : TypeId), AB.row true m (1 : Nat) (rowI bf) (3 : TypeId)] else Res.out Ex.normal [AV.own (1 : Nat) m, AV.v (Value.int IntKind.i64 sm), AV.own (2 : Nat) m, AV.v (Value.int IntKind.i64 (↑m : Int)), AV.v (Value.int IntKind.i64 (IntKind.wrap IntKind.i64 ((↑i : Int) + (1 : Int))))] [AB.row false n (8 : Nat) g t, AB.row true m (8 : Nat) (rowC b) (40 : TypeId), AB.row true m (1 : Nat) (rowI bf) (3 : TypeId)] else Res.out Ex.normal [AV.own (1 : Nat) m, AV.v (Value.int IntKind.i64 sm), AV.own (2 : Nat) m, AV.v (Value.int IntKind.i64 (↑m : Int)), AV.v (Value.int IntKind.i64 (IntKind.wrap IntKind.i64 ((↑i : Int) + (1 : Int))))] [AB.row false n (8 : Nat) g t, AB.row true m (8 : Nat) (rowC b) (40 : TypeId), AB.row true m (1 : Nat) (rowI bf) (3 : TypeId)] else Res.out Ex.normal [AV.own (1 : Nat) m, AV.v (Value.int IntKind.i64 sm), AV.own (2 : Nat) m, AV.v (Value.int IntKind.i64 (↑m : Int)), AV.v (Value.int IntKind.i64 (IntKind.wrap IntKind.i64 ((↑i : Int) + (1 : Int))))] [AB.row false n (8 : Nat) g t, AB.row true m (8 : Nat) (rowC b) (40 : TypeId), AB.row true m (1 : Nat) (rowI bf) (3 : TypeId)] else bif bf (Int.toNat (↑i : Int)) == (-1 : Int) then bif up (w8 (b (Int.toNat (Int.tmod (IntKind.wrap IntKind.i64 (IntKind.wrap IntKind.i64 ((↑i : Int) + (↑m : Int)) - (1 : Int))) (↑m : Int))))) then bif !up (w8 (b (Int.toNat (↑i : Int)))) then Res.out Ex.normal [AV.own (1 : Nat) m, AV.v (Value.int IntKind.i64 (IntKind.wrap IntKind.i64 (sm - (1 : Int)))), AV.own (2 : Nat) m, AV.v (Value.int IntKind.i64 (↑m : Int)), AV.v (Value.int IntKind.i64 (IntKind.wrap IntKind.i64 ((↑i : Int) + (1 : Int))))] [AB.row false n (8 : Nat) g t, AB.row true m (8 : Nat) (rowC b) (40 : TypeId), AB.row true m (1 : Nat) (rowI bf) (3 : TypeId)] else Res.out Ex.normal [AV.own (1 : Nat) m, AV.v (Value.int IntKind.i64 sm), AV.own (2 : Nat) m, AV.v (Value.int IntKind.i64 (↑m : Int)), AV.v (Value.int IntKind.i64 (IntKind.wrap IntKind.i64 ((↑i : Int) + (1 : Int))))] [AB.row false n (8 : Nat) g t, AB.row true m (8 : Nat) (rowC b) (40 : TypeId), AB.row true m (1 : Nat) (rowI bf) (3 : TypeId)] else Res.out Ex.normal [AV.own (1 : Nat) m, AV.v (Value.int IntKind.i64 sm), AV.own (2 : Nat) m, AV.v (Value.int IntKind.i64 (↑m : Int)), AV.v (Value.int IntKind.i64 (IntKind.wrap IntKind.i64 ((↑i : Int) + (1 : Int))))] [AB.row false n (8 : Nat) g t, AB.row true m (8 : Nat) (rowC b) (40 : TypeId), AB.row true m (1 : Nat) (rowI bf) (3 : TypeId)] else Res.out Ex.normal [AV.own (1 : Nat) m, AV.v (Value.int IntKind.i64 sm), AV.own (2 : Nat) m, AV.v (Value.int IntKind.i64 (↑m : Int)), AV.v (Value.int IntKind.i64 (IntKind.wrap IntKind.i64 ((↑i : Int) + (1 : Int))))] [AB.row false n (8 : Nat) g t, AB.row true m (8 : Nat) (rowC b) (40 : TypeId), AB.row true m (1 : Nat) (rowI bf) (3 : TypeId)]) else Res.out (Ex.exit (0 : Nat)) [AV.v (Value.int IntKind.i64 sm)] [AB.row false n (8 : Nat) g t] := by kernel_rfl

theorem rndTS (up : (Nat → Int) → Bool) (cr : (Nat → Int) → (Nat → Int) → Nat → Int) (mi re : (Nat → Int) → Nat → Int) (ti : (Nat → Int) → (Nat → Int) → Nat → Int) (sg : (Nat → Int) → Int) (ob : Int → Bool) (n : Nat) (g : Nat → List Value) (t : TypeId) (m : Nat) (b : Nat → Nat → Int) (i : Nat) (sm : Int) : execC Try.prog (gmTS up cr mi re ti sg ob) 100 noLam (loopAt 0 Try.f18) (mkT 0 82 ((lvTS .normal).zip [.own 1 m, .v (i64 m), .v (i64 sm), .v (i64 i)])) [.row false n 8 g t, .row true m 8 (rowC b) 40] (leafV 82 lvTS 1)
    = bif decide ((↑i : Int) < (↑m : Int)) then needs [!decide ((↑m : Int) = (0 : Int)), decide ((0 : Int) ≤ Int.tmod (IntKind.wrap IntKind.i64 (IntKind.wrap IntKind.i64 ((↑i : Int) + (↑m : Int)) - (1 : Int))) (↑m : Int)), decide (Int.tmod (IntKind.wrap IntKind.i64 (IntKind.wrap IntKind.i64 ((↑i : Int) + (↑m : Int)) - (1 : Int))) (↑m : Int) < (↑m : Int)), decide (Int.toNat (Int.tmod (IntKind.wrap IntKind.i64 (IntKind.wrap IntKind.i64 ((↑i : Int) + (↑m : Int)) - (1 : Int))) (↑m : Int)) < m), decide ((↑i : Int) < (↑m : Int)), decide (Int.toNat (↑i : Int) < m), ob (cr (w8 (b (Int.toNat (Int.tmod (IntKind.wrap IntKind.i64 (IntKind.wrap IntKind.i64 ((↑i : Int) + (↑m : Int)) - (1 : Int))) (↑m : Int))))) (w8 (b (Int.toNat (↑i : Int)))) (0 : Nat)), ob (cr (w8 (b (Int.toNat (Int.tmod (IntKind.wrap IntKind.i64 (IntKind.wrap IntKind.i64 ((↑i : Int) + (↑m : Int)) - (1 : Int))) (↑m : Int))))) (w8 (b (Int.toNat (↑i : Int)))) (1 : Nat)), ob (cr (w8 (b (Int.toNat (Int.tmod (IntKind.wrap IntKind.i64 (IntKind.wrap IntKind.i64 ((↑i : Int) + (↑m : Int)) - (1 : Int))) (↑m : Int))))) (w8 (b (Int.toNat (↑i : Int)))) (2 : Nat)), ob (cr (w8 (b (Int.toNat (Int.tmod (IntKind.wrap IntKind.i64 (IntKind.wrap IntKind.i64 ((↑i : Int) + (↑m : Int)) - (1 : Int))) (↑m : Int))))) (w8 (b (Int.toNat (↑i : Int)))) (3 : Nat)), ob (re (w8 (ti (w8 (mi (w8 (b (Int.toNat (Int.tmod (IntKind.wrap IntKind.i64 (IntKind.wrap IntKind.i64 ((↑i : Int) + (↑m : Int)) - (1 : Int))) (↑m : Int))))))) (w8 (b (Int.toNat (↑i : Int)))))) (0 : Nat)), ob (re (w8 (ti (w8 (mi (w8 (b (Int.toNat (Int.tmod (IntKind.wrap IntKind.i64 (IntKind.wrap IntKind.i64 ((↑i : Int) + (↑m : Int)) - (1 : Int))) (↑m : Int))))))) (w8 (b (Int.toNat (↑i : Int)))))) (1 : Nat)), ob (re (w8 (ti (w8 (mi (w8 (b (Int.toNat (Int.tmod (IntKind.wrap IntKind.i64 (IntKind.wrap IntKind.i64 ((↑i : Int) + (↑m : Int)) - (1 : Int))) (↑m : Int))))))) (w8 (b (Int.toNat (↑i : Int)))))) (2 : Nat)), ob (re (w8 (ti (w8 (mi (w8 (b (Int.toNat (Int.tmod (IntKind.wrap IntKind.i64 (IntKind.wrap IntKind.i64 ((↑i : Int) + (↑m : Int)) - (1 : Int))) (↑m : Int))))))) (w8 (b (Int.toNat (↑i : Int)))))) (3 : Nat))] (bif sg (w4 (cr (w8 (b (Int.toNat (Int.tmod (IntKind.wrap IntKind.i64 (IntKind.wrap IntKind.i64 ((↑i : Int) + (↑m : Int)) - (1 : Int))) (↑m : Int))))) (w8 (b (Int.toNat (↑i : Int)))))) == (0 : Int) then bif decide (sg (w4 (re (w8 (ti (w8 (mi (w8 (b (Int.toNat (Int.tmod (IntKind.wrap IntKind.i64 (IntKind.wrap IntKind.i64 ((↑i : Int) + (↑m : Int)) - (1 : Int))) (↑m : Int))))))) (w8 (b (Int.toNat (↑i : Int)))))))) ≤ (0 : Int)) then Res.out Ex.ret [AV.v (Value.int IntKind.i64 (0 : Int)), AV.v (Value.bool false)] [AB.row false n (8 : Nat) g t] else bif decide (sg (w4 (cr (w8 (b (Int.toNat (Int.tmod (IntKind.wrap IntKind.i64 (IntKind.wrap IntKind.i64 ((↑i : Int) + (↑m : Int)) - (1 : Int))) (↑m : Int))))) (w8 (b (Int.toNat (↑i : Int)))))) > (0 : Int)) then bif !up (w8 (b (Int.toNat (Int.tmod (IntKind.wrap IntKind.i64 (IntKind.wrap IntKind.i64 ((↑i : Int) + (↑m : Int)) - (1 : Int))) (↑m : Int))))) then bif up (w8 (b (Int.toNat (↑i : Int)))) then Res.out Ex.normal [AV.own (1 : Nat) m, AV.v (Value.int IntKind.i64 (↑m : Int)), AV.v (Value.int IntKind.i64 (IntKind.wrap IntKind.i64 (sm + (1 : Int)))), AV.v (Value.int IntKind.i64 (IntKind.wrap IntKind.i64 ((↑i : Int) + (1 : Int))))] [AB.row false n (8 : Nat) g t, AB.row true m (8 : Nat) (rowC b) (40 : TypeId)] else bif decide (sg (w4 (cr (w8 (b (Int.toNat (Int.tmod (IntKind.wrap IntKind.i64 (IntKind.wrap IntKind.i64 ((↑i : Int) + (↑m : Int)) - (1 : Int))) (↑m : Int))))) (w8 (b (Int.toNat (↑i : Int)))))) < (0 : Int)) then bif up (w8 (b (Int.toNat (Int.tmod (IntKind.wrap IntKind.i64 (IntKind.wrap IntKind.i64 ((↑i : Int) + (↑m : Int)) - (1 : Int))) (↑m : Int))))) then bif !up (w8 (b (Int.toNat (↑i : Int)))) then Res.out Ex.normal [AV.own (1 : Nat) m, AV.v (Value.int IntKind.i64 (↑m : Int)), AV.v (Value.int IntKind.i64 (IntKind.wrap IntKind.i64 (sm - (1 : Int)))), AV.v (Value.int IntKind.i64 (IntKind.wrap IntKind.i64 ((↑i : Int) + (1 : Int))))] [AB.row false n (8 : Nat) g t, AB.row true m (8 : Nat) (rowC b) (40 : TypeId)] else Res.out Ex.normal [AV.own (1 : Nat) m, AV.v (Value.int IntKind.i64 (↑m : Int)), AV.v (Value.int IntKind.i64 sm), AV.v (Value.int IntKind.i64 (IntKind.wrap IntKind.i64 ((↑i : Int) + (1 : Int))))] [AB.row false n (8 : Nat) g t, AB.row true m (8 : Nat) (rowC b) (40 : TypeId)] else Res.out Ex.normal [AV.own (1 : Nat) m, AV.v (Value.int IntKind.i64 (↑m : Int)), AV.v (Value.int IntKind.i64 sm), AV.v (Value.int IntKind.i64 (IntKind.wrap IntKind.i64 ((↑i : Int) + (1 : Int))))] [AB.row false n (8 : Nat) g t, AB.row true m (8 : Nat) (rowC b) (40 : TypeId)] else Res.out Ex.normal [AV.own (1 : Nat) m, AV.v (Value.int IntKind.i64 (↑m : Int)), AV.v (Value.int IntKind.i64 sm), AV.v (Value.int IntKind.i64 (IntKind.wrap IntKind.i64 ((↑i : Int) + (1 : Int))))] [AB.row false n (8 : Nat) g t, AB.row true m (8 : Nat) (rowC b) (40 : TypeId)] else bif decide (sg (w4 (cr (w8 (b (Int.toNat (Int.tmod (IntKind.wrap IntKind.i64 (IntKind.wrap IntKind.i64 ((↑i : Int) + (↑m : Int)) - (1 : Int))) (↑m : Int))))) (w8 (b (Int.toNat (↑i : Int)))))) < (0 : Int)) then bif up (w8 (b (Int.toNat (Int.tmod (IntKind.wrap IntKind.i64 (IntKind.wrap IntKind.i64 ((↑i : Int) + (↑m : Int)) - (1 : Int))) (↑m : Int))))) then bif !up (w8 (b (Int.toNat (↑i : Int)))) then Res.out Ex.normal [AV.own (1 : Nat) m, AV.v (Value.int IntKind.i64 (↑m : Int)), AV.v (Value.int IntKind.i64 (IntKind.wrap IntKind.i64 (sm - (1 : Int)))), AV.v (Value.int IntKind.i64 (IntKind.wrap IntKind.i64 ((↑i : Int) + (1 : Int))))] [AB.row false n (8 : Nat) g t, AB.row true m (8 : Nat) (rowC b) (40 : TypeId)] else Res.out Ex.normal [AV.own (1 : Nat) m, AV.v (Value.int IntKind.i64 (↑m : Int)), AV.v (Value.int IntKind.i64 sm), AV.v (Value.int IntKind.i64 (IntKind.wrap IntKind.i64 ((↑i : Int) + (1 : Int))))] [AB.row false n (8 : Nat) g t, AB.row true m (8 : Nat) (rowC b) (40 : TypeId)] else Res.out Ex.normal [AV.own (1 : Nat) m, AV.v (Value.int IntKind.i64 (↑m : Int)), AV.v (Value.int IntKind.i64 sm), AV.v (Value.int IntKind.i64 (IntKind.wrap IntKind.i64 ((↑i : Int) + (1 : Int))))] [AB.row false n (8 : Nat) g t, AB.row true m (8 : Nat) (rowC b) (40 : TypeId)] else Res.out Ex.normal [AV.own (1 : Nat) m, AV.v (Value.int IntKind.i64 (↑m : Int)), AV.v (Value.int IntKind.i64 sm), AV.v (Value.int IntKind.i64 (IntKind.wrap IntKind.i64 ((↑i : Int) + (1 : Int))))] [AB.row false n (8 : Nat) g t, AB.row true m (8 : Nat) (rowC b) (40 : TypeId)] else bif decide (sg (w4 (cr (w8 (b (Int.toNat (Int.tmod (IntKind.wrap IntKind.i64 (IntKind.wrap IntKind.i64 ((↑i : Int) + (↑m : Int)) - (1 : Int))) (↑m : Int))))) (w8 (b (Int.toNat (↑i : Int)))))) < (0 : Int)) then bif up (w8 (b (Int.toNat (Int.tmod (IntKind.wrap IntKind.i64 (IntKind.wrap IntKind.i64 ((↑i : Int) + (↑m : Int)) - (1 : Int))) (↑m : Int))))) then bif !up (w8 (b (Int.toNat (↑i : Int)))) then Res.out Ex.normal [AV.own (1 : Nat) m, AV.v (Value.int IntKind.i64 (↑m : Int)), AV.v (Value.int IntKind.i64 (IntKind.wrap IntKind.i64 (sm - (1 : Int)))), AV.v (Value.int IntKind.i64 (IntKind.wrap IntKind.i64 ((↑i : Int) + (1 : Int))))] [AB.row false n (8 : Nat) g t, AB.row true m (8 : Nat) (rowC b) (40 : TypeId)] else Res.out Ex.normal [AV.own (1 : Nat) m, AV.v (Value.int IntKind.i64 (↑m : Int)), AV.v (Value.int IntKind.i64 sm), AV.v (Value.int IntKind.i64 (IntKind.wrap IntKind.i64 ((↑i : Int) + (1 : Int))))] [AB.row false n (8 : Nat) g t, AB.row true m (8 : Nat) (rowC b) (40 : TypeId)] else Res.out Ex.normal [AV.own (1 : Nat) m, AV.v (Value.int IntKind.i64 (↑m : Int)), AV.v (Value.int IntKind.i64 sm), AV.v (Value.int IntKind.i64 (IntKind.wrap IntKind.i64 ((↑i : Int) + (1 : Int))))] [AB.row false n (8 : Nat) g t, AB.row true m (8 : Nat) (rowC b) (40 : TypeId)] else Res.out Ex.normal [AV.own (1 : Nat) m, AV.v (Value.int IntKind.i64 (↑m : Int)), AV.v (Value.int IntKind.i64 sm), AV.v (Value.int IntKind.i64 (IntKind.wrap IntKind.i64 ((↑i : Int) + (1 : Int))))] [AB.row false n (8 : Nat) g t, AB.row true m (8 : Nat) (rowC b) (40 : TypeId)] else bif decide (sg (w4 (cr (w8 (b (Int.toNat (Int.tmod (IntKind.wrap IntKind.i64 (IntKind.wrap IntKind.i64 ((↑i : Int) + (↑m : Int)) - (1 : Int))) (↑m : Int))))) (w8 (b (Int.toNat (↑i : Int)))))) > (0 : Int)) then bif !up (w8 (b (Int.toNat (Int.tmod (IntKind.wrap IntKind.i64 (IntKind.wrap IntKind.i64 ((↑i : Int) + (↑m : Int)) - (1 : Int))) (↑m : Int))))) then bif up (w8 (b (Int.toNat (↑i : Int)))) then Res.out Ex.normal [AV.own (1 : Nat) m, AV.v (Value.int IntKind.i64 (↑m : Int)), AV.v (Value.int IntKind.i64 (IntKind.wrap IntKind.i64 (sm + (1 : Int)))), AV.v (Value.int IntKind.i64 (IntKind.wrap IntKind.i64 ((↑i : Int) + (1 : Int))))] [AB.row false n (8 : Nat) g t, AB.row true m (8 : Nat) (rowC b) (40 : TypeId)] else bif decide (sg (w4 (cr (w8 (b (Int.toNat (Int.tmod (IntKind.wrap IntKind.i64 (IntKind.wrap IntKind.i64 ((↑i : Int) + (↑m : Int)) - (1 : Int))) (↑m : Int))))) (w8 (b (Int.toNat (↑i : Int)))))) < (0 : Int)) then bif up (w8 (b (Int.toNat (Int.tmod (IntKind.wrap IntKind.i64 (IntKind.wrap IntKind.i64 ((↑i : Int) + (↑m : Int)) - (1 : Int))) (↑m : Int))))) then bif !up (w8 (b (Int.toNat (↑i : Int)))) then Res.out Ex.normal [AV.own (1 : Nat) m, AV.v (Value.int IntKind.i64 (↑m : Int)), AV.v (Value.int IntKind.i64 (IntKind.wrap IntKind.i64 (sm - (1 : Int)))), AV.v (Value.int IntKind.i64 (IntKind.wrap IntKind.i64 ((↑i : Int) + (1 : Int))))] [AB.row false n (8 : Nat) g t, AB.row true m (8 : Nat) (rowC b) (40 : TypeId)] else Res.out Ex.normal [AV.own (1 : Nat) m, AV.v (Value.int IntKind.i64 (↑m : Int)), AV.v (Value.int IntKind.i64 sm), AV.v (Value.int IntKind.i64 (IntKind.wrap IntKind.i64 ((↑i : Int) + (1 : Int))))] [AB.row false n (8 : Nat) g t, AB.row true m (8 : Nat) (rowC b) (40 : TypeId)] else Res.out Ex.normal [AV.own (1 : Nat) m, AV.v (Value.int IntKind.i64 (↑m : Int)), AV.v (Value.int IntKind.i64 sm), AV.v (Value.int IntKind.i64 (IntKind.wrap IntKind.i64 ((↑i : Int) + (1 : Int))))] [AB.row false n (8 : Nat) g t, AB.row true m (8 : Nat) (rowC b) (40 : TypeId)] else Res.out Ex.normal [AV.own (1 : Nat) m, AV.v (Value.int IntKind.i64 (↑m : Int)), AV.v (Value.int IntKind.i64 sm), AV.v (Value.int IntKind.i64 (IntKind.wrap IntKind.i64 ((↑i : Int) + (1 : Int))))] [AB.row false n (8 : Nat) g t, AB.row true m (8 : Nat) (rowC b) (40 : TypeId)] else bif decide (sg (w4 (cr (w8 (b (Int.toNat (Int.tmod (IntKind.wrap IntKind.i64 (IntKind.wrap IntKind.i64 ((↑i : Int) + (↑m : Int)) - (1 : Int))) (↑m : Int))))) (w8 (b (Int.toNat (↑i : Int)))))) < (0 : Int)) then bif up (w8 (b (Int.toNat (Int.tmod (IntKind.wrap IntKind.i64 (IntKind.wrap IntKind.i64 ((↑i : Int) + (↑m : Int)) - (1 : Int))) (↑m : Int))))) then bif !up (w8 (b (Int.toNat (↑i : Int)))) then Res.out Ex.normal [AV.own (1 : Nat) m, AV.v (Value.int IntKind.i64 (↑m : Int)), AV.v (Value.int IntKind.i64 (IntKind.wrap IntKind.i64 (sm - (1 : Int)))), AV.v (Value.int IntKind.i64 (IntKind.wrap IntKind.i64 ((↑i : Int) + (1 : Int))))] [AB.row false n (8 : Nat) g t, AB.row true m (8 : Nat) (rowC b) (40 : TypeId)] else Res.out Ex.normal [AV.own (1 : Nat) m, AV.v (Value.int IntKind.i64 (↑m : Int)), AV.v (Value.int IntKind.i64 sm), AV.v (Value.int IntKind.i64 (IntKind.wrap IntKind.i64 ((↑i : Int) + (1 : Int))))] [AB.row false n (8 : Nat) g t, AB.row true m (8 : Nat) (rowC b) (40 : TypeId)] else Res.out Ex.normal [AV.own (1 : Nat) m, AV.v (Value.int IntKind.i64 (↑m : Int)), AV.v (Value.int IntKind.i64 sm), AV.v (Value.int IntKind.i64 (IntKind.wrap IntKind.i64 ((↑i : Int) + (1 : Int))))] [AB.row false n (8 : Nat) g t, AB.row true m (8 : Nat) (rowC b) (40 : TypeId)] else Res.out Ex.normal [AV.own (1 : Nat) m, AV.v (Value.int IntKind.i64 (↑m : Int)), AV.v (Value.int IntKind.i64 sm), AV.v (Value.int IntKind.i64 (IntKind.wrap IntKind.i64 ((↑i : Int) + (1 : Int))))] [AB.row false n (8 : Nat) g t, AB.row true m (8 : Nat) (rowC b) (40 : TypeId)] else bif decide (sg (w4 (cr (w8 (b (Int.toNat (Int.tmod (IntKind.wrap IntKind.i64 (IntKind.wrap IntKind.i64 ((↑i : Int) + (↑m : Int)) - (1 : Int))) (↑m : Int))))) (w8 (b (Int.toNat (↑i : Int)))))) < (0 : Int)) then bif up (w8 (b (Int.toNat (Int.tmod (IntKind.wrap IntKind.i64 (IntKind.wrap IntKind.i64 ((↑i : Int) + (↑m : Int)) - (1 : Int))) (↑m : Int))))) then bif !up (w8 (b (Int.toNat (↑i : Int)))) then Res.out Ex.normal [AV.own (1 : Nat) m, AV.v (Value.int IntKind.i64 (↑m : Int)), AV.v (Value.int IntKind.i64 (IntKind.wrap IntKind.i64 (sm - (1 : Int)))), AV.v (Value.int IntKind.i64 (IntKind.wrap IntKind.i64 ((↑i : Int) + (1 : Int))))] [AB.row false n (8 : Nat) g t, AB.row true m (8 : Nat) (rowC b) (40 : TypeId)] else Res.out Ex.normal [AV.own (1 : Nat) m, AV.v (Value.int IntKind.i64 (↑m : Int)), AV.v (Value.int IntKind.i64 sm), AV.v (Value.int IntKind.i64 (IntKind.wrap IntKind.i64 ((↑i : Int) + (1 : Int))))] [AB.row false n (8 : Nat) g t, AB.row true m (8 : Nat) (rowC b) (40 : TypeId)] else Res.out Ex.normal [AV.own (1 : Nat) m, AV.v (Value.int IntKind.i64 (↑m : Int)), AV.v (Value.int IntKind.i64 sm), AV.v (Value.int IntKind.i64 (IntKind.wrap IntKind.i64 ((↑i : Int) + (1 : Int))))] [AB.row false n (8 : Nat) g t, AB.row true m (8 : Nat) (rowC b) (40 : TypeId)] else Res.out Ex.normal [AV.own (1 : Nat) m, AV.v (Value.int IntKind.i64 (↑m : Int)), AV.v (Value.int IntKind.i64 sm), AV.v (Value.int IntKind.i64 (IntKind.wrap IntKind.i64 ((↑i : Int) + (1 : Int))))] [AB.row false n (8 : Nat) g t, AB.row true m (8 : Nat) (rowC b) (40 : TypeId)]) else Res.out (Ex.exit (0 : Nat)) [AV.v (Value.int IntKind.i64 sm)] [AB.row false n (8 : Nat) g t] := by kernel_rfl

end Go.Proofs.Ytoligfhcogligaa

/- PolyTurns: its loops. Conditions: what the callees return is left open. -/
namespace Go.Proofs.Ytoligfhcogligaa
open Go.RowKit
set_option maxRecDepth 100000

def sumTo (con : Nat → Int) : Nat → Int
  | 0 => 0
  | n + 1 => sumTo con n + con n

def conT (e1 em u v : Bool) : Int := bif e1 && (!u && v) then 1 else bif em && (u && !v) then -1 else 0
theorem conT_range (e1 em u v : Bool) : conT e1 em u v = 1 ∨ conT e1 em u v = 0 ∨ conT e1 em u v = -1 := by
  cases e1 <;> cases em <;> cases u <;> cases v <;> decide
theorem sumTo_range {con : Nat → Int} (h : ∀ j, con j = 1 ∨ con j = 0 ∨ con j = -1) : ∀ n : Nat, -(n : Int) ≤ sumTo con n ∧ sumTo con n ≤ n
  | 0 => by simp [sumTo]
  | n + 1 => by
    have := sumTo_range h n
    have := h n
    simp only [sumTo]
    omega
def pvI (i m : Nat) : Nat := (i + m - 1) % m
abbrev isZ (f : Nat → Int) : Bool := (f 0 == 0 && (f 1 == 0 && (f 2 == 0 && (f 3 == 0 && (f 4 == 0 && (f 5 == 0 && (f 6 == 0 && (f 7 == 0 && true)))))))) && true

section
variable (up : (Nat → Int) → Bool) (al cr : (Nat → Int) → (Nat → Int) → Nat → Int) (sg : (Nat → Int) → Int) (b : Nat → Nat → Int) (bf : Nat → Int) (m : Nat)
def badIt (i : Nat) : Bool := isZ (b i) || (bf i == 0 && decide (sg (w4 (al (w8 (b (pvI i m))) (w8 (b i)))) < 0))
def conI (i : Nat) : Int := conT (bf i == 1) (bf i == -1) (up (w8 (b (pvI i m)))) (up (w8 (b i)))
def badS (i : Nat) : Bool := sg (w4 (cr (w8 (b (pvI i m))) (w8 (b i)))) == 0 && decide (sg (w4 (al (w8 (b (pvI i m))) (w8 (b i)))) ≤ 0)
def conS (i : Nat) : Int := conT (decide (sg (w4 (cr (w8 (b (pvI i m))) (w8 (b i)))) > 0)) (decide (sg (w4 (cr (w8 (b (pvI i m))) (w8 (b i)))) < 0)) (up (w8 (b (pvI i m)))) (up (w8 (b i)))
end
def outT (slot : Nat) (bad : Nat → Bool) (con : Nat → Int) (m : Nat) (H : List AB) (K : Kont) : Res := cond (noneTo bad m) (K .normal (mkT 0 82 [(slot, .v (i64 (sumTo con m)))]) H) (K .ret (mkT 0 82 [(2, .v (i64 0)), (3, .v (.bool false))]) H)
theorem outT_no {slot : Nat} {bad : Nat → Bool} {con : Nat → Int} {m : Nat} {H : List AB} {K : Kont} {Q : Ex → List AV → List AB → Prop} (h : (outT slot bad con m H K).ok Q) {i : Nat} (hi : i < m) (hb : bad i = true) : (K .ret (mkT 0 82 [(2, .v (i64 0)), (3, .v (.bool false))]) H).ok Q := by
  rw [outT, noneTo_no hi hb] at h
  exact h
theorem outT_yes {slot : Nat} {bad : Nat → Bool} {con : Nat → Int} {m : Nat} {H : List AB} {K : Kont} {Q : Ex → List AV → List AB → Prop} (h : (outT slot bad con m H K).ok Q) (hb : noneTo bad m = true) : (K .normal (mkT 0 82 [(slot, .v (i64 (sumTo con m)))]) H).ok Q := by
  rw [outT, hb] at h
  exact h

theorem sumTIt {up : (Nat → Int) → Bool} {al : (Nat → Int) → (Nat → Int) → Nat → Int} {sg : (Nat → Int) → Int} {ob : Int → Bool} (hΓ : GamOk Try.prog (gmTIt up al sg ob)) (hob : ∀ p q k, ob (al p q k) = true) (n : Nat) (g : Nat → List Value) (t : TypeId) (m : Nat) (b : Nat → Nat → Int) (bf : Nat → Int) (hm : m ≤ 2 ^ 38) :
    SumOk Try.prog 1 (.block 0 (.loop (loopAt 0 Try.f17))) (atS 82 (lvTIt .normal) 1 [.own 1 m, .v (i64 (sumTo (conI up b bf m) 0)), .own 2 m, .v (i64 m), .v (i64 (0 : Nat))] [.row false n 8 g t, .row true m 8 (rowC b) 40, .row true m 1 (rowI bf) 3] (outT 5 (badIt al sg b bf m) (conI up b bf m) m [.row false n 8 g t])) := by
  refine for_at hΓ (n := 100) (m := 1) (lv := lvTIt) (fun i => [.own 1 m, .v (i64 (sumTo (conI up b bf m) i)), .own 2 m, .v (i64 m), .v (i64 i)]) (fun _ => [.row false n 8 g t, .row true m 8 (rowC b) 40, .row true m 1 (rowI bf) 3]) (fun i => noneTo (badIt al sg b bf m) i = true) m (fun _ => noLam) (lv3_ris rfl rfl rfl) (Nat.le_refl _) rfl fun K Q hk i hi him => ⟨noLam_ok _ _ _, ?_⟩
  rw [rndTIt]
  have hr := sumTo_range (con := conI up b bf m) (fun j => conT_range _ _ _ _) i
  refine good_cond (fun h1 => ?_) fun h1 => ?_
  · have h1 := of_decide_eq_true h1
    have h1' : i < m := by omega
    have hml : (i + m - 1) % m < m := Nat.mod_lt _ (by omega)
    have hsm : ∀ c, conI up b bf m i = c → sumTo (conI up b bf m) (i + 1) = sumTo (conI up b bf m) i + c := fun c h => by rw [← h]; rfl
    have fin : ∀ c, badIt al sg b bf m i = false → conI up b bf m i = c → GoodQ (.out .normal [.own 1 m, .v (.int .i64 (sumTo (conI up b bf m) i + c)), .own 2 m, .v (.int .i64 (m : Int)), .v (.int .i64 ((i : Int) + 1))] [.row false n 8 g t, .row true m 8 (rowC b) 40, .row true m 1 (rowI bf) 3]) (RoundV 82 0 lvTIt (fun i => [.own 1 m, .v (i64 (sumTo (conI up b bf m) i)), .own 2 m, .v (i64 m), .v (i64 i)]) (fun _ => [.row false n 8 g t, .row true m 8 (rowC b) 40, .row true m 1 (rowI bf) 3]) (fun s' => s' = i + 1 ∧ i < m ∧ noneTo (badIt al sg b bf m) (i + 1) = true) K Q) := by
      intro c h2 h3
      refine good_out ⟨i + 1, ⟨rfl, h1', noneTo_succ hi h2⟩, ?_, Hsim.refl _⟩
      simp only [hsm c h3]
      rfl
    have bad : badIt al sg b bf m i = true → GoodQ (.out .ret [.v (.int .i64 0), .v (.bool false)] [.row false n 8 g t]) (RoundV 82 0 lvTIt (fun i => [.own 1 m, .v (i64 (sumTo (conI up b bf m) i)), .own 2 m, .v (i64 m), .v (i64 i)]) (fun _ => [.row false n 8 g t, .row true m 8 (rowC b) 40, .row true m 1 (rowI bf) 3]) (fun s' => s' = i + 1 ∧ i < m ∧ noneTo (badIt al sg b bf m) (i + 1) = true) K Q) :=
      fun h2 => good_out ⟨_, Hsim.refl _, outT_no hk h1' h2⟩
    rw [prev_at h1' hm, Int.toNat_natCast, Int.toNat_natCast]
    rw [wr_in (x := (i : Int) + 1) (by omega), wr_in (x := sumTo (conI up b bf m) i + 1) (by omega), wr_in (x := sumTo (conI up b bf m) i - 1) (by omega)]
    have hbd : badIt al sg b bf m i = (((b i 0 == 0 && (b i 1 == 0 && (b i 2 == 0 && (b i 3 == 0 && (b i 4 == 0 && (b i 5 == 0 && (b i 6 == 0 && (b i 7 == 0 && true)))))))) && true) || (bf i == 0 && decide (sg (w4 (al (w8 (b ((i + m - 1) % m))) (w8 (b i)))) < 0))) := rfl
    have hcn : conI up b bf m i = conT (bf i == 1) (bf i == -1) (up (w8 (b ((i + m - 1) % m)))) (up (w8 (b i))) := rfl
    rw [Int.sub_eq_add_neg (a := sumTo (conI up b bf m) i) (b := 1)]
    have fin0 := fin 0
    rw [Int.add_zero] at fin0
    have finp := fin 1
    have finm := fin (-1)
    clear fin
    rw [hbd] at bad
    rw [hbd, hcn] at fin0 finp finm
    clear hbd hcn hsm
    refine good_needs (by simp only [ob_cons, ob_nil, and_true, decide_eq_true_eq, Bool.not_eq_true', decide_eq_false_iff_not]; omega) ?_
    generalize hz : ((b i 0 == 0 && (b i 1 == 0 && (b i 2 == 0 && (b i 3 == 0 && (b i 4 == 0 && (b i 5 == 0 && (b i 6 == 0 && (b i 7 == 0 && true)))))))) && true) = z at *
    generalize decide (sg (w4 (al (w8 (b ((i + m - 1) % m))) (w8 (b i)))) < 0) = ng at *
    generalize up (w8 (b ((i + m - 1) % m))) = u at *
    generalize up (w8 (b i)) = v at *
    generalize (bf i == 0) = e0 at *
    generalize (bf i == 1) = e1 at *
    generalize (bf i == -1) = em at *
    clear hz
    cases z <;> cases e0 <;> cases ng <;> cases e1 <;> cases em <;> cases u <;> cases v <;>
      first
      | exact bad rfl
      | exact fin0 rfl rfl
      | exact finp rfl rfl
      | exact finm rfl rfl
      | exact good_needs (by simp only [hob, ob_cons, ob_nil, and_self]) (bad rfl)
      | exact good_needs (by simp only [hob, ob_cons, ob_nil, and_self]) (fin0 rfl rfl)
      | exact good_needs (by simp only [hob, ob_cons, ob_nil, and_self]) (finp rfl rfl)
      | exact good_needs (by simp only [hob, ob_cons, ob_nil, and_self]) (finm rfl rfl)
  · have h1 := of_decide_eq_false h1
    have : i = m := by omega
    subst this
    refine good_out ⟨_, Hsim.refl _, ?_⟩
    rw [if_pos rfl]
    exact outT_yes hk hi

theorem sumTS {up : (Nat → Int) → Bool} {cr : (Nat → Int) → (Nat → Int) → Nat → Int} {mi re : (Nat → Int) → Nat → Int} {ti : (Nat → Int) → (Nat → Int) → Nat → Int} {sg : (Nat → Int) → Int} {ob : Int → Bool} (hΓ : GamOk Try.prog (gmTS up cr mi re ti sg ob)) (hob : ∀ p q k, ob (cr p q k) = true) (hob2 : ∀ p k, ob (re p k) = true) (n : Nat) (g : Nat → List Value) (t : TypeId) (m : Nat) (b : Nat → Nat → Int) (hm : m ≤ 2 ^ 38) :
    SumOk Try.prog 1 (.block 0 (.loop (loopAt 0 Try.f18))) (atS 82 (lvTS .normal) 1 [.own 1 m, .v (i64 m), .v (i64 (sumTo (conS up cr sg b m) 0)), .v (i64 (0 : Nat))] [.row false n 8 g t, .row true m 8 (rowC b) 40] (outT 6 (badS (fun p q => re (w8 (ti (w8 (mi p)) q))) cr sg b m) (conS up cr sg b m) m [.row false n 8 g t])) := by
  refine for_at hΓ (n := 100) (m := 1) (lv := lvTS) (fun i => [.own 1 m, .v (i64 m), .v (i64 (sumTo (conS up cr sg b m) i)), .v (i64 i)]) (fun _ => [.row false n 8 g t, .row true m 8 (rowC b) 40]) (fun i => noneTo (badS (fun p q => re (w8 (ti (w8 (mi p)) q))) cr sg b m) i = true) m (fun _ => noLam) (lv3_ris rfl rfl rfl) (Nat.le_refl _) rfl fun K Q hk i hi him => ⟨noLam_ok _ _ _, ?_⟩
  rw [rndTS]
  have hr := sumTo_range (con := conS up cr sg b m) (fun j => conT_range _ _ _ _) i
  refine good_cond (fun h1 => ?_) fun h1 => ?_
  · have h1 := of_decide_eq_true h1
    have h1' : i < m := by omega
    have hml : (i + m - 1) % m < m := Nat.mod_lt _ (by omega)
    have hsm : ∀ c, conS up cr sg b m i = c → sumTo (conS up cr sg b m) (i + 1) = sumTo (conS up cr sg b m) i + c := fun c h => by rw [← h]; rfl
    have fin : ∀ c, badS (fun p q => re (w8 (ti (w8 (mi p)) q))) cr sg b m i = false → conS up cr sg b m i = c → GoodQ (.out .normal [.own 1 m, .v (.int .i64 (m : Int)), .v (.int .i64 (sumTo (conS up cr sg b m) i + c)), .v (.int .i64 ((i : Int) + 1))] [.row false n 8 g t, .row true m 8 (rowC b) 40]) (RoundV 82 0 lvTS (fun i => [.own 1 m, .v (i64 m), .v (i64 (sumTo (conS up cr sg b m) i)), .v (i64 i)]) (fun _ => [.row false n 8 g t, .row true m 8 (rowC b) 40]) (fun s' => s' = i + 1 ∧ i < m ∧ noneTo (badS (fun p q => re (w8 (ti (w8 (mi p)) q))) cr sg b m) (i + 1) = true) K Q) := by
      intro c h2 h3
      refine good_out ⟨i + 1, ⟨rfl, h1', noneTo_succ hi h2⟩, ?_, Hsim.refl _⟩
      simp only [hsm c h3]
      rfl
    have bad : badS (fun p q => re (w8 (ti (w8 (mi p)) q))) cr sg b m i = true → GoodQ (.out .ret [.v (.int .i64 0), .v (.bool false)] [.row false n 8 g t]) (RoundV 82 0 lvTS (fun i => [.own 1 m, .v (i64 m), .v (i64 (sumTo (conS up cr sg b m) i)), .v (i64 i)]) (fun _ => [.row false n 8 g t, .row true m 8 (rowC b) 40]) (fun s' => s' = i + 1 ∧ i < m ∧ noneTo (badS (fun p q => re (w8 (ti (w8 (mi p)) q))) cr sg b m) (i + 1) = true) K Q) :=
      fun h2 => good_out ⟨_, Hsim.refl _, outT_no hk h1' h2⟩
    rw [prev_at h1' hm, Int.toNat_natCast, Int.toNat_natCast]
    rw [wr_in (x := (i : Int) + 1) (by omega), wr_in (x := sumTo (conS up cr sg b m) i + 1) (by omega), wr_in (x := sumTo (conS up cr sg b m) i - 1) (by omega)]
    have hbd : badS (fun p q => re (w8 (ti (w8 (mi p)) q))) cr sg b m i = (sg (w4 (cr (w8 (b ((i + m - 1) % m))) (w8 (b i)))) == 0 && decide (sg (w4 (re (w8 (ti (w8 (mi (w8 (b ((i + m - 1) % m))))) (w8 (b i)))))) ≤ 0)) := rfl
    have hcn : conS up cr sg b m i = conT (decide (sg (w4 (cr (w8 (b ((i + m - 1) % m))) (w8 (b i)))) > 0)) (decide (sg (w4 (cr (w8 (b ((i + m - 1) % m))) (w8 (b i)))) < 0)) (up (w8 (b ((i + m - 1) % m)))) (up (w8 (b i))) := rfl
    rw [Int.sub_eq_add_neg (a := sumTo (conS up cr sg b m) i) (b := 1)]
    have fin0 := fin 0
    rw [Int.add_zero] at fin0
    have finp := fin 1
    have finm := fin (-1)
    clear fin
    rw [hbd] at bad
    rw [hbd, hcn] at fin0 finp finm
    clear hbd hcn hsm
    refine good_needs (by simp only [ob_cons, ob_nil, hob, hob2, and_true, decide_eq_true_eq, Bool.not_eq_true', decide_eq_false_iff_not]; omega) ?_
    generalize decide (sg (w4 (re (w8 (ti (w8 (mi (w8 (b ((i + m - 1) % m))))) (w8 (b i)))))) ≤ 0) = ng at *
    generalize up (w8 (b ((i + m - 1) % m))) = u at *
    generalize up (w8 (b i)) = v at *
    generalize (sg (w4 (cr (w8 (b ((i + m - 1) % m))) (w8 (b i)))) == 0) = e0 at *
    generalize decide (sg (w4 (cr (w8 (b ((i + m - 1) % m))) (w8 (b i)))) > 0) = e1 at *
    generalize decide (sg (w4 (cr (w8 (b ((i + m - 1) % m))) (w8 (b i)))) < 0) = em at *
    cases e0 <;> cases ng <;> cases e1 <;> cases em <;> cases u <;> cases v <;>
      first
      | exact bad rfl
      | exact fin0 rfl rfl
      | exact finp rfl rfl
      | exact finm rfl rfl
  · have h1 := of_decide_eq_false h1
    have : i = m := by omega
    subst this
    refine good_out ⟨_, Hsim.refl _, ?_⟩
    rw [if_pos rfl]
    exact outT_yes hk hi


end Go.Proofs.Ytoligfhcogligaa

/- Plain algebra: surds make a ring without zero divisors; what is no product of points. No program, no conditions. -/
namespace Go.Proofs.Ytoligfhcogligaa
open Go.RowKit

theorem sq2_zero : ∀ (n : Nat) (x y : Int), x.natAbs ≤ n → x * x = 2 * (y * y) → x = 0 ∧ y = 0 := by
  have zero : ∀ y : Int, 0 = 2 * (y * y) → y = 0 := fun y h => by
    have : y * y = 0 := by omega
    rcases Int.mul_eq_zero.1 this with h | h <;> exact h
  intro n
  induction n with
  | zero =>
    intro x y hx h
    have : x = 0 := by omega
    subst this
    exact ⟨rfl, zero y (by simpa using h)⟩
  | succ n ih =>
    intro x y hx h
    rcases (by omega : x % 2 = 0 ∨ x % 2 = 1) with h1 | h1
    · have hx2 : x = 2 * (x / 2) := by omega
      generalize x / 2 = k at hx2
      subst hx2
      have h2 : y * y = 2 * (k * k) := by grind
      rcases (by omega : y % 2 = 0 ∨ y % 2 = 1) with h3 | h3
      · have hy2 : y = 2 * (y / 2) := by omega
        generalize y / 2 = l at hy2
        subst hy2
        have h4 : k * k = 2 * (l * l) := by grind
        by_cases hk : k = 0
        · subst hk
          have := zero l (by simpa using h4)
          subst this
          exact ⟨rfl, rfl⟩
        · have := ih k l (by omega) h4
          omega
      · exfalso
        have hy : y = 2 * (y / 2) + 1 := by omega
        generalize y / 2 = l at hy
        subst hy
        have : (2 * l + 1) * (2 * l + 1) = 2 * (2 * (l * l) + 2 * l) + 1 := by grind
        omega
    · exfalso
      have hx2 : x = 2 * (x / 2) + 1 := by omega
      generalize x / 2 = k at hx2
      subst hx2
      have : (2 * k + 1) * (2 * k + 1) = 2 * (2 * (k * k) + 2 * k) + 1 := by grind
      omega
theorem root2 {x y : Int} (h : x * x = 2 * (y * y)) : x = 0 ∧ y = 0 := sq2_zero _ x y (Nat.le_refl _) h
theorem l_dom {x y u v : Int} (h1 : x * u + 2 * (y * v) = 0) (h2 : x * v + y * u = 0) : (x = 0 ∧ y = 0) ∨ (u = 0 ∧ v = 0) := by
  have e1 : (x * x - 2 * (y * y)) * u = 0 := by
    have : (x * x - 2 * (y * y)) * u = x * (x * u + 2 * (y * v)) - 2 * y * (x * v + y * u) := by grind
    rw [this, h1, h2]; simp
  have e2 : (x * x - 2 * (y * y)) * v = 0 := by
    have : (x * x - 2 * (y * y)) * v = x * (x * v + y * u) - y * (x * u + 2 * (y * v)) := by grind
    rw [this, h1, h2]; simp
  by_cases hz : x * x - 2 * (y * y) = 0
  · exact .inl (root2 (by omega))
  · rcases Int.mul_eq_zero.1 e1 with h | h
    · exact (hz h).elim
    · rcases Int.mul_eq_zero.1 e2 with h' | h'
      · exact (hz h').elim
      · exact .inr ⟨h, h'⟩
theorem mod3 (x : Int) : x % 3 = 0 ∧ (x * x) % 3 = 0 ∨ x % 3 ≠ 0 ∧ (x * x) % 3 = 1 := by
  rcases (by omega : x % 3 = 0 ∨ x % 3 = 1 ∨ x % 3 = 2) with h | h | h
  · left
    have e : x = 3 * (x / 3) := by omega
    generalize x / 3 = k at e
    subst e
    refine ⟨h, ?_⟩
    have : 3 * k * (3 * k) = 3 * (3 * (k * k)) := by grind
    omega
  · right
    have e : x = 3 * (x / 3) + 1 := by omega
    generalize x / 3 = k at e
    subst e
    refine ⟨by omega, ?_⟩
    have : (3 * k + 1) * (3 * k + 1) = 3 * (3 * (k * k) + 2 * k) + 1 := by grind
    omega
  · right
    have e : x = 3 * (x / 3) + 2 := by omega
    generalize x / 3 = k at e
    subst e
    refine ⟨by omega, ?_⟩
    have : (3 * k + 2) * (3 * k + 2) = 3 * (3 * (k * k) + 4 * k + 1) + 1 := by grind
    omega
theorem prime3 {x y z : Int} (h : x * y = 3 * z) : x % 3 = 0 ∨ y % 3 = 0 := by
  rcases (by omega : x % 3 = 0 ∨ x % 3 = 1 ∨ x % 3 = 2) with h1 | h1 | h1
  · exact .inl h1
  all_goals rcases (by omega : y % 3 = 0 ∨ y % 3 = 1 ∨ y % 3 = 2) with h2 | h2 | h2
  · exact .inr h2
  · exfalso
    have e : x = 3 * (x / 3) + 1 := by omega
    have f : y = 3 * (y / 3) + 1 := by omega
    generalize x / 3 = k at e; generalize y / 3 = l at f
    subst e f
    have : (3 * k + 1) * (3 * l + 1) = 3 * (3 * (k * l) + k + l) + 1 := by grind
    omega
  · exfalso
    have e : x = 3 * (x / 3) + 1 := by omega
    have f : y = 3 * (y / 3) + 2 := by omega
    generalize x / 3 = k at e; generalize y / 3 = l at f
    subst e f
    have : (3 * k + 1) * (3 * l + 2) = 3 * (3 * (k * l) + 2 * k + l) + 2 := by grind
    omega
  · exact .inr h2
  · exfalso
    have e : x = 3 * (x / 3) + 2 := by omega
    have f : y = 3 * (y / 3) + 1 := by omega
    generalize x / 3 = k at e; generalize y / 3 = l at f
    subst e f
    have : (3 * k + 2) * (3 * l + 1) = 3 * (3 * (k * l) + k + 2 * l) + 2 := by grind
    omega
  · exfalso
    have e : x = 3 * (x / 3) + 2 := by omega
    have f : y = 3 * (y / 3) + 2 := by omega
    generalize x / 3 = k at e; generalize y / 3 = l at f
    subst e f
    have : (3 * k + 2) * (3 * l + 2) = 3 * (3 * (k * l) + 2 * k + 2 * l + 1) + 1 := by grind
    omega
theorem k_step {a b c d : Int} (h1 : a * a + 2 * (b * b) = 3 * (c * c + 2 * (d * d))) (h2 : a * b = 3 * (c * d)) : a % 3 = 0 ∧ b % 3 = 0 := by
  have ha := mod3 a
  have hb := mod3 b
  have hp := prime3 h2
  omega
theorem sq_neg (x : Int) : 0 ≤ x * x := by
  rcases Int.le_total 0 x with h | h
  · exact Int.mul_nonneg h h
  · have := Int.mul_nonneg (a := -x) (b := -x) (by omega) (by omega)
    grind
theorem sq_zero {x : Int} (h : x * x = 0) : x = 0 := by rcases Int.mul_eq_zero.1 h with h | h <;> exact h
theorem k_zero : ∀ (n : Nat) (a b c d : Int), a.natAbs + b.natAbs ≤ n → a * a + 2 * (b * b) = 3 * (c * c + 2 * (d * d)) → a * b = 3 * (c * d) → a = 0 ∧ b = 0 ∧ c = 0 ∧ d = 0 := by
  intro n
  have fin : ∀ c d : Int, (0 : Int) = 3 * (c * c + 2 * (d * d)) → c = 0 ∧ d = 0 := fun c d h => by
    have h1 := sq_neg c
    have h2 := sq_neg d
    exact ⟨sq_zero (by omega), sq_zero (by omega)⟩
  induction n with
  | zero =>
    intro a b c d hn h1 h2
    have : a = 0 := by omega
    have : b = 0 := by omega
    subst a b
    have := fin c d (by simpa using h1)
    exact ⟨rfl, rfl, this.1, this.2⟩
  | succ n ih =>
    intro a b c d hn h1 h2
    by_cases hz : a = 0 ∧ b = 0
    · obtain ⟨rfl, rfl⟩ := hz
      have := fin c d (by simpa using h1)
      exact ⟨rfl, rfl, this.1, this.2⟩
    · obtain ⟨ha, hb⟩ := k_step h1 h2
      have ea : a = 3 * (a / 3) := by omega
      have eb : b = 3 * (b / 3) := by omega
      generalize a / 3 = a' at ea
      generalize b / 3 = b' at eb
      subst ea eb
      have g1 : c * c + 2 * (d * d) = 3 * (a' * a' + 2 * (b' * b')) := by grind
      have g2 : c * d = 3 * (a' * b') := by grind
      obtain ⟨hc, hd⟩ := k_step g1 g2
      have ec : c = 3 * (c / 3) := by omega
      have ed : d = 3 * (d / 3) := by omega
      generalize c / 3 = c' at ec
      generalize d / 3 = d' at ed
      subst ec ed
      have := ih a' b' c' d' (by omega) (by grind) (by grind)
      omega
theorem root3 {a b c d : Int} (h1 : a * a + 2 * (b * b) - 3 * (c * c) - 6 * (d * d) = 0) (h2 : 2 * (a * b) - 6 * (c * d) = 0) : a = 0 ∧ b = 0 ∧ c = 0 ∧ d = 0 :=
  k_zero _ a b c d (Nat.le_refl _) (by omega) (by omega)
/-- Surds: a + b r2 + c r3 + d r6. -/
structure Sd where
  a : Int
  b : Int
  c : Int
  d : Int
namespace Sd
theorem ext {x y : Sd} (h0 : x.a = y.a) (h1 : x.b = y.b) (h2 : x.c = y.c) (h3 : x.d = y.d) : x = y := by cases x; cases y; simp_all
instance : Add Sd := ⟨fun s t => ⟨s.a + t.a, s.b + t.b, s.c + t.c, s.d + t.d⟩⟩
instance : Sub Sd := ⟨fun s t => ⟨s.a - t.a, s.b - t.b, s.c - t.c, s.d - t.d⟩⟩
instance : Neg Sd := ⟨fun s => ⟨-s.a, -s.b, -s.c, -s.d⟩⟩
instance : Mul Sd := ⟨fun s t => ⟨s.a * t.a + 2 * (s.b * t.b) + 3 * (s.c * t.c) + 6 * (s.d * t.d), s.a * t.b + s.b * t.a + 3 * (s.c * t.d + s.d * t.c), s.a * t.c + s.c * t.a + 2 * (s.b * t.d + s.d * t.b), s.a * t.d + s.d * t.a + s.b * t.c + s.c * t.b⟩⟩
instance instNC : NatCast Sd := ⟨fun n => ⟨n, 0, 0, 0⟩⟩
instance instOf (n : Nat) : OfNat Sd n := ⟨⟨n, 0, 0, 0⟩⟩
instance : IntCast Sd := ⟨fun n => ⟨n, 0, 0, 0⟩⟩
def pw (s : Sd) : Nat → Sd
  | 0 => 1
  | n + 1 => pw s n * s
instance : HPow Sd Nat Sd := ⟨pw⟩
instance instNS : SMul Nat Sd := ⟨fun n s => (n : Sd) * s⟩
instance instZS : SMul Int Sd := ⟨fun n s => (n : Sd) * s⟩
@[simp] theorem add_a (s t : Sd) : (s + t).a = s.a + t.a := rfl
@[simp] theorem add_b (s t : Sd) : (s + t).b = s.b + t.b := rfl
@[simp] theorem add_c (s t : Sd) : (s + t).c = s.c + t.c := rfl
@[simp] theorem add_d (s t : Sd) : (s + t).d = s.d + t.d := rfl
@[simp] theorem sub_a (s t : Sd) : (s - t).a = s.a - t.a := rfl
@[simp] theorem sub_b (s t : Sd) : (s - t).b = s.b - t.b := rfl
@[simp] theorem sub_c (s t : Sd) : (s - t).c = s.c - t.c := rfl
@[simp] theorem sub_d (s t : Sd) : (s - t).d = s.d - t.d := rfl
@[simp] theorem neg_a (s : Sd) : (-s).a = -s.a := rfl
@[simp] theorem neg_b (s : Sd) : (-s).b = -s.b := rfl
@[simp] theorem neg_c (s : Sd) : (-s).c = -s.c := rfl
@[simp] theorem neg_d (s : Sd) : (-s).d = -s.d := rfl
@[simp] theorem mul_a (s t : Sd) : (s * t).a = s.a * t.a + 2 * (s.b * t.b) + 3 * (s.c * t.c) + 6 * (s.d * t.d) := rfl
@[simp] theorem mul_b (s t : Sd) : (s * t).b = s.a * t.b + s.b * t.a + 3 * (s.c * t.d + s.d * t.c) := rfl
@[simp] theorem mul_c (s t : Sd) : (s * t).c = s.a * t.c + s.c * t.a + 2 * (s.b * t.d + s.d * t.b) := rfl
@[simp] theorem mul_d (s t : Sd) : (s * t).d = s.a * t.d + s.d * t.a + s.b * t.c + s.c * t.b := rfl
@[simp] theorem of_a (n : Nat) : (OfNat.ofNat n : Sd).a = n := rfl
@[simp] theorem of_b (n : Nat) : (OfNat.ofNat n : Sd).b = 0 := rfl
@[simp] theorem of_c (n : Nat) : (OfNat.ofNat n : Sd).c = 0 := rfl
@[simp] theorem of_d (n : Nat) : (OfNat.ofNat n : Sd).d = 0 := rfl
@[simp] theorem z_a : (0 : Sd).a = 0 := rfl
@[simp] theorem z_b : (0 : Sd).b = 0 := rfl
@[simp] theorem z_c : (0 : Sd).c = 0 := rfl
@[simp] theorem z_d : (0 : Sd).d = 0 := rfl
@[simp] theorem o_a : (1 : Sd).a = 1 := rfl
@[simp] theorem o_b : (1 : Sd).b = 0 := rfl
@[simp] theorem o_c : (1 : Sd).c = 0 := rfl
@[simp] theorem o_d : (1 : Sd).d = 0 := rfl
@[simp] theorem f_a : (4 : Sd).a = 4 := rfl
@[simp] theorem f_b : (4 : Sd).b = 0 := rfl
@[simp] theorem f_c : (4 : Sd).c = 0 := rfl
@[simp] theorem f_d : (4 : Sd).d = 0 := rfl
@[simp] theorem nc_a (n : Nat) : (n : Sd).a = n := rfl
@[simp] theorem nc_b (n : Nat) : (n : Sd).b = 0 := rfl
@[simp] theorem nc_c (n : Nat) : (n : Sd).c = 0 := rfl
@[simp] theorem nc_d (n : Nat) : (n : Sd).d = 0 := rfl
@[simp] theorem ic_a (n : Int) : (n : Sd).a = n := rfl
@[simp] theorem ic_b (n : Int) : (n : Sd).b = 0 := rfl
@[simp] theorem ic_c (n : Int) : (n : Sd).c = 0 := rfl
@[simp] theorem ic_d (n : Int) : (n : Sd).d = 0 := rfl
theorem zs (i : Int) (s : Sd) : i • s = (i : Sd) * s := rfl
/-- The class of a ring that is there, at another type. -/
abbrev ringAt {c : Type → Type} (_ : c Dyadic) (α : Type) : Type := c α
instance : ringAt Dyadic.instCommRing Sd where
  natCast := instNC
  ofNat := instOf
  nsmul := instNS
  zsmul := instZS
  npow := inferInstance
  add_zero s := by apply ext <;> simp
  add_comm s t := by apply ext <;> simp <;> grind
  add_assoc s t u := by apply ext <;> simp <;> grind
  mul_assoc s t u := by apply ext <;> simp <;> grind
  mul_one s := by apply ext <;> simp
  one_mul s := by apply ext <;> simp
  left_distrib s t u := by apply ext <;> simp <;> grind
  right_distrib s t u := by apply ext <;> simp <;> grind
  zero_mul s := by apply ext <;> simp
  mul_zero s := by apply ext <;> simp
  pow_zero s := rfl
  pow_succ s n := rfl
  ofNat_succ n := by apply ext <;> simp
  neg_add_cancel s := by apply ext <;> simp <;> grind
  sub_eq_add_neg s t := by apply ext <;> simp <;> grind
  neg_zsmul i s := by simp only [zs]; apply ext <;> simp <;> grind
  zsmul_natCast_eq_nsmul n s := by apply ext <;> rfl
  intCast_neg i := by apply ext <;> simp
  mul_comm s t := by apply ext <;> simp <;> grind
theorem dom {s t : Sd} (h : s * t = 0) : s = 0 ∨ t = 0 := by
  have h1 : (s * t).a = 0 := by rw [h]; rfl
  have h2 : (s * t).b = 0 := by rw [h]; rfl
  have h3 : (s * t).c = 0 := by rw [h]; rfl
  have h4 : (s * t).d = 0 := by rw [h]; rfl
  obtain ⟨A, B, C, D⟩ := s
  obtain ⟨E, F, G, H⟩ := t
  simp at h1 h2 h3 h4
  have e1 : (A * A + 2 * (B * B) - 3 * (C * C) - 6 * (D * D)) * E + 2 * ((2 * (A * B) - 6 * (C * D)) * F) = 0 := by grind
  have e2 : (A * A + 2 * (B * B) - 3 * (C * C) - 6 * (D * D)) * F + (2 * (A * B) - 6 * (C * D)) * E = 0 := by grind
  have e3 : (A * A + 2 * (B * B) - 3 * (C * C) - 6 * (D * D)) * G + 2 * ((2 * (A * B) - 6 * (C * D)) * H) = 0 := by grind
  have e4 : (A * A + 2 * (B * B) - 3 * (C * C) - 6 * (D * D)) * H + (2 * (A * B) - 6 * (C * D)) * G = 0 := by grind
  rcases l_dom e1 e2 with ⟨g1, g2⟩ | ⟨rfl, rfl⟩
  · obtain ⟨rfl, rfl, rfl, rfl⟩ := root3 g1 g2
    exact .inl rfl
  · rcases l_dom e3 e4 with ⟨g1, g2⟩ | ⟨rfl, rfl⟩
    · obtain ⟨rfl, rfl, rfl, rfl⟩ := root3 g1 g2
      exact .inl rfl
    · exact .inr rfl
theorem squares {u v : Sd} (h : u * u + v * v = 0) : u = 0 ∧ v = 0 := by
  have h1 : (u * u + v * v).a = 0 := by rw [h]; rfl
  obtain ⟨A, B, C, D⟩ := u
  obtain ⟨E, F, G, H⟩ := v
  simp at h1
  have := sq_neg A; have := sq_neg B; have := sq_neg C; have := sq_neg D
  have := sq_neg E; have := sq_neg F; have := sq_neg G; have := sq_neg H
  have a1 : A = 0 := sq_zero (by omega)
  have a2 : B = 0 := sq_zero (by omega)
  have a3 : C = 0 := sq_zero (by omega)
  have a4 : D = 0 := sq_zero (by omega)
  have a5 : E = 0 := sq_zero (by omega)
  have a6 : F = 0 := sq_zero (by omega)
  have a7 : G = 0 := sq_zero (by omega)
  have a8 : H = 0 := sq_zero (by omega)
  subst a1 a2 a3 a4 a5 a6 a7 a8
  exact ⟨rfl, rfl⟩
theorem plane {s t u v : Sd} (h1 : s * u + t * v = 0) (h2 : s * v - t * u = 0) : (u = 0 ∧ v = 0) ∨ (s = 0 ∧ t = 0) := by
  have e1 : s * (u * u + v * v) = 0 := by grind
  have e2 : t * (u * u + v * v) = 0 := by grind
  rcases dom e1 with h | h
  · rcases dom e2 with h' | h'
    · exact .inr ⟨h, h'⟩
    · exact .inl (squares h')
  · exact .inl (squares h)
end Sd

def RE (a : Nat → Int) : Sd := ⟨reZ a 0, reZ a 1, reZ a 2, reZ a 3⟩
def IM (a : Nat → Int) : Sd := ⟨imZ a 0, imZ a 1, imZ a 2, imZ a 3⟩
theorem re_cross (a b : Nat → Int) : RE a * RE b + IM a * IM b = 4 * RE (mulZ (mirZ a) b) := by
  apply Sd.ext <;> simp [RE, IM] <;> simp only [reZ, imZ, mulZ, mirZ, convF] <;> grind
theorem im_cross (a b : Nat → Int) : RE a * IM b - IM a * RE b = 4 * IM (mulZ (mirZ a) b) := by
  apply Sd.ext <;> simp [RE, IM] <;> simp only [reZ, imZ, mulZ, mirZ, convF] <;> grind
theorem im_anti (a b : Nat → Int) : IM (mulZ (mirZ b) a) = - IM (mulZ (mirZ a) b) := by
  apply Sd.ext <;> simp [IM] <;> simp only [imZ, mulZ, mirZ, convF] <;> grind
theorem pt_zero {a : Nat → Int} (h : RE a = 0) (h' : IM a = 0) : ∀ k, k < 8 → a k = 0 := by
  have e0 : (RE a).a = 0 := by rw [h]; rfl
  have e1 : (RE a).b = 0 := by rw [h]; rfl
  have e2 : (RE a).c = 0 := by rw [h]; rfl
  have e3 : (RE a).d = 0 := by rw [h]; rfl
  have f0 : (IM a).a = 0 := by rw [h']; rfl
  have f1 : (IM a).b = 0 := by rw [h']; rfl
  have f2 : (IM a).c = 0 := by rw [h']; rfl
  have f3 : (IM a).d = 0 := by rw [h']; rfl
  simp only [RE, IM, reZ, imZ] at e0 e1 e2 e3 f0 f1 f2 f3
  intro k hk
  rcases (by omega : k = 0 ∨ k = 1 ∨ k = 2 ∨ k = 3 ∨ k = 4 ∨ k = 5 ∨ k = 6 ∨ k = 7) with rfl | rfl | rfl | rfl | rfl | rfl | rfl | rfl <;> omega
theorem cross_zero {a b : Nat → Int} (h1 : RE (mulZ (mirZ a) b) = 0) (h2 : IM (mulZ (mirZ a) b) = 0) : (∀ k, k < 8 → b k = 0) ∨ (∀ k, k < 8 → a k = 0) := by
  have g1 := re_cross a b
  have g2 := im_cross a b
  rw [h1] at g1
  rw [h2] at g2
  have z : (4 * 0 : Sd) = 0 := by grind
  rw [z] at g1 g2
  rcases Sd.plane g1 g2 with ⟨x, y⟩ | ⟨x, y⟩
  · exact .inl (pt_zero x y)
  · exact .inr (pt_zero x y)

end Go.Proofs.Ytoligfhcogligaa

/- Plain algebra: crosses of small steps are exact; when they are nothing. No program, no conditions. -/
namespace Go.Proofs.Ytoligfhcogligaa
open Go.RowKit

theorem w4_at (f : Nat → Int) : ∀ k, k < 4 → w4 f k = f k := fun k hk => by
  rcases (by omega : k = 0 ∨ k = 1 ∨ k = 2 ∨ k = 3) with rfl | rfl | rfl | rfl <;> rfl
/-- conj(p) q, for small steps: the machine's product is the true one. -/
theorem prod_exact {p q : Nat → Int} (hp : bd8 200 p) (hq : bd8 200 q) : (∀ k, k < 8 → mulF (mirF (w8 p)) (w8 q) k = mulZ (mirZ p) q k) ∧ bd8 1920000 (mulZ (mirZ p) q) := by
  have h1 : ∀ k, k < 8 → mirF (w8 p) k = mirZ p k := fun k hk => by
    show W (mirZ (w8 p) k) = _
    rw [mir_congr (w8_at p)]
    exact W8 (mir_bd hp) (by omega) k hk
  have hb : bd8 (24 * (2 * 200 * 200)) (mulZ (mirZ p) q) := mul_bd8 (mir_bd hp) hq
  refine ⟨fun k hk => ?_, fun k hk => ?_⟩
  · show W (mulZ (mirF (w8 p)) (w8 q) k) = _
    rw [mul_congr h1 (w8_at q)]
    exact W8 hb (by omega) k hk
  · have := hb k hk
    omega
theorem cross_exact {p q : Nat → Int} (hp : bd8 200 p) (hq : bd8 200 q) : (∀ k, k < 4 → crossW p q k = imZ (mulZ (mirZ p) q) k) ∧ (∀ k, k < 4 → reF (mulF (mirF (w8 p)) (w8 q)) k = reZ (mulZ (mirZ p) q) k) ∧ bd4 11520000 (imZ (mulZ (mirZ p) q)) ∧ bd4 11520000 (reZ (mulZ (mirZ p) q)) := by
  obtain ⟨h1, h2⟩ := prod_exact hp hq
  have hi := im_bd h2
  have hr := re_bd h2
  refine ⟨fun k hk => ?_, fun k hk => ?_, fun k hk => by have := hi k hk; omega, fun k hk => by have := hr k hk; omega⟩
  · show W (imZ (mulF (mirF (w8 p)) (w8 q)) k) = _
    rw [im_congr h1]
    exact W4 hi (by omega) k hk
  · show W (reZ (mulF (mirF (w8 p)) (w8 q)) k) = _
    rw [re_congr h1]
    exact W4 hr (by omega) k hk
theorem sq_le {x B : Int} (h1 : -B ≤ x) (h2 : x ≤ B) : 0 ≤ x * x ∧ x * x ≤ B * B := ⟨sq_neg x, (mul_bd h1 h2 h1 h2).2⟩
/-- No bits are lost. -/
theorem xq_exact {s : Nat → Int} (h : bd4 11520000 s) : xq s = s 0 * s 0 + 2 * (s 1 * s 1) - 3 * (s 2 * s 2) - 6 * (s 3 * s 3) ∧ yq s = 2 * (s 0 * s 1) - 6 * (s 2 * s 3) := by
  have h0 := h 0 (by omega); have h1 := h 1 (by omega); have h2 := h 2 (by omega); have h3 := h 3 (by omega)
  have q0 := sq_le h0.1 h0.2; have q1 := sq_le h1.1 h1.2; have q2 := sq_le h2.1 h2.2; have q3 := sq_le h3.1 h3.2
  have p01 := mul_bd h0.1 h0.2 h1.1 h1.2
  have p23 := mul_bd h2.1 h2.2 h3.1 h3.2
  have e1 : W (2 * s 1) = 2 * s 1 := w64_in (by omega) (by omega)
  have e2 : W (3 * s 2) = 3 * s 2 := w64_in (by omega) (by omega)
  have e3 : W (6 * s 3) = 6 * s 3 := w64_in (by omega) (by omega)
  have e4 : W (2 * s 0) = 2 * s 0 := w64_in (by omega) (by omega)
  have e5 : W (6 * s 2) = 6 * s 2 := w64_in (by omega) (by omega)
  have g1 : 2 * s 1 * s 1 = 2 * (s 1 * s 1) := by grind
  have g2 : 3 * s 2 * s 2 = 3 * (s 2 * s 2) := by grind
  have g3 : 6 * s 3 * s 3 = 6 * (s 3 * s 3) := by grind
  have g4 : 2 * s 0 * s 1 = 2 * (s 0 * s 1) := by grind
  have g5 : 6 * s 2 * s 3 = 6 * (s 2 * s 3) := by grind
  constructor
  · show W (W (W (W (s 0 * s 0) + W (W (2 * s 1) * s 1)) - W (W (3 * s 2) * s 2)) - W (W (6 * s 3) * s 3)) = _
    rw [e1, e2, e3, g1, g2, g3, w64_in (x := s 0 * s 0) (by omega) (by omega), w64_in (x := 2 * (s 1 * s 1)) (by omega) (by omega), w64_in (x := 3 * (s 2 * s 2)) (by omega) (by omega), w64_in (x := 6 * (s 3 * s 3)) (by omega) (by omega),
      w64_in (x := s 0 * s 0 + 2 * (s 1 * s 1)) (by omega) (by omega), w64_in (x := s 0 * s 0 + 2 * (s 1 * s 1) - 3 * (s 2 * s 2)) (by omega) (by omega), w64_in (by omega) (by omega)]
  · show W (W (W (2 * s 0) * s 1) - W (W (6 * s 2) * s 3)) = _
    rw [e4, e5, g4, g5, w64_in (x := 2 * (s 0 * s 1)) (by omega) (by omega), w64_in (x := 6 * (s 2 * s 3)) (by omega) (by omega), w64_in (by omega) (by omega)]
theorem sg2_zero {x y : Int} : sg2 x y = 0 ↔ x = 0 ∧ y = 0 := by
  unfold sg2
  repeat' split
  all_goals omega
/-- A surd of sign 0 is nothing. -/
theorem sgn4_zero {s : Nat → Int} (h : bd4 11520000 s) : sgn4 s = 0 ↔ s 0 = 0 ∧ s 1 = 0 ∧ s 2 = 0 ∧ s 3 = 0 := by
  obtain ⟨ex, ey⟩ := xq_exact h
  have z1 := @sg2_zero (s 0) (s 1)
  have z2 := @sg2_zero (s 2) (s 3)
  have z3 := @sg2_zero (xq s) (yq s)
  have r1 := sg2_range (s 0) (s 1)
  have r2 := sg2_range (s 2) (s 3)
  have r3 := sg2_range (xq s) (yq s)
  constructor
  · intro h0
    unfold sgn4 at h0
    split at h0
    · rename_i hc
      have h1 := z1.1 h0
      have h2 : sg2 (s 2) (s 3) = 0 := by rcases hc with hc | hc <;> omega
      have h2 := z2.1 h2
      exact ⟨h1.1, h1.2, h2.1, h2.2⟩
    · rename_i hc
      split at h0
      · exact (hc (.inr h0)).elim
      · rename_i hc2
        have h3 : sg2 (xq s) (yq s) = 0 := by
          rcases Int.mul_eq_zero.1 h0 with h | h
          · exact (hc2 h).elim
          · exact h
        have h3 := z3.1 h3
        rw [ex, ey] at h3
        exact root3 h3.1 h3.2
  · rintro ⟨h0, h1, h2, h3⟩
    have a1 := z1.2 ⟨h0, h1⟩
    have a2 := z2.2 ⟨h2, h3⟩
    unfold sgn4
    rw [a1, a2]
    rfl
theorem sgn4_w4 (s : Nat → Int) : sgn4 (w4 s) = sgn4 s := rfl
theorem sgn4_congr {s s' : Nat → Int} (h : ∀ k, k < 4 → s k = s' k) : sgn4 s = sgn4 s' := by
  have h0 := h 0 (by omega); have h1 := h 1 (by omega); have h2 := h 2 (by omega); have h3 := h 3 (by omega)
  unfold sgn4
  simp only [xq, yq, h0, h1, h2, h3]
/-- The bend and what is gone along are both nothing: one of the steps is. -/
theorem no_cross {p q : Nat → Int} (hp : bd8 200 p) (hq : bd8 200 q) (h1 : sgn4 (w4 (crossW p q)) = 0) (h2 : sgn4 (w4 (reF (mulF (mirF (w8 p)) (w8 q)))) = 0) : (∀ k, k < 8 → q k = 0) ∨ (∀ k, k < 8 → p k = 0) := by
  obtain ⟨e1, e2, b1, b2⟩ := cross_exact hp hq
  rw [sgn4_w4, sgn4_congr e1, sgn4_zero b1] at h1
  rw [sgn4_w4, sgn4_congr e2, sgn4_zero b2] at h2
  exact cross_zero (Sd.ext h2.1 h2.2.1 h2.2.2.1 h2.2.2.2) (Sd.ext h1.1 h1.2.1 h1.2.2.1 h1.2.2.2)
theorem cross_none {p q : Nat → Int} (hp : bd8 200 p) (hq : bd8 200 q) (h : ∀ k, k < 8 → q k = 0) : sgn4 (w4 (crossW p q)) = 0 ∧ sgn4 (w4 (reF (mulF (mirF (w8 p)) (w8 q)))) = 0 := by
  obtain ⟨e1, e2, b1, b2⟩ := cross_exact hp hq
  have hz : ∀ k, mulZ (mirZ p) q k = mulZ (mirZ p) zeroF k := mul_congr (fun _ _ => rfl) h
  have hz0 : ∀ k, mulZ (mirZ p) zeroF k = 0 := by
    intro k
    unfold mulZ
    split <;> simp [convF, zeroF]
  have hz1 : ∀ k, k < 8 → mulZ (mirZ p) q k = zeroF k := fun k _ => (hz k).trans (hz0 k)
  constructor
  · rw [sgn4_w4, sgn4_congr e1, sgn4_congr (fun k _ => im_congr hz1 k)]
    rfl
  · rw [sgn4_w4, sgn4_congr e2, sgn4_congr (fun k _ => re_congr hz1 k)]
    rfl
end Go.Proofs.Ytoligfhcogligaa

/- PolyTurns of both: what they return. Conditions: a list of points. -/
namespace Go.Proofs.Ytoligfhcogligaa
open Go.RowKit
set_option maxRecDepth 100000

theorem fAl_along : fAl (fun p q => reF (mulF (mirF p) q)) = f_along := by funext vs; unfold fAl f_along; rfl
theorem fAl_cross : fAl (fun p q => imF (mulF (mirF p) q)) = f_l8Cross := by funext vs; unfold fAl f_l8Cross; rfl
theorem fMi_mir : fMi mirF = f_l2Mirror := by funext vs; unfold fMi f_l2Mirror; rfl
theorem fTi_mul : fTi mulF = f_l2Times := by funext vs; unfold fTi f_l2Times; rfl
theorem fRe_re : fRe reF = f_l3Re := by funext vs; unfold fRe f_l3Re; rfl
theorem fRe_re' : fRe reF = f_re := by funext vs; unfold fRe f_re; rfl
theorem fRe_im : fRe imF = f_l3Im := by funext vs; unfold fRe f_l3Im; rfl
theorem fRe_im' : fRe imF = f_im := by funext vs; unfold fRe f_im; rfl
theorem fSn_sgn : fSn sgn4 i64B = f_sgn := by funext vs; unfold fSn f_sgn; rfl

def gmUI (im re : (Nat → Int) → Nat → Int) (sg : (Nat → Int) → Int) (ob : Int → Bool) : Gam := ext (ext (ext g0 73 (specV (fRe im))) 94 (specV (fRe re))) 51 (specV (fSn sg ob))
def gmUS (im re : (Nat → Int) → Nat → Int) (sg : (Nat → Int) → Int) (ob : Int → Bool) : Gam := ext (ext (ext g0 75 (specV (fRe im))) 53 (specV (fRe re))) 44 (specV (fSn sg ob))
theorem gmUI_ok : GamOk Try.prog (gmUI imF reF sgn4 i64B) := ext_ok (ext_ok (ext_ok g0_ok (fRe_im' ▸ ok_im)) (fRe_re' ▸ ok_re)) (fSn_sgn ▸ ok_sign)
theorem gmUS_ok : GamOk Try.prog (gmUS imF reF sgn4 i64B) := ext_ok (ext_ok (ext_ok g0_ok (fRe_im ▸ ok_l3Im)) (fRe_re ▸ ok_l3Re)) (fSn_sgn ▸ ok_l3Sign)

theorem treeUI (im re : (Nat → Int) → Nat → Int) (sg : (Nat → Int) → Int) (ob : Int → Bool) (a : Nat → Int) : execF Try.prog (gmUI im re sg ob) noLam 100 Try.f52 ([cyv a].map .v) [] valK
    = needs [ob (im (w8 a) (0 : Nat)), ob (im (w8 a) (1 : Nat)), ob (im (w8 a) (2 : Nat)), ob (im (w8 a) (3 : Nat))] (bif sg (w4 (im (w8 a))) != (0 : Int) then Res.out Ex.ret [AV.v (Value.bool (decide (sg (w4 (im (w8 a))) > (0 : Int))))] [] else needs [ob (re (w8 a) (0 : Nat)), ob (re (w8 a) (1 : Nat)), ob (re (w8 a) (2 : Nat)), ob (re (w8 a) (3 : Nat))] (Res.out Ex.ret [AV.v (Value.bool (decide (sg (w4 (re (w8 a))) > (0 : Int))))] [])) := by kernel_rfl

theorem treeUS (im re : (Nat → Int) → Nat → Int) (sg : (Nat → Int) → Int) (ob : Int → Bool) (a : Nat → Int) : execF Try.prog (gmUS im re sg ob) noLam 100 Try.f56 ([cyv a].map .v) [] valK
    = needs [ob (im (w8 a) (0 : Nat)), ob (im (w8 a) (1 : Nat)), ob (im (w8 a) (2 : Nat)), ob (im (w8 a) (3 : Nat))] (bif decide (sg (w4 (im (w8 a))) > (0 : Int)) then Res.out Ex.ret [AV.v (Value.bool true)] [] else bif sg (w4 (im (w8 a))) == (0 : Int) then needs [ob (re (w8 a) (0 : Nat)), ob (re (w8 a) (1 : Nat)), ob (re (w8 a) (2 : Nat)), ob (re (w8 a) (3 : Nat))] (Res.out Ex.ret [AV.v (Value.bool (decide (sg (w4 (re (w8 a))) > (0 : Int))))] []) else Res.out Ex.ret [AV.v (Value.bool false)] []) := by kernel_rfl

/-- Above the real line, or along it to the right. -/
def upF (a : Nat → Int) : Bool := bif sgn4 (w4 (imF a)) != 0 then decide (sgn4 (w4 (imF a)) > 0) else decide (sgn4 (w4 (reF a)) > 0)
theorem obW (f : Nat → Int) : obls [i64B (W (f 0)), i64B (W (f 1)), i64B (W (f 2)), i64B (W (f 3))] = true := by simp only [i64B_W, ob_cons, ob_nil, and_self]
theorem ok_upper : SpecOk Try.prog 52 (specV (fUp upF)) := by
  refine mkV (n := 100) gmUI_ok Try.func52 rfl fun vs v ob hF ho => ?_
  unfold fUp at hF
  split at hF
  · rename_i a0 a1 a2 a3 a4 a5 a6 a7
    cases hF
    show Good (execF Try.prog (gmUI imF reF sgn4 i64B) noLam 100 Try.f52 ([cyv (v8 a0 a1 a2 a3 a4 a5 a6 a7)].map .v) [] valK) _
    rw [treeUI, show w8 (v8 a0 a1 a2 a3 a4 a5 a6 a7) = v8 a0 a1 a2 a3 a4 a5 a6 a7 from rfl]
    refine good_needsV (obW _) ?_
    unfold upF
    cases (sgn4 (w4 (imF (v8 a0 a1 a2 a3 a4 a5 a6 a7))) != 0) with
    | true => exact one rfl
    | false => exact good_needsV (obW _) (one rfl)
  · cases hF
theorem ok_l8Upper : SpecOk Try.prog 56 (specV (fUp upF)) := by
  refine mkV (n := 100) gmUS_ok Try.func56 rfl fun vs v ob hF ho => ?_
  unfold fUp at hF
  split at hF
  · rename_i a0 a1 a2 a3 a4 a5 a6 a7
    cases hF
    show Good (execF Try.prog (gmUS imF reF sgn4 i64B) noLam 100 Try.f56 ([cyv (v8 a0 a1 a2 a3 a4 a5 a6 a7)].map .v) [] valK) _
    rw [treeUS, show w8 (v8 a0 a1 a2 a3 a4 a5 a6 a7) = v8 a0 a1 a2 a3 a4 a5 a6 a7 from rfl]
    refine good_needsV (obW _) ?_
    unfold upF
    have hr := sgn4_range (w4 (imF (v8 a0 a1 a2 a3 a4 a5 a6 a7)))
    show Good (bif decide (sgn4 (w4 (imF (v8 a0 a1 a2 a3 a4 a5 a6 a7))) > 0) then _ else bif sgn4 (w4 (imF (v8 a0 a1 a2 a3 a4 a5 a6 a7))) == 0 then _ else _) (.bool (bif sgn4 (w4 (imF (v8 a0 a1 a2 a3 a4 a5 a6 a7))) != 0 then decide (sgn4 (w4 (imF (v8 a0 a1 a2 a3 a4 a5 a6 a7))) > 0) else _))
    generalize sgn4 (w4 (imF (v8 a0 a1 a2 a3 a4 a5 a6 a7))) = s at *
    rcases hr with rfl | rfl | rfl
    · exact one rfl
    · exact good_needsV (obW _) (one rfl)
    · exact one rfl
  · cases hF

abbrev alF (p q : Nat → Int) : Nat → Int := reF (mulF (mirF p) q)
abbrev crF (p q : Nat → Int) : Nat → Int := imF (mulF (mirF p) q)
theorem gmTI_okt : GamOk Try.prog (gmTIt upF alF sgn4 i64B) := ext_ok (ext_ok (ext_ok g0_ok ok_upper) (fAl_along ▸ ok_along)) (fSn_sgn ▸ ok_sign)
theorem gmTS_ok : GamOk Try.prog (gmTS upF crF mirF reF mulF sgn4 i64B) := ext_ok (ext_ok (ext_ok (ext_ok (ext_ok (ext_ok g0_ok ok_l8Upper) (fAl_cross ▸ ok_l8Cross)) (fMi_mir ▸ ok_l2Mirror)) (fTi_mul ▸ ok_l2Times)) (fRe_re ▸ ok_l3Re)) (fSn_sgn ▸ ok_l3Sign)

abbrev vTI (m : Nat) : List AV := [.own 1 m, .v (i64 0), .own 2 m, .v (i64 m), .v (i64 (0 : Nat))]
abbrev vTS (m : Nat) : List AV := [.own 1 m, .v (i64 m), .v (i64 0), .v (i64 (0 : Nat))]
noncomputable abbrev lamTIt (m : Nat) (a bs : Nat → Nat → Int) (bf : Nat → Int) (bad : Nat → Bool) (con : Nat → Int) : Nat → Option Sum := oneL 0 (atS 82 (lvTIt .normal) 1 (vTI m) [.row false m 8 (rowC a) 40, .row true m 8 (rowC bs) 40, .row true m 1 (rowI bf) 3] (outT 5 bad con m [.row false m 8 (rowC a) 40]))
noncomputable abbrev lamTS (m : Nat) (a bs : Nat → Nat → Int) (bad : Nat → Bool) (con : Nat → Int) : Nat → Option Sum := oneL 0 (atS 82 (lvTS .normal) 1 (vTS m) [.row false m 8 (rowC a) 40, .row true m 8 (rowC bs) 40] (outT 6 bad con m [.row false m 8 (rowC a) 40]))

theorem treeFTI (m : Nat) (a bs : Nat → Nat → Int) (bf : Nat → Int) (bad : Nat → Bool) (con : Nat → Int) : execF Try.prog gm_yb (lamTIt m a bs bf bad con) 100 Try.f17 [.sl 0 8 0 0 m none] [.row false m 8 (rowC a) 40] (packK 1)
    = needs [Nat.ble ((0 : Nat) + m) m, allC m fun q ↦ rowC a ((0 : Nat) + q), decide (m ≤ (274877906944 : Nat)), f_valid (itC fun q ↦ rowC a ((0 : Nat) + q)) m == true, Nat.ble ((0 : Nat) + m) m, allC m fun q ↦ rowC a ((0 : Nat) + q), decide ((0 : Nat) < m), decide (m ≤ (274877906944 : Nat)), Nat.ble ((0 : Nat) + m) m, allC m fun q ↦ rowC a ((0 : Nat) + q), decide ((0 : Nat) < m), decide (m ≤ (274877906944 : Nat)), chk ([AV.own (1 : Nat) m, AV.v (Value.int IntKind.i64 (0 : Int)), AV.own (2 : Nat) m, AV.v (Value.int IntKind.i64 (↑m : Int)), AV.v (Value.int IntKind.i64 (0 : Int))] = vTI m ∧ Hsim [AB.row false m (8 : Nat) (rowC a) (40 : TypeId), AB.row true m (8 : Nat) (rowC (stepsF (itC fun q ↦ rowC a ((0 : Nat) + q)) m)) (40 : TypeId), AB.row true m (1 : Nat) (rowI (bendsF (stepsF (itC fun q ↦ rowC a ((0 : Nat) + q)) m) m)) (3 : TypeId)] [AB.row false m (8 : Nat) (rowC a) (40 : TypeId), AB.row true m (8 : Nat) (rowC bs) (40 : TypeId), AB.row true m (1 : Nat) (rowI bf) (3 : TypeId)])] (bif noneTo bad m then Res.out Ex.ret [AV.tup [AV.v (Value.int IntKind.i64 (sumTo con m)), AV.v (Value.bool true)]] [AB.row false m (8 : Nat) (rowC a) (40 : TypeId)] else Res.out Ex.ret [AV.tup [AV.v (Value.int IntKind.i64 (0 : Int)), AV.v (Value.bool false)]] [AB.row false m (8 : Nat) (rowC a) (40 : TypeId)]) := by kernel_rfl

theorem treeFTS (m : Nat) (a bs : Nat → Nat → Int) (bad : Nat → Bool) (con : Nat → Int) : execF Try.prog gm_y (lamTS m a bs bad con) 100 Try.f18 [.sl 0 8 0 0 m none] [.row false m 8 (rowC a) 40] (packK 1)
    = needs [Nat.ble ((0 : Nat) + m) m, allC m fun q ↦ rowC a ((0 : Nat) + q), decide (m ≤ (274877906944 : Nat)), f_valid (itC fun q ↦ rowC a ((0 : Nat) + q)) m == true, Nat.ble ((0 : Nat) + m) m, allC m fun q ↦ rowC a ((0 : Nat) + q), decide ((0 : Nat) < m), decide (m ≤ (274877906944 : Nat)), chk ([AV.own (1 : Nat) m, AV.v (Value.int IntKind.i64 (↑m : Int)), AV.v (Value.int IntKind.i64 (0 : Int)), AV.v (Value.int IntKind.i64 (0 : Int))] = vTS m ∧ Hsim [AB.row false m (8 : Nat) (rowC a) (40 : TypeId), AB.row true m (8 : Nat) (rowC (stepsF (itC fun q ↦ rowC a ((0 : Nat) + q)) m)) (40 : TypeId)] [AB.row false m (8 : Nat) (rowC a) (40 : TypeId), AB.row true m (8 : Nat) (rowC bs) (40 : TypeId)])] (bif noneTo bad m then Res.out Ex.ret [AV.tup [AV.v (Value.int IntKind.i64 (sumTo con m)), AV.v (Value.bool true)]] [AB.row false m (8 : Nat) (rowC a) (40 : TypeId)] else Res.out Ex.ret [AV.tup [AV.v (Value.int IntKind.i64 (0 : Int)), AV.v (Value.bool false)]] [AB.row false m (8 : Nat) (rowC a) (40 : TypeId)]) := by kernel_rfl

theorem treeNTI (m : Nat) (a : Nat → Nat → Int) : execF Try.prog gm_n noLam 100 Try.f17 [.sl 0 8 0 0 m none] [.row false m 8 (rowC a) 40] (packK 1)
    = needs [Nat.ble ((0 : Nat) + m) m, allC m fun q ↦ rowC a ((0 : Nat) + q), decide (m ≤ (274877906944 : Nat)), f_valid (itC fun q ↦ rowC a ((0 : Nat) + q)) m == false] (Res.out Ex.ret [AV.tup [AV.v (Value.int IntKind.i64 (0 : Int)), AV.v (Value.bool false)]] [AB.row false m (8 : Nat) (rowC a) (40 : TypeId)]) := by kernel_rfl

theorem treeNTS (m : Nat) (a : Nat → Nat → Int) : execF Try.prog gm_n noLam 100 Try.f18 [.sl 0 8 0 0 m none] [.row false m 8 (rowC a) 40] (packK 1)
    = needs [Nat.ble ((0 : Nat) + m) m, allC m fun q ↦ rowC a ((0 : Nat) + q), decide (m ≤ (274877906944 : Nat)), f_valid (itC fun q ↦ rowC a ((0 : Nat) + q)) m == false] (Res.out Ex.ret [AV.tup [AV.v (Value.int IntKind.i64 (0 : Int)), AV.v (Value.bool false)]] [AB.row false m (8 : Nat) (rowC a) (40 : TypeId)]) := by kernel_rfl

abbrev alS (p q : Nat → Int) : Nat → Int := reF (w8 (mulF (w8 (mirF p)) q))
theorem alS_eq (p q : Nat → Int) : sgn4 (w4 (alS (w8 p) (w8 q))) = sgn4 (w4 (reF (mulF (mirF (w8 p)) (w8 q)))) := by
  rw [sgn4_w4, sgn4_w4]
  refine sgn4_congr fun k hk => ?_
  show W (reZ (w8 (mulF (w8 (mirF (w8 p))) (w8 q))) k) = W (reZ (mulF (mirF (w8 p)) (w8 q)) k)
  rw [re_congr (fun j hj => ?_)]
  rw [w8_at _ j hj]
  show W (mulZ (w8 (mirF (w8 p))) (w8 q) j) = W (mulZ (mirF (w8 p)) (w8 q) j)
  rw [mul_congr (w8_at _) (fun _ _ => rfl)]

theorem steps_bd {a : Nat → Nat → Int} {m : Nat} (h : f_valid a m = true) {j : Nat} (hj : j < m) : bd8 200 (stepsF a m j) := by
  simp only [f_valid, Bool.and_eq_true] at h
  have h1 := smallF_iff.1 (okBp_get h.1 hj)
  have h2 := smallF_iff.1 (okBp_get h.1 (Nat.mod_lt (j + 1) (show 0 < m by omega)))
  intro k hk
  have h1 := h1 k hk
  have h2 := h2 k hk
  show -200 ≤ W (a ((j + 1) % m) k + W (a j k * -1)) ∧ W (a ((j + 1) % m) k + W (a j k * -1)) ≤ 200
  rw [w64_in (x := a j k * -1) (by omega) (by omega), w64_in (by omega) (by omega)]
  omega
theorem isZ_iff {f : Nat → Int} : isZ f = true ↔ ∀ k, k < 8 → f k = 0 := by
  simp only [isZ, Bool.and_true, Bool.and_eq_true, beq_iff_eq]
  constructor
  · rintro ⟨h0, h1, h2, h3, h4, h5, h6, h7⟩ k hk
    rcases (by omega : k = 0 ∨ k = 1 ∨ k = 2 ∨ k = 3 ∨ k = 4 ∨ k = 5 ∨ k = 6 ∨ k = 7) with rfl | rfl | rfl | rfl | rfl | rfl | rfl | rfl <;> assumption
  · intro h
    exact ⟨h 0 (by omega), h 1 (by omega), h 2 (by omega), h 3 (by omega), h 4 (by omega), h 5 (by omega), h 6 (by omega), h 7 (by omega)⟩
/-- The program's way to refuse and the reference's. -/
theorem bad_same {a : Nat → Nat → Int} {m : Nat} (h : f_valid a m = true) : noneTo (badIt alF sgn4 (stepsF a m) (bendsF (stepsF a m) m) m) m = noneTo (badS alS crF sgn4 (stepsF a m) m) m := by
  rw [Bool.eq_iff_iff, noneTo_iff, noneTo_iff]
  have hb : ∀ i, i < m → bd8 200 (stepsF a m i) := fun i hi => steps_bd h hi
  have hpv : ∀ i, i < m → pvI i m < m := fun i hi => Nat.mod_lt _ (by omega)
  have cr : ∀ i, sgn4 (w4 (crF (w8 (stepsF a m (pvI i m))) (w8 (stepsF a m i)))) = bendsF (stepsF a m) m i := fun i => rfl
  have al : ∀ i, sgn4 (w4 (alF (w8 (stepsF a m (pvI i m))) (w8 (stepsF a m i)))) = sgn4 (w4 (reF (mulF (mirF (w8 (stepsF a m (pvI i m)))) (w8 (stepsF a m i))))) := fun i => rfl
  obtain ⟨Z, hZ⟩ : ∃ Z : Nat → Bool, ∀ i, isZ (stepsF a m i) = Z i := ⟨fun i => isZ (stepsF a m i), fun _ => rfl⟩
  have eI : ∀ i, badIt alF sgn4 (stepsF a m) (bendsF (stepsF a m) m) m i = (Z i || (bendsF (stepsF a m) m i == 0 && decide (sgn4 (w4 (reF (mulF (mirF (w8 (stepsF a m (pvI i m)))) (w8 (stepsF a m i))))) < 0))) := fun i => by rw [← hZ]; rfl
  have eS : ∀ i, badS alS crF sgn4 (stepsF a m) m i = (bendsF (stepsF a m) m i == 0 && decide (sgn4 (w4 (alS (w8 (stepsF a m (pvI i m))) (w8 (stepsF a m i)))) ≤ 0)) := fun i => rfl
  have zero : ∀ i, i < m → Z i = true → bendsF (stepsF a m) m i = 0 ∧ sgn4 (w4 (reF (mulF (mirF (w8 (stepsF a m (pvI i m)))) (w8 (stepsF a m i))))) = 0 := fun i hi hz => cross_none (hb _ (hpv i hi)) (hb i hi) (isZ_iff.1 ((hZ i).trans hz))
  have none : ∀ i, i < m → bendsF (stepsF a m) m i = 0 → sgn4 (w4 (reF (mulF (mirF (w8 (stepsF a m (pvI i m)))) (w8 (stepsF a m i))))) = 0 → Z i = true ∨ Z (pvI i m) = true := fun i hi h1 h2 => by
    rcases no_cross (hb _ (hpv i hi)) (hb i hi) h1 h2 with h | h
    · exact .inl ((hZ _).symm.trans (isZ_iff.2 h))
    · exact .inr ((hZ _).symm.trans (isZ_iff.2 h))
  constructor
  · intro hn i hi
    have hi1 := hn i hi
    have hi2 := hn _ (hpv i hi)
    rw [eI] at hi1 hi2
    rw [eS, alS_eq]
    cases hs : (bendsF (stepsF a m) m i == 0 && decide (sgn4 (w4 (reF (mulF (mirF (w8 (stepsF a m (pvI i m)))) (w8 (stepsF a m i))))) ≤ 0)) with
    | false => rfl
    | true =>
      simp only [Bool.and_eq_true, beq_iff_eq, decide_eq_true_eq] at hs
      simp only [Bool.or_eq_false_iff, Bool.and_eq_false_iff, beq_eq_false_iff_ne, decide_eq_false_iff_not] at hi1 hi2
      have : ¬ sgn4 (w4 (reF (mulF (mirF (w8 (stepsF a m (pvI i m)))) (w8 (stepsF a m i))))) < 0 := by
        rcases hi1.2 with h | h
        · exact (h hs.1).elim
        · exact h
      rcases none i hi hs.1 (by omega) with h | h
      · rw [h] at hi1; exact absurd hi1.1 (by simp)
      · rw [h] at hi2; exact absurd hi2.1 (by simp)
  · intro hn i hi
    have hi1 := hn i hi
    rw [eS, alS_eq] at hi1
    rw [eI]
    simp only [Bool.and_eq_false_iff, beq_eq_false_iff_ne, decide_eq_false_iff_not] at hi1
    simp only [Bool.or_eq_false_iff, Bool.and_eq_false_iff, beq_eq_false_iff_ne, decide_eq_false_iff_not]
    constructor
    · cases hz : Z i with
      | false => rfl
      | true =>
        have := zero i hi hz
        rcases hi1 with h | h
        · exact (h this.1).elim
        · omega
    · rcases hi1 with h | h
      · exact .inl h
      · exact .inr (by omega)
theorem con_same (a : Nat → Nat → Int) (m : Nat) : conI upF (stepsF a m) (bendsF (stepsF a m) m) m = conS upF crF sgn4 (stepsF a m) m := by
  funext i
  have cr : sgn4 (w4 (crF (w8 (stepsF a m (pvI i m))) (w8 (stepsF a m i)))) = bendsF (stepsF a m) m i := rfl
  unfold conI conS
  rw [cr]
  have hr : bendsF (stepsF a m) m i = -1 ∨ bendsF (stepsF a m) m i = 0 ∨ bendsF (stepsF a m) m i = 1 := sgn4_range _
  generalize bendsF (stepsF a m) m i = s at *
  rcases hr with rfl | rfl | rfl <;> rfl

/-- PolyTurns of a polygon; of another list. -/
def turnsOk (a : Nat → Nat → Int) (m : Nat) : Bool := noneTo (badS alS crF sgn4 (stepsF a m) m) m
def turnsN (a : Nat → Nat → Int) (m : Nat) : Int := bif turnsOk a m then sumTo (conS upF crF sgn4 (stepsF a m) m) m else 0
def F_turnsY : List SA → Option FR
  | [.row m g] => some { val := .tup [.v (i64 (turnsN (itC g) m)), .v (.bool (turnsOk (itC g) m))], obl := [allC m g, decide (m ≤ 2 ^ 38), f_valid (itC g) m == true] }
  | _ => none
def F_turnsN : List SA → Option FR
  | [.row m g] => some { val := .tup [.v (i64 0), .v (.bool false)], obl := [allC m g, decide (m ≤ 2 ^ 38), f_valid (itC g) m == false] }
  | _ => none

theorem rowC_step (a : Nat → Nat → Int) (m : Nat) : rowC (stepsF (itC (rowC a)) m) = rowC (stepsF a m) := rfl
theorem bends_itC (a : Nat → Nat → Int) (m : Nat) : bendsF (stepsF (itC (rowC a)) m) m = bendsF (stepsF a m) m := by kernel_rfl
theorem rowC_itC' (x : Nat → Nat → Int) : rowC (itC (rowC x)) = rowC x := rfl
theorem valid_itC' (a : Nat → Nat → Int) (m : Nat) : f_valid (itC (rowC a)) m = f_valid a m := by kernel_rfl

theorem ok_turnsI : SpecOk Try.prog 17 (specR md_list F_turnsY) := by
  refine specR_hr gm_yb_ok Try.func17 rfl fun sas fr hF ho => ?_
  unfold F_turnsY at hF
  split at hF
  · rename_i m g
    cases hF
    simp only [ob_cons] at ho
    obtain ⟨h1, h2, h3, _⟩ := ho
    have hv : f_valid (itC g) m = true := by simpa using h3
    refine ⟨[.row false m 8 (rowC (itC g)) 40], lamTIt m (itC g) (stepsF (itC g) m) (bendsF (stepsF (itC g) m) m) (badIt alF sgn4 (stepsF (itC g) m) (bendsF (stepsF (itC g) m) m) m) (conI upF (stepsF (itC g) m) (bendsF (stepsF (itC g) m) m) m), 100, .cons (ABeq.row fun j hj => allC_get h1 j hj) .nil,
      lam1 (by kernel_rfl) (sumTIt gmTI_okt (fun p q k => i64B_W _) m (rowC (itC g)) 40 m _ _ (of_decide_eq_true h2)), ?_⟩
    show GoodQ (execF Try.prog gm_yb (lamTIt m (itC g) (stepsF (itC g) m) (bendsF (stepsF (itC g) m) m) (badIt alF sgn4 (stepsF (itC g) m) (bendsF (stepsF (itC g) m) m) m) (conI upF (stepsF (itC g) m) (bendsF (stepsF (itC g) m) m) m)) 100 Try.f17 [.sl 0 8 0 0 m none] [.row false m 8 (rowC (itC g)) 40] (packK 1)) _
    rw [treeFTI, zero_row, rowC_step, bends_itC, valid_itC']
    have hpos := valid_pos h3
    refine good_needs ?_ ?_
    · simp only [ob_cons, ob_nil, allC_of (m := m) (a := itC g) fun j _ => rfl, h2, h3, Nat.zero_add, and_true, true_and, Nat.ble_eq, Nat.le_refl, decide_eq_true_eq]
      exact ⟨hpos, hpos, chk_of ⟨rfl, Hsim.refl _⟩⟩
    · rw [bad_same hv, con_same]
      refine good_cond (fun hq => ?_) fun hq => ?_
      · refine good_out ⟨_, rfl, ?_, .cons (ABeq.row fun j hj => (allC_get h1 j hj).symm) .nil⟩
        simp only [turnsN, turnsOk, hq, cond_true]
      · refine good_out ⟨_, rfl, ?_, .cons (ABeq.row fun j hj => (allC_get h1 j hj).symm) .nil⟩
        simp only [turnsN, turnsOk, hq, cond_false]
  · cases hF

theorem ok_turnsS : SpecOk Try.prog 18 (specR md_list F_turnsY) := by
  refine specR_hr gm_y_ok Try.func18 rfl fun sas fr hF ho => ?_
  unfold F_turnsY at hF
  split at hF
  · rename_i m g
    cases hF
    simp only [ob_cons] at ho
    obtain ⟨h1, h2, h3, _⟩ := ho
    refine ⟨[.row false m 8 (rowC (itC g)) 40], lamTS m (itC g) (stepsF (itC g) m) (badS alS crF sgn4 (stepsF (itC g) m) m) (conS upF crF sgn4 (stepsF (itC g) m) m), 100, .cons (ABeq.row fun j hj => allC_get h1 j hj) .nil,
      lam1 (by kernel_rfl) (sumTS gmTS_ok (fun p q k => i64B_W _) (fun p k => i64B_W _) m (rowC (itC g)) 40 m _ (of_decide_eq_true h2)), ?_⟩
    show GoodQ (execF Try.prog gm_y (lamTS m (itC g) (stepsF (itC g) m) (badS alS crF sgn4 (stepsF (itC g) m) m) (conS upF crF sgn4 (stepsF (itC g) m) m)) 100 Try.f18 [.sl 0 8 0 0 m none] [.row false m 8 (rowC (itC g)) 40] (packK 1)) _
    rw [treeFTS, zero_row, rowC_step, valid_itC']
    have hpos := valid_pos h3
    refine good_needs ?_ ?_
    · simp only [ob_cons, ob_nil, allC_of (m := m) (a := itC g) fun j _ => rfl, h2, h3, Nat.zero_add, and_true, true_and, Nat.ble_eq, Nat.le_refl, decide_eq_true_eq]
      exact ⟨hpos, chk_of ⟨rfl, Hsim.refl _⟩⟩
    · refine good_cond (fun hq => ?_) fun hq => ?_
      · refine good_out ⟨_, rfl, ?_, .cons (ABeq.row fun j hj => (allC_get h1 j hj).symm) .nil⟩
        simp only [turnsN, turnsOk, hq, cond_true]
      · refine good_out ⟨_, rfl, ?_, .cons (ABeq.row fun j hj => (allC_get h1 j hj).symm) .nil⟩
        simp only [turnsN, turnsOk, hq, cond_false]
  · cases hF

theorem ok_turnsNI : SpecOk Try.prog 17 (specR md_list F_turnsN) := by
  refine specR_hr gm_n_ok Try.func17 rfl fun sas fr hF ho => ?_
  unfold F_turnsN at hF
  split at hF
  · rename_i m g
    cases hF
    simp only [ob_cons] at ho
    obtain ⟨h1, h2, h3, _⟩ := ho
    refine ⟨[.row false m 8 (rowC (itC g)) 40], noLam, 100, .cons (ABeq.row fun j hj => allC_get h1 j hj) .nil, noLam' _, ?_⟩
    show GoodQ (execF Try.prog gm_n noLam 100 Try.f17 [.sl 0 8 0 0 m none] [.row false m 8 (rowC (itC g)) 40] (packK 1)) _
    rw [treeNTI, zero_row, valid_itC']
    refine good_needs ?_ (good_out ⟨_, rfl, rfl, .cons (ABeq.row fun j hj => (allC_get h1 j hj).symm) .nil⟩)
    simp only [ob_cons, ob_nil, allC_of (m := m) (a := itC g) fun j _ => rfl, h2, h3, Nat.zero_add, and_true, Nat.ble_eq, Nat.le_refl]
  · cases hF

theorem ok_turnsNS : SpecOk Try.prog 18 (specR md_list F_turnsN) := by
  refine specR_hr gm_n_ok Try.func18 rfl fun sas fr hF ho => ?_
  unfold F_turnsN at hF
  split at hF
  · rename_i m g
    cases hF
    simp only [ob_cons] at ho
    obtain ⟨h1, h2, h3, _⟩ := ho
    refine ⟨[.row false m 8 (rowC (itC g)) 40], noLam, 100, .cons (ABeq.row fun j hj => allC_get h1 j hj) .nil, noLam' _, ?_⟩
    show GoodQ (execF Try.prog gm_n noLam 100 Try.f18 [.sl 0 8 0 0 m none] [.row false m 8 (rowC (itC g)) 40] (packK 1)) _
    rw [treeNTS, zero_row, valid_itC']
    refine good_needs ?_ (good_out ⟨_, rfl, rfl, .cons (ABeq.row fun j hj => (allC_get h1 j hj).symm) .nil⟩)
    simp only [ob_cons, ob_nil, allC_of (m := m) (a := itC g) fun j _ => rfl, h2, h3, Nat.zero_add, and_true, Nat.ble_eq, Nat.le_refl]
  · cases hF

end Go.Proofs.Ytoligfhcogligaa

/- SurdNorm, SurdAdd, RowSquares of both: their trees. Conditions: a list of points. -/
namespace Go.Proofs.Ytoligfhcogligaa
open Go.RowKit
set_option maxRecDepth 100000

-- CycMirror of the reference
def gmMs (ok : (Nat → Int) → Bool) (mi : (Nat → Int) → Nat → Int) : Gam := ext (ext g0 115 (specV (fOkc ok))) 55 (specV (fMirO mi))
theorem treeMs (ok : (Nat → Int) → Bool) (mi : (Nat → Int) → Nat → Int) (a : Nat → Int) : execF Try.prog (gmMs ok mi) noLam 100 Try.f117 [.v (cyv a)] [] (packK 0)
    = bif !ok (w8 a) then Res.out Ex.ret [AV.tup [AV.agg [AV.v (Value.int IntKind.i64 (0 : Int)), AV.v (Value.int IntKind.i64 (0 : Int)), AV.v (Value.int IntKind.i64 (0 : Int)), AV.v (Value.int IntKind.i64 (0 : Int)), AV.v (Value.int IntKind.i64 (0 : Int)), AV.v (Value.int IntKind.i64 (0 : Int)), AV.v (Value.int IntKind.i64 (0 : Int)), AV.v (Value.int IntKind.i64 (0 : Int))], AV.v (Value.bool false)]] [] else bif !ok (w8 (mi (w8 a))) then Res.out Ex.ret [AV.tup [AV.agg [AV.v (Value.int IntKind.i64 (0 : Int)), AV.v (Value.int IntKind.i64 (0 : Int)), AV.v (Value.int IntKind.i64 (0 : Int)), AV.v (Value.int IntKind.i64 (0 : Int)), AV.v (Value.int IntKind.i64 (0 : Int)), AV.v (Value.int IntKind.i64 (0 : Int)), AV.v (Value.int IntKind.i64 (0 : Int)), AV.v (Value.int IntKind.i64 (0 : Int))], AV.v (Value.bool false)]] [] else Res.out Ex.ret [AV.tup [AV.agg [AV.v (Value.int IntKind.i64 (mi (w8 a) (0 : Nat))), AV.v (Value.int IntKind.i64 (mi (w8 a) (1 : Nat))), AV.v (Value.int IntKind.i64 (mi (w8 a) (2 : Nat))), AV.v (Value.int IntKind.i64 (mi (w8 a) (3 : Nat))), AV.v (Value.int IntKind.i64 (mi (w8 a) (4 : Nat))), AV.v (Value.int IntKind.i64 (mi (w8 a) (5 : Nat))), AV.v (Value.int IntKind.i64 (mi (w8 a) (6 : Nat))), AV.v (Value.int IntKind.i64 (mi (w8 a) (7 : Nat)))], AV.v (Value.bool true)]] [] := by kernel_rfl

-- SurdNorm
def gmNmI (mi : (Nat → Int) → Nat → Int) (mk : (Nat → Int) → Bool) (pr : (Nat → Int) → (Nat → Int) → Nat → Int) (ok : (Nat → Int) → (Nat → Int) → Bool) (re : (Nat → Int) → Nat → Int) (md : (Nat → Int) → Nat → Int) (sv : (Nat → Int) → Bool) : Gam :=
  ext (ext (ext (ext g0 113 (specR [.val] (FcqO mi mk))) 114 (specR [.val, .val] (FctO pr ok))) 94 (specV (fRe re))) 60 (specR [.val] (FmdO md sv))
def gmNmS (mi : (Nat → Int) → Nat → Int) (mk : (Nat → Int) → Bool) (pr : (Nat → Int) → (Nat → Int) → Nat → Int) (ok : (Nat → Int) → (Nat → Int) → Bool) (re : (Nat → Int) → Nat → Int) (md : (Nat → Int) → Nat → Int) (sv : (Nat → Int) → Bool) : Gam :=
  ext (ext (ext (ext g0 117 (specR [.val] (FcqO mi mk))) 118 (specR [.val, .val] (FctO pr ok))) 53 (specV (fRe re))) 62 (specR [.val] (FmdO md sv))
theorem treeNmI (mi : (Nat → Int) → Nat → Int) (mk : (Nat → Int) → Bool) (pr : (Nat → Int) → (Nat → Int) → Nat → Int) (ok : (Nat → Int) → (Nat → Int) → Bool) (re : (Nat → Int) → Nat → Int) (md : (Nat → Int) → Nat → Int) (sv : (Nat → Int) → Bool) (a : Nat → Int) : execF Try.prog (gmNmI mi mk pr ok re md sv) noLam 100 Try.f80 [.v (cyv a)] [] (packK 0)
    = bif !mk (w8 a) then Res.out Ex.ret [AV.tup [AV.agg [AV.v (Value.int IntKind.i64 (0 : Int)), AV.v (Value.int IntKind.i64 (0 : Int)), AV.v (Value.int IntKind.i64 (0 : Int)), AV.v (Value.int IntKind.i64 (0 : Int))], AV.v (Value.bool false)]] [] else bif !ok (w8 a) (w8 (mi (w8 a))) then Res.out Ex.ret [AV.tup [AV.agg [AV.v (Value.int IntKind.i64 (0 : Int)), AV.v (Value.int IntKind.i64 (0 : Int)), AV.v (Value.int IntKind.i64 (0 : Int)), AV.v (Value.int IntKind.i64 (0 : Int))], AV.v (Value.bool false)]] [] else Res.out Ex.ret [AV.tup [AV.agg [AV.v (Value.int IntKind.i64 (md (w4 (re (w8 (pr (w8 a) (w8 (mi (w8 a))))))) (0 : Nat))), AV.v (Value.int IntKind.i64 (md (w4 (re (w8 (pr (w8 a) (w8 (mi (w8 a))))))) (1 : Nat))), AV.v (Value.int IntKind.i64 (md (w4 (re (w8 (pr (w8 a) (w8 (mi (w8 a))))))) (2 : Nat))), AV.v (Value.int IntKind.i64 (md (w4 (re (w8 (pr (w8 a) (w8 (mi (w8 a))))))) (3 : Nat)))], AV.v (Value.bool (sv (w4 (re (w8 (pr (w8 a) (w8 (mi (w8 a)))))))))]] [] := by kernel_rfl

theorem treeNmS (mi : (Nat → Int) → Nat → Int) (mk : (Nat → Int) → Bool) (pr : (Nat → Int) → (Nat → Int) → Nat → Int) (ok : (Nat → Int) → (Nat → Int) → Bool) (re : (Nat → Int) → Nat → Int) (md : (Nat → Int) → Nat → Int) (sv : (Nat → Int) → Bool) (a : Nat → Int) : execF Try.prog (gmNmS mi mk pr ok re md sv) noLam 100 Try.f83 [.v (cyv a)] [] (packK 0)
    = bif !mk (w8 a) then Res.out Ex.ret [AV.tup [AV.agg [AV.v (Value.int IntKind.i64 (0 : Int)), AV.v (Value.int IntKind.i64 (0 : Int)), AV.v (Value.int IntKind.i64 (0 : Int)), AV.v (Value.int IntKind.i64 (0 : Int))], AV.v (Value.bool false)]] [] else bif !ok (w8 a) (w8 (mi (w8 a))) then Res.out Ex.ret [AV.tup [AV.agg [AV.v (Value.int IntKind.i64 (0 : Int)), AV.v (Value.int IntKind.i64 (0 : Int)), AV.v (Value.int IntKind.i64 (0 : Int)), AV.v (Value.int IntKind.i64 (0 : Int))], AV.v (Value.bool false)]] [] else Res.out Ex.ret [AV.tup [AV.agg [AV.v (Value.int IntKind.i64 (md (w4 (re (w8 (pr (w8 a) (w8 (mi (w8 a))))))) (0 : Nat))), AV.v (Value.int IntKind.i64 (md (w4 (re (w8 (pr (w8 a) (w8 (mi (w8 a))))))) (1 : Nat))), AV.v (Value.int IntKind.i64 (md (w4 (re (w8 (pr (w8 a) (w8 (mi (w8 a))))))) (2 : Nat))), AV.v (Value.int IntKind.i64 (md (w4 (re (w8 (pr (w8 a) (w8 (mi (w8 a))))))) (3 : Nat)))], AV.v (Value.bool (sv (w4 (re (w8 (pr (w8 a) (w8 (mi (w8 a)))))))))]] [] := by kernel_rfl

-- SurdAdd
def fPq (pl : (Nat → Int) → (Nat → Int) → Nat → Int) : List Value → Option (Value × List Bool)
  | [.agg ⟨[.int .i64 s0, .int .i64 s1, .int .i64 s2, .int .i64 s3]⟩, .agg ⟨[.int .i64 t0, .int .i64 t1, .int .i64 t2, .int .i64 t3]⟩] => some (sdv (pl (v4 s0 s1 s2 s3) (v4 t0 t1 t2 t3)), [])
  | _ => none
def fSuQ (su : (Nat → Int) → Int → (Nat → Int) → Nat → Int) : List Value → Option (Value × List Bool)
  | [.agg ⟨[.int .i64 s0, .int .i64 s1, .int .i64 s2, .int .i64 s3]⟩, .int .i64 n, .agg ⟨[.int .i64 t0, .int .i64 t1, .int .i64 t2, .int .i64 t3]⟩] => some (sdv (su (v4 s0 s1 s2 s3) n (v4 t0 t1 t2 t3)), [])
  | _ => none
def gmSaI (sv : (Nat → Int) → Bool) (pl : (Nat → Int) → (Nat → Int) → Nat → Int) (md : (Nat → Int) → Nat → Int) : Gam := ext (ext (ext g0 85 (specV (fSv sv))) 58 (specV (fPq pl))) 60 (specR [.val] (FmdO md sv))
def gmSaS (sv : (Nat → Int) → Bool) (su : (Nat → Int) → Int → (Nat → Int) → Nat → Int) (md : (Nat → Int) → Nat → Int) : Gam := ext (ext (ext g0 100 (specV (fSv sv))) 61 (specV (fSuQ su))) 62 (specR [.val] (FmdO md sv))
theorem treeSaI (sv : (Nat → Int) → Bool) (pl : (Nat → Int) → (Nat → Int) → Nat → Int) (md : (Nat → Int) → Nat → Int) (s t : Nat → Int) : execF Try.prog (gmSaI sv pl md) noLam 100 Try.f81 [.v (sdv s), .v (sdv t)] [] (packK 0)
    = bif !sv (w4 s) then Res.out Ex.ret [AV.tup [AV.agg [AV.v (Value.int IntKind.i64 (0 : Int)), AV.v (Value.int IntKind.i64 (0 : Int)), AV.v (Value.int IntKind.i64 (0 : Int)), AV.v (Value.int IntKind.i64 (0 : Int))], AV.v (Value.bool false)]] [] else bif !sv (w4 t) then Res.out Ex.ret [AV.tup [AV.agg [AV.v (Value.int IntKind.i64 (0 : Int)), AV.v (Value.int IntKind.i64 (0 : Int)), AV.v (Value.int IntKind.i64 (0 : Int)), AV.v (Value.int IntKind.i64 (0 : Int))], AV.v (Value.bool false)]] [] else Res.out Ex.ret [AV.tup [AV.agg [AV.v (Value.int IntKind.i64 (md (w4 (pl (w4 s) (w4 t))) (0 : Nat))), AV.v (Value.int IntKind.i64 (md (w4 (pl (w4 s) (w4 t))) (1 : Nat))), AV.v (Value.int IntKind.i64 (md (w4 (pl (w4 s) (w4 t))) (2 : Nat))), AV.v (Value.int IntKind.i64 (md (w4 (pl (w4 s) (w4 t))) (3 : Nat)))], AV.v (Value.bool (sv (w4 (pl (w4 s) (w4 t)))))]] [] := by kernel_rfl

theorem treeSaS (sv : (Nat → Int) → Bool) (su : (Nat → Int) → Int → (Nat → Int) → Nat → Int) (md : (Nat → Int) → Nat → Int) (s t : Nat → Int) : execF Try.prog (gmSaS sv su md) noLam 100 Try.f84 [.v (sdv s), .v (sdv t)] [] (packK 0)
    = bif !sv (w4 s) then Res.out Ex.ret [AV.tup [AV.agg [AV.v (Value.int IntKind.i64 (0 : Int)), AV.v (Value.int IntKind.i64 (0 : Int)), AV.v (Value.int IntKind.i64 (0 : Int)), AV.v (Value.int IntKind.i64 (0 : Int))], AV.v (Value.bool false)]] [] else bif !sv (w4 t) then Res.out Ex.ret [AV.tup [AV.agg [AV.v (Value.int IntKind.i64 (0 : Int)), AV.v (Value.int IntKind.i64 (0 : Int)), AV.v (Value.int IntKind.i64 (0 : Int)), AV.v (Value.int IntKind.i64 (0 : Int))], AV.v (Value.bool false)]] [] else Res.out Ex.ret [AV.tup [AV.agg [AV.v (Value.int IntKind.i64 (md (w4 (su (w4 s) (1 : Int) (w4 t))) (0 : Nat))), AV.v (Value.int IntKind.i64 (md (w4 (su (w4 s) (1 : Int) (w4 t))) (1 : Nat))), AV.v (Value.int IntKind.i64 (md (w4 (su (w4 s) (1 : Int) (w4 t))) (2 : Nat))), AV.v (Value.int IntKind.i64 (md (w4 (su (w4 s) (1 : Int) (w4 t))) (3 : Nat)))], AV.v (Value.bool (sv (w4 (su (w4 s) (1 : Int) (w4 t)))))]] [] := by kernel_rfl

-- RowSquares
def FnqO (nm : (Nat → Int) → Nat → Int) (nk : (Nat → Int) → Bool) : List SA → Option FR
  | [.v (.agg ⟨[.int .i64 a0, .int .i64 a1, .int .i64 a2, .int .i64 a3, .int .i64 a4, .int .i64 a5, .int .i64 a6, .int .i64 a7]⟩)] => some { val := .tup [.agg (sA (nm (v8 a0 a1 a2 a3 a4 a5 a6 a7))), .v (.bool (nk (v8 a0 a1 a2 a3 a4 a5 a6 a7)))] }
  | _ => none
def FsqO (sa : (Nat → Int) → (Nat → Int) → Nat → Int) (sk : (Nat → Int) → (Nat → Int) → Bool) : List SA → Option FR
  | [.v (.agg ⟨[.int .i64 s0, .int .i64 s1, .int .i64 s2, .int .i64 s3]⟩), .v (.agg ⟨[.int .i64 t0, .int .i64 t1, .int .i64 t2, .int .i64 t3]⟩)] => some { val := .tup [.agg (sA (sa (v4 s0 s1 s2 s3) (v4 t0 t1 t2 t3))), .v (.bool (sk (v4 s0 s1 s2 s3) (v4 t0 t1 t2 t3)))] }
  | _ => none
noncomputable abbrev fRqI : Func := Try.f34
noncomputable abbrev fRqS : Func := Try.f35
def gmRqI (nm : (Nat → Int) → Nat → Int) (nk : (Nat → Int) → Bool) (sa : (Nat → Int) → (Nat → Int) → Nat → Int) (sk : (Nat → Int) → (Nat → Int) → Bool) : Gam := ext (ext g0 80 (specR [.val] (FnqO nm nk))) 81 (specR [.val, .val] (FsqO sa sk))
def gmRqS (nm : (Nat → Int) → Nat → Int) (nk : (Nat → Int) → Bool) (sa : (Nat → Int) → (Nat → Int) → Nat → Int) (sk : (Nat → Int) → (Nat → Int) → Bool) : Gam := ext (ext g0 83 (specR [.val] (FnqO nm nk))) 84 (specR [.val, .val] (FsqO sa sk))
abbrev celS (s : Nat → Int) : AB := .cells [.v (i64 (s 0)), .v (i64 (s 1)), .v (i64 (s 2)), .v (i64 (s 3))] 35
abbrev hpRq (a : Nat → Nat → Int) (m : Nat) (t : TypeId) (s : Nat → Int) : List AB := [.row false m 8 (row8 a) t, celS fun _ => 0, celS s]
abbrev lvRqI : Ex → List Nat := lv3 [2, 4, 15, 16, 17] [2, 4] [2, 3]
abbrev stRqI (m i : Nat) : List AV := [.ptr 1 0 0 0, .ptr 2 0 0 0, .sl 0 8 0 0 m none, .v (i64 m), .v (i64 i)]
theorem rndRqI (nm : (Nat → Int) → Nat → Int) (nk : (Nat → Int) → Bool) (sa : (Nat → Int) → (Nat → Int) → Nat → Int) (sk : (Nat → Int) → (Nat → Int) → Bool) (a : Nat → Nat → Int) (m : Nat) (t : TypeId) (s : Nat → Int) (i : Nat) : execC Try.prog (gmRqI nm nk sa sk) 100 noLam (loopAt 0 fRqI) (mkT 0 42 ((lvRqI .normal).zip (stRqI m i))) (hpRq a m t s) (leafV 42 lvRqI 1)
    = bif decide ((↑i : Int) < (↑m : Int)) then needs [decide ((↑i : Int) < (↑m : Int)), decide ((0 : Nat) + Int.toNat (↑i : Int) < m)] (bif !nk (w8 (a ((0 : Nat) + Int.toNat (↑i : Int)))) then Res.out Ex.ret [AV.ptr (1 : Nat) (0 : Nat) (0 : Nat) (0 : Nat), AV.v (Value.bool false)] [AB.row false m (8 : Nat) (row8 a) t, AB.cells [AV.v (Value.int IntKind.i64 (0 : Int)), AV.v (Value.int IntKind.i64 (0 : Int)), AV.v (Value.int IntKind.i64 (0 : Int)), AV.v (Value.int IntKind.i64 (0 : Int))] (35 : TypeId)] else bif !sk (w4 s) (w4 (nm (w8 (a ((0 : Nat) + Int.toNat (↑i : Int)))))) then Res.out Ex.ret [AV.ptr (1 : Nat) (0 : Nat) (0 : Nat) (0 : Nat), AV.v (Value.bool false)] [AB.row false m (8 : Nat) (row8 a) t, AB.cells [AV.v (Value.int IntKind.i64 (0 : Int)), AV.v (Value.int IntKind.i64 (0 : Int)), AV.v (Value.int IntKind.i64 (0 : Int)), AV.v (Value.int IntKind.i64 (0 : Int))] (35 : TypeId)] else Res.out Ex.normal [AV.ptr (1 : Nat) (0 : Nat) (0 : Nat) (0 : Nat), AV.ptr (2 : Nat) (0 : Nat) (0 : Nat) (0 : Nat), AV.sl (0 : Nat) (8 : Nat) (0 : Nat) (0 : Nat) m none, AV.v (Value.int IntKind.i64 (↑m : Int)), AV.v (Value.int IntKind.i64 (IntKind.wrap IntKind.i64 ((↑i : Int) + (1 : Int))))] [AB.row false m (8 : Nat) (row8 a) t, AB.cells [AV.v (Value.int IntKind.i64 (0 : Int)), AV.v (Value.int IntKind.i64 (0 : Int)), AV.v (Value.int IntKind.i64 (0 : Int)), AV.v (Value.int IntKind.i64 (0 : Int))] (35 : TypeId), AB.cells [AV.v (Value.int IntKind.i64 (sa (w4 s) (w4 (nm (w8 (a ((0 : Nat) + Int.toNat (↑i : Int)))))) (0 : Nat))), AV.v (Value.int IntKind.i64 (sa (w4 s) (w4 (nm (w8 (a ((0 : Nat) + Int.toNat (↑i : Int)))))) (1 : Nat))), AV.v (Value.int IntKind.i64 (sa (w4 s) (w4 (nm (w8 (a ((0 : Nat) + Int.toNat (↑i : Int)))))) (2 : Nat))), AV.v (Value.int IntKind.i64 (sa (w4 s) (w4 (nm (w8 (a ((0 : Nat) + Int.toNat (↑i : Int)))))) (3 : Nat)))] (35 : TypeId)]) else Res.out (Ex.exit (0 : Nat)) [AV.ptr (1 : Nat) (0 : Nat) (0 : Nat) (0 : Nat), AV.ptr (2 : Nat) (0 : Nat) (0 : Nat) (0 : Nat)] [AB.row false m (8 : Nat) (row8 a) t, AB.cells [AV.v (Value.int IntKind.i64 (0 : Int)), AV.v (Value.int IntKind.i64 (0 : Int)), AV.v (Value.int IntKind.i64 (0 : Int)), AV.v (Value.int IntKind.i64 (0 : Int))] (35 : TypeId), AB.cells [AV.v (Value.int IntKind.i64 (s (0 : Nat))), AV.v (Value.int IntKind.i64 (s (1 : Nat))), AV.v (Value.int IntKind.i64 (s (2 : Nat))), AV.v (Value.int IntKind.i64 (s (3 : Nat)))] (35 : TypeId)] := by kernel_rfl

abbrev lvRqS : Ex → List Nat := lv3 [0, 2, 4, 5] [2, 4] [2, 3]
abbrev stRqS (m i : Nat) : List AV := [.sl 0 8 0 0 m none, .ptr 1 0 0 0, .ptr 2 0 0 0, .v (i64 i)]
theorem rndRqS (nm : (Nat → Int) → Nat → Int) (nk : (Nat → Int) → Bool) (sa : (Nat → Int) → (Nat → Int) → Nat → Int) (sk : (Nat → Int) → (Nat → Int) → Bool) (a : Nat → Nat → Int) (m : Nat) (t : TypeId) (s : Nat → Int) (i : Nat) : execC Try.prog (gmRqS nm nk sa sk) 100 noLam (loopAt 0 fRqS) (mkT 0 44 ((lvRqS .normal).zip (stRqS m i))) (hpRq a m t s) (leafV 44 lvRqS 1)
    = bif decide ((↑i : Int) < (↑m : Int)) then needs [decide ((↑i : Int) < (↑m : Int)), decide ((0 : Nat) + Int.toNat (↑i : Int) < m)] (bif !nk (w8 (a ((0 : Nat) + Int.toNat (↑i : Int)))) then Res.out Ex.ret [AV.ptr (1 : Nat) (0 : Nat) (0 : Nat) (0 : Nat), AV.v (Value.bool false)] [AB.row false m (8 : Nat) (row8 a) t, AB.cells [AV.v (Value.int IntKind.i64 (0 : Int)), AV.v (Value.int IntKind.i64 (0 : Int)), AV.v (Value.int IntKind.i64 (0 : Int)), AV.v (Value.int IntKind.i64 (0 : Int))] (35 : TypeId)] else bif !sk (w4 s) (w4 (nm (w8 (a ((0 : Nat) + Int.toNat (↑i : Int)))))) then Res.out Ex.ret [AV.ptr (1 : Nat) (0 : Nat) (0 : Nat) (0 : Nat), AV.v (Value.bool false)] [AB.row false m (8 : Nat) (row8 a) t, AB.cells [AV.v (Value.int IntKind.i64 (0 : Int)), AV.v (Value.int IntKind.i64 (0 : Int)), AV.v (Value.int IntKind.i64 (0 : Int)), AV.v (Value.int IntKind.i64 (0 : Int))] (35 : TypeId)] else Res.out Ex.normal [AV.sl (0 : Nat) (8 : Nat) (0 : Nat) (0 : Nat) m none, AV.ptr (1 : Nat) (0 : Nat) (0 : Nat) (0 : Nat), AV.ptr (2 : Nat) (0 : Nat) (0 : Nat) (0 : Nat), AV.v (Value.int IntKind.i64 (IntKind.wrap IntKind.i64 ((↑i : Int) + (1 : Int))))] [AB.row false m (8 : Nat) (row8 a) t, AB.cells [AV.v (Value.int IntKind.i64 (0 : Int)), AV.v (Value.int IntKind.i64 (0 : Int)), AV.v (Value.int IntKind.i64 (0 : Int)), AV.v (Value.int IntKind.i64 (0 : Int))] (35 : TypeId), AB.cells [AV.v (Value.int IntKind.i64 (sa (w4 s) (w4 (nm (w8 (a ((0 : Nat) + Int.toNat (↑i : Int)))))) (0 : Nat))), AV.v (Value.int IntKind.i64 (sa (w4 s) (w4 (nm (w8 (a ((0 : Nat) + Int.toNat (↑i : Int)))))) (1 : Nat))), AV.v (Value.int IntKind.i64 (sa (w4 s) (w4 (nm (w8 (a ((0 : Nat) + Int.toNat (↑i : Int)))))) (2 : Nat))), AV.v (Value.int IntKind.i64 (sa (w4 s) (w4 (nm (w8 (a ((0 : Nat) + Int.toNat (↑i : Int)))))) (3 : Nat)))] (35 : TypeId)]) else Res.out (Ex.exit (0 : Nat)) [AV.ptr (1 : Nat) (0 : Nat) (0 : Nat) (0 : Nat), AV.ptr (2 : Nat) (0 : Nat) (0 : Nat) (0 : Nat)] [AB.row false m (8 : Nat) (row8 a) t, AB.cells [AV.v (Value.int IntKind.i64 (0 : Int)), AV.v (Value.int IntKind.i64 (0 : Int)), AV.v (Value.int IntKind.i64 (0 : Int)), AV.v (Value.int IntKind.i64 (0 : Int))] (35 : TypeId), AB.cells [AV.v (Value.int IntKind.i64 (s (0 : Nat))), AV.v (Value.int IntKind.i64 (s (1 : Nat))), AV.v (Value.int IntKind.i64 (s (2 : Nat))), AV.v (Value.int IntKind.i64 (s (3 : Nat)))] (35 : TypeId)] := by kernel_rfl

noncomputable abbrev lamRqI (a : Nat → Nat → Int) (m : Nat) (t : TypeId) (c : Bool) (s : Nat → Int) : Nat → Option Sum := oneL 0 (atS 42 (lvRqI .normal) 1 (stRqI m 0) (hpRq a m t fun _ => 0) (fun K => cond c (K .normal (mkT 0 42 [(2, .ptr 1 0 0 0), (4, .ptr 2 0 0 0)]) (hpRq a m t s)) (K .ret (mkT 0 42 [(2, .ptr 1 0 0 0), (3, .v (.bool false))]) [.row false m 8 (row8 a) t, celS fun _ => 0])))
noncomputable abbrev lamRqS (a : Nat → Nat → Int) (m : Nat) (t : TypeId) (c : Bool) (s : Nat → Int) : Nat → Option Sum := oneL 0 (atS 44 (lvRqS .normal) 1 (stRqS m 0) (hpRq a m t fun _ => 0) (fun K => cond c (K .normal (mkT 0 44 [(2, .ptr 1 0 0 0), (4, .ptr 2 0 0 0)]) (hpRq a m t s)) (K .ret (mkT 0 44 [(2, .ptr 1 0 0 0), (3, .v (.bool false))]) [.row false m 8 (row8 a) t, celS fun _ => 0])))
def gmRvQ (rv : (Nat → Nat → Int) → Nat → Bool) : Gam := ext (ext g0 79 (specR md_c8 (FrvO rv))) 82 (specR md_c8 (FrvO rv))
theorem treeRqI (rv : (Nat → Nat → Int) → Nat → Bool) (a : Nat → Nat → Int) (m : Nat) (c : Bool) (s : Nat → Int) : execF Try.prog (gmRvQ rv) (lamRqI a m 40 c s) 100 fRqI [.sl 0 8 0 0 m none] [.row false m 8 (row8 a) 40] (packK 1)
    = needs [Nat.ble ((0 : Nat) + m) m, all8 m fun q ↦ row8 a ((0 : Nat) + q), decide (m ≤ (274877906944 : Nat))] (bif !rv (it8 fun q ↦ row8 a ((0 : Nat) + q)) m then Res.out Ex.ret [AV.tup [AV.agg [AV.v (Value.int IntKind.i64 (0 : Int)), AV.v (Value.int IntKind.i64 (0 : Int)), AV.v (Value.int IntKind.i64 (0 : Int)), AV.v (Value.int IntKind.i64 (0 : Int))], AV.v (Value.bool false)]] [AB.row false m (8 : Nat) (row8 a) (40 : TypeId)] else needs [chk ([AV.ptr (1 : Nat) (0 : Nat) (0 : Nat) (0 : Nat), AV.ptr (2 : Nat) (0 : Nat) (0 : Nat) (0 : Nat), AV.sl (0 : Nat) (8 : Nat) (0 : Nat) (0 : Nat) m none, AV.v (Value.int IntKind.i64 (↑m : Int)), AV.v (Value.int IntKind.i64 (0 : Int))] = stRqI m (0 : Nat) ∧ Hsim [AB.row false m (8 : Nat) (row8 a) (40 : TypeId), AB.cells [AV.v (Value.int IntKind.i64 (0 : Int)), AV.v (Value.int IntKind.i64 (0 : Int)), AV.v (Value.int IntKind.i64 (0 : Int)), AV.v (Value.int IntKind.i64 (0 : Int))] (35 : Nat), AB.cells [AV.v (Value.int IntKind.i64 (0 : Int)), AV.v (Value.int IntKind.i64 (0 : Int)), AV.v (Value.int IntKind.i64 (0 : Int)), AV.v (Value.int IntKind.i64 (0 : Int))] (35 : Nat)] (hpRq a m (40 : TypeId) fun _ ↦ (0 : Int)))] (bif c then Res.out Ex.ret [AV.tup [AV.agg [AV.v (Value.int IntKind.i64 (s (0 : Nat))), AV.v (Value.int IntKind.i64 (s (1 : Nat))), AV.v (Value.int IntKind.i64 (s (2 : Nat))), AV.v (Value.int IntKind.i64 (s (3 : Nat)))], AV.v (Value.bool true)]] [AB.row false m (8 : Nat) (row8 a) (40 : TypeId)] else Res.out Ex.ret [AV.tup [AV.agg [AV.v (Value.int IntKind.i64 (0 : Int)), AV.v (Value.int IntKind.i64 (0 : Int)), AV.v (Value.int IntKind.i64 (0 : Int)), AV.v (Value.int IntKind.i64 (0 : Int))], AV.v (Value.bool false)]] [AB.row false m (8 : Nat) (row8 a) (40 : TypeId)])) := by kernel_rfl

theorem treeRqS (rv : (Nat → Nat → Int) → Nat → Bool) (a : Nat → Nat → Int) (m : Nat) (c : Bool) (s : Nat → Int) : execF Try.prog (gmRvQ rv) (lamRqS a m 40 c s) 100 fRqS [.sl 0 8 0 0 m none] [.row false m 8 (row8 a) 40] (packK 1)
    = needs [Nat.ble ((0 : Nat) + m) m, all8 m fun q ↦ row8 a ((0 : Nat) + q), decide (m ≤ (274877906944 : Nat))] (bif !rv (it8 fun q ↦ row8 a ((0 : Nat) + q)) m then Res.out Ex.ret [AV.tup [AV.agg [AV.v (Value.int IntKind.i64 (0 : Int)), AV.v (Value.int IntKind.i64 (0 : Int)), AV.v (Value.int IntKind.i64 (0 : Int)), AV.v (Value.int IntKind.i64 (0 : Int))], AV.v (Value.bool false)]] [AB.row false m (8 : Nat) (row8 a) (40 : TypeId)] else needs [chk ([AV.sl (0 : Nat) (8 : Nat) (0 : Nat) (0 : Nat) m none, AV.ptr (1 : Nat) (0 : Nat) (0 : Nat) (0 : Nat), AV.ptr (2 : Nat) (0 : Nat) (0 : Nat) (0 : Nat), AV.v (Value.int IntKind.i64 (0 : Int))] = stRqS m (0 : Nat) ∧ Hsim [AB.row false m (8 : Nat) (row8 a) (40 : TypeId), AB.cells [AV.v (Value.int IntKind.i64 (0 : Int)), AV.v (Value.int IntKind.i64 (0 : Int)), AV.v (Value.int IntKind.i64 (0 : Int)), AV.v (Value.int IntKind.i64 (0 : Int))] (35 : Nat), AB.cells [AV.v (Value.int IntKind.i64 (0 : Int)), AV.v (Value.int IntKind.i64 (0 : Int)), AV.v (Value.int IntKind.i64 (0 : Int)), AV.v (Value.int IntKind.i64 (0 : Int))] (35 : Nat)] (hpRq a m (40 : TypeId) fun _ ↦ (0 : Int)))] (bif c then Res.out Ex.ret [AV.tup [AV.agg [AV.v (Value.int IntKind.i64 (s (0 : Nat))), AV.v (Value.int IntKind.i64 (s (1 : Nat))), AV.v (Value.int IntKind.i64 (s (2 : Nat))), AV.v (Value.int IntKind.i64 (s (3 : Nat)))], AV.v (Value.bool true)]] [AB.row false m (8 : Nat) (row8 a) (40 : TypeId)] else Res.out Ex.ret [AV.tup [AV.agg [AV.v (Value.int IntKind.i64 (0 : Int)), AV.v (Value.int IntKind.i64 (0 : Int)), AV.v (Value.int IntKind.i64 (0 : Int)), AV.v (Value.int IntKind.i64 (0 : Int))], AV.v (Value.bool false)]] [AB.row false m (8 : Nat) (row8 a) (40 : TypeId)])) := by kernel_rfl

end Go.Proofs.Ytoligfhcogligaa
