/- The laws' helpers on lists of wheels: their table. Conditions: a list of wheels. -/
import Derived.Test.YtmdcafhnjihckaaZD0
import Derived.Test.YtmdcafhnjihckaaZD1
import Derived.Test.YtmdcafhnjihckaaZD2
import Derived.Test.YtmdcafhnjihckaaZD3
import Derived.Test.YtmdcafhnjihckaaZD4
import Derived.Test.YtmdcafhnjihckaaZD5
import Derived.Test.YtmdcafhnjihckaaZD6
import Derived.Test.YtmdcafhnjihckaaZE0
import Derived.Test.YtmdcafhnjihckaaZE1
/- The laws' helpers on lists of wheels. Conditions: those that the words name. -/
namespace Go.Proofs.Ytmdcafhnjihckaa
open Go.RowKit
set_option maxRecDepth 100000

theorem sumTW (m : Nat) (f : Nat → Nat → Int) (t : TypeId) (hm : m ≤ 2 ^ 40) :
    SumOk Try.prog 1 (.block 0 (.loop (loopAt 0 Try.f49))) (atS 23 (lvTW .normal) 1 [.sl 0 9 0 0 m none, .own 1 m, .v (i64 (0 : Nat))] (hpTW m f t (fun j k => bif Nat.blt j 0 then f j k else 0)) (fun K => K .normal (mkT 0 23 [(3, .own 1 m)]) (hpTW m f t f))) := by
  refine for_at g0_ok (n := 100) (m := 1) (lv := lvTW) (fun i => [.sl 0 9 0 0 m none, .own 1 m, .v (i64 (i : Nat))]) (fun i => hpTW m f t (fun j k => bif Nat.blt j i then f j k else 0)) (fun _ => True) m (fun _ => noLam) (lv3_ris rfl rfl rfl) (Nat.le_refl _) trivial fun K Q hk i hi him => ⟨noLam_ok _ _ _, ?_⟩
  rw [rndTW]
  refine good_cond (fun c1 => ?_) fun c1 => ?_
  · have c1 := of_decide_eq_true c1
    have c1' : i < m := by omega
    rw [Int.toNat_natCast, Nat.zero_add, wr_in (x := (i : Int) + 1) (by omega)]
    refine good_needs (by simp only [ob_cons, ob_nil, and_true, decide_eq_true_eq]; omega) (good_out ⟨i + 1, ⟨rfl, c1', trivial⟩, rfl, .cons (ABeq.refl _) (.cons (ABeq.row fun q hq => ?_) .nil)⟩)
    show row9 (fun q k => bif Nat.beq q i then f i k else bif Nat.blt q i then f q k else 0) q = _
    refine row9_congr fun k hk9 => ?_
    by_cases e : q = i
    · rw [e, show Nat.beq i i = true from Nat.beq_refl i, blt_yes (Nat.lt_succ_self i), cond_true, cond_true]
    · rw [beq_ne e, cond_false]
      by_cases h : q < i
      · rw [blt_yes h, blt_yes (by omega : q < i + 1)]
      · have b1 : Nat.blt q i = false := by
          cases hb : Nat.blt q i with
          | false => rfl
          | true => rw [Nat.blt_eq] at hb; omega
        have b2 : Nat.blt q (i + 1) = false := by
          cases hb : Nat.blt q (i + 1) with
          | false => rfl
          | true => rw [Nat.blt_eq] at hb; omega
        rw [b1, b2]
  · have c1 := of_decide_eq_false c1
    have : i = m := by omega
    subst this
    refine good_out ⟨hpTW i f t f, .cons (ABeq.refl _) (.cons (ABeq.row fun q hq => ?_) .nil), ?_⟩
    · exact row9_congr fun k _ => by rw [blt_yes hq]; rfl
    · rw [if_pos rfl]
      exact hk
def F_toW : List SA → Option FR
  | [.row m g] => some { val := .own 0 m, new := [.row true m 9 (row9 (itW g)) 46], obl := [allW m g, decide (m ≤ 2 ^ 39)] }
  | _ => none
def md_toW : List Md := [.rd 9 109]
theorem ok_toW : SpecOk Try.prog 49 (specR md_toW F_toW) := by
  refine specR_hr g0_ok Try.func49 rfl fun sas fr hF ho => ?_
  unfold F_toW at hF
  split at hF
  · rename_i m g
    cases hF
    simp only [ob_cons] at ho
    obtain ⟨h1, h2, _⟩ := ho
    have hm := of_decide_eq_true h2
    refine ⟨[.row false m 9 (row9 (itW g)) 109], lamTW m (itW g) 109, 100, .cons (ABeq.row fun j hj => allW_get h1 j hj) .nil, lam1 (by kernel_rfl) (sumTW m (itW g) 109 (by omega)), ?_⟩
    show GoodQ (execF Try.prog g0 (lamTW m (itW g) 109) 100 Try.f49 [.sl 0 9 0 0 m none] [.row false m 9 (row9 (itW g)) 109] (packK 1)) _
    rw [treeTW]
    simp only [Int.toNat_natCast]
    refine good_needs ?_ (good_out ⟨_, rfl, rfl, .cons (ABeq.row fun j hj => (allW_get h1 j hj).symm) (Hsim.refl _)⟩)
    simp only [ob_cons, ob_nil, and_true]
    exact ⟨by simp, decide_eq_true (by omega), chk_of ⟨trivial, .cons (ABeq.refl _) (.cons (ABeq.row fun j hj => rfl) .nil)⟩⟩
  · cases hF

theorem ok_eqW : SpecOk Try.prog 104 (specV f_eqW) := by
  refine mkV (n := 100) g0_ok Try.func104 rfl fun vs v ob hF ho => ?_
  unfold f_eqW at hF
  split at hF
  · rename_i a0 a1 a2 a3 a4 a5 a6 a7 a8 b0 b1 b2 b3 b4 b5 b6 b7 b8
    cases hF
    simp only [ob_cons, decide_eq_true_eq] at ho
    obtain ⟨rfl, rfl, rfl, rfl, rfl, rfl, rfl, rfl, rfl, _⟩ := ho
    show Good (execF Try.prog g0 noLam 100 Try.f104 ([Value.agg ⟨[i64 (v9 a0 a1 a2 a3 a4 a5 a6 a7 a8 0), i64 (v9 a0 a1 a2 a3 a4 a5 a6 a7 a8 1), i64 (v9 a0 a1 a2 a3 a4 a5 a6 a7 a8 2), i64 (v9 a0 a1 a2 a3 a4 a5 a6 a7 a8 3), i64 (v9 a0 a1 a2 a3 a4 a5 a6 a7 a8 4), i64 (v9 a0 a1 a2 a3 a4 a5 a6 a7 a8 5), i64 (v9 a0 a1 a2 a3 a4 a5 a6 a7 a8 6), i64 (v9 a0 a1 a2 a3 a4 a5 a6 a7 a8 7), i64 (v9 a0 a1 a2 a3 a4 a5 a6 a7 a8 8)]⟩, Value.agg ⟨[i64 (v9 a0 a1 a2 a3 a4 a5 a6 a7 a8 0), i64 (v9 a0 a1 a2 a3 a4 a5 a6 a7 a8 1), i64 (v9 a0 a1 a2 a3 a4 a5 a6 a7 a8 2), i64 (v9 a0 a1 a2 a3 a4 a5 a6 a7 a8 3), i64 (v9 a0 a1 a2 a3 a4 a5 a6 a7 a8 4), i64 (v9 a0 a1 a2 a3 a4 a5 a6 a7 a8 5), i64 (v9 a0 a1 a2 a3 a4 a5 a6 a7 a8 6), i64 (v9 a0 a1 a2 a3 a4 a5 a6 a7 a8 7), i64 (v9 a0 a1 a2 a3 a4 a5 a6 a7 a8 8)]⟩].map .v) [] valK) _
    rw [treeQW]
    simp only [bne_self_eq_false, cond_false]
    exact one rfl
  · cases hF
theorem gmQ_ok : GamOk Try.prog gmQ := ext_ok g0_ok ok_eqW

/-- The first m wheels are the same. -/
def sameP (m : Nat) (f h : Nat → Nat → Int) : Prop := ∀ j, j < m → ∀ k, k < 9 → f j k = h j k
noncomputable def sameW (m : Nat) (f h : Nat → Nat → Int) : Bool := chk (sameP m f h)
theorem sumQW (m : Nat) (f h : Nat → Nat → Int) (hm : m ≤ 2 ^ 40) (hs : sameP m f h) :
    SumOk Try.prog 2 (.block 0 (.loop (loopAt 0 Try.f50))) (atS 27 (lvQW .normal) 2 [.sl 0 9 0 0 m none, .sl 1 9 0 0 m none, .v (i64 (0 : Nat))] (hpQW m f h) (fun K => K .normal (mkT 0 27 []) (hpQW m f h))) := by
  refine for_at gmQ_ok (n := 100) (m := 2) (lv := lvQW) (fun i => [.sl 0 9 0 0 m none, .sl 1 9 0 0 m none, .v (i64 (i : Nat))]) (fun _ => hpQW m f h) (fun _ => True) m (fun _ => noLam) (lv3_ris rfl rfl rfl) (Nat.le_refl _) trivial fun K Q hk i hi him => ⟨noLam_ok _ _ _, ?_⟩
  rw [rndQW]
  refine good_cond (fun c1 => ?_) fun c1 => ?_
  · have c1 := of_decide_eq_true c1
    have c1' : i < m := by omega
    rw [Int.toNat_natCast, Nat.zero_add, wr_in (x := (i : Int) + 1) (by omega)]
    have e := hs i c1'
    refine good_needs ?_ (good_out ⟨i + 1, ⟨rfl, c1', trivial⟩, rfl, Hsim.refl _⟩)
    simp only [ob_cons, ob_nil, and_true, decide_eq_true_eq]
    exact ⟨by omega, by omega, by omega, by omega, e 0 (by omega), e 1 (by omega), e 2 (by omega), e 3 (by omega), e 4 (by omega), e 5 (by omega), e 6 (by omega), e 7 (by omega), e 8 (by omega)⟩
  · have c1 := of_decide_eq_false c1
    have : i = m := by omega
    subst this
    refine good_out ⟨_, Hsim.refl _, ?_⟩
    rw [if_pos rfl]
    exact hk
/-- Two lists of wheels that are the same. -/
noncomputable def F_eqWS : List SA → Option FR
  | [.row m g, .row m2 g2] => some { val := .v (.bool true), obl := [Nat.beq m2 m, allW m g, allW m g2, sameW m (itW g) (itW g2), decide (m ≤ 2 ^ 40)] }
  | _ => none
theorem ok_eqWS : SpecOk Try.prog 50 (specR md_eqWS F_eqWS) := by
  refine specR_hr g0_ok Try.func50 rfl fun sas fr hF ho => ?_
  unfold F_eqWS at hF
  split at hF
  · rename_i m g m2 g2
    cases hF
    simp only [ob_cons] at ho
    obtain ⟨h0, h1, h2, h3, h4, _⟩ := ho
    have h0 := Nat.eq_of_beq_eq_true h0
    subst h0
    have hm := of_decide_eq_true h4
    refine ⟨hpQW m2 (itW g) (itW g2), lamQW m2 (itW g) (itW g2), 100, .cons (ABeq.row fun j hj => allW_get h1 j hj) (.cons (ABeq.row fun j hj => allW_get h2 j hj) .nil), lam1 (by kernel_rfl) (sumQW m2 (itW g) (itW g2) hm (of_chk h3)), ?_⟩
    show GoodQ (execF Try.prog g0 (lamQW m2 (itW g) (itW g2)) 100 Try.f50 [.sl 0 9 0 0 m2 none, .sl 1 9 0 0 m2 none] (hpQW m2 (itW g) (itW g2)) (packK 2)) _
    rw [treeQS]
    exact good_false (by simp) (good_needs (by rw [ob_cons]; exact ⟨chk_of ⟨rfl, Hsim.refl _⟩, rfl⟩) (good_out ⟨_, rfl, rfl, .cons (ABeq.row fun j hj => (allW_get h1 j hj).symm) (.cons (ABeq.row fun j hj => (allW_get h2 j hj).symm) .nil)⟩))
  · cases hF

/-- Marks, from k on. -/
def markF (k : Int) : Nat → Nat → Int := fun j c => k + 9 * (j : Int) + c
theorem sumHW (m : Nat) (f : Nat → Nat → Int) (k : Int) (hm : m ≤ 2 ^ 40) (hk0 : 0 ≤ k ∧ k ≤ 2 ^ 50) (hs : sameP m f (markF k)) :
    SumOk Try.prog 1 (.block 0 (.loop (loopAt 0 Try.f56))) (atS 39 (lvHW .normal) 1 [.sl 0 9 0 0 m none, .v (i64 (k + 9 * (0 : Nat))), .v (i64 (0 : Nat))] (hpHW m f) (fun K => K .normal (mkT 0 39 [(1, .v (i64 (k + 9 * m)))]) (hpHW m f))) := by
  refine for_at g0_ok (n := 100) (m := 1) (lv := lvHW) (fun i => [.sl 0 9 0 0 m none, .v (i64 (k + 9 * (i : Nat))), .v (i64 (i : Nat))]) (fun _ => hpHW m f) (fun _ => True) m (fun _ => noLam) (lv3_ris rfl rfl rfl) (Nat.le_refl _) trivial fun K Q hk i hi him => ⟨noLam_ok _ _ _, ?_⟩
  rw [rndHW]
  refine good_cond (fun c1 => ?_) fun c1 => ?_
  · have c1 := of_decide_eq_true c1
    have c1' : i < m := by omega
    have e1 : IntKind.wrap IntKind.i64 (k + 9 * (i : Int) + 1) = k + 9 * (i : Int) + 1 := (wr_in (by omega)).trans (by omega)
    have e2 : IntKind.wrap IntKind.i64 (k + 9 * (i : Int) + 1 + 1) = k + 9 * (i : Int) + 2 := (wr_in (by omega)).trans (by omega)
    have e3 : IntKind.wrap IntKind.i64 (k + 9 * (i : Int) + 2 + 1) = k + 9 * (i : Int) + 3 := (wr_in (by omega)).trans (by omega)
    have e4 : IntKind.wrap IntKind.i64 (k + 9 * (i : Int) + 3 + 1) = k + 9 * (i : Int) + 4 := (wr_in (by omega)).trans (by omega)
    have e5 : IntKind.wrap IntKind.i64 (k + 9 * (i : Int) + 4 + 1) = k + 9 * (i : Int) + 5 := (wr_in (by omega)).trans (by omega)
    have e6 : IntKind.wrap IntKind.i64 (k + 9 * (i : Int) + 5 + 1) = k + 9 * (i : Int) + 6 := (wr_in (by omega)).trans (by omega)
    have e7 : IntKind.wrap IntKind.i64 (k + 9 * (i : Int) + 6 + 1) = k + 9 * (i : Int) + 7 := (wr_in (by omega)).trans (by omega)
    have e8 : IntKind.wrap IntKind.i64 (k + 9 * (i : Int) + 7 + 1) = k + 9 * (i : Int) + 8 := (wr_in (by omega)).trans (by omega)
    have e9 : IntKind.wrap IntKind.i64 (k + 9 * (i : Int) + 8 + 1) = k + 9 * ((i + 1 : Nat) : Int) := (wr_in (by omega)).trans (by omega)
    rw [Int.toNat_natCast, Nat.zero_add]
    rw [e1, e2, e3, e4, e5, e6, e7, e8, e9, wr_in (x := (i : Int) + 1) (by omega)]
    have ob : obls [decide ((i : Int) < m), decide (i < m)] = true := by simp only [ob_cons, ob_nil, and_true, decide_eq_true_eq]; omega
    have e := hs i c1'
    have h0 : f i 0 = k + 9 * (i : Int) := by rw [e 0 (by omega)]; simp [markF]
    have h1 : f i 1 = k + 9 * (i : Int) + 1 := e 1 (by omega)
    have h2 : f i 2 = k + 9 * (i : Int) + 2 := e 2 (by omega)
    have h3 : f i 3 = k + 9 * (i : Int) + 3 := e 3 (by omega)
    have h4 : f i 4 = k + 9 * (i : Int) + 4 := e 4 (by omega)
    have h5 : f i 5 = k + 9 * (i : Int) + 5 := e 5 (by omega)
    have h6 : f i 6 = k + 9 * (i : Int) + 6 := e 6 (by omega)
    have h7 : f i 7 = k + 9 * (i : Int) + 7 := e 7 (by omega)
    have h8 : f i 8 = k + 9 * (i : Int) + 8 := e 8 (by omega)
    exact good_needs ob (good_false (by simp [h0]) (good_needs ob (good_false (by simp [h1]) (good_needs ob (good_false (by simp [h2]) (good_needs ob (good_false (by simp [h3]) (good_needs ob (good_false (by simp [h4]) (good_needs ob (good_false (by simp [h5]) (good_needs ob (good_false (by simp [h6]) (good_needs ob (good_false (by simp [h7]) (good_needs ob (good_false (by simp [h8]) (good_out ⟨i + 1, ⟨rfl, c1', trivial⟩, rfl, Hsim.refl _⟩))))))))))))))))))
  · have c1 := of_decide_eq_false c1
    have : i = m := by omega
    subst this
    refine good_out ⟨_, Hsim.refl _, ?_⟩
    rw [if_pos rfl]
    exact hk
/-- A list that holds the marks. -/
noncomputable def F_heldW : List SA → Option FR
  | [.row m g, .v (.int .i64 k)] => some { val := .v (i64 (k + 9 * m)), obl := [allW m g, sameW m (itW g) (markF k), decide (0 ≤ k), decide (k ≤ 2 ^ 50), decide (m ≤ 2 ^ 40)] }
  | _ => none
theorem ok_heldW : SpecOk Try.prog 56 (specR md_wv F_heldW) := by
  refine specR_hr g0_ok Try.func56 rfl fun sas fr hF ho => ?_
  unfold F_heldW at hF
  split at hF
  · rename_i m g k
    cases hF
    simp only [ob_cons] at ho
    obtain ⟨h1, h3, h4, h5, h6, _⟩ := ho
    have h4 := of_decide_eq_true h4
    have h5 := of_decide_eq_true h5
    have hm := of_decide_eq_true h6
    have e0 : k = k + 9 * ((0 : Nat) : Int) := by omega
    have hS := sumHW m (itW g) k hm ⟨h4, h5⟩ (of_chk h3)
    rw [← e0] at hS
    refine ⟨hpHW m (itW g), lamHW m (itW g) k (k + 9 * m), 100, .cons (ABeq.row fun j hj => allW_get h1 j hj) .nil, lam1 (by kernel_rfl) hS, ?_⟩
    show GoodQ (execF Try.prog g0 (lamHW m (itW g) k (k + 9 * m)) 100 Try.f56 [.sl 0 9 0 0 m none, .v (i64 k)] (hpHW m (itW g)) (packK 1)) _
    rw [treeHW]
    exact good_needs (by rw [ob_cons]; exact ⟨chk_of ⟨rfl, Hsim.refl _⟩, rfl⟩) (good_out ⟨_, rfl, rfl, .cons (ABeq.row fun j hj => (allW_get h1 j hj).symm) .nil⟩)
  · cases hF

theorem upd9 (G : Nat → List Value) (i : Nat) (v0 v1 v2 v3 v4 v5 v6 v7 v8 : Value) (h : ∃ a : Nat → Int, G i = [i64 (a 0), i64 (a 1), i64 (a 2), i64 (a 3), i64 (a 4), i64 (a 5), i64 (a 6), i64 (a 7), i64 (a 8)]) (j : Nat) :
    (upd1 (upd1 (upd1 (upd1 (upd1 (upd1 (upd1 (upd1 (upd1 G i 0 v0) i 1 v1) i 2 v2) i 3 v3) i 4 v4) i 5 v5) i 6 v6) i 7 v7) i 8 v8) j = if j = i then [v0, v1, v2, v3, v4, v5, v6, v7, v8] else G j := by
  obtain ⟨a, ha⟩ := h
  have b1 : Nat.beq i i = true := Nat.beq_refl i
  by_cases e : j = i
  · subst e
    simp only [upd1, mergeL_eq, b1, cond_true, ha, if_pos]
    rfl
  · simp only [upd1, mergeL_eq, beq_ne e, cond_false, if_neg e]
/-- Marked below i. -/
def mkF (k : Int) (f : Nat → Nat → Int) (i : Nat) : Nat → Nat → Int := fun j c => bif Nat.blt j i then markF k j c else f j c
theorem sumMo (m : Nat) (f : Nat → Nat → Int) (k : Int) (hm : m ≤ 2 ^ 40) (hk0 : 0 ≤ k ∧ k ≤ 2 ^ 50) :
    SumOk Try.prog 1 (.block 0 (.loop (loopAt 0 Try.f55))) (atS 35 (lvMW .normal) 1 [.own 0 m, .v (i64 (k + 9 * (0 : Nat))), .v (i64 (0 : Nat))] (hpMW m f) (fun K => K .normal (mkT 0 35 [(1, .v (i64 (k + 9 * m)))]) (hpMW m (markF k)))) := by
  refine for_at g0_ok (n := 100) (m := 1) (lv := lvMW) (fun i => [.own 0 m, .v (i64 (k + 9 * (i : Nat))), .v (i64 (i : Nat))]) (fun i => hpMW m (mkF k f i)) (fun _ => True) m (fun _ => noLam) (lv3_ris rfl rfl rfl) (Nat.le_refl _) trivial fun K Q hk i hi him => ⟨noLam_ok _ _ _, ?_⟩
  rw [rndMo]
  refine good_cond (fun c1 => ?_) fun c1 => ?_
  · have c1 := of_decide_eq_true c1
    have c1' : i < m := by omega
    have e1 : IntKind.wrap IntKind.i64 (k + 9 * (i : Int) + 1) = k + 9 * (i : Int) + 1 := (wr_in (by omega)).trans (by omega)
    have e2 : IntKind.wrap IntKind.i64 (k + 9 * (i : Int) + 1 + 1) = k + 9 * (i : Int) + 2 := (wr_in (by omega)).trans (by omega)
    have e3 : IntKind.wrap IntKind.i64 (k + 9 * (i : Int) + 2 + 1) = k + 9 * (i : Int) + 3 := (wr_in (by omega)).trans (by omega)
    have e4 : IntKind.wrap IntKind.i64 (k + 9 * (i : Int) + 3 + 1) = k + 9 * (i : Int) + 4 := (wr_in (by omega)).trans (by omega)
    have e5 : IntKind.wrap IntKind.i64 (k + 9 * (i : Int) + 4 + 1) = k + 9 * (i : Int) + 5 := (wr_in (by omega)).trans (by omega)
    have e6 : IntKind.wrap IntKind.i64 (k + 9 * (i : Int) + 5 + 1) = k + 9 * (i : Int) + 6 := (wr_in (by omega)).trans (by omega)
    have e7 : IntKind.wrap IntKind.i64 (k + 9 * (i : Int) + 6 + 1) = k + 9 * (i : Int) + 7 := (wr_in (by omega)).trans (by omega)
    have e8 : IntKind.wrap IntKind.i64 (k + 9 * (i : Int) + 7 + 1) = k + 9 * (i : Int) + 8 := (wr_in (by omega)).trans (by omega)
    have e9 : IntKind.wrap IntKind.i64 (k + 9 * (i : Int) + 8 + 1) = k + 9 * ((i + 1 : Nat) : Int) := (wr_in (by omega)).trans (by omega)
    simp only [wr1]
    rw [e1, e2, e3, e4, e5, e6, e7, e8, e9, wr_in (x := (i : Int) + 1) (by omega)]
    refine good_needs (by simp [obls, List.all_flatMap, c1']) (good_out ⟨i + 1, ⟨rfl, c1', trivial⟩, rfl, .cons (ABeq.row fun j hj => ?_) .nil⟩)
    rw [upd9 _ _ _ _ _ _ _ _ _ _ _ ⟨mkF k f i i, rfl⟩]
    by_cases e : j = i
    · subst e
      rw [if_pos rfl]
      simp only [row9, mkF, blt_yes (Nat.lt_succ_self j), cond_true, markF]
      simp
    · rw [if_neg e]
      refine row9_congr fun c _ => ?_
      have b2 : Nat.blt j (i + 1) = Nat.blt j i := by
        rw [Bool.eq_iff_iff, Nat.blt_eq, Nat.blt_eq]
        omega
      simp only [mkF, b2]
  · have c1 := of_decide_eq_false c1
    have : i = m := by omega
    subst this
    refine good_out ⟨hpMW i (markF k), .cons (ABeq.row fun q hq => ?_) .nil, ?_⟩
    · exact row9_congr fun c _ => by simp only [mkF, blt_yes hq, cond_true]
    · rw [if_pos rfl]
      exact hk
theorem sumMs (m : Nat) (f : Nat → Nat → Int) (k : Int) (hm : m ≤ 2 ^ 40) (hk0 : 0 ≤ k ∧ k ≤ 2 ^ 50) :
    SumOk Try.prog 1 (.block 0 (.loop (loopAt 0 Try.f55))) (atS 35 (lvMW .normal) 1 [.sl 0 9 0 0 m (some m), .v (i64 (k + 9 * (0 : Nat))), .v (i64 (0 : Nat))] (hpMW m f) (fun K => K .normal (mkT 0 35 [(1, .v (i64 (k + 9 * m)))]) (hpMW m (markF k)))) := by
  refine for_at g0_ok (n := 100) (m := 1) (lv := lvMW) (fun i => [.sl 0 9 0 0 m (some m), .v (i64 (k + 9 * (i : Nat))), .v (i64 (i : Nat))]) (fun i => hpMW m (mkF k f i)) (fun _ => True) m (fun _ => noLam) (lv3_ris rfl rfl rfl) (Nat.le_refl _) trivial fun K Q hk i hi him => ⟨noLam_ok _ _ _, ?_⟩
  rw [rndMs]
  refine good_cond (fun c1 => ?_) fun c1 => ?_
  · have c1 := of_decide_eq_true c1
    have c1' : i < m := by omega
    have e1 : IntKind.wrap IntKind.i64 (k + 9 * (i : Int) + 1) = k + 9 * (i : Int) + 1 := (wr_in (by omega)).trans (by omega)
    have e2 : IntKind.wrap IntKind.i64 (k + 9 * (i : Int) + 1 + 1) = k + 9 * (i : Int) + 2 := (wr_in (by omega)).trans (by omega)
    have e3 : IntKind.wrap IntKind.i64 (k + 9 * (i : Int) + 2 + 1) = k + 9 * (i : Int) + 3 := (wr_in (by omega)).trans (by omega)
    have e4 : IntKind.wrap IntKind.i64 (k + 9 * (i : Int) + 3 + 1) = k + 9 * (i : Int) + 4 := (wr_in (by omega)).trans (by omega)
    have e5 : IntKind.wrap IntKind.i64 (k + 9 * (i : Int) + 4 + 1) = k + 9 * (i : Int) + 5 := (wr_in (by omega)).trans (by omega)
    have e6 : IntKind.wrap IntKind.i64 (k + 9 * (i : Int) + 5 + 1) = k + 9 * (i : Int) + 6 := (wr_in (by omega)).trans (by omega)
    have e7 : IntKind.wrap IntKind.i64 (k + 9 * (i : Int) + 6 + 1) = k + 9 * (i : Int) + 7 := (wr_in (by omega)).trans (by omega)
    have e8 : IntKind.wrap IntKind.i64 (k + 9 * (i : Int) + 7 + 1) = k + 9 * (i : Int) + 8 := (wr_in (by omega)).trans (by omega)
    have e9 : IntKind.wrap IntKind.i64 (k + 9 * (i : Int) + 8 + 1) = k + 9 * ((i + 1 : Nat) : Int) := (wr_in (by omega)).trans (by omega)
    simp only [wr1, Nat.zero_add]
    rw [e1, e2, e3, e4, e5, e6, e7, e8, e9, wr_in (x := (i : Int) + 1) (by omega)]
    refine good_needs (by simp [obls, List.all_flatMap, c1']) (good_out ⟨i + 1, ⟨rfl, c1', trivial⟩, rfl, .cons (ABeq.row fun j hj => ?_) .nil⟩)
    rw [upd9 _ _ _ _ _ _ _ _ _ _ _ ⟨mkF k f i i, rfl⟩]
    by_cases e : j = i
    · subst e
      rw [if_pos rfl]
      simp only [row9, mkF, blt_yes (Nat.lt_succ_self j), cond_true, markF]
      simp
    · rw [if_neg e]
      refine row9_congr fun c _ => ?_
      have b2 : Nat.blt j (i + 1) = Nat.blt j i := by
        rw [Bool.eq_iff_iff, Nat.blt_eq, Nat.blt_eq]
        omega
      simp only [mkF, b2]
  · have c1 := of_decide_eq_false c1
    have : i = m := by omega
    subst this
    refine good_out ⟨hpMW i (markF k), .cons (ABeq.row fun q hq => ?_) .nil, ?_⟩
    · exact row9_congr fun c _ => by simp only [mkF, blt_yes hq, cond_true]
    · rw [if_pos rfl]
      exact hk
def F_markW : List AV → List AB → Option HR
  | [.own 0 m, .v (.int .i64 k)], [.row true n 9 g t] => some { val := .v (i64 (k + 9 * m)), out := [.row true m 9 (row9 (markF k)) t], obl := [Nat.beq n m, Nat.beq t 46, allW m g, decide (0 ≤ k), decide (k ≤ 2 ^ 50), decide (m ≤ 2 ^ 40)] }
  | [.sl 0 9 0 0 m (some c), .v (.int .i64 k)], [.row true n 9 g t] => some { val := .v (i64 (k + 9 * m)), out := [.row true m 9 (row9 (markF k)) t], obl := [Nat.beq n m, Nat.beq c m, Nat.beq t 46, allW m g, decide (0 ≤ k), decide (k ≤ 2 ^ 50), decide (m ≤ 2 ^ 40)] }
  | _, _ => none
theorem ok_markW : SpecOk Try.prog 55 (specH [] F_markW) := by
  refine specH_ok g0_ok Try.func55 rfl fun avs H hr hF ho => ?_
  unfold F_markW at hF
  split at hF
  · rename_i m k n g t
    cases hF
    simp only [ob_cons] at ho
    obtain ⟨h0, ht, h1, h4, h5, h6, _⟩ := ho
    have h0 := Nat.eq_of_beq_eq_true h0
    have ht := Nat.eq_of_beq_eq_true ht
    have h4 := of_decide_eq_true h4
    have h5 := of_decide_eq_true h5
    have hm := of_decide_eq_true h6
    subst ht h0
    have e0 : k = k + 9 * ((0 : Nat) : Int) := by omega
    have hS := sumMo n (itW g) k hm ⟨h4, h5⟩
    rw [← e0] at hS
    refine ⟨hpMW n (itW g), lamMW (.own 0 n) n (itW g) (markF k) k (k + 9 * n), 100, .cons (ABeq.row fun j hj => allW_get h1 j hj) .nil, lam1 (by kernel_rfl) hS, ?_⟩
    show GoodQ (execF Try.prog g0 (lamMW (.own 0 n) n (itW g) (markF k) k (k + 9 * n)) 100 Try.f55 [.own 0 n, .v (i64 k)] (hpMW n (itW g)) (packK 1)) _
    rw [treeMo]
    exact good_needs (by rw [ob_cons]; exact ⟨chk_of ⟨rfl, Hsim.refl _⟩, rfl⟩) (good_out ⟨rfl, Hsim.refl _⟩)
  · rename_i m c k n g t
    cases hF
    simp only [ob_cons] at ho
    obtain ⟨h0, hc, ht, h1, h4, h5, h6, _⟩ := ho
    have h0 := Nat.eq_of_beq_eq_true h0
    have ht := Nat.eq_of_beq_eq_true ht
    have hc := Nat.eq_of_beq_eq_true hc
    have h4 := of_decide_eq_true h4
    have h5 := of_decide_eq_true h5
    have hm := of_decide_eq_true h6
    subst ht hc h0
    have e0 : k = k + 9 * ((0 : Nat) : Int) := by omega
    have hS := sumMs n (itW g) k hm ⟨h4, h5⟩
    rw [← e0] at hS
    refine ⟨hpMW n (itW g), lamMW (.sl 0 9 0 0 n (some n)) n (itW g) (markF k) k (k + 9 * n), 100, .cons (ABeq.row fun j hj => allW_get h1 j hj) .nil, lam1 (by kernel_rfl) hS, ?_⟩
    show GoodQ (execF Try.prog g0 (lamMW (.sl 0 9 0 0 n (some n)) n (itW g) (markF k) k (k + 9 * n)) 100 Try.f55 [.sl 0 9 0 0 n (some n), .v (i64 k)] (hpMW n (itW g)) (packK 1)) _
    rw [treeMs]
    exact good_needs (by rw [ob_cons]; exact ⟨chk_of ⟨rfl, Hsim.refl _⟩, rfl⟩) (good_out ⟨rfl, Hsim.refl _⟩)
  · cases hF

end Go.Proofs.Ytmdcafhnjihckaa

/- The laws' helpers on lists of wheels: their table. Conditions: a list of wheels. -/
namespace Go.Proofs.Ytmdcafhnjihckaa
open Go.RowKit

noncomputable def gmH : Gam := ext (ext (ext (ext g0 49 (specR md_toW F_toW)) 50 (specR md_eqWS F_eqWS)) 55 (specH [] F_markW)) 56 (specR md_wv F_heldW)
theorem gmH_ok : GamOk Try.prog gmH := ext_ok (ext_ok (ext_ok (ext_ok g0_ok ok_toW) ok_eqWS) ok_markW) ok_heldW
theorem sameW_self (m : Nat) (f : Nat → Nat → Int) : sameW m f f = true := chk_of fun _ _ _ _ => rfl
theorem sameW_zero (f h : Nat → Nat → Int) : sameW 0 f h = true := chk_of fun _ hj => absurd hj (Nat.not_lt_zero _)
theorem sameW_row (m : Nat) (f : Nat → Nat → Int) : sameW m (itW (row9 f)) f = true := chk_of fun j _ k hk => itW_row f j k hk

end Go.Proofs.Ytmdcafhnjihckaa
