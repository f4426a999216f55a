/- BookSort of the program and of the reference return the same: FnExactBookSort returns true, and its arguments read as before. Conditions: the tables, as the row lists them; tied by the card. -/
import Derived.Test.YtcadinbahmliiaaGreatDoorZD0
import Derived.Test.YtcadinbahmliiaaGreatDoorZD1
import Derived.Test.YtcadinbahmliiaaGreatDoorZD2
import Derived.Test.YtcadinbahmliiaaGreatDoorZD3
import Derived.Test.YtcadinbahmliiaaGreatDoorZD4
import Derived.Test.YtcadinbahmliiaaGreatDoorZD5
import Derived.Test.YtcadinbahmliiaaGreatDoorZD6
import Derived.Test.YtcadinbahmliiaaGreatDoorZD7
import Derived.Test.YtcadinbahmliiaaGreatDoorZD8
import Derived.Test.YtcadinbahmliiaaGreatDoorZKBs0
import Derived.Test.YtcadinbahmliiaaGreatDoorTie
import Derived.SevenTiedAt
/- The laws' helpers on lists of entries: their words. Conditions: those that the words name. -/
namespace Go.Proofs.YtcadinbahmliiaaGreatDoor
open Go.RowKit
set_option maxRecDepth 100000

def szL (ft : Nat → ByteArray) (l : Int) : Nat → Int
  | 0 => l
  | i + 1 => szL ft l i - (ft i).size
theorem szL_le (ft : Nat → ByteArray) (l : Int) (i : Nat) : ∀ k : Nat, szL ft l (i + k) ≤ szL ft l i
  | 0 => Int.le_refl _
  | k + 1 => by
    have := szL_le ft l i k
    rw [← Nat.add_assoc, szL]
    omega
theorem szL_mono {ft : Nat → ByteArray} {l : Int} {i m : Nat} (h : i ≤ m) : szL ft l m ≤ szL ft l i := by
  have := szL_le ft l i (m - i)
  rwa [show i + (m - i) = m by omega] at this
def szV (ft : Nat → ByteArray) (m : Nat) (l : Int) : Int := bif decide (szL ft (l - m) m < 0) then -1 else szL ft (l - m) m
def smallZ (m : Nat) (ft : Nat → ByteArray) : Bool := (List.range m).all fun j => Nat.ble (ft j).size 9223372036854775807
theorem smallZ_get {m : Nat} {ft : Nat → ByteArray} (h : smallZ m ft = true) {j : Nat} (hj : j < m) : (ft j).size ≤ 9223372036854775807 := Nat.le_of_ble_eq_true (List.all_eq_true.1 h j (List.mem_range.2 hj))
theorem sumSz (m : Nat) (ft : Nat → ByteArray) (fc : Nat → Int) (t : TypeId) (l : Int) (hm : m ≤ 9223372036854775807) (h0 : 0 ≤ l) (hl : l ≤ 2 ^ 40) (hz : smallZ m ft = true) :
    SumOk Tryz.prog 1 (.block 0 (.loop (loopAt 0 Tryz.f19))) (atS 27 (lvSz .normal) 1 [.sl 0 2 0 0 m none, .v (i64 l), .v (i64 (0 : Nat))] (hpEl m ft fc t) (fun K => cond (decide (szL ft l m < 0)) (K .ret (mkT 0 27 [(4, .v (i64 (-1)))]) (hpEl m ft fc t)) (K .normal (mkT 0 27 [(1, .v (i64 (szL ft l m)))]) (hpEl m ft fc t)))) := by
  refine for_at g0_ok (n := 100) (m := 1) (lv := lvSz) (fun i => [.sl 0 2 0 0 m none, .v (i64 (szL ft l i)), .v (i64 (i : Nat))]) (fun _ => hpEl m ft fc t) (fun i => 0 ≤ szL ft l i) m (fun _ => noLam) (lv3_ris rfl rfl rfl) (Nat.le_refl _) h0 fun K Q hk i hi him => ⟨noLam_ok _ _ _, ?_⟩
  have hle : szL ft l i ≤ l := szL_mono (i := 0) (Nat.zero_le i)
  rw [rndSz]
  refine good_cond (fun c1 => ?_) fun c1 => ?_
  · have c1 := of_decide_eq_true c1
    have c1' : i < m := by omega
    have hs := smallZ_get hz c1'
    rw [Int.toNat_natCast, Nat.zero_add, wr_in (x := (i : Int) + 1) (by omega), wr_in (x := szL ft l i - ((ft i).size : Int)) (by omega)]
    have e : szL ft l (i + 1) = szL ft l i - (ft i).size := rfl
    have stop : szL ft l i - ((ft i).size : Int) < 0 → (K .ret (mkT 0 27 [(4, .v (i64 (-1)))]) (hpEl m ft fc t)).ok Q := fun h => by
      have : szL ft l m < 0 := by
        have := szL_mono (ft := ft) (l := l) (i := i + 1) (m := m) c1'
        omega
      rw [decide_eq_true this] at hk
      exact hk
    refine good_needs (by simp only [ob_cons, ob_nil, and_true, decide_eq_true_eq]; omega) (good_cond (fun q => good_out ⟨_, Hsim.refl _, stop (of_decide_eq_true q)⟩) fun q => good_cond (fun q => good_out ⟨_, Hsim.refl _, stop (of_decide_eq_true q)⟩) fun q2 => good_out ⟨i + 1, ⟨rfl, c1', ?_⟩, rfl, Hsim.refl _⟩)
    have q := of_decide_eq_false q
    rw [e]
    omega
  · have c1 := of_decide_eq_false c1
    have : i = m := by omega
    subst this
    refine good_out ⟨_, Hsim.refl _, ?_⟩
    rw [if_pos rfl]
    rw [decide_eq_false (by omega)] at hk
    exact hk
def F_szE : List SA → Option FR
  | [.row m g, .v (.int .i64 l)] => some { val := .v (i64 (szV (itT g) m l)), obl := [allE m g, smallZ m (itT g), decide (m ≤ 9223372036854775807), decide (0 ≤ l), decide (l ≤ 2 ^ 40)] }
  | _ => none
def md_szE : List Md := [.rd 2 24, .val]
theorem ok_szE : SpecOk Tryz.prog 19 (specR md_szE F_szE) := by
  refine specR_hr g0_ok Tryz.func19 rfl fun sas fr hF ho => ?_
  unfold F_szE at hF
  split at hF
  · rename_i m g l
    cases hF
    simp only [ob_cons, decide_eq_true_eq] at ho
    obtain ⟨h1, h2, h3, h4, h5, _⟩ := ho
    have back : ∀ x, szV (itT g) m l = x → GivR (abP md_szE [.row m g, .v (.int .i64 l)] []) { val := .v (i64 (szV (itT g) m l)), obl := [allE m g, smallZ m (itT g), decide (m ≤ 9223372036854775807), decide (0 ≤ l), decide (l ≤ 2 ^ 40)] } .ret [.v (i64 x)] (hpEl m (itT g) (itC g) 24) := fun x hx =>
      ⟨_, by rw [hx]; rfl, rfl, .cons (ABeq.row fun j hj => (allE_get h1 j hj).symm) .nil⟩
    have e1 : IntKind.wrap IntKind.i64 (l - (m : Int)) = l - m := wr_in (by omega)
    by_cases hn : l - (m : Int) < 0
    · refine ⟨hpEl m (itT g) (itC g) 24, oneL 0 errS, 100, .cons (ABeq.row fun j hj => allE_get h1 j hj) .nil, lam1 (c := loopAt 0 Tryz.f19) (by kernel_rfl) errS_ok, ?_⟩
      show GoodQ (execF Tryz.prog g0 (oneL 0 errS) 100 Tryz.f19 [.sl 0 2 0 0 m none, .v (i64 l)] (hpEl m (itT g) (itC g) 24) (packK 1)) _
      rw [treeSzB, e1, decide_eq_true hn]
      refine good_out (back (-1) ?_)
      have := szL_mono (ft := itT g) (l := l - m) (i := 0) (Nat.zero_le m)
      rw [szV, decide_eq_true (by have e : szL (itT g) (l - m) 0 = l - m := rfl; omega)]
      rfl
    · refine ⟨hpEl m (itT g) (itC g) 24, lamSz m (itT g) (itC g) 24 (l - m) (szL (itT g) (l - m) m) (decide (szL (itT g) (l - m) m < 0)), 100, .cons (ABeq.row fun j hj => allE_get h1 j hj) .nil, lam1 (by kernel_rfl) (sumSz m (itT g) (itC g) 24 (l - m) h3 (by omega) (by omega) h2), ?_⟩
      show GoodQ (execF Tryz.prog g0 (lamSz m (itT g) (itC g) 24 (l - m) (szL (itT g) (l - m) m) (decide (szL (itT g) (l - m) m < 0))) 100 Tryz.f19 [.sl 0 2 0 0 m none, .v (i64 l)] (hpEl m (itT g) (itC g) 24) (packK 1)) _
      rw [treeSz, e1, decide_eq_false hn]
      refine good_needs (by simp only [ob_cons, ob_nil, and_true]; exact chk_of ⟨trivial, Hsim.refl _⟩) (good_cond (fun q => good_out (back _ ?_)) fun q => good_out (back _ ?_))
      · rw [szV, q]; rfl
      · rw [szV, q]; rfl
  · cases hF
theorem szV_ge {ft : Nat → ByteArray} {m : Nat} {l : Int} (h : ¬ szV ft m l < 0) : (m : Int) ≤ l ∧ szV ft m l ≤ l := by
  unfold szV at h ⊢
  by_cases q : szL ft (l - m) m < 0
  · rw [decide_eq_true q] at h
    exact absurd (by decide : (-1 : Int) < 0) h
  · have := szL_mono (ft := ft) (l := l - m) (i := 0) (Nat.zero_le m)
    have e : szL ft (l - m) 0 = l - m := rfl
    rw [decide_eq_false q]
    simp only [cond_false]
    omega

theorem sumTE (m : Nat) (ft : Nat → ByteArray) (fc : Nat → Int) (t : TypeId) (hm : m ≤ 2 ^ 40) :
    SumOk Tryz.prog 1 (.block 0 (.loop (loopAt 0 Tryz.f21))) (atS 23 (lvTE .normal) 1 [.sl 0 2 0 0 m none, .own 1 m, .v (i64 (0 : Nat))] (hpTE m ft fc t (fun j => bif Nat.blt j 0 then ft j else ⟨⟨[]⟩⟩) (fun j => bif Nat.blt j 0 then fc j else 0)) (fun K => K .normal (mkT 0 23 [(3, .own 1 m)]) (hpTE m ft fc t ft fc))) := by
  refine for_at g0_ok (n := 100) (m := 1) (lv := lvTE) (fun i => [.sl 0 2 0 0 m none, .own 1 m, .v (i64 (i : Nat))]) (fun i => hpTE m ft fc t (fun j => bif Nat.blt j i then ft j else ⟨⟨[]⟩⟩) (fun j => bif Nat.blt j i then fc j else 0)) (fun _ => True) m (fun _ => noLam) (lv3_ris rfl rfl rfl) (Nat.le_refl _) trivial fun K Q hk i hi him => ⟨noLam_ok _ _ _, ?_⟩
  rw [rndTE]
  refine good_cond (fun c1 => ?_) fun c1 => ?_
  · have c1 := of_decide_eq_true c1
    have c1' : i < m := by omega
    rw [Int.toNat_natCast, Nat.zero_add, wr_in (x := (i : Int) + 1) (by omega)]
    refine good_needs (by simp only [ob_cons, ob_nil, and_true, decide_eq_true_eq]; omega) (good_out ⟨i + 1, ⟨rfl, c1', trivial⟩, rfl, .cons (ABeq.refl _) (.cons (ABeq.row fun q hq => ?_) .nil)⟩)
    have key : ∀ {α : Type} (a z : α) (f : Nat → α), (bif Nat.beq q i then f i else bif Nat.blt q i then f q else z) = bif Nat.blt q (i + 1) then f q else z := fun a z f => by
      by_cases e : q = i
      · rw [e, show Nat.beq i i = true from Nat.beq_refl i, blt_yes (Nat.lt_succ_self i)]
        rfl
      · rw [beq_ne e, cond_false]
        by_cases h : q < i
        · rw [blt_yes h, blt_yes (by omega : q < i + 1)]
        · have b1 : Nat.blt q i = false := by rw [Bool.eq_false_iff, ne_eq, Nat.blt_eq]; exact h
          have b2 : Nat.blt q (i + 1) = false := by rw [Bool.eq_false_iff, ne_eq, Nat.blt_eq]; omega
          rw [b1, b2]
    show [Value.string (bif Nat.beq q i then ft i else bif Nat.blt q i then ft q else ⟨⟨[]⟩⟩), Value.int .u32 (bif Nat.beq q i then fc i else bif Nat.blt q i then fc q else 0)] = [Value.string (bif Nat.blt q (i + 1) then ft q else ⟨⟨[]⟩⟩), Value.int .u32 (bif Nat.blt q (i + 1) then fc q else 0)]
    rw [key (ft i) _ ft, key (fc i) _ fc]
  · have c1 := of_decide_eq_false c1
    have : i = m := by omega
    subst this
    refine good_out ⟨hpTE i ft fc t ft fc, .cons (ABeq.refl _) (.cons (ABeq.row fun q hq => ?_) .nil), ?_⟩
    · simp only [rowE, blt_yes hq, cond_true]
    · rw [if_pos rfl]
      exact hk
def F_toE : List SA → Option FR
  | [.row m g] => some { val := .own 0 m, new := [.row true m 2 (rowE (itT g) (itC g)) 27], obl := [allE m g, decide (m ≤ 2 ^ 39)] }
  | _ => none
def md_toE : List Md := [.rd 2 24]
theorem ok_toE : SpecOk Tryz.prog 21 (specR md_toE F_toE) := by
  refine specR_hr g0_ok Tryz.func21 rfl fun sas fr hF ho => ?_
  unfold F_toE at hF
  split at hF
  · rename_i m g
    cases hF
    simp only [ob_cons] at ho
    obtain ⟨h1, h2, _⟩ := ho
    have hm := of_decide_eq_true h2
    refine ⟨hpEl m (itT g) (itC g) 24, lamTE m (itT g) (itC g) 24, 100, .cons (ABeq.row fun j hj => allE_get h1 j hj) .nil, lam1 (by kernel_rfl) (sumTE m (itT g) (itC g) 24 (by omega)), ?_⟩
    show GoodQ (execF Tryz.prog g0 (lamTE m (itT g) (itC g) 24) 100 Tryz.f21 [.sl 0 2 0 0 m none] (hpEl m (itT g) (itC g) 24) (packK 1)) _
    rw [treeTE]
    simp only [Int.toNat_natCast]
    refine good_needs ?_ (good_out ⟨_, rfl, rfl, .cons (ABeq.row fun j hj => (allE_get h1 j hj).symm) (Hsim.refl _)⟩)
    simp only [ob_cons, ob_nil, and_true]
    exact ⟨by simp, decide_eq_true (by omega), chk_of ⟨trivial, .cons (ABeq.refl _) (.cons (ABeq.row fun j hj => rfl) .nil)⟩⟩
  · cases hF

theorem ok_eqE : SpecOk Tryz.prog 56 (specV f_eqE) := by
  refine mkV (n := 100) g0_ok Tryz.func56 rfl fun vs v ob hF ho => ?_
  unfold f_eqE at hF
  split at hF
  · rename_i s1 c1 s2 c2
    cases hF
    simp only [ob_cons, beq_iff_eq] at ho
    obtain ⟨h1, rfl, _⟩ := ho
    show Good (execF Tryz.prog g0 noLam 100 Tryz.f56 [.v (.agg ⟨[.string s1, .int .u32 c1]⟩), .v (.agg ⟨[.string s2, .int .u32 c1]⟩)] [] valK) _
    rw [treeQE, h1]
    simp only [Bool.not_true, bne_self_eq_false, cond_false]
    exact one rfl
  · cases hF
theorem gmQE_ok : GamOk Tryz.prog gmQE := ext_ok g0_ok ok_eqE
def sameE (m : Nat) (ft : Nat → ByteArray) (fc : Nat → Int) (gt : Nat → ByteArray) (gc : Nat → Int) : Bool := (List.range m).all fun j => eqB (ft j) (gt j) && (fc j == gc j)
theorem sameE_self (m : Nat) (ft : Nat → ByteArray) (fc : Nat → Int) : sameE m ft fc ft fc = true := List.all_eq_true.2 fun j _ => by rw [eqB_self, beq_self_eq_true]; rfl
theorem sumQE (m : Nat) (ft : Nat → ByteArray) (fc : Nat → Int) (gt : Nat → ByteArray) (gc : Nat → Int) (hm : m ≤ 2 ^ 40) (hs : sameE m ft fc gt gc = true) :
    SumOk Tryz.prog 2 (.block 0 (.loop (loopAt 0 Tryz.f23))) (atS 27 (lvQE .normal) 2 [.sl 0 2 0 0 m none, .sl 1 2 0 0 m none, .v (i64 (0 : Nat))] (hpQE m ft fc gt gc) (fun K => K .normal (mkT 0 27 []) (hpQE m ft fc gt gc))) := by
  refine for_at gmQE_ok (n := 100) (m := 2) (lv := lvQE) (fun i => [.sl 0 2 0 0 m none, .sl 1 2 0 0 m none, .v (i64 (i : Nat))]) (fun _ => hpQE m ft fc gt gc) (fun _ => True) m (fun _ => noLam) (lv3_ris rfl rfl rfl) (Nat.le_refl _) trivial fun K Q hk i hi him => ⟨noLam_ok _ _ _, ?_⟩
  rw [rndQE]
  refine good_cond (fun c1 => ?_) fun c1 => ?_
  · have c1 := of_decide_eq_true c1
    have c1' : i < m := by omega
    rw [Int.toNat_natCast, Nat.zero_add, wr_in (x := (i : Int) + 1) (by omega)]
    have e := List.all_eq_true.1 hs i (List.mem_range.2 c1')
    rw [Bool.and_eq_true] at e
    refine good_needs ?_ (good_out ⟨i + 1, ⟨rfl, c1', trivial⟩, rfl, Hsim.refl _⟩)
    simp only [ob_cons, ob_nil, and_true, decide_eq_true_eq]
    exact ⟨by omega, by omega, by omega, by omega, e.1, e.2⟩
  · have c1 := of_decide_eq_false c1
    have : i = m := by omega
    subst this
    refine good_out ⟨_, Hsim.refl _, ?_⟩
    rw [if_pos rfl]
    exact hk
def F_eqES : List SA → Option FR
  | [.row m g, .row m2 g2] => some { val := .v (.bool true), obl := [Nat.beq m2 m, allE m g, allE m g2, sameE m (itT g) (itC g) (itT g2) (itC g2), decide (m ≤ 2 ^ 40)] }
  | _ => none
def md_eqES : List Md := [.rd 2 27, .rd 2 27]
theorem ok_eqES : SpecOk Tryz.prog 23 (specR md_eqES F_eqES) := by
  refine specR_hr gmQE_ok Tryz.func23 rfl fun sas fr hF ho => ?_
  unfold F_eqES at hF
  split at hF
  · rename_i m g m2 g2
    cases hF
    simp only [ob_cons] at ho
    obtain ⟨h0, h1, h2, h3, h4, _⟩ := ho
    have h0 := Nat.eq_of_beq_eq_true h0
    subst h0
    have hm := of_decide_eq_true h4
    refine ⟨hpQE m2 (itT g) (itC g) (itT g2) (itC g2), lamQE m2 (itT g) (itC g) (itT g2) (itC g2), 100, .cons (ABeq.row fun j hj => allE_get h1 j hj) (.cons (ABeq.row fun j hj => allE_get h2 j hj) .nil), lam1 (by kernel_rfl) (sumQE m2 (itT g) (itC g) (itT g2) (itC g2) hm h3), ?_⟩
    show GoodQ (execF Tryz.prog gmQE (lamQE m2 (itT g) (itC g) (itT g2) (itC g2)) 100 Tryz.f23 [.sl 0 2 0 0 m2 none, .sl 1 2 0 0 m2 none] (hpQE m2 (itT g) (itC g) (itT g2) (itC g2)) (packK 2)) _
    rw [treeQES, bne_self_eq_false]
    refine good_needs (by simp only [ob_cons, ob_nil, and_true]; exact chk_of ⟨trivial, Hsim.refl _⟩) (good_out ⟨_, rfl, rfl, .cons (ABeq.row fun j hj => (allE_get h1 j hj).symm) (.cons (ABeq.row fun j hj => (allE_get h2 j hj).symm) .nil)⟩)
  · cases hF

end Go.Proofs.YtcadinbahmliiaaGreatDoor

/- The laws' marks on entries: their words. Conditions: entries; small marks. -/
namespace Go.Proofs.YtcadinbahmliiaaGreatDoor
open Go.RowKit
set_option maxRecDepth 100000

def mtF : Nat → Int → ByteArray → ByteArray
  | 0, _, o => o
  | f + 1, k, o => bif decide (k > 0) then mtF f (k.tdiv 10) (catB (txOf [u8Of (IntKind.wrap IntKind.u8 (IntKind.wrap IntKind.i64 (48 + Int.tmod k 10)))]) o) else o
theorem mtF_end (f : Nat) {k : Int} (h : ¬ k > 0) (o : ByteArray) : mtF f k o = o := by
  cases f with
  | zero => rfl
  | succ f => rw [mtF, decide_eq_false h]; rfl
theorem mtF_go {f : Nat} {k : Int} (h : k > 0) (o : ByteArray) : mtF (f + 1) k o = mtF f (k.tdiv 10) (catB (txOf [u8Of (IntKind.wrap IntKind.u8 (IntKind.wrap IntKind.i64 (48 + Int.tmod k 10)))]) o) := by
  rw [mtF, decide_eq_true h]; rfl
theorem mtF_size (f : Nat) (k : Int) (o : ByteArray) : (mtF f k o).size ≤ f + o.size := by
  induction f generalizing k o with
  | zero => unfold mtF; omega
  | succ f ih =>
    by_cases h : k > 0
    · rw [mtF_go h]
      have := ih (k.tdiv 10) (catB (txOf [u8Of (IntKind.wrap IntKind.u8 (IntKind.wrap IntKind.i64 (48 + Int.tmod k 10)))]) o)
      rw [catB_size, show (txOf [u8Of (IntKind.wrap IntKind.u8 (IntKind.wrap IntKind.i64 (48 + Int.tmod k 10)))]).size = 1 from rfl] at this
      omega
    · rw [mtF_end _ h]; omega
def mtB (k : Int) : ByteArray := bif decide (k ≤ 0) then ⟨⟨[109, 48]⟩⟩ else catB ⟨⟨[109]⟩⟩ (mtF 16 k ⟨⟨[]⟩⟩)
def mkTx (k : Int) (j : Nat) : ByteArray := mtB (k + 2 * (j : Int))
def mkSm (k : Int) (j : Nat) : Int := IntKind.wrap IntKind.u32 (k + 2 * (j : Int) + 1)
def mkLo {α : Type} (a b : Nat → α) (i : Nat) (j : Nat) : α := bif Nat.blt j i then a j else b j
theorem mkLo_put {α : Type} (a b : Nat → α) (i q : Nat) : (bif Nat.beq q i then a i else mkLo a b i q) = mkLo a b (i + 1) q := by
  unfold mkLo
  by_cases e : q = i
  · rw [e, show Nat.beq i i = true from Nat.beq_refl i, blt_yes (Nat.lt_succ_self i)]; rfl
  · rw [beq_ne e, cond_false]
    by_cases h : q < i
    · rw [blt_yes h, blt_yes (by omega : q < i + 1)]
    · rw [show Nat.blt q i = false by rw [Bool.eq_false_iff, ne_eq, Nat.blt_eq]; exact h, show Nat.blt q (i + 1) = false by rw [Bool.eq_false_iff, ne_eq, Nat.blt_eq]; omega]

theorem sumMt (k : Int) (h0 : 0 ≤ k) (h : k ≤ 2 ^ 50) : SumOk Tryz.prog 0 (.block 0 (.loop (loopAt 0 Tryz.f57))) (atS 20 (lvMt .normal) 0 [.v (i64 k), .v (.string ⟨⟨[]⟩⟩)] [] (fun K => K .normal (mkT 0 20 [(3, .v (.string (mtF 16 k ⟨⟨[]⟩⟩)))]) [])) := by
  refine loop_at g0_ok (n := 100) (m := 0) (lv := lvMt) (σ := Nat × Int × ByteArray) (fun s => [.v (i64 s.2.1), .v (.string s.2.2)]) (fun _ => []) (fun s => mtF s.1 s.2.1 s.2.2 = mtF 16 k ⟨⟨[]⟩⟩ ∧ 0 ≤ s.2.1 ∧ s.2.1 < 10 ^ s.1 ∧ s.1 + s.2.2.size ≤ 16 ∧ s.2.1 ≤ 2 ^ 50) (fun s => s.1) (16, k, ⟨⟨[]⟩⟩) (fun _ => noLam) (lv3_ris rfl rfl rfl) (Nat.le_refl _) ⟨rfl, h0, by show k < 10 ^ 16; omega, Nat.le_refl _, h⟩ fun K Q hk s hs => ⟨noLam_ok _ _ _, ?_⟩
  obtain ⟨f, x, o⟩ := s
  obtain ⟨h1, h2, h3, h4, h5⟩ := hs
  simp only at h1 h2 h3 h4 h5 ⊢
  rw [rndMt]
  refine good_cond (fun c => ?_) fun c => ?_
  · have c := of_decide_eq_true c
    match f, h1, h3, h4 with
    | 0, _, h3, _ => simp only [Int.pow_zero] at h3; omega
    | f + 1, h1, h3, h4 =>
      have m0 : 0 ≤ Int.tmod x 10 := Int.tmod_nonneg _ h2
      have m1 : Int.tmod x 10 < 10 := Int.tmod_lt_of_pos _ (by omega)
      have hd : Int.tdiv x 10 = x / 10 := Int.tdiv_eq_ediv_of_nonneg h2
      have w : IntKind.wrap IntKind.i64 (Int.tdiv x 10) = Int.tdiv x 10 := wr_in (by omega)
      have sz : (txOf [u8Of (IntKind.wrap IntKind.u8 (IntKind.wrap IntKind.i64 (48 + Int.tmod x 10)))]).size = 1 := rfl
      rw [w, sz]
      have w2 : IntKind.wrap IntKind.i64 (48 + Int.tmod x 10) = 48 + Int.tmod x 10 := wr_in (by omega)
      rw [mtF_go c] at h1
      refine good_needs ?_ (good_out ⟨(f, Int.tdiv x 10, _), ⟨⟨h1, ?_, ?_, ?_, ?_⟩, ?_⟩, rfl, .nil⟩)
      · simp only [ob_cons, ob_nil, and_true, decide_eq_true_eq, Nat.ble_eq, w2, IntKind.wrap_u8]
        omega
      · simp only; omega
      · simp only
        rw [Int.pow_succ] at h3
        rw [hd]
        omega
      · show f + (catB _ o).size ≤ 16
        rw [catB_size, sz]
        omega
      · simp only; omega
      · simp only; omega
  · have c := of_decide_eq_false c
    rw [mtF_end f c] at h1
    refine good_out ⟨_, .nil, ?_⟩
    rw [if_pos rfl, h1]
    exact hk
theorem ok_mt : SpecOk Tryz.prog 57 (specR [.val] (FmtO mtB)) := by
  refine specR_hr g0_ok Tryz.func57 rfl fun sas fr hF ho => ?_
  unfold FmtO at hF
  split at hF
  · rename_i k
    cases hF
    simp only [ob_cons, ob_nil, and_true, decide_eq_true_eq] at ho
    by_cases h0 : k ≤ 0
    · refine ⟨[], oneL 0 errS, 100, Hsim.refl _, lam1 (c := loopAt 0 Tryz.f57) (by kernel_rfl) errS_ok, ?_⟩
      show GoodQ (execF Tryz.prog g0 (oneL 0 errS) 100 Tryz.f57 [.v (i64 k)] [] (packK 0)) _
      rw [treeMt0 (o := ⟨⟨[]⟩⟩)]
      refine good_needs (by simp only [ob_cons, ob_nil, and_true, decide_eq_true_eq]; exact h0) (good_out ⟨_, ?_, rfl, Hsim.refl _⟩)
      rw [mtB, decide_eq_true h0]
      rfl
    · refine ⟨[], lamMt k (mtF 16 k ⟨⟨[]⟩⟩), 100, Hsim.refl _, lam1 (by kernel_rfl) (sumMt k (by omega) ho), ?_⟩
      show GoodQ (execF Tryz.prog g0 (lamMt k (mtF 16 k ⟨⟨[]⟩⟩)) 100 Tryz.f57 [.v (i64 k)] [] (packK 0)) _
      rw [treeMt, decide_eq_false h0]
      have sz := mtF_size 16 k ⟨⟨[]⟩⟩
      have z0 : (⟨⟨[]⟩⟩ : ByteArray).size = 0 := rfl
      refine good_needs ?_ (good_out ⟨_, ?_, rfl, Hsim.refl _⟩)
      · simp only [ob_cons, ob_nil, and_true, Nat.ble_eq]
        exact ⟨chk_of ⟨trivial, Hsim.refl _⟩, by omega⟩
      · rw [mtB, decide_eq_false h0]
        rfl
  · cases hF
theorem gmMt_ok : GamOk Tryz.prog (gmMt mtB) := ext_ok g0_ok ok_mt
theorem sumME (m : Nat) (ft : Nat → ByteArray) (fc : Nat → Int) (k : Int) (hm : m ≤ 2 ^ 39) (h0 : 0 ≤ k) (hk : k ≤ 2 ^ 40) :
    SumOk Tryz.prog 1 (.block 0 (.loop (loopAt 0 Tryz.f24))) (atS 29 (lvME .normal) 1 [.own 0 m, .v (i64 (k + 2 * ((0 : Nat) : Int))), .v (i64 (0 : Nat))] (hpME m (mkLo (mkTx k) ft 0) (mkLo (mkSm k) fc 0)) (fun K => K .normal (mkT 0 29 [(1, .v (i64 (k + 2 * (m : Int))))]) (hpME m (mkTx k) (mkSm k)))) := by
  refine for_at gmMt_ok (n := 100) (m := 1) (lv := lvME) (fun i => [.own 0 m, .v (i64 (k + 2 * (i : Int))), .v (i64 (i : Nat))]) (fun i => hpME m (mkLo (mkTx k) ft i) (mkLo (mkSm k) fc i)) (fun _ => True) m (fun _ => noLam) (lv3_ris rfl rfl rfl) (Nat.le_refl _) trivial fun K Q hk i hi him => ⟨noLam_ok _ _ _, ?_⟩
  rw [rndME]
  refine good_cond (fun c1 => ?_) fun c1 => ?_
  · have c1 := of_decide_eq_true c1
    have c1' : i < m := by omega
    have e1 : IntKind.wrap IntKind.i64 (k + 2 * (i : Int) + 1) = k + 2 * (i : Int) + 1 := wr_in (by omega)
    have e2 : IntKind.wrap IntKind.i64 (k + 2 * (i : Int) + 1 + 1) = k + 2 * ((i + 1 : Nat) : Int) := (wr_in (by omega)).trans (by omega)
    simp only [Int.toNat_natCast]
    rw [e1, e2, wr_in (x := (i : Int) + 1) (by omega), show Nat.beq i i = true from Nat.beq_refl i]
    refine good_needs (by simp only [ob_cons, ob_nil, and_true, decide_eq_true_eq]; omega) (good_out ⟨i + 1, ⟨rfl, c1', trivial⟩, rfl, .cons (ABeq.row fun q hq => ?_) .nil⟩)
    show [Value.string (bif Nat.beq q i then mkTx k i else bif Nat.beq q i then mkTx k i else mkLo (mkTx k) ft i q), Value.int .u32 (bif Nat.beq q i then mkSm k i else bif Nat.beq q i then mkLo (mkSm k) fc i i else mkLo (mkSm k) fc i q)] = [Value.string (mkLo (mkTx k) ft (i + 1) q), Value.int .u32 (mkLo (mkSm k) fc (i + 1) q)]
    rw [← mkLo_put (mkTx k) ft i q, ← mkLo_put (mkSm k) fc i q]
    cases Nat.beq q i with
    | true => rfl
    | false => rfl
  · have c1 := of_decide_eq_false c1
    have : i = m := by omega
    subst this
    refine good_out ⟨hpME i (mkTx k) (mkSm k), .cons (ABeq.row fun q hq => ?_) .nil, ?_⟩
    · simp only [rowE, mkLo, blt_yes hq, cond_true]
    · rw [if_pos rfl]
      exact hk
theorem sumMEs (m : Nat) (ft : Nat → ByteArray) (fc : Nat → Int) (k : Int) (hm : m ≤ 2 ^ 39) (h0 : 0 ≤ k) (hk : k ≤ 2 ^ 40) :
    SumOk Tryz.prog 1 (.block 0 (.loop (loopAt 0 Tryz.f24))) (atS 29 (lvME .normal) 1 [.sl 0 2 0 0 m (some m), .v (i64 (k + 2 * ((0 : Nat) : Int))), .v (i64 (0 : Nat))] (hpME m (mkLo (mkTx k) ft 0) (mkLo (mkSm k) fc 0)) (fun K => K .normal (mkT 0 29 [(1, .v (i64 (k + 2 * (m : Int))))]) (hpME m (mkTx k) (mkSm k)))) := by
  refine for_at gmMt_ok (n := 100) (m := 1) (lv := lvME) (fun i => [.sl 0 2 0 0 m (some m), .v (i64 (k + 2 * (i : Int))), .v (i64 (i : Nat))]) (fun i => hpME m (mkLo (mkTx k) ft i) (mkLo (mkSm k) fc i)) (fun _ => True) m (fun _ => noLam) (lv3_ris rfl rfl rfl) (Nat.le_refl _) trivial fun K Q hk i hi him => ⟨noLam_ok _ _ _, ?_⟩
  rw [rndMEs]
  refine good_cond (fun c1 => ?_) fun c1 => ?_
  · have c1 := of_decide_eq_true c1
    have c1' : i < m := by omega
    have e1 : IntKind.wrap IntKind.i64 (k + 2 * (i : Int) + 1) = k + 2 * (i : Int) + 1 := wr_in (by omega)
    have e2 : IntKind.wrap IntKind.i64 (k + 2 * (i : Int) + 1 + 1) = k + 2 * ((i + 1 : Nat) : Int) := (wr_in (by omega)).trans (by omega)
    simp only [Int.toNat_natCast, Nat.zero_add]
    rw [e1, e2, wr_in (x := (i : Int) + 1) (by omega), show Nat.beq i i = true from Nat.beq_refl i]
    refine good_needs (by simp only [ob_cons, ob_nil, and_true, decide_eq_true_eq]; omega) (good_out ⟨i + 1, ⟨rfl, c1', trivial⟩, rfl, .cons (ABeq.row fun q hq => ?_) .nil⟩)
    show [Value.string (bif Nat.beq q i then mkTx k i else bif Nat.beq q i then mkTx k i else mkLo (mkTx k) ft i q), Value.int .u32 (bif Nat.beq q i then mkSm k i else bif Nat.beq q i then mkLo (mkSm k) fc i i else mkLo (mkSm k) fc i q)] = [Value.string (mkLo (mkTx k) ft (i + 1) q), Value.int .u32 (mkLo (mkSm k) fc (i + 1) q)]
    rw [← mkLo_put (mkTx k) ft i q, ← mkLo_put (mkSm k) fc i q]
    cases Nat.beq q i with
    | true => rfl
    | false => rfl
  · have c1 := of_decide_eq_false c1
    have : i = m := by omega
    subst this
    refine good_out ⟨hpME i (mkTx k) (mkSm k), .cons (ABeq.row fun q hq => ?_) .nil, ?_⟩
    · simp only [rowE, mkLo, blt_yes hq, cond_true]
    · rw [if_pos rfl]
      exact hk

end Go.Proofs.YtcadinbahmliiaaGreatDoor

/- The laws' marks on entries: contracts. Conditions: entries; small marks. -/
namespace Go.Proofs.YtcadinbahmliiaaGreatDoor
open Go.RowKit
set_option maxRecDepth 100000

theorem sumHE (m : Nat) (ft : Nat → ByteArray) (fc : Nat → Int) (k : Int) (hm : m ≤ 2 ^ 39) (h0 : 0 ≤ k) (hk : k ≤ 2 ^ 40) (hs : sameE m ft fc (mkTx k) (mkSm k) = true) :
    SumOk Tryz.prog 1 (.block 0 (.loop (loopAt 0 Tryz.f25))) (atS 33 (lvME .normal) 1 [.sl 0 2 0 0 m none, .v (i64 (k + 2 * ((0 : Nat) : Int))), .v (i64 (0 : Nat))] (hpHE m ft fc) (fun K => K .normal (mkT 0 33 [(1, .v (i64 (k + 2 * (m : Int))))]) (hpHE m ft fc))) := by
  refine for_at gmMt_ok (n := 100) (m := 1) (lv := lvME) (fun i => [.sl 0 2 0 0 m none, .v (i64 (k + 2 * (i : Int))), .v (i64 (i : Nat))]) (fun _ => hpHE m ft fc) (fun _ => True) m (fun _ => noLam) (lv3_ris rfl rfl rfl) (Nat.le_refl _) trivial fun K Q hk i hi him => ⟨noLam_ok _ _ _, ?_⟩
  rw [rndHE]
  refine good_cond (fun c1 => ?_) fun c1 => ?_
  · have c1 := of_decide_eq_true c1
    have c1' : i < m := by omega
    have e1 : IntKind.wrap IntKind.i64 (k + 2 * (i : Int) + 1) = k + 2 * (i : Int) + 1 := wr_in (by omega)
    have e2 : IntKind.wrap IntKind.i64 (k + 2 * (i : Int) + 1 + 1) = k + 2 * ((i + 1 : Nat) : Int) := (wr_in (by omega)).trans (by omega)
    have e := List.all_eq_true.1 hs i (List.mem_range.2 c1')
    rw [Bool.and_eq_true] at e
    have ea : eqB (ft i) (mtB (k + 2 * (i : Int))) = true := e.1
    have eb : fc i = IntKind.wrap IntKind.u32 (k + 2 * (i : Int) + 1) := eq_of_beq e.2
    simp only [Int.toNat_natCast, Nat.zero_add]
    rw [e1, e2, wr_in (x := (i : Int) + 1) (by omega), ea, eb, bne_self_eq_false]
    exact good_needs (by simp only [ob_cons, ob_nil, and_true, decide_eq_true_eq]; omega) (good_needs (by simp only [ob_cons, ob_nil, and_true, decide_eq_true_eq]; omega) (good_out ⟨i + 1, ⟨rfl, c1', trivial⟩, rfl, Hsim.refl _⟩))
  · have c1 := of_decide_eq_false c1
    have : i = m := by omega
    subst this
    refine good_out ⟨_, Hsim.refl _, ?_⟩
    rw [if_pos rfl]
    exact hk
def F_heldE : List SA → Option FR
  | [.row m g, .v (.int .i64 k)] => some { val := .v (i64 (k + 2 * (m : Int))), obl := [allE m g, sameE m (itT g) (itC g) (mkTx k) (mkSm k), decide (0 ≤ k), decide (k ≤ 2 ^ 40), decide (m ≤ 2 ^ 39)] }
  | _ => none
def md_heldE : List Md := [.rd 2 27, .val]
theorem ok_heldE : SpecOk Tryz.prog 25 (specR md_heldE F_heldE) := by
  refine specR_hr gmMt_ok Tryz.func25 rfl fun sas fr hF ho => ?_
  unfold F_heldE at hF
  split at hF
  · rename_i m g k
    cases hF
    simp only [ob_cons, decide_eq_true_eq] at ho
    obtain ⟨h1, h2, h3, h4, h5, _⟩ := ho
    have e0 : k = k + 2 * ((0 : Nat) : Int) := by omega
    have hS := sumHE m (itT g) (itC g) k h5 h3 h4 h2
    rw [← e0] at hS
    refine ⟨hpHE m (itT g) (itC g), lamHE m (itT g) (itC g) k (k + 2 * (m : Int)), 100, .cons (ABeq.row fun j hj => allE_get h1 j hj) .nil, lam1 (by kernel_rfl) hS, ?_⟩
    show GoodQ (execF Tryz.prog (gmMt mtB) (lamHE m (itT g) (itC g) k (k + 2 * (m : Int))) 100 Tryz.f25 [.sl 0 2 0 0 m none, .v (i64 k)] (hpHE m (itT g) (itC g)) (packK 1)) _
    rw [treeHE]
    exact good_needs (by simp only [ob_cons, ob_nil, and_true]; exact chk_of ⟨trivial, Hsim.refl _⟩) (good_out ⟨_, rfl, rfl, .cons (ABeq.row fun j hj => (allE_get h1 j hj).symm) .nil⟩)
  · cases hF
def F_markE : List AV → List AB → Option HR
  | [.own 0 m, .v (.int .i64 k)], [.row true n 2 g t] => some { val := .v (i64 (k + 2 * (m : Int))), out := [.row true m 2 (rowE (mkTx k) (mkSm k)) t], obl := [Nat.beq n m, Nat.beq t 27, allE m g, decide (0 ≤ k), decide (k ≤ 2 ^ 40), decide (m ≤ 2 ^ 39)] }
  | [.sl 0 2 0 0 m (some c), .v (.int .i64 k)], [.row true n 2 g t] => some { val := .v (i64 (k + 2 * (m : Int))), out := [.row true m 2 (rowE (mkTx k) (mkSm k)) t], obl := [Nat.beq n m, Nat.beq c m, Nat.beq t 27, allE m g, decide (0 ≤ k), decide (k ≤ 2 ^ 40), decide (m ≤ 2 ^ 39)] }
  | _, _ => none
theorem mkLo_0 {α : Type} (a b : Nat → α) (j : Nat) : mkLo a b 0 j = b j := by
  unfold mkLo
  rw [show Nat.blt j 0 = false by rw [Bool.eq_false_iff, ne_eq, Nat.blt_eq]; omega]
  rfl
theorem ok_markE : SpecOk Tryz.prog 24 (specH [] F_markE) := by
  refine specH_ok gmMt_ok Tryz.func24 rfl fun avs H hr hF ho => ?_
  unfold F_markE at hF
  split at hF
  · rename_i m k n g t
    cases hF
    simp only [ob_cons, decide_eq_true_eq, Nat.beq_eq] at ho
    obtain ⟨h0, ht, h1, h4, h5, h6, _⟩ := ho
    subst ht h0
    have e0 : k = k + 2 * ((0 : Nat) : Int) := by omega
    have hS := sumME n (itT g) (itC g) k h6 h4 h5
    rw [← e0] at hS
    refine ⟨hpME n (mkLo (mkTx k) (itT g) 0) (mkLo (mkSm k) (itC g) 0), lamME n (mkLo (mkTx k) (itT g) 0) (mkLo (mkSm k) (itC g) 0) k (k + 2 * (n : Int)) (mkTx k) (mkSm k), 100, .cons (ABeq.row fun j hj => by rw [allE_get h1 j hj]; simp only [rowE, mkLo_0]) .nil, lam1 (by kernel_rfl) hS, ?_⟩
    show GoodQ (execF Tryz.prog (gmMt mtB) (lamME n (mkLo (mkTx k) (itT g) 0) (mkLo (mkSm k) (itC g) 0) k (k + 2 * (n : Int)) (mkTx k) (mkSm k)) 100 Tryz.f24 [.own 0 n, .v (i64 k)] (hpME n (mkLo (mkTx k) (itT g) 0) (mkLo (mkSm k) (itC g) 0)) (packK 1)) _
    rw [treeME]
    exact good_needs (by simp only [ob_cons, ob_nil, and_true]; exact chk_of ⟨trivial, Hsim.refl _⟩) (good_out ⟨rfl, Hsim.refl _⟩)
  · rename_i m c k n g t
    cases hF
    simp only [ob_cons, decide_eq_true_eq, Nat.beq_eq] at ho
    obtain ⟨h0, hc, ht, h1, h4, h5, h6, _⟩ := ho
    subst ht hc h0
    have e0 : k = k + 2 * ((0 : Nat) : Int) := by omega
    have hS := sumMEs n (itT g) (itC g) k h6 h4 h5
    rw [← e0] at hS
    refine ⟨hpME n (mkLo (mkTx k) (itT g) 0) (mkLo (mkSm k) (itC g) 0), lamMEs n (mkLo (mkTx k) (itT g) 0) (mkLo (mkSm k) (itC g) 0) k (k + 2 * (n : Int)) (mkTx k) (mkSm k), 100, .cons (ABeq.row fun j hj => by rw [allE_get h1 j hj]; simp only [rowE, mkLo_0]) .nil, lam1 (by kernel_rfl) hS, ?_⟩
    show GoodQ (execF Tryz.prog (gmMt mtB) (lamMEs n (mkLo (mkTx k) (itT g) 0) (mkLo (mkSm k) (itC g) 0) k (k + 2 * (n : Int)) (mkTx k) (mkSm k)) 100 Tryz.f24 [.sl 0 2 0 0 n (some n), .v (i64 k)] (hpME n (mkLo (mkTx k) (itT g) 0) (mkLo (mkSm k) (itC g) 0)) (packK 1)) _
    rw [treeMEs]
    exact good_needs (by simp only [ob_cons, ob_nil, and_true]; exact chk_of ⟨trivial, Hsim.refl _⟩) (good_out ⟨rfl, Hsim.refl _⟩)
  · cases hF

end Go.Proofs.YtcadinbahmliiaaGreatDoor

/- The laws' helpers on lists of wheels: their table. Conditions: a list of wheels. -/
namespace Go.Proofs.YtcadinbahmliiaaGreatDoor
open Go.RowKit

end Go.Proofs.YtcadinbahmliiaaGreatDoor

/- The laws on sorted entries: trees. Conditions: bytes; entries. -/
namespace Go.Proofs.YtcadinbahmliiaaGreatDoor
open Go.RowKit
set_option maxRecDepth 100000

def FbiY (L : Nat → (Nat → ByteArray) → (Nat → Int) → List (ByteArray × Int)) : List SA → Option FR
  | [.row m g] => some { val := .tup [.sl 0 2 0 0 (L m (itT g) (itC g)).length (some (L m (itT g) (itC g)).length), .v (.bool true)], new := [.row true (L m (itT g) (itC g)).length 2 (rowE (eT (L m (itT g) (itC g))) (eC (L m (itT g) (itC g)))) 27], obl := [allE m g, Nat.blt 0 (L m (itT g) (itC g)).length] }
  | _ => none
def FbiN (L : Nat → (Nat → ByteArray) → (Nat → Int) → List (ByteArray × Int)) : List AV → List AB → Option QRd
  | [.own 0 m], [.row true m' 2 g _] => some { val := .tup [.v (.slice none 0 0), .v (.bool (!decide (m > 50)))], obl := [Nat.ble m m', allE m' g, Nat.beq (L m (itT g) (itC g)).length 0] }
  | [.v (.slice none 0 0)], _ => some { val := .tup [.v (.slice none 0 0), .v (.bool true)], obl := [] }
  | _, _ => none
noncomputable def gmXsY (L : Nat → (Nat → ByteArray) → (Nat → Int) → List (ByteArray × Int)) : Gam := ext (ext (ext (ext (ext (ext (ext g0 19 (specR md_szE F_szE)) 21 (specR md_toE F_toE)) 23 (specR md_eqES F_eqES)) 24 (specH [] F_markE)) 25 (specR md_heldE F_heldE)) 22 (specR md_bs (FbiY L))) 20 (specR md_bs (FbsO L))
noncomputable def gmXsN (L : Nat → (Nat → ByteArray) → (Nat → Int) → List (ByteArray × Int)) : Gam := ext (ext (ext (ext (ext (ext (ext g0 19 (specR md_szE F_szE)) 21 (specR md_toE F_toE)) 23 (specR md_eqES F_eqES)) 24 (specH [] F_markE)) 25 (specR md_heldE F_heldE)) 22 (specQ [] (FbiN L))) 20 (specR md_bs (FbsO L))
theorem lawXsY_h (L : Nat → (Nat → ByteArray) → (Nat → Int) → List (ByteArray × Int)) (m : Nat) (ft : Nat → ByteArray) (fc : Nat → Int) (t : TypeId) (u4 : _) (hu4 : [AB.row false m 2 (rowE ft fc) t] = u4) (u5 : _) (hu5 : (0 : Nat) = u5) (u7 : _) (hu7 : (allE m fun q ↦ rowE ft fc (u5 + q)) = u7) (u8 : _) (hu8 : (decide (m ≤ (549755813888 : Nat))) = u8) (u10 : _) (hu10 : (1 : Int) = u10) (u13 : _) (hu13 : [AV.v (.bool false)] = u13) (u17 : _) (hu17 : (Nat.ble (u5 + m) m) = u17) (u19 : _) (hu19 : (itT fun q ↦ rowE (mkTx u10) (mkSm u10) (u5 + q)) = u19) (u0 : _) (hu0 : (itT fun q ↦ rowE ft fc (u5 + q)) = u0) (u1 : _) (hu1 : (rowE u0 (itC fun q ↦ rowE ft fc (u5 + q))) = u1) (u2 : _) (hu2 : (L m (itT u1) (itC u1)) = u2) (u3 : _) (hu3 : (List.length u2) = u3) (u6 : _) (hu6 : (rowE (eT u2) (eC u2)) = u6) (u9 : _) (hu9 : (Nat.ble (u5 + List.length u2) u3) = u9) (u11 : _) (hu11 : (decide (List.length u2 ≤ (1099511627776 : Nat))) = u11) (u12 : _) (hu12 : (decide (List.length u2 ≤ (549755813888 : Nat))) = u12) (u14 : _) (hu14 : (allE u3 fun q ↦ rowE (eT u2) (eC u2) (u5 + q)) = u14) (u15 : _) (hu15 : (itC fun q ↦ rowE (eT u2) (eC u2) (u5 + q)) = u15) (u16 : _) (hu16 : (sameE u3 (itT fun q ↦ rowE (eT u2) (eC u2) (u5 + q)) u15 (itT u6) (itC u6)) = u16) (u18 : _) (hu18 : (allE u3 fun q ↦ rowE (mkTx u10) (mkSm u10) (u5 + q)) = u18) (u20 : _) (hu20 : (sameE u3 u19 (itC fun q ↦ rowE (mkTx u10) (mkSm u10) (u5 + q)) (mkTx u10) (mkSm u10)) = u20) (u21 : _) (hu21 : (Nat.beq u3 u3) = u21) : execF Tryz.prog (gmXsY L) noLam 100 Tryz.f6 [.sl 0 2 0 0 m none] [.row false m 2 (rowE ft fc) t] (packK 1)
    = needs [u17, u7, smallZ m u0, decide (m ≤ (9223372036854775807 : Nat))] (bif decide (szV u0 m (1048576 : Int) < (0 : Int)) then Res.out .ret [AV.v (.bool true)] u4 else needs [u17, u7, u8, Nat.ble m m, allE m u1, u17, u7, u8, Nat.ble m m, allE m u1, Nat.blt u5 u3, u9, Nat.ble u3 u3, u21, u14, allE u3 u6, u16, u11] (bif !true == !decide (m > (50 : Nat)) then Res.out .ret u13 u4 else needs [u17, u7, u8, Nat.ble m m, Nat.ble m m, Nat.beq m m, allE m u1, allE m u1, sameE m (itT u1) (itC u1) (itT u1) (itC u1), decide (m ≤ (1099511627776 : Nat)), Nat.beq m m, allE m u1, u8, u9, Nat.ble u3 u3, u21, u14, allE u3 u6, u16, u11] (bif !true == !decide (m > (50 : Nat)) then Res.out .ret u13 u4 else needs [u21, u21, allE u3 u6, u12, u9, u18, u20, u12] (bif u10 + (2 : Int) * (↑u3 : Int) != u10 + (2 : Int) * (↑u3 : Int) then Res.out .ret u13 u4 else needs [u17, u7, u8, Nat.ble m m, allE m u1, Nat.blt u5 u3, u9, Nat.ble u3 u3, u21, u14, allE u3 u6, u16, u11] (bif !true == !decide (m > (50 : Nat)) then Res.out .ret u13 u4 else needs [u9, u18, u20, u12] (bif u10 + (2 : Int) * (↑u3 : Int) != u10 + (2 : Int) * (↑u3 : Int) then Res.out .ret u13 u4 else Res.out .ret [AV.v (.bool true)] u4)))))) := by
  subst hu21 hu20 hu18 hu16 hu15 hu14 hu12 hu11 hu9 hu6 hu3 hu2 hu1 hu0 hu19 hu17 hu13 hu10 hu8 hu7 hu5 hu4
  kernel_rfl
theorem lawXsY (L : Nat → (Nat → ByteArray) → (Nat → Int) → List (ByteArray × Int)) (m : Nat) (ft : Nat → ByteArray) (fc : Nat → Int) (t : TypeId) : type_of% (lawXsY_h L m ft fc t _ rfl _ rfl _ rfl _ rfl _ rfl _ rfl _ rfl _ rfl _ rfl _ rfl _ rfl _ rfl _ rfl _ rfl _ rfl _ rfl _ rfl _ rfl _ rfl _ rfl _ rfl _ rfl) := lawXsY_h L m ft fc t _ rfl _ rfl _ rfl _ rfl _ rfl _ rfl _ rfl _ rfl _ rfl _ rfl _ rfl _ rfl _ rfl _ rfl _ rfl _ rfl _ rfl _ rfl _ rfl _ rfl _ rfl _ rfl

theorem lawXsN_h (L : Nat → (Nat → ByteArray) → (Nat → Int) → List (ByteArray × Int)) (m : Nat) (ft : Nat → ByteArray) (fc : Nat → Int) (t : TypeId) (u0 : _) (hu0 : (itT fun q ↦ rowE ft fc ((0 : Nat) + q)) = u0) (u1 : _) (hu1 : (rowE u0 (itC fun q ↦ rowE ft fc ((0 : Nat) + q))) = u1) (u2 : _) (hu2 : (List.length (L m (itT u1) (itC u1))) = u2) (u3 : _) (hu3 : (allE m fun q ↦ rowE ft fc ((0 : Nat) + q)) = u3) (u4 : _) (hu4 : [AB.row false m 2 (rowE ft fc) t] = u4) (u5 : _) (hu5 : (decide (m ≤ (549755813888 : Nat))) = u5) (u6 : _) (hu6 : (Nat.ble ((0 : Nat) + m) m) = u6) (u7 : _) (hu7 : (Nat.beq u2 (0 : Nat)) = u7) (u8 : _) (hu8 : (!decide (m > (50 : Nat))) = u8) (u9 : _) (hu9 : [AV.v (.bool false)] = u9) : execF Tryz.prog (gmXsN L) noLam 100 Tryz.f6 [.sl 0 2 0 0 m none] [.row false m 2 (rowE ft fc) t] (packK 1)
    = needs [u6, u3, smallZ m u0, decide (m ≤ (9223372036854775807 : Nat))] (bif decide (szV u0 m (1048576 : Int) < (0 : Int)) then Res.out .ret [AV.v (.bool true)] u4 else needs [u6, u3, u5, Nat.ble m m, allE m u1, u6, u3, u5, Nat.ble m m, allE m u1, u7, Nat.ble u2 u2, u7] (bif !u8 == !decide (m > (50 : Nat)) then Res.out .ret u9 u4 else needs [u6, u3, u5, Nat.ble m m, Nat.ble m m, Nat.beq m m, allE m u1, allE m u1, sameE m (itT u1) (itC u1) (itT u1) (itC u1), decide (m ≤ (1099511627776 : Nat)), Nat.beq m m, allE m u1, u5, Nat.ble u2 u2, u7] (bif !u8 == !decide (m > (50 : Nat)) then Res.out .ret u9 u4 else needs [u6, u3, u5, Nat.ble m m, allE m u1, u7, Nat.ble u2 u2, u7] (bif !u8 == !decide (m > (50 : Nat)) then Res.out .ret u9 u4 else Res.out .ret [AV.v (.bool true)] u4)))) := by
  subst hu9 hu8 hu7 hu6 hu5 hu4 hu3 hu2 hu1 hu0
  kernel_rfl
theorem lawXsN (L : Nat → (Nat → ByteArray) → (Nat → Int) → List (ByteArray × Int)) (m : Nat) (ft : Nat → ByteArray) (fc : Nat → Int) (t : TypeId) : type_of% (lawXsN_h L m ft fc t _ rfl _ rfl _ rfl _ rfl _ rfl _ rfl _ rfl _ rfl _ rfl _ rfl) := lawXsN_h L m ft fc t _ rfl _ rfl _ rfl _ rfl _ rfl _ rfl _ rfl _ rfl _ rfl _ rfl

end Go.Proofs.YtcadinbahmliiaaGreatDoor

/- The program's BookSort: its two words. Conditions: entries. -/
namespace Go.Proofs.YtcadinbahmliiaaGreatDoor
open Go.RowKit
set_option maxRecDepth 100000

theorem trKo (m n : Nat) (ft : Nat → ByteArray) (fc : Nat → Int) (t : TypeId) : execF Tryz.prog g0 noLam 100 fBk [.own 0 m] [.row true n 2 (rowE ft fc) t] (packK 1)
    = needs [decide ((m : Int) > (50 : Int))] (Res.out .ret [AV.tup [AV.v (Value.slice none (0 : Nat) (0 : Nat)), AV.v (.bool false)]] [AB.row true n 2 (rowE ft fc) t]) := by kernel_rfl

theorem RH.new {M : Nat → Prop} {ν : Nu} {H : Nat → AB} {w w' : World} (h : RH M ν H w) (hM : ∀ k, w.heap.size ≤ k → M k) (hf : Fr (fun k => w.heap.size ≤ k) w w') : RH M ν H w' :=
  ⟨fun i => (h.br i).of_block fun k hk _ => hf.block _ (h.lt i k hk) (by have := h.lt i k hk; omega), h.sep, h.own, fun i b hb => Nat.lt_of_lt_of_le (h.lt i b hb) hf.size, h.tab.fr (hf.mono fun k _ hk => hM k hk)⟩
theorem ok_bsIY : SpecOk Tryz.prog 22 (specR md_bs (FbiY bsL)) := by
  refine specR_calls enters Tryz.func22 (by kernel_rfl) fun sas fr hF ho => ?_
  unfold FbiY at hF
  split at hF
  · rename_i m g
    cases hF
    simp only [ob_cons] at ho
    obtain ⟨h1, h2, _⟩ := ho
    rw [Nat.blt_eq] at h2
    have hm : m ≤ 50 := by
      by_cases c : m > 50
      · rw [show bsL m (itT g) (itC g) = [] by rw [bsL, decide_eq_true c]; rfl] at h2
        exact absurd h2 (Nat.lt_irrefl 0)
      · omega
    have e : bsL m (itT g) (itC g) = lkB m (itT g) (itC g) := by rw [bsL, decide_eq_false (by omega)]; rfl
    refine ⟨hpB m (itT g) (itC g), .cons (ABeq.row fun j hj => allE_get h1 j hj) .nil, fun M vals w ν hM hv hR hdom => ?_⟩
    refine (walk_bk (ft := itT g) (fc := itC g) hm M vals w ν hM hv hR hdom).mono ?_
    rintro e' w' ⟨v, av, H', ν', rfl, hq, rest⟩
    refine ⟨v, av, H', ν', rfl, ?_, rest⟩
    simp only [e] at h2 ⊢
    rcases hq with ⟨he, _⟩ | ⟨_, hav, rfl⟩
    · rw [he] at h2
      exact absurd h2 (Nat.lt_irrefl 0)
    · simp only [List.cons.injEq, and_true] at hav
      subst hav
      exact ⟨_, rfl, rfl, .cons (ABeq.row fun j hj => (allE_get h1 j hj).symm) (Hsim.refl _)⟩
  · cases hF
theorem walk_no {m : Nat} {ft : Nat → ByteArray} {fc : Nat → Int} (hm : m ≤ 50) (hn : lkB m ft fc = []) {M : Nat → Prop} {v : Value} {w : World} {ν : Nu} {H : Nat → AB} (hM : ∀ k, w.heap.size ≤ k → M k) (hR : RH M ν H w) {ν2 : Nu} (hv : VRs ν2 [lsA m] [v]) (hbr : BR ν2 0 (.row false m 2 (rowE ft fc) 27) w) (hlt : ∀ i b, ν2 i = some b → b.n < w.heap.size ∧ i < 1) :
    Calls Tryz.prog 22 #[v] w fun e w' => e = .returned (.tuple #[.slice none 0 0, .bool true]) ∧ RH M ν H w' ∧ Fr M w w' := by
  have htab : TabOk (fun k => w.heap.size ≤ k) w := hR.tab.mono fun k _ hk => hM k hk
  refine (walk_bk (ft := ft) (fc := fc) hm (fun k => w.heap.size ≤ k) [v] w ν2 (fun _ hk => hk) hv ⟨fun i => ?_, fun i j b b' _ hw => ?_, fun i b hw => ?_, fun i b hb => (hlt i b hb).1, htab⟩ fun i b hb => (hlt i b hb).2).mono ?_
  · match i with
    | 0 => exact hbr
    | i + 1 => trivial
  · match i with
    | 0 => cases hw
    | i + 1 => cases hw
  · match i with
    | 0 => cases hw
    | i + 1 => cases hw
  · rintro e w' ⟨v', av, H', ν', rfl, hq, hvr, _, hfr, _, _⟩
    rcases hq with ⟨_, hav, _⟩ | ⟨hne, _⟩
    · simp only [List.cons.injEq, and_true] at hav
      subst hav
      simp only [VR] at hvr
      obtain ⟨l, rfl, hl⟩ := hvr
      match l, hl with
      | [y1, y2], hl =>
        simp only [VRs, VR, and_true] at hl
        obtain ⟨rfl, rfl⟩ := hl
        exact ⟨rfl, hR.new hM hfr, hfr.mono fun k _ hk => hM k hk⟩
    · exact (hne hn).elim
theorem ok_bsIN : SpecOk Tryz.prog 22 (specQ [] (FbiN bsL)) := by
  refine specQ_calls Tryz.func22 (by kernel_rfl) fun avs H kr hF ho => ?_
  unfold FbiN at hF
  split at hF
  · rename_i m m' g t
    cases hF
    simp only [ob_cons] at ho
    obtain ⟨h1, h2, h3, _⟩ := ho
    have h1 := Nat.le_of_ble_eq_true h1
    have h3 := Nat.eq_of_beq_eq_true h3
    by_cases c : m > 50
    · refine ⟨[.row true m' 2 (rowE (itT g) (itC g)) t], .cons (ABeq.row fun j hj => allE_get h2 j hj) .nil, fun M vals w ν hM hv hR hdom => ?_⟩
      refine (calls_pack (Λ := noLam) (n := 100) (Q := GivQ { val := .tup [.v (.slice none 0 0), .v (.bool (!decide (m > 50)))], obl := [Nat.ble m m', allE m' g, Nat.beq (bsL m (itT g) (itC g)).length 0] } [.row true m' 2 g t]) g0_ok mixed enters Tryz.func22 (noLam' _) hM ?_ hv hR hdom).mono fun _ _ h => h
      show (execF Tryz.prog g0 noLam 100 fBk [.own 0 m] [.row true m' 2 (rowE (itT g) (itC g)) t] (packK 1)).ok _
      rw [trKo]
      refine needs_mk (by simp only [ob_cons, ob_nil, and_true, decide_eq_true_eq]; omega) ⟨?_, .cons (ABeq.row fun j hj => (allE_get h2 j hj).symm) .nil⟩
      rw [decide_eq_true c]
      rfl
    · have hn : lkB m (itT g) (itC g) = [] := by
        rw [← List.length_eq_zero_iff, ← h3, bsL, decide_eq_false c]
        rfl
      refine ⟨[.row true m' 2 (rowE (itT g) (itC g)) t], .cons (ABeq.row fun j hj => allE_get h2 j hj) .nil, fun M vals w ν hM hv hR hdom => ?_⟩
      match vals, hv with
      | [v], hv =>
        simp only [VRs, VR, and_true] at hv
        obtain ⟨b, e1, rfl⟩ := hv
        rcases hR.br 0 with ⟨h, _⟩ | ⟨b2, l, t', fz, e2, e3, e4, e5, e6⟩
        · cases h
        · rw [e1] at e2
          cases e2
          refine (walk_no (m := m) (ft := itT g) (fc := itC g) (by omega) hn hM hR (ν2 := fun i => if i = 0 then some b else none) (by simp only [VRs, VR, and_true]; exact ⟨_, _, rfl, (fun c' h => by cases h), by omega, fun _ => ⟨b, by simp, by simp⟩⟩) (.inr ⟨b, l, t', fz, by simp, e3, (fun h => by cases h), by omega, fun j hj => e6 j (by omega)⟩) (fun i b' hb => ?_)).mono ?_
          · have : i = 0 := by
              by_cases e : i = 0
              · exact e
              · simp [e] at hb
            subst this
            simp at hb
            subst hb
            exact ⟨hR.lt 0 b e1, Nat.one_pos⟩
          · rintro e w' ⟨rfl, hR', hfr⟩
            refine ⟨_, .tup [.v (.slice none 0 0), .v (.bool true)], _, ν, rfl, ⟨?_, .cons (ABeq.row fun j hj => (allE_get h2 j hj).symm) .nil⟩, ?_, hR', hfr, Le.refl _, hdom⟩
            · rw [decide_eq_false c]
              rfl
            · simp only [VR]
              exact ⟨[_, _], rfl, by simp only [VRs, VR, and_true]⟩
  · cases hF
    refine ⟨H, Hsim.refl _, fun M vals w ν hM hv hR hdom => ?_⟩
    match vals, hv with
    | [v], hv =>
      simp only [VRs, VR, and_true] at hv
      subst hv
      refine (walk_no (m := 0) (ft := fun _ => ⟨#[]⟩) (fc := fun _ => 0) (by omega) rfl hM hR (ν2 := fun _ => none) (by simp only [VRs, VR, and_true]; exact ⟨_, _, rfl, (fun c' h => by cases h), Nat.le_refl _, fun h => by omega⟩) (.inl ⟨rfl, rfl, rfl⟩) (fun i b hb => by cases hb)).mono ?_
      rintro e w' ⟨rfl, hR', hfr⟩
      refine ⟨_, .tup [.v (.slice none 0 0), .v (.bool true)], _, ν, rfl, ⟨rfl, Hsim.refl _⟩, ?_, hR', hfr, Le.refl _, hdom⟩
      simp only [VR]
      exact ⟨[_, _], rfl, by simp only [VRs, VR, and_true]⟩
  · cases hF

end Go.Proofs.YtcadinbahmliiaaGreatDoor

/- FnExactBookSort returns true, given the program's BookSort. Conditions: entries. -/
namespace Go.Proofs.YtcadinbahmliiaaGreatDoor
open Go.RowKit
set_option maxRecDepth 100000

theorem gmXsY_ok (h : SpecOk Tryz.prog 22 (specR md_bs (FbiY bsL))) : GamOk Tryz.prog (gmXsY bsL) := ext_ok (ext_ok (ext_ok (ext_ok (ext_ok (ext_ok (ext_ok g0_ok ok_szE) ok_toE) ok_eqES) ok_markE) ok_heldE) h) ok_bsS
theorem gmXsN_ok (h : SpecOk Tryz.prog 22 (specQ [] (FbiN bsL))) : GamOk Tryz.prog (gmXsN bsL) := ext_ok (ext_ok (ext_ok (ext_ok (ext_ok (ext_ok (ext_ok g0_ok ok_szE) ok_toE) ok_eqES) ok_markE) ok_heldE) h) ok_bsS
theorem yes_xbs_of (hY : SpecOk Tryz.prog 22 (specR md_bs (FbiY bsL))) (hN : SpecOk Tryz.prog 22 (specQ [] (FbiN bsL))) (m : Nat) (e : Nat → ByteArray × Int) (hm : m ≤ 9223372036854775807) (he : ∀ j, j < m → (e j).1.size ≤ 9223372036854775807) : ∃ Γ k, GamOk Tryz.prog Γ ∧ GoodQ (execF Tryz.prog Γ noLam k Tryz.f6 [.sl 0 2 0 0 m none] [.row false m 2 (rowE (fun j => (e j).1) fun j => (e j).2) 24] (packK 1)) SaysYes := by
  generalize hft : (fun j => (e j).1) = ft
  generalize (fun j => (e j).2) = fc
  have hz : smallZ m ft = true := List.all_eq_true.2 fun j hj => by
    subst hft
    rw [Nat.ble_eq]
    exact he j (List.mem_range.1 hj)
  have hL := bsL_len m ft fc
  by_cases q : (bsL m ft fc).length = 0
  · refine ⟨_, 100, gmXsN_ok hN, ?_⟩
    rw [lawXsN]
    simp only [Nat.zero_add, itT_row, itC_row, q]
    refine good_needs (by simp only [ob_cons, ob_nil, and_true, decide_eq_true_eq, ble_me, allE_row, hz, true_and]; omega) (good_cond (fun _ => good_out rfl) fun c1 => ?_)
    have c1 := szV_ge (of_decide_eq_false c1)
    have m40 : decide (m ≤ 1099511627776) = true := decide_eq_true (by omega)
    have m39 : decide (m ≤ 549755813888) = true := decide_eq_true (by omega)
    simp only [m40, m39, allE_row, sameE_self, ble_me, beq_me, needs_t, needs_nil, beq_self_eq_true, Bool.not_true, cond_false]
    exact good_out rfl
  · refine ⟨_, 100, gmXsY_ok hY, ?_⟩
    rw [lawXsY]
    have hm50 : decide (m > 50) = false := by
      refine decide_eq_false fun h => q ?_
      rw [bsL, decide_eq_true h]
      rfl
    simp only [Nat.zero_add, itT_row, itC_row, hm50]
    have q1 : Nat.blt 0 (bsL m ft fc).length = true := by rw [Nat.blt_eq]; omega
    generalize bsL m ft fc = L at hL q1 ⊢
    have l40 : decide (L.length ≤ 1099511627776) = true := decide_eq_true (by omega)
    have l39 : decide (L.length ≤ 549755813888) = true := decide_eq_true (by omega)
    refine good_needs (by simp only [ob_cons, ob_nil, and_true, decide_eq_true_eq, ble_me, allE_row, hz, true_and]; omega) (good_cond (fun _ => good_out rfl) fun c1 => ?_)
    have c1 := szV_ge (of_decide_eq_false c1)
    have m40 : decide (m ≤ 1099511627776) = true := decide_eq_true (by omega)
    have m39 : decide (m ≤ 549755813888) = true := decide_eq_true (by omega)
    simp only [m40, m39, l40, l39, q1, allE_row, sameE_self, ble_me, beq_me, needs_t, needs_nil, beq_self_eq_true, bne_self_eq_false, Bool.not_true, Bool.not_false, cond_false]
    exact good_out rfl

end Go.Proofs.YtcadinbahmliiaaGreatDoor

/- FnExactBookSort returns true. Conditions: entries. -/
namespace Go.Proofs.YtcadinbahmliiaaGreatDoor
open Go.RowKit

theorem yes_xbs (m : Nat) (e : Nat → ByteArray × Int) (hm : m ≤ 9223372036854775807) (he : ∀ j, j < m → (e j).1.size ≤ 9223372036854775807) : ∃ Γ k, GamOk Tryz.prog Γ ∧ GoodQ (execF Tryz.prog Γ noLam k Tryz.f6 [.sl 0 2 0 0 m none] [.row false m 2 (rowE (fun j => (e j).1) fun j => (e j).2) 24] (packK 1)) SaysYes :=
  yes_xbs_of ok_bsIY ok_bsIN m e hm he

end Go.Proofs.YtcadinbahmliiaaGreatDoor

/- BookSort of the program and of the reference return the same: FnExactBookSort returns true, and its arguments read as before. Conditions: the tables, as the row lists them; tied by the card. -/
namespace Go.Proofs.YtcadinbahmliiaaGreatDoor
open Go.ChangeShapes Go.WideShapes Go.ChangeAt Go.RowKit

set_option maxRecDepth 100000
theorem xbs_lifted (os : Os) (started : os.Started) (H : Type) (enc : TypeId × Value → H) :
    ReturnsInHanded {} Tryz.checked os 6 .any (fun w args => (Rows.fnExactBookSortSpec.pre enc Tryz.prog Tryz.f6 Rows.fnExactBookSortRow.domain false w args ∧ laidMet Tryz.prog Rows.fnExactBookSortRow.laid w) ∧ sizedMet enc Tryz.prog Tryz.f6 (OpenSpec.ofChange Rows.fnExactBookSortSpec) false w args)
      (Rows.fnExactBookSortSpec.post enc Tryz.prog Tryz.f6 false true false false) := by
  refine wrapS (C := Tryz.checked) (X := fun w _ => laidMet Tryz.prog Rows.fnExactBookSortRow.laid w) (fun _ _ _ hh h => h.of_heap hh) own started (by kernel_rfl) Tryz.func6
    (ChangeSpec.witness_at (enc := enc) (C := Tryz.checked) (os := os) (X := fun w _ => laidMet Tryz.prog Rows.fnExactBookSortRow.laid w) false (laidW os) #[.slice none 0 0] 8 rfl (by kernel_rfl) (by kernel_rfl) (by kernel_rfl) (by kernel_rfl) (by kernel_rfl) (laidW_met os _)) ?_
  intro W base args ds gs before hval hW hL hsh
  exact contractEL (spec := Rows.fnExactBookSortSpec) Tryz.func6 rfl rfl rfl (fun _ _ => rfl) (fun m g hm hg => yes_xbs m g hm hg) H enc W base args ds gs before hval hW (laid_tab hL hsh)

set_option maxRecDepth 100000 in
theorem xbs_f1 : Rows.fnExactBookSortRow.wf (OpenSpec.ofChange Rows.fnExactBookSortSpec) = true := by kernel_rfl
set_option maxRecDepth 100000 in
theorem xbs_f2 : (Rows.fnExactBookSortRow.inPlace == Tryz.prog.inPlace 6) = true := by kernel_rfl
set_option maxRecDepth 100000 in
theorem xbs_f3 : (Rows.fnExactBookSortRow.unfollowed == Tryz.prog.unfollowed 6) = true := by kernel_rfl
set_option maxRecDepth 100000 in
theorem xbs_f4 : (Rows.fnExactBookSortRow.recurses == Tryz.prog.recurses 6) = true := by kernel_rfl
set_option maxRecDepth 100000 in
theorem xbs_f5 : (Rows.fnExactBookSortRow.named == Tryz.prog.varsNamed 6) = true := by kernel_rfl
set_option maxRecDepth 100000 in
theorem xbs_f6 : Tryz.prog.funcNamed Rows.fnExactBookSortRow.func = some 6 := by kernel_rfl
theorem xbs_f7 : (Rows.fnExactBookSortRow.lifted == Tryz.prog.liftsFinal) = true := jfG
theorem xbs_f8 : (Tryz.prog.make == some Rows.fnExactBookSortRow.make) = true := jfH
theorem xbs_f9 : (Rows.fnExactBookSortRow.plainKeys == Tryz.prog.plainKeys) = true := jfI
set_option maxRecDepth 100000 in
theorem xbs_joined : joinedFacts Tryz.prog 6 Tryz.f6 Rows.fnExactBookSortSpec Rows.fnExactBookSortRow = true := by
  unfold joinedFacts
  rw [jfA, jfB, jfC, jfD, jfE, jfF, xbs_f1, xbs_f2, xbs_f3, xbs_f4, xbs_f5, xbs_f7, xbs_f8, xbs_f9]
  kernel_rfl

theorem xbs_said : Rows.FnExactBookSortSaid :=
  OpenClaim.holds_of_wide 6 Tryz.f6 rfl rfl rfl rfl rfl rfl rfl ⟨rfl, rfl, rfl, rfl, rfl⟩ rfl rfl rfl rfl rfl xbs_f6 Tryz.func6 xbs_joined
    (of_decide_eq_true (by kernel_rfl)) (by unfold Func.isWrapper; first | (rw [if_pos (by decide +kernel)]; kernel_rfl) | (rw [if_neg (by decide +kernel)]; exact ⟨rfl, rfl⟩))
    (fun os started H enc _ => xbs_lifted os started H enc)

theorem xbs_holds : Rows.FnExactBookSortCardSaid :=
  Claim7.holds_tied_plain_at .later [] [.data, .data, .data, .data, .sentinel, .sentinel, .pinned] true (true, "64f19479c3a6d81dfc80de2dffd5fbef6da7676803f5285d7727ce03c0476430") true
    xbs_said (fun _ h => by cases h) (by kernel_rfl) (fun _ h => by cases h) fnExactBookSort_row_tie rfl ⟨rfl, rfl⟩ (by kernel_rfl) rfl
    (fun f fn hf hfn => by
      obtain rfl : f = 6 := (Option.some.inj (xbs_f6.symm.trans hf)).symm
      obtain rfl : fn = Tryz.f6 := (Option.some.inj (Tryz.func6.symm.trans hfn)).symm
      exact ⟨by kernel_rfl, fun j t ht => by
        rw [Tryz.params6] at ht
        have h3 : t = 39 := by
          rcases j with _ | j
          · simpa using ht.symm
          · simp at ht
        subst h3
        exact (show Tryz.prog.wantsStandIn 39 = false by kernel_rfl)⟩)
    (by kernel_rfl)
#print axioms xbs_holds

end Go.Proofs.YtcadinbahmliiaaGreatDoor
