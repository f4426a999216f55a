/- Plain lists of wheels: sums over the wheels that are linear in the radii do not change when the list is tidied; a tidy list is known by its sums. No program, no conditions. -/
import Derived.Test.YtddhmidegldhdaaGreatDoorZD0
import Derived.Test.YtddhmidegldhdaaGreatDoorZD1
import Derived.Test.YtddhmidegldhdaaGreatDoorZD2
import Derived.Test.YtddhmidegldhdaaGreatDoorZD3
import Derived.StillTail
import Derived.RowKit3
import Derived.Below
import Derived.Lib.SplitLaws
import Derived.Lib.AtoiAll
import Derived.Lib.ItoaNum
import Derived.Lib.Join
import Derived.Shelf.Strconv.Itoa3
import Derived.Shelf.Strings.OnBuilder
/- The sort of wheels by their speeds. Conditions: at most twelve. -/
namespace Go.Proofs.YtddhmidegldhdaaGreatDoor
open Go.RowKit
set_option maxRecDepth 100000

noncomputable abbrev fIS : Func := Tryz.f200
theorem treeCmp (a b : Int) : execF Tryz.prog g0 noLam 100 Tryz.f78 ([i64 a, i64 b].map .v) [] valK
    = bif a != a then bif b != b then Res.out .ret [AV.v (.int .i64 0)] [] else Res.out .ret [AV.v (.int .i64 (-1 : Int))] [] else bif b != b then Res.out .ret [AV.v (.int .i64 1)] [] else bif decide (a < b) then Res.out .ret [AV.v (.int .i64 (-1 : Int))] [] else bif decide (a > b) then Res.out .ret [AV.v (.int .i64 1)] [] else Res.out .ret [AV.v (.int .i64 0)] [] := by kernel_rfl

def cmpI (a b : Int) : Int := bif decide (a < b) then -1 else bif decide (a > b) then 1 else 0
def f_cmp : List Value → Option (Value × List Bool)
  | [.int .i64 a, .int .i64 b] => some (.int .i64 (cmpI a b), [])
  | _ => none
theorem ok_cmp : SpecOk Tryz.prog 78 (specV f_cmp) := by
  refine mkV (n := 100) g0_ok Tryz.func78 rfl fun vs v ob hF ho => ?_
  unfold f_cmp at hF
  split at hF
  · rename_i a b
    cases hF
    show Good (execF Tryz.prog g0 noLam 100 Tryz.f78 ([i64 a, i64 b].map .v) [] valK) _
    rw [treeCmp]
    refine gives_of ?_
    have e1 : (a != a) = false := by simp
    have e2 : (b != b) = false := by simp
    rw [e1, e2, cond_false, cond_false]
    show outV (cond (decide (a < b)) (rv (.int .i64 (-1))) (cond (decide (a > b)) (rv (.int .i64 1)) (rv (.int .i64 0)))) = _
    simp only [outV_cond, outV_rv, cond_some, cond_int, cmpI]
  · cases hF
def gmCmp : Gam := ext g0 78 (specV f_cmp)
theorem gmCmp_ok : GamOk Tryz.prog gmCmp := ext_ok g0_ok ok_cmp

def fC3 (c : Int → Int → Int) : List Value → Option (Value × List Bool)
  | [.agg ⟨[.int .i64 a, .int .i64 _, .int .i64 _, .int .i64 _, .int .i64 _, .int .i64 _, .int .i64 _, .int .i64 _, .int .i64 _]⟩, .agg ⟨[.int .i64 b, .int .i64 _, .int .i64 _, .int .i64 _, .int .i64 _, .int .i64 _, .int .i64 _, .int .i64 _, .int .i64 _]⟩] => some (.int .i64 (c a b), [])
  | _ => none
theorem ok_c3 : SpecOk Tryz.prog 77 (specV (fC3 cmpI)) := by
  refine mkV (n := 100) gmCmp_ok Tryz.func77 rfl fun vs v ob hF ho => ?_
  unfold fC3 at hF
  split at hF
  · cases hF
    exact one (by kernel_rfl)
  · cases hF

def gmIS (c : Int → Int → Int) : Gam := ext g0 77 (specV (fC3 c))
abbrev fnS : AV := .fn 77 []
abbrev lvI2 : Ex → List Nat := lv3 [0, 1, 2, 3, 8, 9] [0, 1, 2, 3, 8] []
abbrev lvI0 : Ex → List Nat := lv3 [0, 1, 2, 3, 8] [] []
abbrev slS (m : Nat) : AV := .sl 0 9 0 0 m none
abbrev stI2 (m i j : Nat) : List AV := [slS m, .v (i64 0), .v (i64 m), fnS, .v (i64 i), .v (i64 j)]
abbrev stI0 (m i : Nat) : List AV := [slS m, .v (i64 0), .v (i64 m), fnS, .v (i64 i)]
theorem rndI2_h (c : Int → Int → Int) (m n : Nat) (h : Nat → Nat → Int) (t : TypeId) (i j : Nat) (u2 : _) (hu2 : ((↑j : Int) - (1 : Int)) = u2) (u5 : _) (hu5 : (0 : Nat) = u5) (u6 : _) (hu6 : (decide (IntKind.wrap .i64 u2 < (m : Int))) = u6) (u7 : _) (hu7 : (decide ((0 : Int) ≤ IntKind.wrap .i64 u2)) = u7) (u8 : _) (hu8 : (decide (u5 + Int.toNat (↑j : Int) < n)) = u8) (u9 : _) (hu9 : (decide ((↑j : Int) < (m : Int))) = u9) (u10 : _) (hu10 : (IntKind.wrap .i64 u2) = u10) (u11 : _) (hu11 : (AV.v (.int .i64 (m : Int))) = u11) (u12 : _) (hu12 : (AV.v (.int .i64 (↑i : Int))) = u12) (u0 : _) (hu0 : (u5 + Int.toNat u10) = u0) (u1 : _) (hu1 : (u5 + Int.toNat (↑j : Int)) = u1) (u3 : _) (hu3 : [AV.sl u5 (9 : Nat) u5 u5 m none, AV.v (.int .i64 0), u11, AV.fn (77 : FuncId) [], u12] = u3) (u4 : _) (hu4 : (decide (u5 + Int.toNat u10 < n)) = u4) : execC Tryz.prog (gmIS c) 100 noLam (loopAt 2 fIS) (mkT 0 53 ((lvI2 .normal).zip (stI2 m i j))) (hpDF n h t) (leafV 53 lvI2 1)
    = bif decide ((↑j : Int) > (0 : Int)) then needs [u9, u8, u7, u6, u4] (bif decide (c (h u1 u5) (h u0 u5) < (0 : Int)) then needs [u7, u6, u4, u9, u8, u9, u8, u7, u6, u4] (Res.out .normal [AV.sl u5 (9 : Nat) u5 u5 m none, AV.v (.int .i64 0), u11, AV.fn (77 : FuncId) [], u12, AV.v (.int .i64 u10)] [AB.row true n 9 (fun q ↦ [Value.int .i64 (bif Nat.beq q u0 then h u1 u5 else bif Nat.beq q u1 then h u0 u5 else h q u5), Value.int .i64 (bif Nat.beq q u0 then h u1 (1 : Nat) else bif Nat.beq q u1 then h u0 (1 : Nat) else h q (1 : Nat)), Value.int .i64 (bif Nat.beq q u0 then h u1 (2 : Nat) else bif Nat.beq q u1 then h u0 (2 : Nat) else h q (2 : Nat)), Value.int .i64 (bif Nat.beq q u0 then h u1 (3 : Nat) else bif Nat.beq q u1 then h u0 (3 : Nat) else h q (3 : Nat)), Value.int .i64 (bif Nat.beq q u0 then h u1 (4 : Nat) else bif Nat.beq q u1 then h u0 (4 : Nat) else h q (4 : Nat)), Value.int .i64 (bif Nat.beq q u0 then h u1 (5 : Nat) else bif Nat.beq q u1 then h u0 (5 : Nat) else h q (5 : Nat)), Value.int .i64 (bif Nat.beq q u0 then h u1 (6 : Nat) else bif Nat.beq q u1 then h u0 (6 : Nat) else h q (6 : Nat)), Value.int .i64 (bif Nat.beq q u0 then h u1 (7 : Nat) else bif Nat.beq q u1 then h u0 (7 : Nat) else h q (7 : Nat)), Value.int .i64 (bif Nat.beq q u0 then h u1 (8 : Nat) else bif Nat.beq q u1 then h u0 (8 : Nat) else h q (8 : Nat))]) t]) else Res.out (Ex.exit (2 : Nat)) u3 [AB.row true n 9 (row9 h) t]) else Res.out (Ex.exit (2 : Nat)) u3 [AB.row true n 9 (row9 h) t] := by
  subst hu4 hu3 hu1 hu0 hu12 hu11 hu10 hu9 hu8 hu7 hu6 hu5 hu2
  kernel_rfl
theorem rndI2 (c : Int → Int → Int) (m n : Nat) (h : Nat → Nat → Int) (t : TypeId) (i j : Nat) : type_of% (rndI2_h c m n h t i j _ rfl _ rfl _ rfl _ rfl _ rfl _ rfl _ rfl _ rfl _ rfl _ rfl _ rfl _ rfl _ rfl) := rndI2_h c m n h t i j _ rfl _ rfl _ rfl _ rfl _ rfl _ rfl _ rfl _ rfl _ rfl _ rfl _ rfl _ rfl _ rfl

noncomputable abbrev lamI2 (m n i : Nat) (h : Nat → Nat → Int) (t : TypeId) (h2 : Nat → Nat → Int) : Nat → Option Sum := oneL 2 (atS 53 (lvI2 .normal) 1 (stI2 m i i) (hpDF n h t) (fun K => K .normal (mkT 0 53 ([0, 1, 2, 3, 8].zip (stI0 m i))) (hpDF n h2 t)))
theorem rndI0 (c : Int → Int → Int) (m n : Nat) (h : Nat → Nat → Int) (t : TypeId) (i : Nat) (h2 : Nat → Nat → Int) : execC Tryz.prog (gmIS c) 100 (lamI2 m n i h t h2) (loopAt 0 fIS) (mkT 0 53 ((lvI0 .normal).zip (stI0 m i))) (hpDF n h t) (leafV 53 lvI0 1)
    = bif decide ((↑i : Int) < (m : Int)) then needs [chk ([AV.sl 0 (9 : Nat) (0 : Nat) (0 : Nat) m none, AV.v (.int .i64 0), AV.v (.int .i64 (m : Int)), AV.fn (77 : FuncId) [], AV.v (.int .i64 (↑i : Int)), AV.v (.int .i64 (↑i : Int))] = stI2 m i i ∧ Hsim [AB.row true n 9 (row9 h) t] (hpDF n h t))] (Res.out .normal [AV.sl 0 (9 : Nat) (0 : Nat) (0 : Nat) m none, AV.v (.int .i64 0), AV.v (.int .i64 (m : Int)), AV.fn (77 : FuncId) [], AV.v (.int .i64 (IntKind.wrap .i64 ((↑i : Int) + (1 : Int))))] [AB.row true n 9 (row9 h2) t]) else Res.out (Ex.exit (0 : Nat)) [] [AB.row true n 9 (row9 h) t] := by kernel_rfl

noncomputable abbrev lamI0 (m n : Nat) (h : Nat → Nat → Int) (t : TypeId) (h2 : Nat → Nat → Int) : Nat → Option Sum := oneL 0 (atS 53 (lvI0 .normal) 1 (stI0 m 1) (hpDF n h t) (fun K => K .normal (mkT 0 53 []) (hpDF n h2 t)))
theorem treeIS (m n : Nat) (h : Nat → Nat → Int) (t : TypeId) (h2 : Nat → Nat → Int) : execF Tryz.prog g0 (lamI0 m n h t h2) 100 fIS [slS m, .v (i64 0), .v (i64 m), fnS] (hpDF n h t) (packK 1)
    = needs [chk ([AV.sl 0 (9 : Nat) (0 : Nat) (0 : Nat) m none, AV.v (.int .i64 0), AV.v (.int .i64 (m : Int)), AV.fn (77 : FuncId) [], AV.v (.int .i64 1)] = stI0 m (1 : Nat) ∧ Hsim [AB.row true n 9 (row9 h) t] (hpDF n h t))] (Res.out .ret [AV.tup []] [AB.row true n 9 (row9 h2) t]) := by kernel_rfl

def errS : Sum := fun _ _ _ => .err
theorem rndI0n (c : Int → Int → Int) (m n : Nat) (h : Nat → Nat → Int) (t : TypeId) (i : Nat) : execC Tryz.prog (gmIS c) 100 (oneL 2 errS) (loopAt 0 fIS) (mkT 0 53 ((lvI0 .normal).zip (stI0 m i))) (hpDF n h t) (leafV 53 lvI0 1)
    = bif decide ((↑i : Int) < (m : Int)) then Res.err else Res.out (Ex.exit (0 : Nat)) [] [AB.row true n 9 (row9 h) t] := by kernel_rfl

theorem errS_ok {P : Program} {m0 : Nat} {b : Code} : SumOk P m0 b errS := by
  intro M w0 ν0 hM hm0 T H K Q a w ν hS
  exact hS.elim
def FisO (o : List Wh → List Wh) : List AV → List AB → Option HR
  | [.sl 0 9 0 0 m none, .v (.int .i64 0), .v (.int .i64 b), .fn fi []], [.row true n 9 g t] => some { val := .tup [], out := [.row true m 9 (row9 (wfun (o (listW (itW g) m)))) t], obl := [Nat.beq fi 77, decide (b = m), Nat.ble m n, allW n g, decide (m ≤ 2 ^ 38)] }
  | _, _ => none

theorem lamC {P : Program} {m0 id : Nat} {S : Sum} {c cc : Code} (h : codeAt id cc = [.block id (.loop c)]) (hS : SumOk P m0 (.block id (.loop c)) S) : LamOk P m0 (oneL id S) cc := by
  intro j S' hj b hb
  unfold oneL at hj
  cases hjb : Nat.beq j id with
  | false => rw [hjb] at hj; cases hj
  | true =>
    rw [hjb] at hj
    cases hj
    rw [Nat.eq_of_beq_eq_true hjb] at hb
    rw [h] at hb
    simp at hb
    subst hb
    exact hS

theorem cmpI_lt (a b : Int) : decide (cmpI a b < 0) = decide (a < b) := by
  unfold cmpI
  by_cases h : a < b
  · rw [decide_eq_true h]; rfl
  · by_cases h2 : a > b
    · rw [decide_eq_false h, decide_eq_true h2]; rfl
    · rw [decide_eq_false h, decide_eq_false h2]; rfl
theorem wfun_spd (L : List Wh) (j : Nat) : wfun L j 0 = spd L j := by
  unfold wfun spd
  cases L[j]? <;> rfl
theorem gmIS_ok : GamOk Tryz.prog (gmIS cmpI) := ext_ok g0_ok ok_c3
theorem sumI2 (m i : Nat) (L0 : List Wh) (t : TypeId) (hm : m ≤ 2 ^ 38) (hi : i < m) (hL : L0.length = m) :
    SumOk Tryz.prog 1 (.block 2 (.loop (loopAt 2 fIS))) (atS 53 (lvI2 .normal) 1 (stI2 m i i) (hpDF m (wfun L0) t) (fun K => K .normal (mkT 0 53 ([0, 1, 2, 3, 8].zip (stI0 m i))) (hpDF m (wfun (sinkL i L0)) t))) := by
  refine loop_at gmIS_ok (n := 100) (m := 1) (m0 := 1) (lv := lvI2) (σ := List Wh × Nat) (fun s => stI2 m i s.2) (fun s => hpDF m (wfun s.1) t) (fun s => s.1.length = m ∧ s.2 ≤ i ∧ sinkL s.2 s.1 = sinkL i L0) (fun s => s.2) (L0, i) (fun _ => noLam) (lv3_ris rfl rfl rfl) (Nat.le_refl _) ⟨hL, Nat.le_refl _, rfl⟩ fun K Q hk s hs => ⟨noLam_ok _ _ _, ?_⟩
  obtain ⟨L, j⟩ := s
  obtain ⟨h1, h2, h3⟩ := hs
  simp only at h1 h2 h3
  have done : sinkL j L = L → GoodQ (.out (.exit 2) (stI0 m i) (hpDF m (wfun L) t)) (RoundV 53 2 lvI2 (fun s : List Wh × Nat => stI2 m i s.2) (fun s => hpDF m (wfun s.1) t) (fun s' => (s'.1.length = m ∧ s'.2 ≤ i ∧ sinkL s'.2 s'.1 = sinkL i L0) ∧ s'.2 < j) K Q) := fun e => by
    refine good_out ⟨_, Hsim.refl _, ?_⟩
    rw [if_pos rfl]
    rw [← h3, e] at hk
    exact hk
  show GoodQ (execC Tryz.prog (gmIS cmpI) 100 noLam (loopAt 2 fIS) (mkT 0 53 ((lvI2 .normal).zip (stI2 m i j))) (hpDF m (wfun L) t) (leafV 53 lvI2 1)) _
  rw [rndI2]
  refine good_cond (fun c1 => ?_) fun c1 => ?_
  · have c1 := of_decide_eq_true c1
    obtain ⟨j, rfl⟩ : ∃ q, j = q + 1 := ⟨j - 1, by omega⟩
    have e1 : IntKind.wrap IntKind.i64 (((j + 1 : Nat) : Int) - 1) = (j : Int) := by rw [wr_in (by omega)]; omega
    simp only [e1, Int.toNat_natCast, Nat.zero_add]
    refine good_needs (by simp only [ob_cons, ob_nil, and_true, decide_eq_true_eq]; omega) ?_
    rw [cmpI_lt, wfun_spd, wfun_spd]
    refine good_cond (fun c2 => ?_) fun c2 => ?_
    · have c2 := of_decide_eq_true c2
      have e2 : sinkL (j + 1) L = sinkL j (swpL L j) := by rw [sinkL, if_pos c2]
      refine good_needs (by simp only [ob_cons, ob_nil, and_true, decide_eq_true_eq]; omega) (good_out ⟨(swpL L j, j), ⟨⟨by rw [swpL_length]; exact h1, by show j ≤ i; omega, by rw [← h3, e2]⟩, Nat.lt_succ_self j⟩, rfl, .cons (ABeq.row fun q hq => ?_) .nil⟩)
      show row9 (fun q k => bif Nat.beq q j then wfun L (j + 1) k else bif Nat.beq q (j + 1) then wfun L j k else wfun L q k) q = row9 (wfun (swpL L j)) q
      refine row9_congr fun k hk => ?_
      rw [wfun_swp L j q (by omega)]
      by_cases q1 : q = j
      · rw [q1, if_pos rfl, show Nat.beq j j = true from Nat.beq_refl j, cond_true]
      · rw [if_neg q1, beq_ne q1, cond_false]
        by_cases q2 : q = j + 1
        · rw [q2, if_pos rfl, show Nat.beq (j + 1) (j + 1) = true from Nat.beq_refl _, cond_true]
        · rw [if_neg q2, beq_ne q2, cond_false]
    · have c2 := of_decide_eq_false c2
      exact done (by rw [sinkL, if_neg c2])
  · have c1 := of_decide_eq_false c1
    have : j = 0 := by omega
    subst this
    exact done rfl

theorem sortTo_length (L : List Wh) (n : Nat) : (sortTo L n).length = L.length := (sortTo_perm L n).length_eq
theorem sumI0 (m : Nat) (L : List Wh) (t : TypeId) (hm : m ≤ 2 ^ 38) (hL : L.length = m) :
    SumOk Tryz.prog 1 (.block 0 (.loop (loopAt 0 fIS))) (atS 53 (lvI0 .normal) 1 (stI0 m 1) (hpDF m (wfun L) t) (fun K => K .normal (mkT 0 53 []) (hpDF m (wfun (sortL L)) t))) := by
  refine for_at gmIS_ok (n := 100) (m := 1) (m0 := 1) (lv := lvI0) (fun i => stI0 m (i + 1)) (fun i => hpDF m (wfun (sortTo L (i + 1))) t) (fun _ => True) (m - 1) (fun i => bif Nat.blt (i + 1) m then lamI2 m m (i + 1) (wfun (sortTo L (i + 1))) t (wfun (sinkL (i + 1) (sortTo L (i + 1)))) else oneL 2 errS) (lv3_ris rfl rfl rfl) (Nat.le_refl _) trivial fun K Q hk i _ him => ?_
  by_cases hlt : i + 1 < m
  · have b : Nat.blt (i + 1) m = true := by rw [Nat.blt_eq]; exact hlt
    rw [b, cond_true]
    refine ⟨lamC (by kernel_rfl) (sumI2 m (i + 1) (sortTo L (i + 1)) t hm hlt (by rw [sortTo_length]; exact hL)), ?_⟩
    rw [rndI0]
    refine good_true (decide_eq_true (by omega)) (good_needs (by rw [ob_cons]; exact ⟨chk_of ⟨rfl, Hsim.refl _⟩, rfl⟩) ?_)
    rw [wr_in (x := ((i + 1 : Nat) : Int) + 1) (by omega)]
    exact good_out ⟨i + 1, ⟨rfl, by omega, trivial⟩, rfl, Hsim.refl _⟩
  · have b : Nat.blt (i + 1) m = false := by
      cases hb : Nat.blt (i + 1) m with
      | false => rfl
      | true => rw [Nat.blt_eq] at hb; omega
    rw [b, cond_false]
    refine ⟨lamC (c := loopAt 2 fIS) (by kernel_rfl) errS_ok, ?_⟩
    have hs : sortTo L (i + 1) = sortL L := by
      unfold sortL
      rw [hL]
      by_cases h0 : m = 0
      · have : i = 0 := by omega
        subst this h0
        rfl
      · rw [show i + 1 = m by omega]
    rw [hs, rndI0n]
    refine good_false (decide_eq_false (by omega)) (good_out ⟨_, Hsim.refl _, ?_⟩)
    rw [if_pos rfl]
    exact hk

def F_is : List AV → List AB → Option HR := FisO sortL
theorem ok_is : SpecOk Tryz.prog 200 (specH [] F_is) := by
  refine specH_ok g0_ok Tryz.func200 rfl fun avs H hr hF ho => ?_
  unfold F_is FisO at hF
  split at hF
  · rename_i m b fi n g t
    cases hF
    simp only [ob_cons] at ho
    obtain ⟨h0, h1, h2, h3, h4, _⟩ := ho
    have h0 := Nat.eq_of_beq_eq_true h0
    have h1 := of_decide_eq_true h1
    have h4 := of_decide_eq_true h4
    have h2 := Nat.le_of_ble_eq_true h2
    subst h0 h1
    have hL : (listW (itW g) m).length = m := listW_length _ _
    refine ⟨hpDF m (wfun (listW (itW g) m)) t, lamI0 m m (wfun (listW (itW g) m)) t (wfun (sortL (listW (itW g) m))), 100, .cons (ABeq.cut h2 fun j hj => ?_) .nil, lam1 (by kernel_rfl) (sumI0 m (listW (itW g) m) t h4 hL), ?_⟩
    · rw [row9_list _ hj]
      exact allW_get h3 j (by omega)
    · show GoodQ (execF Tryz.prog g0 (lamI0 m m (wfun (listW (itW g) m)) t (wfun (sortL (listW (itW g) m)))) 100 fIS [slS m, .v (i64 0), .v (i64 m), fnS] (hpDF m (wfun (listW (itW g) m)) t) (packK 1)) _
      rw [treeIS]
      exact good_needs (by rw [ob_cons]; exact ⟨chk_of ⟨rfl, Hsim.refl _⟩, rfl⟩) (good_out ⟨rfl, Hsim.refl _⟩)
  · cases hF

end Go.Proofs.YtddhmidegldhdaaGreatDoor

/- SortFunc on wheels, and Clip. Conditions: at most twelve. -/
namespace Go.Proofs.YtddhmidegldhdaaGreatDoor
open Go.RowKit
set_option maxRecDepth 100000

noncomputable abbrev fSF : Func := Tryz.f76
def gmSF (o : List Wh → List Wh) : Gam := ext g0 200 (specH [] (FisO o))
theorem treeSFm (o : List Wh → List Wh) (n : Nat) (g : Nat → List Value) (t : TypeId) : ∀ m, m ≤ 12 → execF Tryz.prog (gmSF o) noLam 100 fSF [slS m, fnS] [.row true n 9 g t] (packK 1) = needs [Nat.ble m n, allW n g] (.out .ret [.tup []] [.row true m 9 (row9 (wfun (o (listW (itW g) m)))) t])
  | 0, _ => by kernel_rfl
  | 1, _ => by kernel_rfl
  | 2, _ => by kernel_rfl
  | 3, _ => by kernel_rfl
  | 4, _ => by kernel_rfl
  | 5, _ => by kernel_rfl
  | 6, _ => by kernel_rfl
  | 7, _ => by kernel_rfl
  | 8, _ => by kernel_rfl
  | 9, _ => by kernel_rfl
  | 10, _ => by kernel_rfl
  | 11, _ => by kernel_rfl
  | 12, _ => by kernel_rfl
  | n + 13, h => absurd h (by omega)
def FsfO (o : List Wh → List Wh) : List AV → List AB → Option HR
  | [.sl 0 9 0 0 m none, .fn fi []], [.row true n 9 g t] => some { val := .tup [], out := [.row true m 9 (row9 (wfun (o (listW (itW g) m)))) t], obl := [Nat.beq fi 77, Nat.ble m n, allW n g, decide (m ≤ 12)] }
  | _, _ => none
theorem ok_sort : SpecOk Tryz.prog 76 (specH [] (FsfO sortL)) := by
  refine specH_ok (ext_ok g0_ok ok_is) Tryz.func76 rfl fun avs H hr hF ho => ?_
  unfold FsfO at hF
  split at hF
  · rename_i m fi n g t
    cases hF
    simp only [ob_cons] at ho
    obtain ⟨h0, h1, h2, h3, _⟩ := ho
    have h0 := Nat.eq_of_beq_eq_true h0
    have h3 := of_decide_eq_true h3
    subst h0
    refine ⟨[.row true n 9 g t], noLam, 100, Hsim.refl _, noLam' _, ?_⟩
    show GoodQ (execF Tryz.prog (gmSF sortL) noLam 100 fSF [slS m, fnS] [.row true n 9 g t] (packK 1)) _
    rw [treeSFm _ _ _ _ m h3]
    exact good_needs (by simp only [ob_cons, ob_nil, and_true]; exact ⟨h1, h2⟩) (good_out ⟨rfl, Hsim.refl _⟩)
  · cases hF

end Go.Proofs.YtddhmidegldhdaaGreatDoor

/- tidied: the program's tidy design. Conditions: a list of wheels. -/
namespace Go.Proofs.YtddhmidegldhdaaGreatDoor
open Go.RowKit
set_option maxRecDepth 100000

def FifaO (o : (Nat → Nat → Int) → Int → Nat → Int) : List AV → List AB → Option HR
  | [.own 0 m, .fn 70 [.ptr 1 0 0 0]], [.row false n 9 g t, .cells [.v (.int .i64 x0), .v (.int .i64 x1), .v (.int .i64 x2), .v (.int .i64 x3), .v (.int .i64 x4), .v (.int .i64 x5), .v (.int .i64 x6), .v (.int .i64 x7), .v (.int .i64 x8)] t2] => some { val := .v (i64 (o (itW g) x0 m)), out := [.row false n 9 g t, .cells [.v (.int .i64 x0), .v (.int .i64 x1), .v (.int .i64 x2), .v (.int .i64 x3), .v (.int .i64 x4), .v (.int .i64 x5), .v (.int .i64 x6), .v (.int .i64 x7), .v (.int .i64 x8)] t2], obl := [Nat.beq n m, allW m g, decide (m ≤ 2 ^ 38)] }
  | _, _ => none
def fAdd2 (ad : (Nat → Int) → (Nat → Int) → Nat → Int) : List Value → Option (Value × List Bool)
  | [.agg ⟨[.int .i64 a0, .int .i64 a1, .int .i64 a2, .int .i64 a3, .int .i64 a4, .int .i64 a5, .int .i64 a6, .int .i64 a7]⟩, .agg ⟨[.int .i64 b0, .int .i64 b1, .int .i64 b2, .int .i64 b3, .int .i64 b4, .int .i64 b5, .int .i64 b6, .int .i64 b7]⟩] => some (cyv (ad (v8 a0 a1 a2 a3 a4 a5 a6 a7) (v8 b0 b1 b2 b3 b4 b5 b6 b7)), [])
  | _ => none
def gmTI (o : (Nat → Nat → Int) → Int → Nat → Int) (ok : (Nat → Int) → Bool) (ad : (Nat → Int) → (Nat → Int) → Nat → Int) : Gam := ext (ext (ext g0 72 (specV (fOkc ok))) 71 (specV (fAdd2 ad))) 69 (specH [true] (FifaO o))
abbrev lvTI : Ex → List Nat := lv3 [4, 9, 10, 11] [4] [2, 3]
abbrev hpTI (m : Nat) (f : Nat → Nat → Int) (t : TypeId) (n : Nat) (h : Nat → Nat → Int) : List AB := [.row false m 9 (row9 f) t, .row true n 9 (row9 h) 60]
abbrev stTI (m n i : Nat) : List AV := [.own 1 n, .sl 0 9 0 0 m none, .v (i64 m), .v (i64 i)]
theorem rndTI_h (o : (Nat → Nat → Int) → Int → Nat → Int) (ok : (Nat → Int) → Bool) (ad : (Nat → Int) → (Nat → Int) → Nat → Int) (m : Nat) (f : Nat → Nat → Int) (t : TypeId) (n : Nat) (h : Nat → Nat → Int) (i : Nat) (u6 : _) (hu6 : (0 : Nat) = u6) (u7 : _) (hu7 : (0 : Int) = u7) (u8 : _) (hu8 : (1 : Nat) = u8) (u9 : _) (hu9 : (AB.row false m 9 (row9 f) t) = u9) (u10 : _) (hu10 : (itW (row9 h)) = u10) (u11 : _) (hu11 : (↑n : Int) = u11) (u12 : _) (hu12 : (AV.v (.int .i64 (IntKind.wrap .i64 ((↑i : Int) + (1 : Int))))) = u12) (u14 : _) (hu14 : (decide (u11 < (↑(n + u8) : Int))) = u14) (u15 : _) (hu15 : (2 : Nat) = u15) (u16 : _) (hu16 : (5 : Nat) = u16) (u17 : _) (hu17 : (3 : Nat) = u17) (u18 : _) (hu18 : (4 : Nat) = u18) (u19 : _) (hu19 : (6 : Nat) = u19) (u21 : _) (hu21 : (7 : Nat) = u21) (u23 : _) (hu23 : (decide (Int.toNat u11 < n + u8)) = u23) (u24 : _) (hu24 : [AV.v (Value.slice none u6 u6), AV.v (.bool false)] = u24) (u25 : _) (hu25 : (AV.v (.int .i64 (m : Int))) = u25) (u0 : _) (hu0 : (u6 + Int.toNat (↑i : Int)) = u0) (u3 : _) (hu3 : (v8 (f u0 u8) (f u0 u15) (f u0 u17) (f u0 u18) (f u0 u16) (f u0 u19) (f u0 u21) (f u0 (8 : Nat))) = u3) (u4 : _) (hu4 : (Int.toNat (o u10 (f u0 u6) n)) = u4) (u5 : _) (hu5 : (Int.toNat u11) = u5) (u13 : _) (hu13 : (decide (Int.toNat (o u10 (f u0 u6) n) < n)) = u13) (u20 : _) (hu20 : (decide (u7 ≤ o u10 (f u0 u6) n)) = u20) (u22 : _) (hu22 : (decide (o u10 (f u0 u6) n < u11)) = u22) (u1 : _) (hu1 : (v8 (bif Nat.blt u5 n then h u5 u8 else u7) (bif Nat.blt u5 n then h u5 u15 else u7) (bif Nat.blt u5 n then h u5 u17 else u7) (bif Nat.blt u5 n then h u5 u18 else u7) (bif Nat.blt u5 n then h u5 u16 else u7) (bif Nat.blt u5 n then h u5 u19 else u7) (bif Nat.blt u5 n then h u5 u21 else u7) (bif Nat.blt u5 n then h u5 (8 : Nat) else u7)) = u1) (u2 : _) (hu2 : (v8 (h u4 u8) (h u4 u15) (h u4 u17) (h u4 u18) (h u4 u16) (h u4 u19) (h u4 u21) (h u4 (8 : Nat))) = u2) : execC Tryz.prog (gmTI o ok ad) 100 noLam (loopAt 0 Tryz.f36) (mkT 0 57 ((lvTI .normal).zip (stTI m n i))) (hpTI m f t n h) (leafV 57 lvTI 1)
    = bif decide ((↑i : Int) < (m : Int)) then needs [decide ((↑i : Int) < (m : Int)), decide (u6 + Int.toNat (↑i : Int) < m), Nat.beq n n, allW n (row9 h), decide (n ≤ (274877906944 : Nat))] (bif decide (o u10 (f u0 u6) n < u7) then needs [Nat.ble n n, Nat.ble (n + u8) (549755813888 : Nat), u14, u23, u14, u23, u14, u23] (bif !ok (v8 (bif Nat.beq u5 u5 then ad u1 u3 u6 else bif Nat.blt u5 n then h u5 u8 else u7) (bif Nat.beq u5 u5 then ad u1 u3 u8 else bif Nat.blt u5 n then h u5 u15 else u7) (bif Nat.beq u5 u5 then ad u1 u3 u15 else bif Nat.blt u5 n then h u5 u17 else u7) (bif Nat.beq u5 u5 then ad u1 u3 u17 else bif Nat.blt u5 n then h u5 u18 else u7) (bif Nat.beq u5 u5 then ad u1 u3 u18 else bif Nat.blt u5 n then h u5 u16 else u7) (bif Nat.beq u5 u5 then ad u1 u3 u16 else bif Nat.blt u5 n then h u5 u19 else u7) (bif Nat.beq u5 u5 then ad u1 u3 u19 else bif Nat.blt u5 n then h u5 u21 else u7) (bif Nat.beq u5 u5 then ad u1 u3 u21 else bif Nat.blt u5 n then h u5 (8 : Nat) else u7)) then Res.out .ret u24 [u9] else Res.out .normal [AV.own u8 (n + u8), AV.sl u6 (9 : Nat) u6 u6 m none, u25, u12] [u9, AB.row true (n + u8) (9 : Nat) (fun q ↦ [Value.int .i64 (bif Nat.beq q u5 then bif Nat.blt u5 n then h u5 u6 else f u0 u6 else bif Nat.blt q n then h q u6 else f u0 u6), Value.int .i64 (bif Nat.beq q u5 then ad u1 u3 u6 else bif Nat.blt q n then h q u8 else u7), Value.int .i64 (bif Nat.beq q u5 then ad u1 u3 u8 else bif Nat.blt q n then h q u15 else u7), Value.int .i64 (bif Nat.beq q u5 then ad u1 u3 u15 else bif Nat.blt q n then h q u17 else u7), Value.int .i64 (bif Nat.beq q u5 then ad u1 u3 u17 else bif Nat.blt q n then h q u18 else u7), Value.int .i64 (bif Nat.beq q u5 then ad u1 u3 u18 else bif Nat.blt q n then h q u16 else u7), Value.int .i64 (bif Nat.beq q u5 then ad u1 u3 u16 else bif Nat.blt q n then h q u19 else u7), Value.int .i64 (bif Nat.beq q u5 then ad u1 u3 u19 else bif Nat.blt q n then h q u21 else u7), Value.int .i64 (bif Nat.beq q u5 then ad u1 u3 u21 else bif Nat.blt q n then h q (8 : Nat) else u7)]) (60 : Nat)]) else needs [u20, u22, u13, u20, u22, u13, u20, u22, u13] (bif !ok (v8 (bif Nat.beq u4 u4 then ad u2 u3 u6 else h u4 u8) (bif Nat.beq u4 u4 then ad u2 u3 u8 else h u4 u15) (bif Nat.beq u4 u4 then ad u2 u3 u15 else h u4 u17) (bif Nat.beq u4 u4 then ad u2 u3 u17 else h u4 u18) (bif Nat.beq u4 u4 then ad u2 u3 u18 else h u4 u16) (bif Nat.beq u4 u4 then ad u2 u3 u16 else h u4 u19) (bif Nat.beq u4 u4 then ad u2 u3 u19 else h u4 u21) (bif Nat.beq u4 u4 then ad u2 u3 u21 else h u4 (8 : Nat))) then Res.out .ret u24 [u9] else Res.out .normal [AV.own u8 n, AV.sl u6 (9 : Nat) u6 u6 m none, u25, u12] [u9, AB.row true n 9 (fun q ↦ [Value.int .i64 (bif Nat.beq q u4 then h u4 u6 else h q u6), Value.int .i64 (bif Nat.beq q u4 then ad u2 u3 u6 else h q u8), Value.int .i64 (bif Nat.beq q u4 then ad u2 u3 u8 else h q u15), Value.int .i64 (bif Nat.beq q u4 then ad u2 u3 u15 else h q u17), Value.int .i64 (bif Nat.beq q u4 then ad u2 u3 u17 else h q u18), Value.int .i64 (bif Nat.beq q u4 then ad u2 u3 u18 else h q u16), Value.int .i64 (bif Nat.beq q u4 then ad u2 u3 u16 else h q u19), Value.int .i64 (bif Nat.beq q u4 then ad u2 u3 u19 else h q u21), Value.int .i64 (bif Nat.beq q u4 then ad u2 u3 u21 else h q (8 : Nat))]) 60])) else Res.out (Ex.exit u6) [AV.own u8 n] [u9, AB.row true n 9 (row9 h) 60] := by
  subst hu2 hu1 hu22 hu20 hu13 hu5 hu4 hu3 hu0 hu25 hu24 hu23 hu21 hu19 hu18 hu17 hu16 hu15 hu14 hu12 hu11 hu10 hu9 hu8 hu7 hu6
  kernel_rfl
theorem rndTI (o : (Nat → Nat → Int) → Int → Nat → Int) (ok : (Nat → Int) → Bool) (ad : (Nat → Int) → (Nat → Int) → Nat → Int) (m : Nat) (f : Nat → Nat → Int) (t : TypeId) (n : Nat) (h : Nat → Nat → Int) (i : Nat) : type_of% (rndTI_h o ok ad m f t n h i _ rfl _ rfl _ rfl _ rfl _ rfl _ rfl _ rfl _ rfl _ rfl _ rfl _ rfl _ rfl _ rfl _ rfl _ rfl _ rfl _ rfl _ rfl _ rfl _ rfl _ rfl _ rfl _ rfl _ rfl _ rfl _ rfl) := rndTI_h o ok ad m f t n h i _ rfl _ rfl _ rfl _ rfl _ rfl _ rfl _ rfl _ rfl _ rfl _ rfl _ rfl _ rfl _ rfl _ rfl _ rfl _ rfl _ rfl _ rfl _ rfl _ rfl _ rfl _ rfl _ rfl _ rfl _ rfl _ rfl

noncomputable abbrev lamTI (m : Nat) (f : Nat → Nat → Int) (t : TypeId) (c : Bool) (n : Nat) (h : Nat → Nat → Int) : Nat → Option Sum := oneL 0 (atS 57 (lvTI .normal) 1 (stTI m 0 0) (hpTI m f t 0 (wfun [])) (fun K => cond c (K .normal (mkT 0 57 [(4, .own 1 n)]) (hpTI m f t n h)) (K .ret (mkT 0 57 [(2, .v (.slice none 0 0)), (3, .v (.bool false))]) [.row false m 9 (row9 f) t])))
def FdelO (nz : List Wh → List Wh) : List AV → List AB → Option HR
  | [.own 0 m, .fn fi []], [.row true n 9 g t] => some { val := .sl 0 9 0 0 (nz (listW (itW g) m)).length none, out := [.row true m 9 (row9 (wfun (nz (listW (itW g) m)))) t], obl := [Nat.beq fi 74, Nat.beq n m, allW m g, decide (m ≤ 2 ^ 38)] }
  | _, _ => none
def FdvO (ok : List Wh → Bool) : List SA → Option FR
  | [.row m g] => some { val := .v (.bool (ok (listW (itW g) m))), obl := [allW m g, decide (m ≤ 2 ^ 39)] }
  | _ => none
def gmTm (nz srt : List Wh → List Wh) (okd : List Wh → Bool) : Gam := ext (ext (ext g0 75 (specR md_ws (FdvO okd))) 73 (specH [] (FdelO nz))) 76 (specH [] (FsfO srt))
theorem treeTI_h (nz srt : List Wh → List Wh) (okd : List Wh → Bool) (m : Nat) (f : Nat → Nat → Int) (t : TypeId) (c : Bool) (n : Nat) (h : Nat → Nat → Int) (u0 : _) (hu0 : (nz (listW (itW (row9 h)) n)) = u0) (u1 : _) (hu1 : (List.length u0) = u1) (u2 : _) (hu2 : (0 : Nat) = u2) (u3 : _) (hu3 : (AB.row false m 9 (row9 f) t) = u3) (u4 : _) (hu4 : [AV.tup [AV.v (Value.slice none u2 u2), AV.v (.bool false)]] = u4) (u5 : _) (hu5 : (↑u1 : Int) = u5) : execF Tryz.prog (gmTm nz srt okd) (lamTI m f t c n h) 100 Tryz.f36 [.sl 0 9 0 0 m none] [.row false m 9 (row9 f) t] (packK 1)
    = needs [chk ([AV.own 1 u2, AV.sl u2 (9 : Nat) u2 u2 m none, AV.v (.int .i64 (m : Int)), AV.v (.int .i64 0)] = stTI m u2 u2 ∧ Hsim [u3, AB.row true u2 9 (fun _ ↦ []) (60 : Nat)] (hpTI m f t u2 (wfun [])))] (bif c then needs [Nat.beq n n, allW n (row9 h), decide (n ≤ (274877906944 : Nat)), Nat.ble (u2 + List.length u0) n, allW u1 fun q ↦ row9 (wfun u0) (u2 + q), decide (List.length u0 ≤ (549755813888 : Nat))] (bif !okd (listW (itW fun q ↦ row9 (wfun u0) (u2 + q)) u1) then Res.out .ret u4 [u3] else needs [Nat.ble u1 n, allW n (row9 (wfun u0)), decide (List.length u0 ≤ (12 : Nat)), decide (u5 ≤ u5), decide (u5 ≤ u5)] (Res.out .ret [AV.tup [AV.sl 1 (9 : Nat) u2 u2 (Int.toNat (u5 - (0 : Int))) (some (Int.toNat (u5 - (0 : Int)))), AV.v (.bool true)]] [u3, AB.row true u1 9 (row9 (wfun (srt (listW (itW (row9 (wfun u0))) u1)))) 60])) else Res.out .ret u4 [u3]) := by
  subst hu5 hu4 hu3 hu2 hu1 hu0
  kernel_rfl
theorem treeTI (nz srt : List Wh → List Wh) (okd : List Wh → Bool) (m : Nat) (f : Nat → Nat → Int) (t : TypeId) (c : Bool) (n : Nat) (h : Nat → Nat → Int) : type_of% (treeTI_h nz srt okd m f t c n h _ rfl _ rfl _ rfl _ rfl _ rfl _ rfl) := treeTI_h nz srt okd m f t c n h _ rfl _ rfl _ rfl _ rfl _ rfl _ rfl


theorem badIa_row (h : Nat → Nat → Int) (x : Int) : badIa (itW (row9 h)) x = badIa h x := rfl
theorem FifaO_eq : FifaO (fun f x m => fstAt (badIa f x) m) = F_ifa := by
  funext l H
  rfl
theorem fAdd2_eq : fAdd2 plusF = f_plus := by
  funext l
  rfl
theorem gmTI_ok : GamOk Tryz.prog (gmTI (fun f x m => fstAt (badIa f x) m) (fun v => cyOk (cyOf v)) plusF) := by
  unfold gmTI
  rw [FifaO_eq, fAdd2_eq, fOkc_eq]
  exact ext_ok (ext_ok (ext_ok g0_ok ok_cvI) ok_plus) ok_ifa
theorem blt_no (n : Nat) : Nat.blt n n = false := by
  cases hb : Nat.blt n n with
  | false => rfl
  | true => rw [Nat.blt_eq] at hb; omega
theorem blt_yes {a b : Nat} (h : a < b) : Nat.blt a b = true := by rw [Nat.blt_eq]; exact h
theorem insA_le (acc : List Wh) (x : Wh) : (insA acc x).length ≤ acc.length + 1 := by
  induction acc with
  | nil => simp [insA]
  | cons y l ih =>
    unfold insA
    split
    · simp
    · simp only [List.length_cons]
      omega
theorem runA_len : ∀ {xs acc A : List Wh}, runT insA acc xs = some A → A.length ≤ acc.length + xs.length
  | [], acc, A, h => by
    simp only [runT, Option.some.injEq] at h
    subst h
    simp
  | x :: xs, acc, A, h => by
    simp only [runT] at h
    split at h
    · have := runA_len h
      have h2 := insA_le acc x
      simp only [List.length_cons]
      omega
    · cases h
def inW (L : List Wh) : Prop := ∀ w ∈ L, cyIn w.r
def accA (f : Nat → Nat → Int) (i : Nat) : List Wh := (runT insA [] (listW f i)).getD []
theorem accA_of {f : Nat → Nat → Int} {i : Nat} {A : List Wh} (h : runT insA [] (listW f i) = some A) : accA f i = A := by
  rw [accA, h]
  rfl
theorem new_row {A : List Wh} {f : Nat → Int} {b : Nat → Int} (hb : ∀ k, k < 8 → b k = (cyAdd cyZ (whOf f).r).f k) (q : Nat) (hq : q < A.length + 1) : [i64 (bif Nat.beq q A.length then f 0 else bif Nat.blt q A.length then wfun A q 0 else f 0), i64 (bif Nat.beq q A.length then b 0 else bif Nat.blt q A.length then wfun A q 1 else 0), i64 (bif Nat.beq q A.length then b 1 else bif Nat.blt q A.length then wfun A q 2 else 0), i64 (bif Nat.beq q A.length then b 2 else bif Nat.blt q A.length then wfun A q 3 else 0), i64 (bif Nat.beq q A.length then b 3 else bif Nat.blt q A.length then wfun A q 4 else 0), i64 (bif Nat.beq q A.length then b 4 else bif Nat.blt q A.length then wfun A q 5 else 0), i64 (bif Nat.beq q A.length then b 5 else bif Nat.blt q A.length then wfun A q 6 else 0), i64 (bif Nat.beq q A.length then b 6 else bif Nat.blt q A.length then wfun A q 7 else 0), i64 (bif Nat.beq q A.length then b 7 else bif Nat.blt q A.length then wfun A q 8 else 0)] = row9 (wfun (A ++ [⟨f 0, cyAdd cyZ (whOf f).r⟩])) q := by
  by_cases e : q = A.length
  · subst e
    have e1 : wfun (A ++ [⟨f 0, cyAdd cyZ (whOf f).r⟩]) A.length = whN ⟨f 0, cyAdd cyZ (whOf f).r⟩ := by
      rw [wfun_get (by simp)]
      simp
    simp only [show Nat.beq A.length A.length = true from Nat.beq_refl _, cond_true, hb 0 (by omega), hb 1 (by omega), hb 2 (by omega), hb 3 (by omega), hb 4 (by omega), hb 5 (by omega), hb 6 (by omega), hb 7 (by omega), row9, e1]
    rfl
  · have hlt : q < A.length := by omega
    have e1 : wfun (A ++ [⟨f 0, cyAdd cyZ (whOf f).r⟩]) q = wfun A q := by
      funext k
      simp only [wfun, List.getElem?_append_left hlt]
    simp only [beq_ne e, blt_yes hlt, cond_true, cond_false, row9, e1]
theorem old_row {A : List Wh} {s : Int} {r : Cy} {b : Nat → Int} {i : Nat} (hi : i < A.length) (hs : A[i].s = s) (hb : ∀ k, k < 8 → b k = r.f k) (q : Nat) : [i64 (bif Nat.beq q i then wfun A i 0 else wfun A q 0), i64 (bif Nat.beq q i then b 0 else wfun A q 1), i64 (bif Nat.beq q i then b 1 else wfun A q 2), i64 (bif Nat.beq q i then b 2 else wfun A q 3), i64 (bif Nat.beq q i then b 3 else wfun A q 4), i64 (bif Nat.beq q i then b 4 else wfun A q 5), i64 (bif Nat.beq q i then b 5 else wfun A q 6), i64 (bif Nat.beq q i then b 6 else wfun A q 7), i64 (bif Nat.beq q i then b 7 else wfun A q 8)] = row9 (wfun (A.set i ⟨s, r⟩)) q := by
  by_cases e : q = i
  · subst e
    have e0 : wfun A q 0 = s := by rw [wfun_get hi, ← hs]; rfl
    simp only [e0, show Nat.beq q q = true from Nat.beq_refl _, cond_true, hb 0 (by omega), hb 1 (by omega), hb 2 (by omega), hb 3 (by omega), hb 4 (by omega), hb 5 (by omega), hb 6 (by omega), hb 7 (by omega), row9, wfun_set A q _ q hi, if_pos]
    rfl
  · simp only [beq_ne e, cond_false, row9, wfun_set A i _ q hi, if_neg e]
theorem sumTI (m : Nat) (f : Nat → Nat → Int) (t : TypeId) (hm : m ≤ 2 ^ 38) (hin : inW (listW f m)) :
    SumOk Tryz.prog 1 (.block 0 (.loop (loopAt 0 Tryz.f36))) (atS 57 (lvTI .normal) 1 (stTI m 0 0) (hpTI m f t 0 (wfun [])) (fun K => cond (runT insA [] (listW f m)).isSome (K .normal (mkT 0 57 [(4, .own 1 (accA f m).length)]) (hpTI m f t (accA f m).length (wfun (accA f m)))) (K .ret (mkT 0 57 [(2, .v (.slice none 0 0)), (3, .v (.bool false))]) [.row false m 9 (row9 f) t]))) := by
  refine for_at gmTI_ok (n := 100) (m := 1) (lv := lvTI) (fun i => stTI m (accA f i).length i) (fun i => hpTI m f t (accA f i).length (wfun (accA f i))) (fun i => (runT insA [] (listW f i)).isSome = true) m (fun _ => noLam) (lv3_ris rfl rfl rfl) (Nat.le_refl _) rfl fun K Q hk i hi him => ⟨noLam_ok _ _ _, ?_⟩
  obtain ⟨A, hA⟩ := Option.isSome_iff_exists.1 hi
  have eA := accA_of hA
  have hl : A.length ≤ i := by
    have := runA_len hA
    rw [listW_length] at this
    simpa using this
  have hs : runT insA [] (listW f (i + 1)) = if cyOk (sumR A (whOf (f i))) = true then some (insA A (whOf (f i))) else none := by
    rw [listW_succ, runT_snoc, hA]
  rw [rndTI, eA]
  refine good_cond (fun c1 => ?_) fun c1 => ?_
  · have c1 := of_decide_eq_true c1
    have c1' : i < m := by omega
    have hw : cyIn (whOf (f i)).r := hin _ (List.mem_of_getElem? (listW_get f c1'))
    have bad : ∀ (r : Cy), sumR A (whOf (f i)) = r → cyOk r = false → GoodQ (.out .ret [.v (.slice none 0 0), .v (.bool false)] [.row false m 9 (row9 f) t]) (RoundV 57 0 lvTI (fun i => stTI m (accA f i).length i) (fun i => hpTI m f t (accA f i).length (wfun (accA f i))) (fun s' => s' = i + 1 ∧ i < m ∧ (runT insA [] (listW f (i + 1))).isSome = true) K Q) := fun r e1 e2 => by
      rw [e1, e2] at hs
      obtain ⟨ys, e⟩ := listW_split f (show i + 1 ≤ m by omega)
      have hn : runT insA [] (listW f m) = none := by rw [e]; exact runT_none _ _ _ _ (by simpa using hs)
      rw [hn] at hk
      exact good_out ⟨_, Hsim.refl _, hk⟩
    simp only [Int.toNat_natCast, Nat.zero_add, badIa_row]
    rw [wr_in (x := (i : Int) + 1) (by omega)]
    refine good_needs (by simp only [ob_cons, ob_nil, and_true, decide_eq_true_eq, allW_row, true_and, beq_me]; omega) ?_
    rcases fstAt_cases (badIa (wfun A) (f i 0)) A.length with ⟨q1, q2⟩ | ⟨i0, q0, q1, q3, q4, q2⟩
    · have hno : ∀ x ∈ A, x.s ≠ (whOf (f i)).s := by
        intro x hx
        obtain ⟨j, hj, rfl⟩ := List.mem_iff_getElem.1 hx
        have := noneTo_get (bad := badIa (wfun A) (f i 0)) q1 hj
        simp only [badIa, wfun_get hj, beq_eq_false_iff_ne] at this
        exact this
      have eS : sumR A (whOf (f i)) = cyAdd cyZ (whOf (f i)).r := by rw [sumR_new hno, cyAdd_zero hw]
      have eI := insA_new hno
      rw [q2]
      refine good_true rfl ?_
      simp only [beq_me, blt_no, cond_true, cond_false]
      refine good_needs (by simp only [ob_cons, ob_nil, and_true, decide_eq_true_eq, Nat.ble_eq]; omega) (good_cond (fun q => ?_) fun q => ?_)
      · refine bad _ eS ?_
        have q' : (!(cyOk (cyAdd cyZ (whOf (f i)).r))) = true := q
        simpa using q'
      · have q0' : (!(cyOk (cyAdd cyZ (whOf (f i)).r))) = false := q
        have q' : cyOk (cyAdd cyZ (whOf (f i)).r) = true := by simpa using q0'
        rw [eS, if_pos q', eI] at hs
        refine good_out ⟨i + 1, ⟨rfl, c1', by rw [hs]; rfl⟩, ?_, ?_⟩
        · show _ = stTI m (accA f (i + 1)).length (i + 1)
          rw [accA_of hs, List.length_append]
          rfl
        · show Hsim _ (hpTI m f t (accA f (i + 1)).length (wfun (accA f (i + 1))))
          rw [accA_of hs, List.length_append]
          refine .cons (ABeq.refl _) (.cons (ABeq.row fun q hq => ?_) .nil)
          exact new_row (fun k hk => by rcases (by omega : k = 0 ∨ k = 1 ∨ k = 2 ∨ k = 3 ∨ k = 4 ∨ k = 5 ∨ k = 6 ∨ k = 7) with rfl | rfl | rfl | rfl | rfl | rfl | rfl | rfl <;> rfl) q hq
    · have hs0 : A[i0].s = (whOf (f i)).s := by
        have := q3
        simp only [badIa, wfun_get q0, beq_iff_eq] at this
        exact this
      have hno : ∀ j (hj : j < i0), (A[j]'(by omega)).s ≠ (whOf (f i)).s := by
        intro j hj
        have := noneTo_get (bad := badIa (wfun A) (f i 0)) q1 hj
        simp only [badIa, wfun_get (show j < A.length by omega), beq_eq_false_iff_ne] at this
        exact this
      have eS := sumR_at q0 hs0 hno
      have eI := insA_at q0 hs0 hno
      rw [q2]
      refine good_false (by simp) ?_
      simp only [Int.toNat_natCast, beq_me, cond_true]
      refine good_needs (by simp only [ob_cons, ob_nil, and_true, decide_eq_true_eq]; omega) (good_cond (fun q => ?_) fun q => ?_)
      · refine bad _ eS ?_
        simp only [wfun_get q0] at q
        have q' : (!(cyOk (cyAdd A[i0].r (whOf (f i)).r))) = true := q
        simpa using q'
      · simp only [wfun_get q0] at q
        have q0' : (!(cyOk (cyAdd A[i0].r (whOf (f i)).r))) = false := q
        have q' : cyOk (cyAdd A[i0].r (whOf (f i)).r) = true := by simpa using q0'
        rw [eS, if_pos q', eI] at hs
        refine good_out ⟨i + 1, ⟨rfl, c1', by rw [hs]; rfl⟩, ?_, ?_⟩
        · show _ = stTI m (accA f (i + 1)).length (i + 1)
          rw [accA_of hs, List.length_set]
          rfl
        · show Hsim _ (hpTI m f t (accA f (i + 1)).length (wfun (accA f (i + 1))))
          rw [accA_of hs, List.length_set]
          refine .cons (ABeq.refl _) (.cons (ABeq.row fun q hq => ?_) .nil)
          refine old_row q0 hs0 (fun k hk => ?_) q
          rw [wfun_get q0]
          rcases (by omega : k = 0 ∨ k = 1 ∨ k = 2 ∨ k = 3 ∨ k = 4 ∨ k = 5 ∨ k = 6 ∨ k = 7) with rfl | rfl | rfl | rfl | rfl | rfl | rfl | rfl <;> rfl
  · have c1 := of_decide_eq_false c1
    have : i = m := by omega
    subst this
    refine good_out ⟨_, Hsim.refl _, ?_⟩
    rw [if_pos rfl]
    rw [hA, eA] at hk
    exact hk

theorem FdelO_eq : FdelO nonZ = F_del := by
  funext l H
  rfl
theorem FdvO_eq : FdvO okD = F_dv := by
  funext l
  rfl
theorem gmTm_ok : GamOk Tryz.prog (gmTm nonZ sortL okD) := by
  unfold gmTm
  rw [FdelO_eq, FdvO_eq]
  exact ext_ok (ext_ok (ext_ok g0_ok ok_dvI) ok_del) ok_sort
noncomputable def inWB (L : List Wh) : Bool := chk (inW L)
def okT (L : List Wh) : Bool := (tidyS L).isSome
abbrev valY (T : List Wh) : AV := .tup [.sl 0 9 0 0 T.length (some T.length), .v (.bool true)]
abbrev valN : AV := .tup [.v (.slice none 0 0), .v (.bool false)]
abbrev newY (T : List Wh) : List AB := [.row true T.length 9 (row9 (wfun T)) 60]
noncomputable def F_tiY : List SA → Option FR
  | [.row m g] => some { val := valY (tidyL (listW (itW g) m)), new := newY (tidyL (listW (itW g) m)), obl := [allW m g, decide (m ≤ 2 ^ 38), inWB (listW (itW g) m), okT (listW (itW g) m)] }
  | _ => none
noncomputable def F_tiN : List SA → Option FR
  | [.row m g] => some { val := valN, obl := [allW m g, decide (m ≤ 2 ^ 38), inWB (listW (itW g) m), !okT (listW (itW g) m)] }
  | _ => none
theorem listW_self (L : List Wh) (n : Nat) (h : L.length = n) : listW (itW (row9 (wfun L))) n = L := by
  subst h
  exact listW_fun L
theorem listW_self0 (L : List Wh) (n : Nat) (h : L.length = n) : listW (itW fun q => row9 (wfun L) (0 + q)) n = L := by
  have : (fun q => row9 (wfun L) (0 + q)) = row9 (wfun L) := by funext q; rw [Nat.zero_add]
  rw [this]
  exact listW_self L n h
theorem sortL_length (L : List Wh) : (sortL L).length = L.length := (sortL_perm L).length_eq
theorem ti_run (m : Nat) (f : Nat → Nat → Int) (t : TypeId) (hm : m ≤ 2 ^ 38) (hin : inW (listW f m)) (Q : Ex → List AV → List AB → Prop)
    (hY : okT (listW f m) = true → ∀ T, tidyL (listW f m) = T → Q .ret [.tup [.sl 1 9 0 0 T.length (some T.length), .v (.bool true)]] [.row false m 9 (row9 f) t, .row true T.length 9 (row9 (wfun T)) 60])
    (hN : okT (listW f m) = false → Q .ret [valN] [.row false m 9 (row9 f) t]) :
    GoodQ (execF Tryz.prog (gmTm nonZ sortL okD) (lamTI m f t (runT insA [] (listW f m)).isSome (accA f m).length (wfun (accA f m))) 100 Tryz.f36 [.sl 0 9 0 0 m none] [.row false m 9 (row9 f) t] (packK 1)) Q := by
  have hte := tidy_eq hin
  rw [treeTI]
  refine good_needs (by rw [ob_cons]; exact ⟨chk_of ⟨rfl, .cons (ABeq.refl _) (.cons (ABeq.row fun j hj => by omega) .nil)⟩, rfl⟩) ?_
  refine good_cond (fun q => ?_) fun q => ?_
  · obtain ⟨A, hA⟩ := Option.isSome_iff_exists.1 q
    have eA := accA_of hA
    have hl : A.length ≤ m := by
      have := runA_len hA
      rw [listW_length] at this
      simpa using this
    rw [hA] at hte
    simp only at hte
    have hz : (nonZ A).length ≤ A.length := List.length_filter_le _ _
    rw [eA, listW_self A _ rfl, listW_self0 (nonZ A) _ rfl, listW_self (nonZ A) _ rfl]
    refine good_needs (by simp only [ob_cons, ob_nil, and_true, decide_eq_true_eq, Nat.ble_eq, allW_row, true_and, beq_me, Nat.zero_add]; omega) (good_cond (fun q2 => ?_) fun q2 => ?_)
    · have q2 : dValid (nonZ A) = false := by
        have q2' : (!dValid (nonZ A)) = true := q2
        simpa using q2'
      rw [if_neg (by rw [q2]; simp)] at hte
      exact good_out (hN (by rw [okT, ← hte]; rfl))
    · have q2 : dValid (nonZ A) = true := by
        have q2' : (!dValid (nonZ A)) = false := q2
        simpa using q2'
      rw [if_pos q2] at hte
      have hlen : (nonZ A).length ≤ 12 := by
        have := q2
        rw [dValid, Bool.and_eq_true] at this
        exact of_decide_eq_true this.1
      have eT : tidyL (listW f m) = sortL (nonZ A) := by rw [tidyL, ← hte]; rfl
      have := hY (by rw [okT, ← hte]; rfl) _ eT
      rw [sortL_length] at this
      refine good_needs (by simp only [ob_cons, ob_nil, and_true, decide_eq_true_eq, Nat.ble_eq, allW_row, true_and]; omega) ?_
      simp only [Int.sub_zero, Int.toNat_natCast]
      exact good_out this
  · have hA : runT insA [] (listW f m) = none := by
      cases h : runT insA [] (listW f m) with
      | none => rfl
      | some A => rw [h] at q; cases q
    rw [hA] at hte
    exact good_out (hN (by rw [okT, ← hte]; rfl))

theorem tiLam (m : Nat) (f : Nat → Nat → Int) (t : TypeId) (hm : m ≤ 2 ^ 38) (hin : inW (listW f m)) : ∀ c, (Tryz.f36).body = some c → LamOk Tryz.prog 1 (lamTI m f t (runT insA [] (listW f m)).isSome (accA f m).length (wfun (accA f m))) c := lam1 (by kernel_rfl) (sumTI m f t hm hin)
theorem ok_tiY : SpecOk Tryz.prog 36 (specR md_ws F_tiY) := by
  refine specR_hr gmTm_ok Tryz.func36 rfl fun sas fr hF ho => ?_
  unfold F_tiY at hF
  split at hF
  · rename_i m g
    cases hF
    simp only [ob_cons] at ho
    obtain ⟨h1, h2, h3, h4, _⟩ := ho
    have hm := of_decide_eq_true h2
    have hin := of_chk h3
    refine ⟨[.row false m 9 (row9 (itW g)) 60], _, 100, .cons (ABeq.row fun j hj => allW_get h1 j hj) .nil, tiLam m (itW g) 60 hm hin, ti_run m (itW g) 60 hm hin _ (fun _ T hT => ?_) fun hN => by rw [hN] at h4; cases h4⟩
    subst hT
    exact ⟨_, rfl, rfl, .cons (ABeq.row fun j hj => (allW_get h1 j hj).symm) (Hsim.refl _)⟩
  · cases hF
theorem ok_tiN : SpecOk Tryz.prog 36 (specR md_ws F_tiN) := by
  refine specR_hr gmTm_ok Tryz.func36 rfl fun sas fr hF ho => ?_
  unfold F_tiN at hF
  split at hF
  · rename_i m g
    cases hF
    simp only [ob_cons] at ho
    obtain ⟨h1, h2, h3, h4, _⟩ := ho
    have hm := of_decide_eq_true h2
    have hin := of_chk h3
    refine ⟨[.row false m 9 (row9 (itW g)) 60], _, 100, .cons (ABeq.row fun j hj => allW_get h1 j hj) .nil, tiLam m (itW g) 60 hm hin, ti_run m (itW g) 60 hm hin _ (fun hY => by rw [hY] at h4; cases h4) fun _ => ?_⟩
    exact ⟨_, rfl, rfl, .cons (ABeq.row fun j hj => (allW_get h1 j hj).symm) .nil⟩
  · cases hF

end Go.Proofs.YtddhmidegldhdaaGreatDoor

/- l2Turned and l2Done, the reference's: their words. Conditions: at most 2^40 steps. -/
namespace Go.Proofs.YtddhmidegldhdaaGreatDoor
open Go.RowKit
set_option maxRecDepth 100000

def fStp (st : (Nat → Int) → Nat → Int) : List Value → Option (Value × List Bool)
  | [.agg ⟨[.int .i64 a0, .int .i64 a1, .int .i64 a2, .int .i64 a3, .int .i64 a4, .int .i64 a5, .int .i64 a6, .int .i64 a7]⟩] => some (cyv (st (v8 a0 a1 a2 a3 a4 a5 a6 a7)), [])
  | _ => none
def gmSt (st : (Nat → Int) → Nat → Int) : Gam := ext g0 323 (specV (fStp st))
abbrev cyC (a : Nat → Int) : List AV := [.v (i64 (a 0)), .v (i64 (a 1)), .v (i64 (a 2)), .v (i64 (a 3)), .v (i64 (a 4)), .v (i64 (a 5)), .v (i64 (a 6)), .v (i64 (a 7))]
abbrev lvTu : Ex → List Nat := lv3 [1, 2, 4, 5] [2, 4] [4]
abbrev hpTu (a : Nat → Int) : List AB := [.cells (cyC a) 57, .cells (cyC fun _ => 0) 57]
abbrev stTu (n : Int) (i : Nat) : List AV := [.v (i64 n), .ptr 0 0 0 0, .ptr 1 0 0 0, .v (i64 i)]
theorem rndTu_h (st : (Nat → Int) → Nat → Int) (a : Nat → Int) (n : Int) (i : Nat) (u0 : _) (hu0 : (AV.v (.int .i64 0)) = u0) (u1 : _) (hu1 : (0 : Nat) = u1) (u2 : _) (hu2 : (AB.cells [u0, u0, u0, u0, u0, u0, u0, u0] 57) = u2) : execC Tryz.prog (gmSt st) 100 noLam (loopAt 0 Tryz.f303) (mkT 0 14 ((lvTu .normal).zip (stTu n i))) (hpTu a) (leafV 14 lvTu 0)
    = bif decide ((↑i : Int) < n) then Res.out .normal [AV.v (.int .i64 n), AV.ptr u1 u1 u1 u1, AV.ptr (1 : Nat) u1 u1 u1, AV.v (.int .i64 (IntKind.wrap .i64 ((↑i : Int) + (1 : Int))))] [AB.cells [AV.v (.int .i64 (st (w8 a) u1)), AV.v (.int .i64 (st (w8 a) (1 : Nat))), AV.v (.int .i64 (st (w8 a) (2 : Nat))), AV.v (.int .i64 (st (w8 a) (3 : Nat))), AV.v (.int .i64 (st (w8 a) (4 : Nat))), AV.v (.int .i64 (st (w8 a) (5 : Nat))), AV.v (.int .i64 (st (w8 a) (6 : Nat))), AV.v (.int .i64 (st (w8 a) (7 : Nat)))] 57, u2] else Res.out (Ex.exit u1) [AV.ptr u1 u1 u1 u1, AV.ptr (1 : Nat) u1 u1 u1] [AB.cells [AV.v (.int .i64 (a u1)), AV.v (.int .i64 (a (1 : Nat))), AV.v (.int .i64 (a (2 : Nat))), AV.v (.int .i64 (a (3 : Nat))), AV.v (.int .i64 (a (4 : Nat))), AV.v (.int .i64 (a (5 : Nat))), AV.v (.int .i64 (a (6 : Nat))), AV.v (.int .i64 (a (7 : Nat)))] 57, u2] := by
  subst hu2 hu1 hu0
  kernel_rfl
theorem rndTu (st : (Nat → Int) → Nat → Int) (a : Nat → Int) (n : Int) (i : Nat) : type_of% (rndTu_h st a n i _ rfl _ rfl _ rfl) := rndTu_h st a n i _ rfl _ rfl _ rfl

noncomputable abbrev lamTu (a : Nat → Int) (n : Int) (b : Nat → Int) : Nat → Option Sum := oneL 0 (atS 14 (lvTu .normal) 0 (stTu n 0) (hpTu a) (fun K => K .normal (mkT 0 14 [(2, .ptr 0 0 0 0), (4, .ptr 1 0 0 0)]) (hpTu b)))
theorem treeTu_h (st : (Nat → Int) → Nat → Int) (a : Nat → Int) (n : Int) (b : Nat → Int) (u0 : _) (hu0 : (AV.v (.int .i64 0)) = u0) (u1 : _) (hu1 : (0 : Nat) = u1) : execF Tryz.prog (gmSt st) (lamTu a n b) 100 Tryz.f303 [.v (cyv a), .v (i64 n)] [] (packK 0)
    = needs [chk ([AV.v (.int .i64 n), AV.ptr u1 u1 u1 u1, AV.ptr (1 : Nat) u1 u1 u1, u0] = stTu n u1 ∧ Hsim [AB.cells [AV.v (.int .i64 (a u1)), AV.v (.int .i64 (a (1 : Nat))), AV.v (.int .i64 (a (2 : Nat))), AV.v (.int .i64 (a (3 : Nat))), AV.v (.int .i64 (a (4 : Nat))), AV.v (.int .i64 (a (5 : Nat))), AV.v (.int .i64 (a (6 : Nat))), AV.v (.int .i64 (a (7 : Nat)))] (57 : Nat), AB.cells [u0, u0, u0, u0, u0, u0, u0, u0] (57 : Nat)] (hpTu a))] (Res.out .ret [AV.agg [AV.v (.int .i64 (b u1)), AV.v (.int .i64 (b (1 : Nat))), AV.v (.int .i64 (b (2 : Nat))), AV.v (.int .i64 (b (3 : Nat))), AV.v (.int .i64 (b (4 : Nat))), AV.v (.int .i64 (b (5 : Nat))), AV.v (.int .i64 (b (6 : Nat))), AV.v (.int .i64 (b (7 : Nat)))]] []) := by
  subst hu1 hu0
  kernel_rfl
theorem treeTu (st : (Nat → Int) → Nat → Int) (a : Nat → Int) (n : Int) (b : Nat → Int) : type_of% (treeTu_h st a n b _ rfl _ rfl) := treeTu_h st a n b _ rfl _ rfl

theorem fStp_eq : fStp stepF = f_l2Step := by
  funext l
  rfl
theorem gmSt_ok : GamOk Tryz.prog (gmSt stepF) := by
  unfold gmSt
  rw [fStp_eq]
  exact ext_ok g0_ok ok_l2Step
theorem sumTu (a : Nat → Int) (n : Int) (hn : n ≤ 2 ^ 40) :
    SumOk Tryz.prog 0 (.block 0 (.loop (loopAt 0 Tryz.f303))) (atS 14 (lvTu .normal) 0 (stTu n 0) (hpTu a) (fun K => K .normal (mkT 0 14 [(2, .ptr 0 0 0 0), (4, .ptr 1 0 0 0)]) (hpTu (turnedF a n.toNat)))) := by
  refine for_at gmSt_ok (n := 100) (m := 0) (lv := lvTu) (fun i => stTu n i) (fun i => hpTu (turnedF a i)) (fun _ => True) n.toNat (fun _ => noLam) (lv3_ris rfl rfl rfl) (Nat.le_refl _) trivial fun K Q hk i hi him => ⟨noLam_ok _ _ _, ?_⟩
  rw [rndTu]
  refine good_cond (fun c1 => ?_) fun c1 => ?_
  · have c1 := of_decide_eq_true c1
    rw [wr_in (x := (i : Int) + 1) (by omega)]
    exact good_out ⟨i + 1, ⟨rfl, by omega, trivial⟩, rfl, Hsim.refl _⟩
  · have c1 := of_decide_eq_false c1
    have : i = n.toNat := by omega
    subst this
    refine good_out ⟨_, Hsim.refl _, ?_⟩
    rw [if_pos rfl]
    exact hk

def F_turned : List SA → Option FR
  | [.v (.agg ⟨[.int .i64 a0, .int .i64 a1, .int .i64 a2, .int .i64 a3, .int .i64 a4, .int .i64 a5, .int .i64 a6, .int .i64 a7]⟩), .v (.int .i64 n)] => some { val := .agg (cyC (turnedF (v8 a0 a1 a2 a3 a4 a5 a6 a7) n.toNat)), obl := [decide (n ≤ 2 ^ 40)] }
  | _ => none
theorem ok_turnedS : SpecOk Tryz.prog 303 (specR [.val, .val] F_turned) := by
  refine specR_hr gmSt_ok Tryz.func303 rfl fun sas fr hF ho => ?_
  unfold F_turned at hF
  split at hF
  · rename_i a0 a1 a2 a3 a4 a5 a6 a7 n
    cases hF
    simp only [ob_cons] at ho
    have hn := of_decide_eq_true ho.1
    refine ⟨[], lamTu (v8 a0 a1 a2 a3 a4 a5 a6 a7) n (turnedF (v8 a0 a1 a2 a3 a4 a5 a6 a7) n.toNat), 100, .nil, lam1 (by kernel_rfl) (sumTu (v8 a0 a1 a2 a3 a4 a5 a6 a7) n hn), ?_⟩
    show GoodQ (execF Tryz.prog (gmSt stepF) (lamTu (v8 a0 a1 a2 a3 a4 a5 a6 a7) n (turnedF (v8 a0 a1 a2 a3 a4 a5 a6 a7) n.toNat)) 100 Tryz.f303 [.v (cyv (v8 a0 a1 a2 a3 a4 a5 a6 a7)), .v (i64 n)] [] (packK 0)) _
    rw [treeTu]
    exact good_needs (by rw [ob_cons]; exact ⟨chk_of ⟨rfl, Hsim.refl _⟩, rfl⟩) (good_out ⟨_, rfl, rfl, .nil⟩)
  · cases hF

end Go.Proofs.YtddhmidegldhdaaGreatDoor

/- root and turned of the program. Conditions: numbers of 64 bits. -/
namespace Go.Proofs.YtddhmidegldhdaaGreatDoor
open Go.RowKit
set_option maxRecDepth 100000

def rootP (t m : Nat) : Int := bif Nat.beq m t then 1 else 0
theorem rootT (n : Int) : execF Tryz.prog g0 noLam 100 Tryz.f282 [.v (.int .i64 n)] [] valK = needs [decide (0 ≤ n), decide (n < 24), decide (n.toNat < 24)] (.out .ret [.agg (cyC (redD (rootP n.toNat) 24 16))] []) := by kernel_rfl
def f_root : List Value → Option (Value × List Bool)
  | [.int .i64 n] => some (cyv (rootF n.toNat), [decide (0 ≤ n), decide (n ≤ (23 : Nat))])
  | _ => none
theorem root_eq : ∀ t, t < 24 → ∀ k, k < 8 → redD (rootP t) 24 16 k = rootF t k := by
  decide +kernel
theorem ok_root : SpecOk Tryz.prog 282 (specV f_root) := by
  refine mkV (n := 100) g0_ok Tryz.func282 rfl fun vs x ob hF ho => ?_
  unfold f_root at hF
  split at hF
  · rename_i n
    simp only [Option.some.injEq, Prod.mk.injEq] at hF
    obtain ⟨rfl, rfl⟩ := hF
    obtain ⟨h0, h1⟩ := obl2 ho
    have h0 := of_decide_eq_true h0
    have h1 := of_decide_eq_true h1
    show Good (execF Tryz.prog g0 noLam 100 Tryz.f282 [.v (.int .i64 n)] [] valK) _
    have c1 : decide (0 ≤ n) = true := decide_eq_true h0
    have c2 : decide (n < 24) = true := decide_eq_true (by omega)
    have c3 : decide (n.toNat < 24) = true := decide_eq_true (by omega)
    rw [rootT, c1, c2, c3, ← cyv_congr (root_eq n.toNat (by omega))]
    exact one rfl
  · cases hF

def inB (a : Nat → Int) : Bool := smallF a (-9223372036854775808) 9223372036854775807
def gmTuI (md : Int → Int) (rt : Int → Nat → Int) (mul : (Nat → Int) → (Nat → Int) → Nat → Int) : Gam := ext (ext (ext g0 283 (specV (fun | [.int .i64 n] => some (.int .i64 (md n), [inR n (-9223372036854775808) 9223372036854775807]) | _ => none))) 282 (specV (fun | [.int .i64 n] => some (cyv (rt n), [decide (0 ≤ n), decide (n ≤ (23 : Nat))]) | _ => none))) 281 (specV (fAdd2 mul))
theorem treeTuI (md : Int → Int) (rt : Int → Nat → Int) (mul : (Nat → Int) → (Nat → Int) → Nat → Int) (a : Nat → Int) (n : Int) : execF Tryz.prog (gmTuI md rt mul) noLam 100 Tryz.f218 [.v (cyv a), .v (i64 n)] [] (packK 0)
    = needs [inR n (-9223372036854775808 : Int) (9223372036854775807 : Int), decide ((0 : Int) ≤ md n), decide (md n ≤ (23 : Int))] (Res.out .ret [AV.agg [AV.v (.int .i64 (mul (w8 a) (w8 (rt (md n))) (0 : Nat))), AV.v (.int .i64 (mul (w8 a) (w8 (rt (md n))) (1 : Nat))), AV.v (.int .i64 (mul (w8 a) (w8 (rt (md n))) (2 : Nat))), AV.v (.int .i64 (mul (w8 a) (w8 (rt (md n))) (3 : Nat))), AV.v (.int .i64 (mul (w8 a) (w8 (rt (md n))) (4 : Nat))), AV.v (.int .i64 (mul (w8 a) (w8 (rt (md n))) (5 : Nat))), AV.v (.int .i64 (mul (w8 a) (w8 (rt (md n))) (6 : Nat))), AV.v (.int .i64 (mul (w8 a) (w8 (rt (md n))) (7 : Nat)))]] []) := by kernel_rfl

theorem gmTuI_ok : GamOk Tryz.prog (gmTuI (fun n => n % 24) (fun n => rootF n.toNat) mulF) := by
  have e1 : (fun | [.int .i64 n] => some (.int .i64 (n % 24), [inR n (-9223372036854775808) 9223372036854775807]) | _ => none) = f_turnOf := by funext l; rfl
  have e2 : (fun | [.int .i64 n] => some (cyv (rootF n.toNat), [decide (0 ≤ n), decide (n ≤ (23 : Nat))]) | _ => none) = f_root := by funext l; rfl
  have e3 : fAdd2 mulF = f_times := by funext l; rfl
  unfold gmTuI
  rw [e1, e2, e3]
  exact ext_ok (ext_ok (ext_ok g0_ok ok_turnOf) ok_root) ok_times
def FtuI (tu : (Nat → Int) → Int → Nat → Int) : List SA → Option FR
  | [.v (.agg ⟨[.int .i64 a0, .int .i64 a1, .int .i64 a2, .int .i64 a3, .int .i64 a4, .int .i64 a5, .int .i64 a6, .int .i64 a7]⟩), .v (.int .i64 n)] => some { val := .agg (cyC (tu (v8 a0 a1 a2 a3 a4 a5 a6 a7) n)), obl := [inB (v8 a0 a1 a2 a3 a4 a5 a6 a7), inR n (-9223372036854775808) 9223372036854775807] }
  | _ => none
abbrev tuF : (Nat → Int) → Int → Nat → Int := fun a n => turnedF a (n % 24).toNat
theorem ok_tuI : SpecOk Tryz.prog 218 (specR [.val, .val] (FtuI tuF)) := by
  refine specR_hr gmTuI_ok Tryz.func218 rfl fun sas fr hF ho => ?_
  unfold FtuI at hF
  split at hF
  · rename_i a0 a1 a2 a3 a4 a5 a6 a7 n
    cases hF
    simp only [ob_cons] at ho
    obtain ⟨h1, h2, _⟩ := ho
    generalize ha : v8 a0 a1 a2 a3 a4 a5 a6 a7 = a at *
    have hin := smallF_iff.1 h1
    refine ⟨[], noLam, 100, .nil, noLam' _, ?_⟩
    have hav : avC 0 [Md.val, Md.val] [SA.v (.agg ⟨[.int .i64 a0, .int .i64 a1, .int .i64 a2, .int .i64 a3, .int .i64 a4, .int .i64 a5, .int .i64 a6, .int .i64 a7]⟩), SA.v (.int .i64 n)] = [.v (cyv a), .v (i64 n)] := by
      rw [← ha]
      rfl
    rw [hav]
    show GoodQ (execF Tryz.prog (gmTuI (fun n => n % 24) (fun n => rootF n.toNat) mulF) noLam 100 Tryz.f218 [.v (cyv a), .v (i64 n)] [] (packK 0)) _
    rw [treeTuI]
    have e : ∀ k, k < 8 → mulF (w8 a) (w8 (rootF (n % 24).toNat)) k = turnedF a (n % 24).toNat k := by
      intro k hk
      have e1 : mulF (w8 a) (w8 (rootF (n % 24).toNat)) k = mulF a (rootF (n % 24).toNat) k := rfl
      rw [e1, mul_root hin _ k hk]
    simp only [e 0 (by omega), e 1 (by omega), e 2 (by omega), e 3 (by omega), e 4 (by omega), e 5 (by omega), e 6 (by omega), e 7 (by omega)]
    exact good_needs (by simp only [ob_cons, ob_nil, and_true, decide_eq_true_eq]; exact ⟨h2, by omega, by omega⟩) (good_out ⟨_, rfl, rfl, .nil⟩)
  · cases hF

end Go.Proofs.YtddhmidegldhdaaGreatDoor

/- 'changed', for each change that the program makes: trees. Conditions: a list of wheels. -/
namespace Go.Proofs.YtddhmidegldhdaaGreatDoor
open Go.RowKit
set_option maxRecDepth 100000

def fMirO (mi : (Nat → Int) → Nat → Int) : List Value → Option (Value × List Bool)
  | [.agg ⟨[.int .i64 a0, .int .i64 a1, .int .i64 a2, .int .i64 a3, .int .i64 a4, .int .i64 a5, .int .i64 a6, .int .i64 a7]⟩] => some (cyv (mi (v8 a0 a1 a2 a3 a4 a5 a6 a7)), [])
  | _ => none
def gmC (mi : (Nat → Int) → Nat → Int) (tu : (Nat → Int) → Int → Nat → Int) : Gam := ext (ext g0 224 (specV (fMirO mi))) 218 (specR [.val, .val] (FtuI tu))
abbrev lvCh : Ex → List Nat := lv3 [1, 6, 15, 16, 17] [6] [4, 5]
def FtiYO (ti : List Wh → List Wh) (okt inw : List Wh → Bool) : List SA → Option FR
  | [.row m g] => some { val := valY (ti (listW (itW g) m)), new := newY (ti (listW (itW g) m)), obl := [allW m g, decide (m ≤ 2 ^ 38), inw (listW (itW g) m), okt (listW (itW g) m)] }
  | _ => none
def FtiNO (okt inw : List Wh → Bool) : List SA → Option FR
  | [.row m g] => some { val := valN, obl := [allW m g, decide (m ≤ 2 ^ 38), inw (listW (itW g) m), !okt (listW (itW g) m)] }
  | _ => none
def gmChY (okd : List Wh → Bool) (ti : List Wh → List Wh) (okt inw : List Wh → Bool) : Gam := ext (ext g0 75 (specR md_ws (FdvO okd))) 36 (specR md_ws (FtiYO ti okt inw))
def gmChN (okd : List Wh → Bool) (okt inw : List Wh → Bool) : Gam := ext (ext g0 75 (specR md_ws (FdvO okd))) 36 (specR md_ws (FtiNO okt inw))

abbrev fnTi : AV := .fn 85 []
abbrev hpCTi (m : Nat) (f : Nat → Nat → Int) (t : TypeId) (n : Nat) (h : Nat → Nat → Int) : List AB := [.row false m 9 (row9 f) t, .row true n 9 (row9 h) 60]
abbrev stCTi (m n i : Nat) : List AV := [fnTi, .own 1 n, .sl 0 9 0 0 m none, .v (i64 m), .v (i64 i)]
theorem rndCTi (mi : (Nat → Int) → Nat → Int) (tu : (Nat → Int) → Int → Nat → Int) (m : Nat) (f : Nat → Nat → Int) (t : TypeId) (n : Nat) (h : Nat → Nat → Int) (i : Nat) : execC Tryz.prog (gmC mi tu) 100 noLam (loopAt 0 Tryz.f84) (mkT 0 32 ((lvCh .normal).zip (stCTi m n i))) (hpCTi m f t n h) (leafV 32 lvCh 1)
    = bif decide ((↑i : Int) < (m : Int)) then needs [decide ((↑i : Int) < (m : Int)), decide ((0 : Nat) + Int.toNat (↑i : Int) < m), Nat.ble n n, Nat.ble (n + (1 : Nat)) (549755813888 : Nat)] (Res.out .normal [AV.fn (85 : FuncId) [], AV.own 1 (n + (1 : Nat)), AV.sl 0 (9 : Nat) (0 : Nat) (0 : Nat) m none, AV.v (.int .i64 (m : Int)), AV.v (.int .i64 (IntKind.wrap .i64 ((↑i : Int) + (1 : Int))))] [AB.row false m 9 (row9 f) t, AB.row true (n + (1 : Nat)) (9 : Nat) (fun q ↦ [Value.int .i64 (bif Nat.blt q n then h q (0 : Nat) else f ((0 : Nat) + Int.toNat (↑i : Int)) (0 : Nat)), Value.int .i64 (bif Nat.blt q n then h q (1 : Nat) else f ((0 : Nat) + Int.toNat (↑i : Int)) (1 : Nat)), Value.int .i64 (bif Nat.blt q n then h q (2 : Nat) else f ((0 : Nat) + Int.toNat (↑i : Int)) (2 : Nat)), Value.int .i64 (bif Nat.blt q n then h q (3 : Nat) else f ((0 : Nat) + Int.toNat (↑i : Int)) (3 : Nat)), Value.int .i64 (bif Nat.blt q n then h q (4 : Nat) else f ((0 : Nat) + Int.toNat (↑i : Int)) (4 : Nat)), Value.int .i64 (bif Nat.blt q n then h q (5 : Nat) else f ((0 : Nat) + Int.toNat (↑i : Int)) (5 : Nat)), Value.int .i64 (bif Nat.blt q n then h q (6 : Nat) else f ((0 : Nat) + Int.toNat (↑i : Int)) (6 : Nat)), Value.int .i64 (bif Nat.blt q n then h q (7 : Nat) else f ((0 : Nat) + Int.toNat (↑i : Int)) (7 : Nat)), Value.int .i64 (bif Nat.blt q n then h q (8 : Nat) else f ((0 : Nat) + Int.toNat (↑i : Int)) (8 : Nat))]) (60 : Nat)]) else Res.out (Ex.exit (0 : Nat)) [AV.own 1 n] [AB.row false m 9 (row9 f) t, AB.row true n 9 (row9 h) 60] := by kernel_rfl

noncomputable abbrev lamCTi (m : Nat) (f : Nat → Nat → Int) (t : TypeId) (n : Nat) (h : Nat → Nat → Int) : Nat → Option Sum := oneL 0 (atS 32 (lvCh .normal) 1 (stCTi m 0 0) (hpCTi m f t 0 (wfun [])) (fun K => K .normal (mkT 0 32 [(6, .own 1 n)]) (hpCTi m f t n h)))
theorem treeYTi_h (okd : List Wh → Bool) (ti : List Wh → List Wh) (okt inw : List Wh → Bool) (m : Nat) (f : Nat → Nat → Int) (t : TypeId) (n : Nat) (h : Nat → Nat → Int) (u0 : _) (hu0 : (Value.int .i64 0) = u0) (u1 : _) (hu1 : (listW (itW (row9 h)) n) = u1) (u2 : _) (hu2 : (0 : Nat) = u2) (u3 : _) (hu3 : (AB.row false m 9 (row9 f) t) = u3) : execF Tryz.prog (gmChY okd ti okt inw) (lamCTi m f t n h) 100 Tryz.f84 [.sl 0 9 0 0 m none, fnTi] [.row false m 9 (row9 f) t] (packK 1)
    = needs [Nat.ble (u2 + m) m, allW m fun q ↦ row9 f (u2 + q), decide (m ≤ (549755813888 : Nat))] (bif !okd (listW (itW fun q ↦ row9 f (u2 + q)) m) then Res.out .ret [AV.tup [AV.v (Value.slice none u2 u2), AV.v (.bool false)]] [u3] else needs [decide ((m : Int) ≤ (1099511627776 : Int)), chk ([AV.fn (85 : FuncId) [], AV.own 1 u2, AV.sl u2 (9 : Nat) u2 u2 m none, AV.v (.int .i64 (m : Int)), AV.v (.int .i64 0)] = stCTi m u2 u2 ∧ Hsim [u3, AB.row true u2 9 (fun _ ↦ [u0, u0, u0, u0, u0, u0, u0, u0, u0]) (60 : Nat)] (hpCTi m f t u2 (wfun []))), Nat.ble n n, allW n (row9 h), decide (n ≤ (274877906944 : Nat)), inw u1, okt u1] (Res.out .ret [AV.tup [AV.sl 1 (9 : Nat) u2 u2 (List.length (ti u1)) (some (List.length (ti u1))), AV.v (.bool true)]] [u3, AB.row true (List.length (ti u1)) (9 : Nat) (row9 (wfun (ti u1))) 60])) := by
  subst hu3 hu2 hu1 hu0
  kernel_rfl
theorem treeYTi (okd : List Wh → Bool) (ti : List Wh → List Wh) (okt inw : List Wh → Bool) (m : Nat) (f : Nat → Nat → Int) (t : TypeId) (n : Nat) (h : Nat → Nat → Int) : type_of% (treeYTi_h okd ti okt inw m f t n h _ rfl _ rfl _ rfl _ rfl) := treeYTi_h okd ti okt inw m f t n h _ rfl _ rfl _ rfl _ rfl

theorem treeNTi_h (okd : List Wh → Bool) (okt inw : List Wh → Bool) (m : Nat) (f : Nat → Nat → Int) (t : TypeId) (n : Nat) (h : Nat → Nat → Int) (u0 : _) (hu0 : (Value.int .i64 0) = u0) (u1 : _) (hu1 : (0 : Nat) = u1) (u2 : _) (hu2 : (AB.row false m 9 (row9 f) t) = u2) (u3 : _) (hu3 : [AV.tup [AV.v (Value.slice none u1 u1), AV.v (.bool false)]] = u3) : execF Tryz.prog (gmChN okd okt inw) (lamCTi m f t n h) 100 Tryz.f84 [.sl 0 9 0 0 m none, fnTi] [.row false m 9 (row9 f) t] (packK 1)
    = needs [Nat.ble (u1 + m) m, allW m fun q ↦ row9 f (u1 + q), decide (m ≤ (549755813888 : Nat))] (bif !okd (listW (itW fun q ↦ row9 f (u1 + q)) m) then Res.out .ret u3 [u2] else needs [decide ((m : Int) ≤ (1099511627776 : Int)), chk ([AV.fn (85 : FuncId) [], AV.own 1 u1, AV.sl u1 (9 : Nat) u1 u1 m none, AV.v (.int .i64 (m : Int)), AV.v (.int .i64 0)] = stCTi m u1 u1 ∧ Hsim [u2, AB.row true u1 9 (fun _ ↦ [u0, u0, u0, u0, u0, u0, u0, u0, u0]) (60 : Nat)] (hpCTi m f t u1 (wfun []))), Nat.ble n n, allW n (row9 h), decide (n ≤ (274877906944 : Nat)), inw (listW (itW (row9 h)) n), !okt (listW (itW (row9 h)) n)] (Res.out .ret u3 [u2])) := by
  subst hu3 hu2 hu1 hu0
  kernel_rfl
theorem treeNTi (okd : List Wh → Bool) (okt inw : List Wh → Bool) (m : Nat) (f : Nat → Nat → Int) (t : TypeId) (n : Nat) (h : Nat → Nat → Int) : type_of% (treeNTi_h okd okt inw m f t n h _ rfl _ rfl _ rfl _ rfl) := treeNTi_h okd okt inw m f t n h _ rfl _ rfl _ rfl _ rfl

end Go.Proofs.YtddhmidegldhdaaGreatDoor

/- 'changed', for each change that the program makes: its words. Conditions: a list of wheels. -/
namespace Go.Proofs.YtddhmidegldhdaaGreatDoor
open Go.RowKit
set_option maxRecDepth 100000

theorem fMirO_eq : fMirO mirF = f_mirror := by
  funext l
  rfl
theorem gmC_ok : GamOk Tryz.prog (gmC mirF tuF) := by
  unfold gmC
  rw [fMirO_eq]
  exact ext_ok (ext_ok g0_ok ok_mirror) ok_tuI
theorem ch_row (L : List Wh) (w : Wh) (i : Nat) (hl : L.length = i) (q : Nat) (hq : q < i + 1) : [i64 (bif Nat.blt q i then wfun L q 0 else whN w 0), i64 (bif Nat.blt q i then wfun L q 1 else whN w 1), i64 (bif Nat.blt q i then wfun L q 2 else whN w 2), i64 (bif Nat.blt q i then wfun L q 3 else whN w 3), i64 (bif Nat.blt q i then wfun L q 4 else whN w 4), i64 (bif Nat.blt q i then wfun L q 5 else whN w 5), i64 (bif Nat.blt q i then wfun L q 6 else whN w 6), i64 (bif Nat.blt q i then wfun L q 7 else whN w 7), i64 (bif Nat.blt q i then wfun L q 8 else whN w 8)] = row9 (wfun (L ++ [w])) q := by
  subst hl
  exact row9_snoc L (whN w) q hq
theorem okD_mem {L : List Wh} (h : okD L = true) {w : Wh} (hw : w ∈ L) : (-1000 ≤ w.s ∧ w.s ≤ 1000) ∧ ∀ k, k < 8 → -1000000 ≤ w.r.f k ∧ w.r.f k ≤ 1000000 := by
  rw [okD, Bool.and_eq_true] at h
  have := List.all_eq_true.1 h.2 w hw
  rw [Bool.and_eq_true] at this
  exact ⟨inR_iff.1 this.1, smallF_iff.1 this.2⟩
theorem okD_len {L : List Wh} (h : okD L = true) : L.length ≤ 12 := by
  rw [okD, Bool.and_eq_true] at h
  exact of_decide_eq_true h.1
theorem valid_in {L : List Wh} (h : okD L = true) {w : Wh} (hw : w ∈ L) : cyIn w.r := fun k hk => by
  have := (okD_mem h hw).2 k hk
  omega
theorem valid_inB {L : List Wh} (h : okD L = true) {w : Wh} (hw : w ∈ L) : inB w.r.f = true := smallF_iff.2 (valid_in h hw)
theorem FtiYO_eq : FtiYO tidyL okT inWB = F_tiY := by
  funext l
  rfl
theorem FtiNO_eq : FtiNO okT inWB = F_tiN := by
  funext l
  rfl
theorem gmChY_ok : GamOk Tryz.prog (gmChY okD tidyL okT inWB) := by
  unfold gmChY
  rw [FdvO_eq, FtiYO_eq]
  exact ext_ok (ext_ok g0_ok ok_dvI) ok_tiY
theorem gmChN_ok : GamOk Tryz.prog (gmChN okD okT inWB) := by
  unfold gmChN
  rw [FdvO_eq, FtiNO_eq]
  exact ext_ok (ext_ok g0_ok ok_dvI) ok_tiN
theorem row0 (f : Nat → Nat → Int) : (fun q => row9 f (0 + q)) = row9 f := by
  funext q
  rw [Nat.zero_add]

theorem treeETi (okd : List Wh → Bool) (okt inw : List Wh → Bool) (m : Nat) (f : Nat → Nat → Int) (t : TypeId) : execF Tryz.prog (gmChN okd okt inw) (oneL 0 errS) 100 Tryz.f84 [.sl 0 9 0 0 m none, fnTi] [.row false m 9 (row9 f) t] (packK 1)
    = needs [Nat.ble ((0 : Nat) + m) m, allW m fun q ↦ row9 f ((0 : Nat) + q), decide (m ≤ (549755813888 : Nat))] (bif !okd (listW (itW fun q ↦ row9 f ((0 : Nat) + q)) m) then Res.out .ret [AV.tup [AV.v (Value.slice none (0 : Nat) (0 : Nat)), AV.v (.bool false)]] [AB.row false m 9 (row9 f) t] else needs [decide ((m : Int) ≤ (1099511627776 : Int))] Res.err) := by kernel_rfl

def chTi (w : Wh) : Wh := w
abbrev mpTi : List Wh → List Wh := fun L => L.map chTi
theorem inwTi {L : List Wh} (h : okD L = true) : inW (L.map chTi) := by
  intro w' hw'
  obtain ⟨w, hw, rfl⟩ := List.mem_map.1 hw'
  exact valid_in h hw
theorem sumCTi (m : Nat) (f : Nat → Nat → Int) (t : TypeId) (hm : m ≤ 2 ^ 38) (hok : ∀ w ∈ listW f m, inB w.r.f = true) :
    SumOk Tryz.prog 1 (.block 0 (.loop (loopAt 0 Tryz.f84))) (atS 32 (lvCh .normal) 1 (stCTi m 0 0) (hpCTi m f t 0 (wfun [])) (fun K => K .normal (mkT 0 32 [(6, .own 1 m)]) (hpCTi m f t m (wfun ((listW f m).map chTi))))) := by
  refine for_at gmC_ok (n := 100) (m := 1) (lv := lvCh) (fun i => stCTi m i i) (fun i => hpCTi m f t i (wfun ((listW f i).map chTi))) (fun _ => True) m (fun _ => noLam) (lv3_ris rfl rfl rfl) (Nat.le_refl _) trivial fun K Q hk i hi him => ⟨noLam_ok _ _ _, ?_⟩
  rw [rndCTi]
  refine good_cond (fun c1 => ?_) fun c1 => ?_
  · have c1 := of_decide_eq_true c1
    have c1' : i < m := by omega
    rw [Int.toNat_natCast, Nat.zero_add, wr_in (x := (i : Int) + 1) (by omega)]
    refine good_needs (by simp only [ob_cons, ob_nil, and_true, decide_eq_true_eq, Nat.ble_eq]; omega) (good_out ⟨i + 1, ⟨rfl, c1', trivial⟩, rfl, ?_⟩)
    show Hsim _ (hpCTi m f t (i + 1) (wfun ((listW f (i + 1)).map chTi)))
    rw [listW_succ, List.map_append]
    refine (.cons (ABeq.refl _) (.cons (ABeq.row fun q hq => ?_) .nil))
    exact ch_row _ (chTi (whOf (f i))) i (by rw [List.length_map, listW_length]) q hq
  · have c1 := of_decide_eq_false c1
    have : i = m := by omega
    subst this
    refine good_out ⟨_, Hsim.refl _, ?_⟩
    rw [if_pos rfl]
    exact hk

def FchYTi (okd : List Wh → Bool) (ti : List Wh → List Wh) (okt : List Wh → Bool) (mp : List Wh → List Wh) : List AV → List AB → Option HR
  | [.sl 0 9 0 0 m none, .fn 85 []], [.row false n 9 g t] => some { val := .tup [.sl 1 9 0 0 (ti (mp (listW (itW g) m))).length (some (ti (mp (listW (itW g) m))).length), .v (.bool true)], out := [.row false n 9 g t], new := newY (ti (mp (listW (itW g) m))), obl := [Nat.beq n m, allW m g, decide (m ≤ 2 ^ 38), okd (listW (itW g) m) && okt (mp (listW (itW g) m))] }
  | _, _ => none
def FchNTi (okd : List Wh → Bool) (okt : List Wh → Bool) (mp : List Wh → List Wh) : List AV → List AB → Option HR
  | [.sl 0 9 0 0 m none, .fn 85 []], [.row false n 9 g t] => some { val := valN, out := [.row false n 9 g t], obl := [Nat.beq n m, allW m g, decide (m ≤ 2 ^ 38), !(okd (listW (itW g) m) && okt (mp (listW (itW g) m)))] }
  | _, _ => none
theorem ok_chYTi : SpecOk Tryz.prog 84 (specH [true] (FchYTi okD tidyL okT mpTi)) := by
  refine specH_ok gmChY_ok Tryz.func84 rfl fun avs H hr hF ho => ?_
  unfold FchYTi at hF
  split at hF
  · rename_i m n g t
    cases hF
    simp only [ob_cons] at ho
    obtain ⟨h0, h1, h2, h3, _⟩ := ho
    have h0 := Nat.eq_of_beq_eq_true h0
    subst h0
    have hm := of_decide_eq_true h2
    rw [Bool.and_eq_true] at h3
    obtain ⟨hd, ht⟩ := h3
    have hin := inwTi hd
    have hs := sumCTi n (itW g) t hm (fun w hw => valid_inB hd hw)
    refine ⟨[.row false n 9 (row9 (itW g)) t], lamCTi n (itW g) t n (wfun ((listW (itW g) n).map chTi)), 100, .cons (ABeq.row fun j hj => allW_get h1 j hj) .nil, lam1 (by kernel_rfl) hs, ?_⟩
    show GoodQ (execF Tryz.prog (gmChY okD tidyL okT inWB) (lamCTi n (itW g) t n (wfun ((listW (itW g) n).map chTi))) 100 Tryz.f84 [.sl 0 9 0 0 n none, fnTi] [.row false n 9 (row9 (itW g)) t] (packK 1)) _
    rw [treeYTi, row0, listW_itW, listW_self ((listW (itW g) n).map chTi) n (by rw [List.length_map, listW_length])]
    refine good_needs (by simp only [ob_cons, ob_nil, and_true, decide_eq_true_eq, Nat.ble_eq, allW_row, true_and]; omega) (good_false (by rw [hd]; rfl) (good_needs ?_ (good_out ⟨rfl, .cons (ABeq.row fun j hj => (allW_get h1 j hj).symm) (Hsim.refl _)⟩)))
    simp only [ob_cons, ob_nil, and_true, allW_row]
    exact ⟨decide_eq_true (by omega), chk_of ⟨rfl, (.cons (ABeq.refl _) (.cons (ABeq.row fun j hj => absurd hj (Nat.not_lt_zero _)) .nil))⟩, by simp, trivial, decide_eq_true (by omega), chk_of hin, ht⟩
  · cases hF
theorem ok_chNTi : SpecOk Tryz.prog 84 (specH [true] (FchNTi okD okT mpTi)) := by
  refine specH_ok gmChN_ok Tryz.func84 rfl fun avs H hr hF ho => ?_
  unfold FchNTi at hF
  split at hF
  · rename_i m n g t
    cases hF
    simp only [ob_cons] at ho
    obtain ⟨h0, h1, h2, h3, _⟩ := ho
    have h0 := Nat.eq_of_beq_eq_true h0
    subst h0
    have hm := of_decide_eq_true h2
    cases hd : okD (listW (itW g) n) with
    | false =>
      have hz : SumOk Tryz.prog 1 (.block 0 (.loop (loopAt 0 Tryz.f84))) errS := errS_ok
      refine ⟨[.row false n 9 (row9 (itW g)) t], oneL 0 errS, 100, .cons (ABeq.row fun j hj => allW_get h1 j hj) .nil, lam1 (by kernel_rfl) hz, ?_⟩
      show GoodQ (execF Tryz.prog (gmChN okD okT inWB) (oneL 0 errS) 100 Tryz.f84 [.sl 0 9 0 0 n none, fnTi] [.row false n 9 (row9 (itW g)) t] (packK 1)) _
      rw [treeETi, row0, listW_itW]
      exact good_needs (by simp only [ob_cons, ob_nil, and_true, decide_eq_true_eq, Nat.ble_eq, allW_row, true_and]; omega) (good_true (by rw [hd]; rfl) (good_out ⟨rfl, .cons (ABeq.row fun j hj => (allW_get h1 j hj).symm) .nil⟩))
    | true =>
    rw [hd, Bool.true_and] at h3
    have ht : okT ((listW (itW g) n).map chTi) = false := by simpa using h3
    have hin := inwTi hd
    have hs := sumCTi n (itW g) t hm (fun w hw => valid_inB hd hw)
    refine ⟨[.row false n 9 (row9 (itW g)) t], lamCTi n (itW g) t n (wfun ((listW (itW g) n).map chTi)), 100, .cons (ABeq.row fun j hj => allW_get h1 j hj) .nil, lam1 (by kernel_rfl) hs, ?_⟩
    show GoodQ (execF Tryz.prog (gmChN okD okT inWB) (lamCTi n (itW g) t n (wfun ((listW (itW g) n).map chTi))) 100 Tryz.f84 [.sl 0 9 0 0 n none, fnTi] [.row false n 9 (row9 (itW g)) t] (packK 1)) _
    rw [treeNTi, row0, listW_itW, listW_self ((listW (itW g) n).map chTi) n (by rw [List.length_map, listW_length])]
    refine good_needs (by simp only [ob_cons, ob_nil, and_true, decide_eq_true_eq, Nat.ble_eq, allW_row, true_and]; omega) (good_false (by rw [hd]; rfl) (good_needs ?_ (good_out ⟨rfl, .cons (ABeq.row fun j hj => (allW_get h1 j hj).symm) .nil⟩)))
    simp only [ob_cons, ob_nil, and_true, allW_row]
    exact ⟨decide_eq_true (by omega), chk_of ⟨rfl, (.cons (ABeq.refl _) (.cons (ABeq.row fun j hj => absurd hj (Nat.not_lt_zero _)) .nil))⟩, by simp, trivial, decide_eq_true (by omega), chk_of hin, by rw [ht]; rfl⟩
  · cases hF

end Go.Proofs.YtddhmidegldhdaaGreatDoor

/- The program's designs changed: DesignTidy, DesignTurned, DesignLater, DesignBack, DesignMirror. Conditions: a list of wheels. -/
namespace Go.Proofs.YtddhmidegldhdaaGreatDoor
open Go.RowKit
set_option maxRecDepth 100000

def yesTi (L : List Wh) : Bool := (okD L && okT (L.map chTi))
def FdeYTi (yes : List Wh → Bool) (ti : List Wh → List Wh) (mp : List Wh → List Wh) : List SA → Option FR
  | [.row m g] => some { val := valY (ti (mp (listW (itW g) m))), new := newY (ti (mp (listW (itW g) m))), obl := [allW m g, decide (m ≤ 2 ^ 38), yes (listW (itW g) m)] }
  | _ => none
def FdeNTi (yes : List Wh → Bool) : List SA → Option FR
  | [.row m g] => some { val := valN, obl := [allW m g, decide (m ≤ 2 ^ 38), !yes (listW (itW g) m)] }
  | _ => none
theorem treeDYTi (okd : List Wh → Bool) (ti : List Wh → List Wh) (okt : List Wh → Bool) (mp : List Wh → List Wh) (m : Nat) (f : Nat → Nat → Int) : execF Tryz.prog (ext gm_within 84 (specH [true] (FchYTi okd ti okt mp))) noLam 100 Tryz.f43 [.sl 0 9 0 0 m none] [.row false m 9 (row9 f) 60] (packK 1)
    = needs [Nat.beq m m, allW m (row9 f), decide (m ≤ (274877906944 : Nat)), okd (listW (itW (row9 f)) m) && okt (mp (listW (itW (row9 f)) m))] (Res.out .ret [AV.tup [AV.sl 1 (9 : Nat) (0 : Nat) (0 : Nat) (List.length (ti (mp (listW (itW (row9 f)) m)))) (some (List.length (ti (mp (listW (itW (row9 f)) m))))), AV.v (.bool true)]] [AB.row false m 9 (row9 f) 60, AB.row true (List.length (ti (mp (listW (itW (row9 f)) m)))) (9 : Nat) (row9 (wfun (ti (mp (listW (itW (row9 f)) m))))) 60]) := by kernel_rfl

theorem treeDNTi (okd : List Wh → Bool) (okt : List Wh → Bool) (mp : List Wh → List Wh) (m : Nat) (f : Nat → Nat → Int) : execF Tryz.prog (ext gm_within 84 (specH [true] (FchNTi okd okt mp))) noLam 100 Tryz.f43 [.sl 0 9 0 0 m none] [.row false m 9 (row9 f) 60] (packK 1)
    = needs [Nat.beq m m, allW m (row9 f), decide (m ≤ (274877906944 : Nat)), !(okd (listW (itW (row9 f)) m) && okt (mp (listW (itW (row9 f)) m)))] (Res.out .ret [AV.tup [AV.v (Value.slice none (0 : Nat) (0 : Nat)), AV.v (.bool false)]] [AB.row false m 9 (row9 f) 60]) := by kernel_rfl

theorem ok_deYTi : SpecOk Tryz.prog 43 (specR md_ws (FdeYTi yesTi tidyL mpTi)) := by
  refine specR_hr (ext_ok gm_within_ok ok_chYTi) Tryz.func43 rfl fun sas fr hF ho => ?_
  unfold FdeYTi at hF
  split at hF
  · rename_i m g
    cases hF
    simp only [ob_cons] at ho
    obtain ⟨h1, h2, h3, _⟩ := ho
    have hm := of_decide_eq_true h2
    refine ⟨[.row false m 9 (row9 (itW g)) 60], noLam, 100, .cons (ABeq.row fun j hj => allW_get h1 j hj) .nil, noLam' _, ?_⟩
    show GoodQ (execF Tryz.prog (ext gm_within 84 (specH [true] (FchYTi okD tidyL okT mpTi))) noLam 100 Tryz.f43 [.sl 0 9 0 0 m none] [.row false m 9 (row9 (itW g)) 60] (packK 1)) _
    rw [treeDYTi]
    rw [yesTi] at h3
    exact good_needs (by simp only [ob_cons, ob_nil, and_true, beq_me, allW_row, listW_itW, true_and]; exact ⟨decide_eq_true hm, h3⟩) (good_out ⟨_, rfl, rfl, .cons (ABeq.row fun j hj => (allW_get h1 j hj).symm) (Hsim.refl _)⟩)
  · cases hF
theorem ok_deNTi : SpecOk Tryz.prog 43 (specR md_ws (FdeNTi yesTi)) := by
  refine specR_hr (ext_ok gm_within_ok ok_chNTi) Tryz.func43 rfl fun sas fr hF ho => ?_
  unfold FdeNTi at hF
  split at hF
  · rename_i m g
    cases hF
    simp only [ob_cons] at ho
    obtain ⟨h1, h2, h3, _⟩ := ho
    have hm := of_decide_eq_true h2
    refine ⟨[.row false m 9 (row9 (itW g)) 60], noLam, 100, .cons (ABeq.row fun j hj => allW_get h1 j hj) .nil, noLam' _, ?_⟩
    show GoodQ (execF Tryz.prog (ext gm_within 84 (specH [true] (FchNTi okD okT mpTi))) noLam 100 Tryz.f43 [.sl 0 9 0 0 m none] [.row false m 9 (row9 (itW g)) 60] (packK 1)) _
    rw [treeDNTi]
    rw [yesTi] at h3
    exact good_needs (by simp only [ob_cons, ob_nil, and_true, beq_me, allW_row, listW_itW, true_and]; exact ⟨decide_eq_true hm, h3⟩) (good_out ⟨_, rfl, rfl, .cons (ABeq.row fun j hj => (allW_get h1 j hj).symm) .nil⟩)
  · cases hF

end Go.Proofs.YtddhmidegldhdaaGreatDoor

/- l5At and DesignAt, the reference's: their words. Conditions: a list of wheels. -/
namespace Go.Proofs.YtddhmidegldhdaaGreatDoor
open Go.RowKit
set_option maxRecDepth 100000

def FtuO (tu : (Nat → Int) → Int → Nat → Int) : List SA → Option FR
  | [.v (.agg ⟨[.int .i64 a0, .int .i64 a1, .int .i64 a2, .int .i64 a3, .int .i64 a4, .int .i64 a5, .int .i64 a6, .int .i64 a7]⟩), .v (.int .i64 n)] => some { val := .agg (cyC (tu (v8 a0 a1 a2 a3 a4 a5 a6 a7) n)), obl := [decide (n ≤ 2 ^ 40)] }
  | _ => none
theorem FtuO_eq : FtuO (fun a n => turnedF a n.toNat) = F_turned := by
  funext l
  rfl
end Go.Proofs.YtddhmidegldhdaaGreatDoor

/- l5Each, the reference's. Conditions: a list of wheels. -/
namespace Go.Proofs.YtddhmidegldhdaaGreatDoor
open Go.RowKit
set_option maxRecDepth 100000

def fIsO (ok : Int → Bool) : List Value → Option (Value × List Bool)
  | [.int .i64 n] => some (.bool (ok n), [])
  | _ => none
def FtidyO (ti : List Wh → List Wh) (okt : List Wh → Bool) : List SA → Option FR
  | [.row m g] => some { val := .tup [.own 0 (ti (listW (itW g) m)).length, .v (.bool (okt (listW (itW g) m)))], new := [.row true (ti (listW (itW g) m)).length 9 (row9 (wfun (ti (listW (itW g) m)))) 60], obl := [allW m g, decide (m ≤ 2 ^ 38)] }
  | _ => none
theorem fIsO_eq : fIsO (fun n => inR n 0 23) = f_l1Is := by
  funext l
  rfl
theorem FtidyO_eq : FtidyO tidyL okT = F_tidy := by
  funext l
  rfl
end Go.Proofs.YtddhmidegldhdaaGreatDoor

/- Helpers on what l5Each and the changes come to. No conditions. -/
namespace Go.Proofs.YtddhmidegldhdaaGreatDoor
open Go.RowKit
set_option maxRecDepth 100000

def md_eqWS : List Md := [.rd 9 60, .rd 9 60]
theorem ble_me (n : Nat) : Nat.ble n n = true := by simp
theorem needs_nil (r : Res) : needs [] r = r := rfl
theorem needs_t (l : List Bool) (r : Res) : needs (true :: l) r = needs l r := rfl
theorem tidyL_no {L : List Wh} (h : okT L = false) : tidyL L = [] := by
  unfold okT at h
  unfold tidyL
  cases e : tidyS L with
  | none => rfl
  | some T => rw [e] at h; cases h
theorem tidyL_len {L : List Wh} (h : okT L = true) : (tidyL L).length ≤ 12 := by
  unfold okT at h
  unfold tidyL
  cases e : tidyS L with
  | none => rw [e] at h; cases h
  | some T =>
    unfold tidyS at e
    split at e
    · split at e
      · rename_i hv
        cases e
        rw [dValid, Bool.and_eq_true] at hv
        exact of_decide_eq_true hv.1
      · cases e
    · cases e
end Go.Proofs.YtddhmidegldhdaaGreatDoor

/- A word for a callee that hands back a new list or none: read as one. Conditions: those of its two cases. -/
namespace Go.Proofs.YtddhmidegldhdaaGreatDoor
open Go.RowKit
set_option maxRecDepth 100000

theorem putC_nil : ∀ (is : List (Option Nat)) (bs : List AB), (∀ b ∈ bs, b.wr = false) → putC is bs = []
  | [], [], _ => rfl
  | [], _ :: _, _ => by simp [putC]
  | i :: is, [], _ => by cases i <;> simp [putC]
  | none :: is, b :: bs, h => by
    simp only [putC]
    exact putC_nil is bs fun x hx => h x (by simp [hx])
  | some i :: is, b :: bs, h => by
    have ih := putC_nil is bs fun x hx => h x (by simp [hx])
    have hb := h b (by simp)
    cases b with
    | row rw n s g t =>
      cases rw with
      | true => cases hb
      | false => simp only [putC]; exact ih
    | cells cs t => cases hb
    | gone => simp only [putC]; exact ih
theorem abP_rd : ∀ {mds : List Md} {sas : List SA} {ps : List (Nat → List Value)}, hasWr mds = false → ∀ b ∈ abP mds sas ps, b.wr = false
  | [], [], ps, _, b, hb => by simp [abP] at hb
  | .val :: ds, .v x :: r, ps, h, b, hb => abP_rd (mds := ds) (sas := r) (ps := ps) h b (by simpa only [abP] using hb)
  | .rd s t :: ds, .row m g :: r, ps, h, b, hb => by
    simp only [abP, List.mem_cons] at hb
    rcases hb with rfl | hb
    · rfl
    · exact abP_rd (mds := ds) (sas := r) (ps := ps) h b hb
  | .wr s t :: ds, _, ps, h, b, hb => by cases h
  | [], _ :: _, ps, _, b, hb => by simp [abP] at hb
  | .val :: ds, [], ps, _, b, hb => by simp [abP] at hb
  | .val :: ds, .row .. :: _, ps, _, b, hb => by simp [abP] at hb
  | .val :: ds, .own .. :: _, ps, _, b, hb => by simp [abP] at hb
  | .rd .. :: ds, [], ps, _, b, hb => by simp [abP] at hb
  | .rd .. :: ds, .v _ :: _, ps, _, b, hb => by simp [abP] at hb
  | .rd .. :: ds, .own .. :: _, ps, _, b, hb => by simp [abP] at hb

structure UR where
  b : Bool
  T : List Wh
  obl : List Bool
def specU (mds : List Md) (U : List SA → Option UR) : Spec := fun avs H base =>
  match saAll H mds avs with
  | some xs => match U (xs.map (·.sa)) with
    | some u => some { val := .tup [.sl base 9 0 0 u.T.length (some u.T.length), .v (.bool u.b)], rd := (ixC mds xs).filterMap id, put := [], new := [.row false u.T.length 9 (row9 (wfun u.T)) 60], obl := xs.flatMap (·.ob) ++ u.obl }
    | none => none
  | none => none

theorem specU_ok {P : Program} {f : FuncId} {mds : List Md} {FY FN : List SA → Option FR} {U : List SA → Option UR} (hw : hasWr mds = false) (hY : SpecOk P f (specR mds FY)) (hN : SpecOk P f (specR mds FN))
    (h : ∀ sas u, U sas = some u → obls u.obl = true → Nat.beq (abP mds sas []).length (abC mds sas).length = true ∧ ((u.b = true ∧ ∃ ob, FY sas = some { val := valY u.T, new := newY u.T, obl := ob } ∧ obls ob = true) ∨ (u.b = false ∧ u.T = [] ∧ ∃ ob, FN sas = some { val := valN, obl := ob } ∧ obls ob = true))) : SpecOk P f (specU mds U) := by
  refine ⟨hY.1, fun avs H base δ ν vals w hS ho hv hr hlt hfree hsep htab => ?_⟩
  unfold specU at hS
  split at hS
  case h_2 => cases hS
  rename_i xs hxs
  split at hS
  case h_2 => cases hS
  rename_i u hu
  simp only [Option.some.injEq] at hS
  subst hS
  have ho' : obls (xs.flatMap (·.ob)) = true ∧ obls u.obl = true := by simpa [obls, List.all_append] using ho
  obtain ⟨hl, hc⟩ := h _ _ hu ho'.2
  have hput : putC (ixC mds xs) (abP mds (xs.map (·.sa)) []) = [] := putC_nil _ _ fun b hb => abP_rd hw b hb
  rcases hc with ⟨hb, ob, e1, e2⟩ | ⟨hb, hT, ob, e1, e2⟩
  · have hS2 : specR mds FY avs H base = some { val := .tup [.sl base 9 0 0 u.T.length (some u.T.length), .v (.bool true)], rd := (ixC mds xs).filterMap id, put := [], new := newY u.T, obl := xs.flatMap (·.ob) ++ ob } := by
      unfold specR
      rw [hxs]
      simp only [e1]
      show cond _ _ _ = _
      rw [hw, hl, hput]
      rfl
    refine (hY.2 avs H base _ ν vals w hS2 (by simpa [obls, List.all_append] using And.intro ho'.1 e2) hv hr hlt hfree (fun i o j b b' hp => by cases hp) (htab.call fun x hx => by first | exact hx | cases hx)).mono ?_
    rintro e w' ⟨v, ν', rfl, d⟩
    refine ⟨v, ν', rfl, d.le, d.dom, by rw [hb]; exact d.val, fun i b hl => (by cases hl), fun j b hj => ?_, d.os, d.tape, d.output, d.size, d.block, d.fresh, d.apart⟩
    match j with
    | 0 =>
      simp only [List.getElem?_cons_zero, Option.some.injEq] at hj
      subst hj
      have := d.new 0 _ rfl
      rcases this with ⟨h1, _, _⟩ | ⟨k, l, t', fz, h1, h2, _, h4, h5⟩
      · cases h1
      · exact .inr ⟨k, l, t', fz, h1, h2, fun h => (by cases h), h4, h5⟩
    | j + 1 => simp at hj
  · have hS2 : specR mds FN avs H base = some { val := valN, rd := (ixC mds xs).filterMap id, put := [], new := [], obl := xs.flatMap (·.ob) ++ ob } := by
      unfold specR
      rw [hxs]
      simp only [e1]
      show cond _ _ _ = _
      rw [hw, hl, hput]
      rfl
    refine (hN.2 avs H base _ ν vals w hS2 (by simpa [obls, List.all_append] using And.intro ho'.1 e2) hv hr hlt (fun j hj => absurd hj (Nat.not_lt_zero _)) (fun i o j b b' hp => by cases hp) (htab.call fun x hx => by first | exact hx | cases hx)).mono ?_
    rintro e w' ⟨v, ν', rfl, d⟩
    have hnone : ν' base = none := by
      have h0 : ν base = none := hfree 0 (Nat.zero_lt_one)
      cases hq : ν' base with
      | none => rfl
      | some b =>
        have := d.dom base h0 (by rw [hq]; simp)
        simp at this
    have hv0 : VR ν' (.tup [.sl base 9 0 0 0 (some 0), .v (.bool false)]) v := by
      have := d.val
      simp only [VR] at this ⊢
      obtain ⟨l, e1, e2⟩ := this
      match l, e2 with
      | [a, b], ⟨ha, hbb, _⟩ => exact ⟨[a, b], e1, ⟨none, 0, ha, fun c' hc' => by simpa using hc', Nat.le_refl _, fun hc => absurd hc (Nat.lt_irrefl 0)⟩, hbb, trivial⟩
    refine ⟨v, ν', rfl, d.le, fun i h1 h2 => ?_, by rw [hb, hT]; exact hv0, fun i b hl => (by cases hl), fun j b hj => ?_, d.os, d.tape, d.output, d.size, d.block, fun j b hj hq => ?_, fun j j' b b' hne hj hj' => ?_⟩
    · have := d.dom i h1 h2
      simp at this
      omega
    · match j with
      | 0 =>
        simp only [List.getElem?_cons_zero, Option.some.injEq] at hj
        subst hj
        rw [hT]
        exact .inl ⟨rfl, rfl, hnone⟩
      | j + 1 => simp at hj
    · have hj : j < 1 := hj
      have : j = 0 := by omega
      subst this
      rw [Nat.add_zero, hnone] at hq
      cases hq
    · have hj : j < 1 := hj
      have hj' : j' < 1 := hj'
      omega

end Go.Proofs.YtddhmidegldhdaaGreatDoor

/- Changed designs as a list or none, read as one. Conditions: a list of wheels. -/
namespace Go.Proofs.YtddhmidegldhdaaGreatDoor
open Go.RowKit
set_option maxRecDepth 100000

def FeqB (eq : List Wh → List Wh → Bool) : List SA → Option FR
  | [.row m g, .row n g2] => some { val := .v (.bool (eq (listW (itW g) m) (listW (itW g2) n))), obl := [allW m g, allW n g2, decide (m ≤ 2 ^ 38)] }
  | _ => none
def eqL (A B : List Wh) : Bool := decide (A = B)
def badE (f h : Nat → Nat → Int) (i : Nat) : Bool := !decide (whOf (f i) = whOf (h i))
theorem eqL_list (f h : Nat → Nat → Int) (m : Nat) : eqL (listW f m) (listW h m) = noneTo (badE f h) m := by
  rw [Bool.eq_iff_iff, noneTo_iff, eqL, decide_eq_true_eq]
  refine ⟨fun e i hi => ?_, fun e => ?_⟩
  · have h1 := listW_get f hi
    rw [e, listW_get h hi, Option.some.injEq] at h1
    simp [badE, h1]
  · exact List.map_congr_left fun i hi => by
      have := e i (by simpa using hi)
      simpa [badE] using this
theorem eqL_len {A B : List Wh} (h : A.length ≠ B.length) : eqL A B = false := decide_eq_false fun e => h (by rw [e])
end Go.Proofs.YtddhmidegldhdaaGreatDoor

/- The program's DesignTidy, DesignBack, DesignMirror, as a list or none, read as one. Conditions: a list of wheels. -/
namespace Go.Proofs.YtddhmidegldhdaaGreatDoor
open Go.RowKit
set_option maxRecDepth 100000

def UO0 (yes : List Wh → Bool) (tl : List Wh → List Wh) : List SA → Option UR
  | [.row m g] => some ⟨yes (listW (itW g) m), tl (listW (itW g) m), [allW m g, decide (m ≤ 2 ^ 38)]⟩
  | _ => none
theorem mpTi_self (L : List Wh) : mpTi L = L := by
  show L.map chTi = L
  rw [show chTi = id from rfl, List.map_id]
def yI (L : List Wh) : Bool := okD L && okT L
def tI (L : List Wh) : List Wh := bif yI L then tidyL L else []
theorem ok_UTi : SpecOk Tryz.prog 43 (specU md_ws (UO0 yI tI)) := by
  refine specU_ok rfl ok_deYTi ok_deNTi fun sas u hu ho => ?_
  unfold UO0 at hu
  split at hu
  · rename_i m g
    cases hu
    simp only [ob_cons] at ho
    obtain ⟨h1, h2, _⟩ := ho
    refine ⟨rfl, ?_⟩
    have hy : yesTi (listW (itW g) m) = yI (listW (itW g) m) := by
      unfold yesTi yI
      rw [show (listW (itW g) m).map chTi = listW (itW g) m from mpTi_self _]
    cases hv : yI (listW (itW g) m) with
    | true =>
      left
      refine ⟨rfl, [allW m g, decide (m ≤ 2 ^ 38), yesTi (listW (itW g) m)], ?_, ?_⟩
      · show FdeYTi yesTi tidyL mpTi [.row m g] = some { val := valY (tI (listW (itW g) m)), new := newY (tI (listW (itW g) m)), obl := [allW m g, decide (m ≤ 2 ^ 38), yesTi (listW (itW g) m)] }
        rw [tI, hv, cond_true]
        show some _ = some _
        rw [mpTi_self]
      · simp only [ob_cons, ob_nil, and_true]
        exact ⟨h1, h2, hy.trans hv⟩
    | false =>
      right
      refine ⟨rfl, by show tI (listW (itW g) m) = []; rw [tI, hv]; rfl, [allW m g, decide (m ≤ 2 ^ 38), !yesTi (listW (itW g) m)], rfl, ?_⟩
      simp only [ob_cons, ob_nil, and_true]
      exact ⟨h1, h2, by rw [hy, hv]; rfl⟩
  · cases hu
end Go.Proofs.YtddhmidegldhdaaGreatDoor

/- Products of designs: CycTimes of both, DesignTimes of both: trees. Conditions: two lists of wheels. -/
namespace Go.Proofs.YtddhmidegldhdaaGreatDoor
open Go.RowKit
set_option maxRecDepth 100000

end Go.Proofs.YtddhmidegldhdaaGreatDoor

/- Products of designs: CycTimes of both, DesignTimes of both. Conditions: two lists of wheels. -/
namespace Go.Proofs.YtddhmidegldhdaaGreatDoor
open Go.RowKit
set_option maxRecDepth 100000

end Go.Proofs.YtddhmidegldhdaaGreatDoor

/- DesignTimes of both. Conditions: two lists of wheels. -/
namespace Go.Proofs.YtddhmidegldhdaaGreatDoor
open Go.RowKit
set_option maxRecDepth 100000

end Go.Proofs.YtddhmidegldhdaaGreatDoor

/- The program's DesignTimes, as a list or none, read as one. Conditions: two lists of wheels. -/
namespace Go.Proofs.YtddhmidegldhdaaGreatDoor
open Go.RowKit
set_option maxRecDepth 100000

end Go.Proofs.YtddhmidegldhdaaGreatDoor

/- Contracts brought down to the world: what a callee that writes nothing old hands back; lists of wheels that a slice reads as. No conditions beyond those of each contract. -/
namespace Go.Proofs.YtddhmidegldhdaaGreatDoor
open Go.RowKit
set_option maxRecDepth 100000

abbrev nwM (w : World) : Nat → Prop := fun k => w.heap.size ≤ k
theorem SpecOk.down {f : FuncId} {S : Spec} (h : SpecOk Tryz.prog f S) {avs : List AV} {H : List AB} {base : Nat} {δ : Delta} {ν : Nu} {vals : List Value} {w : World} (hS : S avs H base = some δ) (ho : obls δ.obl = true) (hp : δ.put = []) (hv : VRs ν avs vals)
    (hr : ∀ i ∈ δ.rd, BR ν i (H.getD i .gone) w) (hlt : ∀ i b, ν i = some b → i < base ∧ b.n < w.heap.size) (ht : TabOk (nwM w) w) :
    Calls Tryz.prog f vals.toArray w fun e w' => ∃ v ν', e = .returned v ∧ VR ν' δ.val v ∧ (∀ (j : Nat) b, δ.new[j]? = some b → BR ν' (base + j) b w') ∧ (∀ (j : Nat) b, j < δ.new.length → ν' (base + j) = some b → w.heap.size ≤ b.n ∧ b.n < w'.heap.size) ∧ Fr (nwM w) w w' := by
  refine (h.2 avs H base δ ν vals w hS ho hv hr (fun i b hb => (hlt i b hb).2) (fun j _ => ?_) (fun i c j b b' hc => ?_) (ht.mono fun k _ hk => ?_)).mono ?_
  · cases e : ν (base + j) with
    | none => rfl
    | some b => have := (hlt _ b e).1; omega
  · rw [hp] at hc
    cases hc
  · rcases hk with hk | ⟨i, b, c, hc, _⟩
    · exact hk
    · rw [hp] at hc
      cases hc
  · rintro e w' ⟨v, ν', rfl, d⟩
    refine ⟨v, ν', rfl, d.val, d.new, fun j b hj hb => ?_, d.os, d.tape, d.output, d.size, fun k hk _ => d.block k hk fun p b hpm => ?_⟩
    · obtain ⟨h1, h2⟩ := d.fresh j b hj hb
      refine ⟨?_, h1⟩
      rcases h2 with h2 | ⟨i, b0, h3, _⟩
      · exact h2
      · rw [hp] at h3
        cases h3
    · rw [hp] at hpm
      cases hpm

def Wrow (w : World) (k : Nat) : Prop := ∃ l fz, w.heap[k]? = some (.cells l 60 fz)
def ReadsW (w : World) (v : Value) (L : List Wh) : Prop :=
  ∃ ν : Nu, (∀ i b, ν i = some b → i = 0 ∧ b.n < w.heap.size ∧ Wrow w b.n) ∧ VR ν (.sl 0 9 0 0 L.length none) v ∧ BR ν 0 (.row false L.length 9 (row9 (wfun L)) 60) w
theorem ReadsW.nil (w : World) : ReadsW w (.slice none 0 0) [] := by
  refine ⟨fun _ => none, fun i b h => (by cases h), ?_, .inl ⟨rfl, rfl, rfl⟩⟩
  simp only [VR]
  exact ⟨none, 0, rfl, by simp, Nat.le_refl _, fun h => absurd h (Nat.lt_irrefl 0)⟩
theorem ReadsW.kept {w w' : World} {v : Value} {L : List Wh} (h : ReadsW w v L) (hs : w.heap.size ≤ w'.heap.size) (hk : ∀ k, k < w.heap.size → Wrow w k → w'.heap[k]? = w.heap[k]?) : ReadsW w' v L := by
  obtain ⟨ν, h1, h2, h3⟩ := h
  refine ⟨ν, fun i b hb => ?_, h2, h3.of_block fun k hk' _ => hk _ (h1 _ k hk').2.1 (h1 _ k hk').2.2⟩
  obtain ⟨q1, q2, q3⟩ := h1 i b hb
  refine ⟨q1, Nat.lt_of_lt_of_le q2 hs, ?_⟩
  unfold Wrow at q3 ⊢
  rw [hk _ q2 (h1 i b hb).2.2]
  exact q3
theorem ReadsW.fr {w w' : World} {v : Value} {L : List Wh} (h : ReadsW w v L) {M : Nat → Prop} (hM : ∀ k, k < w.heap.size → M k → ¬ Wrow w k) (f : Fr M w w') : ReadsW w' v L := h.kept f.size fun k hk hw => f.block k hk fun hm => hM k hk hm hw
theorem ReadsW.below {w w' : World} {v : Value} {L : List Wh} (h : ReadsW w v L) (f : Fr (nwM w) w w') : ReadsW w' v L := h.fr (fun _ hk hm => absurd hm (Nat.not_le.2 hk)) f
theorem ReadsW.of {ν : Nu} {i n : Nat} {v : Value} {c : Option Nat} {L : List Wh} {w : World} (hn : n = L.length) (hv : VR ν (.sl i 9 0 0 n c) v) (hb : BR ν i (.row true n 9 (row9 (wfun L)) 60) w) (hf : ∀ b, ν i = some b → b.n < w.heap.size) : ReadsW w v L := by
  subst hn
  rcases hb with ⟨h1, _⟩ | ⟨b, l, t', fz, h1, h2, h6, h4, h5⟩
  · cases h1
  obtain ⟨_, _, rfl, _⟩ := h6 rfl
  refine ⟨fun j => if j = 0 then ν i else none, fun j b' hj => ?_, ?_, ?_⟩
  · simp only at hj
    split at hj
    · have := hf b' hj
      rw [h1] at hj
      cases hj
      exact ⟨by assumption, this, _, _, h2⟩
    · cases hj
  · simp only [VR] at hv ⊢
    obtain ⟨p, c', h1, _, h3, h4⟩ := hv
    exact ⟨p, c', h1, by simp, h3, fun hc => let ⟨b, h5, h6⟩ := h4 hc; ⟨b, by simp [h5], h6⟩⟩
  · exact .inr ⟨b, l, _, fz, by simp [h1], h2, by simp, h4, h5⟩

theorem ReadsW.lt {w : World} {v : Value} {L : List Wh} (h : ReadsW w v L) : ∃ ν : Nu, (∀ i b, ν i = some b → i < 1 ∧ b.n < w.heap.size) ∧ VR ν (.sl 0 9 0 0 L.length none) v ∧ BR ν 0 (.row false L.length 9 (row9 (wfun L)) 60) w := by
  obtain ⟨ν, h1, h2, h3⟩ := h
  exact ⟨ν, fun i b hb => ⟨by have := (h1 i b hb).1; omega, (h1 i b hb).2.1⟩, h2, h3⟩
theorem tup2 {ν : Nu} {a b : AV} {v : Value} (h : VR ν (.tup [a, b]) v) : ∃ x y, v = .tuple #[x, y] ∧ VR ν a x ∧ VR ν b y := by
  simp only [VR] at h
  obtain ⟨l, rfl, h⟩ := h
  match l, h with
  | [x, y], h =>
    simp only [VRs] at h
    exact ⟨x, y, rfl, h.1, h.2.1⟩
theorem vr_v {ν : Nu} {x y : Value} (h : VR ν (.v x) y) : y = x := by simpa only [VR] using h

def UPost (w : World) (b : Bool) (T : List Wh) (e : Ending) (w' : World) : Prop := ∃ s, e = .returned (.tuple #[s, .bool b]) ∧ (b = true → ReadsW w' s T) ∧ Fr (nwM w) w w'
theorem upost {w w' : World} {base : Nat} {T : List Wh} {ν' : Nu} {v : Value} (hv : VR ν' (.tup [.sl base 9 0 0 T.length (some T.length), .v (.bool true)]) v) (hb : BR ν' base (.row true T.length 9 (row9 (wfun T)) 60) w') (hf : ∀ b, ν' base = some b → w.heap.size ≤ b.n ∧ b.n < w'.heap.size) (hr : Fr (nwM w) w w') : UPost w true T (.returned v) w' := by
  obtain ⟨x, y, rfl, h1, h2⟩ := tup2 hv
  rw [vr_v h2]
  exact ⟨x, rfl, fun _ => .of rfl h1 hb fun b hb => (hf b hb).2, hr⟩
theorem upostN {w w' : World} {T : List Wh} {ν' : Nu} {x : AV} {v : Value} (hv : VR ν' (.tup [x, .v (.bool false)]) v) (hr : Fr (nwM w) w w') : UPost w false T (.returned v) w' := by
  obtain ⟨x, y, rfl, h1, h2⟩ := tup2 hv
  rw [vr_v h2]
  exact ⟨x, rfl, fun h => (by cases h), hr⟩
theorem vrs_map {ν : Nu} : ∀ l : List Value, VRs ν (l.map .v) l
  | [] => trivial
  | _ :: l => ⟨rfl, vrs_map l⟩
theorem down_w {f : FuncId} {S : Spec} (h : SpecOk Tryz.prog f S) {δ : Delta} {w : World} {v : Value} {L : List Wh} (vs : List Value) (hR : ReadsW w v L) (hS : S (.sl 0 9 0 0 L.length none :: vs.map .v) [.row false L.length 9 (row9 (wfun L)) 60] 1 = some δ) (ho : obls δ.obl = true) (hp : δ.put = []) (hd : δ.rd = [0]) (ht : TabOk (nwM w) w) :
    Calls Tryz.prog f (v :: vs).toArray w fun e w' => ∃ x ν', e = .returned x ∧ VR ν' δ.val x ∧ (∀ (j : Nat) b, δ.new[j]? = some b → BR ν' (1 + j) b w') ∧ (∀ (j : Nat) b, j < δ.new.length → ν' (1 + j) = some b → w.heap.size ≤ b.n ∧ b.n < w'.heap.size) ∧ Fr (nwM w) w w' := by
  obtain ⟨ν, h1, h2, h3⟩ := hR.lt
  refine h.down hS ho hp (vals := v :: vs) ⟨h2, vrs_map vs⟩ (fun i hi => ?_) h1 ht
  rw [hd] at hi
  obtain rfl := List.mem_singleton.1 hi
  exact h3
theorem down_v {f : FuncId} {S : Spec} (h : SpecOk Tryz.prog f S) {δ : Delta} {w : World} (vs : List Value) (hS : S (vs.map .v) [] 0 = some δ) (ho : obls δ.obl = true) (hp : δ.put = []) (hd : δ.rd = []) (ht : TabOk (nwM w) w) :
    Calls Tryz.prog f vs.toArray w fun e w' => ∃ x ν', e = .returned x ∧ VR ν' δ.val x ∧ (∀ (j : Nat) b, δ.new[j]? = some b → BR ν' (0 + j) b w') ∧ (∀ (j : Nat) b, j < δ.new.length → ν' (0 + j) = some b → w.heap.size ≤ b.n ∧ b.n < w'.heap.size) ∧ Fr (nwM w) w w' := by
  refine h.down (ν := fun _ => none) hS ho hp (vals := vs) (vrs_map vs) (fun i hi => ?_) (fun i b hb => by cases hb) ht
  rw [hd] at hi
  cases hi

def dU (base : Nat) (rd : List Nat) (b : Bool) (T : List Wh) (ob : List Bool) : Delta := { val := .tup [.sl base 9 0 0 T.length (some T.length), .v (.bool b)], rd := rd, put := [], new := [.row false T.length 9 (row9 (wfun T)) 60], obl := ob }
abbrev meL (L : List Wh) : List Wh := listW (itW fun q => row9 (wfun L) (0 + q)) L.length
theorem meL_eq (L : List Wh) : meL L = L := listW_self0 L _ rfl
abbrev obM (L : List Wh) : List Bool := [allW L.length (fun q => row9 (wfun L) (0 + q)), decide (L.length ≤ 2 ^ 38)]
theorem obM_ok {L : List Wh} (hm : L.length ≤ 12) (ob : List Bool) : obls (Nat.ble (0 + L.length) L.length :: (obM L ++ ob)) = obls ob := by
  have h1 : Nat.ble (0 + L.length) L.length = true := by rw [Nat.ble_eq]; omega
  have h2 : allW L.length (fun q => row9 (wfun L) (0 + q)) = true := by rw [row0]; exact allW_row _ _
  have h3 : decide (L.length ≤ 2 ^ 38) = true := decide_eq_true (by omega)
  rw [List.cons_append, List.cons_append, List.nil_append, h1, h2, h3]
  rfl
def VPost (w : World) (x : Value) (e : Ending) (w' : World) : Prop := e = .returned x ∧ Fr (nwM w) w w'
theorem v_w {f : FuncId} {S : Spec} (h : SpecOk Tryz.prog f S) {δ : Delta} {x : Value} {w : World} {v : Value} {L : List Wh} (vs : List Value) (hR : ReadsW w v L) (hS : S (.sl 0 9 0 0 L.length none :: vs.map .v) [.row false L.length 9 (row9 (wfun L)) 60] 1 = some δ) (hx : δ.val.toV = some x) (ho : obls δ.obl = true) (hp : δ.put = []) (hd : δ.rd = [0]) (ht : TabOk (nwM w) w) :
    Calls Tryz.prog f (v :: vs).toArray w (VPost w x) := by
  refine (down_w h vs hR hS ho hp hd ht).mono ?_
  rintro e w' ⟨y, ν', rfl, hy, _, _, hr⟩
  rw [VR_toV hx hy]
  exact ⟨rfl, hr⟩
theorem v_v {f : FuncId} {S : Spec} (h : SpecOk Tryz.prog f S) {δ : Delta} {x : Value} {w : World} (vs : List Value) (hS : S (vs.map .v) [] 0 = some δ) (hx : δ.val.toV = some x) (ho : obls δ.obl = true) (hp : δ.put = []) (hd : δ.rd = []) (ht : TabOk (nwM w) w) :
    Calls Tryz.prog f vs.toArray w (VPost w x) := by
  refine (down_v h vs hS ho hp hd ht).mono ?_
  rintro e w' ⟨y, ν', rfl, hy, _, _, hr⟩
  rw [VR_toV hx hy]
  exact ⟨rfl, hr⟩
end Go.Proofs.YtddhmidegldhdaaGreatDoor

/- Regions whose order is left open, walked once in the order of the text: every operation of the head comes to one value and keeps an invariant of the world, in whatever order; the tail is forced. For every program whose orders are mixed. -/
namespace Go.Proofs.YtddhmidegldhdaaGreatDoor
open Go.RowKit

section
variable {P : Program} {ops : Array Oper} {md : Region.Mode} {I : World → Prop}

def Goes (P : Program) (I : World → Prop) (N : Nat) (dst : Option Tmp) (v : Value) : Result Next → Prop
  | .ok (.value u) w' => (∀ d, dst = some d → d < N → u = v) ∧ I w'
  | .ok .skip w' => (∀ d, dst = some d → d < N → undef = v) ∧ I w'
  | .ok (.enter f args) w' => Calls P f args w' fun e w'' => ∃ u, e = .returned u ∧ (∀ d, dst = some d → d < N → u = v) ∧ I w''
  | .ok (.row row args) w' => Rows P row args w' fun u w'' => (∀ d, dst = some d → d < N → u = v) ∧ I w''
  | _ => False

theorem put_congr {a : Act} {N : Nat} (hN : a.tmps.size = N) {dst : Option Tmp} {u v : Value} (h : ∀ d, dst = some d → d < N → u = v) : a.put dst u = a.put dst v := by
  cases dst with
  | none => rfl
  | some d =>
    by_cases hd : d < N
    · rw [h d rfl hd]
    · have h1 : a.tmps.size ≤ d := by rw [hN]; exact Nat.le_of_not_lt hd
      simp only [Act.put]
      rw [Array.setIfInBounds_eq_of_size_le h1, Array.setIfInBounds_eq_of_size_le h1]

def Sure (P : Program) (ops : Array Oper) (I : World → Prop) (o : Oper) (v : Value) (a : Act) : Prop :=
  (Region.wanted o (yielded ops a.tmps) = true ∧ ∀ w, I w → Goes P I a.tmps.size o.dst v ((execOp a.eval o).run P w)) ∨
  (Region.wanted o (yielded ops a.tmps) = false ∧ v = undef)

theorem Sure.wpOp {i : Nat} {o : Oper} {v : Value} {a : Act} {w : World} {Q : Exit → Act → World → Prop} {K : Act → World → Prop} (hi : ops[i]? = some o) (hy : Sure P ops I o v a) (hI : I w)
    (hK : ∀ w', I w' → K (a.put o.dst v) w') : Go.wpOp P ops Q i K a w := by
  unfold Go.wpOp
  simp only [hi]
  rcases hy with ⟨hw, hg⟩ | ⟨hw, rfl⟩
  · simp only [hw, if_true]
    refine .inl ?_
    have hg := hg w hI
    unfold Oper.wp
    generalize (execOp a.eval o).run P w = r at *
    cases r with
    | ok x w' =>
      cases x <;> simp only [Goes] at hg <;> simp only [Oper.upon]
      case value u => rw [put_congr rfl hg.1]; exact hK _ hg.2
      case skip => rw [put_congr rfl hg.1]; exact hK _ hg.2
      case enter f args =>
        refine hg.mono ?_
        rintro e w'' ⟨u, rfl, hu, hI'⟩
        simp only
        rw [put_congr rfl hu]; exact hK _ hI'
      case row row args =>
        refine hg.mono ?_
        rintro u w'' ⟨hu, hI'⟩
        rw [put_congr rfl hu]; exact hK _ hI'
    | halt x w' => simp only [Goes] at hg
  · simp only [hw, Bool.false_eq_true, if_false]
    exact hK w hI

end
end Go.Proofs.YtddhmidegldhdaaGreatDoor

/- The desk: must, become. No conditions. -/
namespace Go.Proofs.YtddhmidegldhdaaGreatDoor
open Go.RowKit
set_option maxRecDepth 100000

abbrev refV : Value := .iface 131 (.agg #[])
abbrev diesE : Ending := .panicked [{ v := refV, recovered := false }]
set_option maxHeartbeats 1000000 in
theorem must_ok (w : World) : Calls Tryz.prog 157 #[.bool true] w fun e w' => e = .returned (.tuple #[]) ∧ w' = w := by
  have mixed := mixed
  go_enter Tryz.func157, Tryz.ntmps157
  go_wp2
  go_end0
  exact ⟨rfl, rfl⟩
set_option maxHeartbeats 1000000 in
theorem must_no (w : World) : Calls Tryz.prog 157 #[.bool false] w fun e w' => e = diesE ∧ w' = w := by
  have mixed := mixed
  go_enter Tryz.func157, Tryz.ntmps157
  go_wp2
  exact ⟨rfl, rfl, rfl⟩
end Go.Proofs.YtddhmidegldhdaaGreatDoor

/- Texts cut at a byte, joined again; numbers written and read back. Plain. No conditions. -/
namespace Go.Proofs.YtddhmidegldhdaaGreatDoor

def cuC (c : UInt8) : List UInt8 → List (List UInt8)
  | [] => [[]]
  | b :: l => if b = c then [] :: cuC c l else match cuC c l with
    | x :: xs => (b :: x) :: xs
    | [] => [[b]]
theorem cuC_ne (c : UInt8) : ∀ l : List UInt8, cuC c l ≠ []
  | [] => by simp [cuC]
  | b :: l => by
    unfold cuC
    split
    · simp
    · split <;> simp
theorem cuC_free {c : UInt8} : ∀ l : List UInt8, c ∉ l → cuC c l = [l]
  | [], _ => rfl
  | b :: l, h => by
    simp only [List.mem_cons, not_or] at h
    unfold cuC
    rw [if_neg (fun e => h.1 e.symm), cuC_free l h.2]
theorem cuC_app {c : UInt8} : ∀ (x r : List UInt8), c ∉ x → cuC c (x ++ c :: r) = x :: cuC c r
  | [], r, _ => by
    rw [List.nil_append, cuC, if_pos rfl]
  | b :: x, r, h => by
    simp only [List.mem_cons, not_or] at h
    rw [List.cons_append, cuC, if_neg (fun e => h.1 e.symm), cuC_app x r h.2]
theorem cuC_join {c : UInt8} : ∀ (x : List UInt8) (xs : List (List UInt8)), (∀ y ∈ x :: xs, c ∉ y) → cuC c (Lib.join (x :: xs) [c]) = x :: xs
  | x, [], h => by
    rw [Lib.join_one]
    exact cuC_free x (h x List.mem_cons_self)
  | x, y :: ys, h => by
    have ih := cuC_join y ys fun z hz => h z (List.mem_cons_of_mem _ hz)
    rw [Lib.join_cons] at ih
    rw [Lib.join_cons]
    have e : Lib.joinTail [c] (y :: ys) = c :: (y ++ Lib.joinTail [c] ys) := by simp [Lib.joinTail]
    rw [e, cuC_app x _ (h x List.mem_cons_self), ih]

theorem index_free {c : UInt8} : ∀ l : List UInt8, c ∉ l → Lib.index l [c] = -1
  | [], _ => rfl
  | b :: l, h => by
    simp only [List.mem_cons, not_or] at h
    have hp : ([c] : List UInt8).isPrefixOf (b :: l) = false := by simp [List.isPrefixOf, h.1]
    rw [Lib.index, hp, index_free l h.2]
    rfl
theorem index_app {c : UInt8} : ∀ (x r : List UInt8), c ∉ x → Lib.index (x ++ c :: r) [c] = (x.length : Int)
  | [], r, _ => by
    rw [List.nil_append, Lib.index]
    simp [List.isPrefixOf]
  | b :: x, r, h => by
    simp only [List.mem_cons, not_or] at h
    have hp : ([c] : List UInt8).isPrefixOf (b :: (x ++ c :: r)) = false := by simp [List.isPrefixOf, h.1]
    rw [List.cons_append, Lib.index, hp, index_app x r h.2]
    have : ((x.length : Int) == -1) = false := by rw [beq_eq_false_iff_ne]; omega
    rw [this]
    simp
theorem cut_first (c : UInt8) : ∀ l : List UInt8, c ∈ l → ∃ x r, l = x ++ c :: r ∧ c ∉ x
  | b :: l, h => by
    by_cases e : b = c
    · exact ⟨[], l, by rw [e]; rfl, by simp⟩
    · have : c ∈ l := by
        rcases List.mem_cons.1 h with h | h
        · exact absurd h.symm e
        · exact h
      obtain ⟨x, r, h1, h2⟩ := cut_first c l this
      exact ⟨b :: x, r, by rw [h1]; rfl, by simp only [List.mem_cons, not_or]; exact ⟨fun e' => e e'.symm, h2⟩⟩
theorem splitK_cuC {c : UInt8} : ∀ (k : Nat) (s : List UInt8), s.count c = k → Lib.splitK [c] 0 k s = cuC c s
  | 0, s, h => by
    rw [Lib.splitK, cuC_free s (List.count_eq_zero.1 h)]
  | k + 1, s, h => by
    have hm : c ∈ s := by
      rw [← List.count_pos_iff]
      omega
    obtain ⟨x, r, rfl, hx⟩ := cut_first c s hm
    have hr : r.count c = k := by
      rw [List.count_append, List.count_cons_self, List.count_eq_zero.2 hx] at h
      omega
    rw [Lib.splitK, index_app x r hx, cuC_app x r hx]
    have : ((x.length : Int) == -1) = false := by rw [beq_eq_false_iff_ne]; omega
    rw [this]
    simp only [Bool.false_eq_true, if_false, Int.toNat_natCast, Nat.add_zero, List.take_left, List.length_singleton]
    rw [show List.drop (x.length + 1) (x ++ c :: r) = r from by rw [← List.drop_drop, List.drop_left]; rfl, splitK_cuC k r hr]
theorem cut_free {c : UInt8} {l : List UInt8} (h : c ∉ l) : Lib.cut l [c] = (l, [], false) := by
  rw [Lib.cut, index_free l h]
  rfl
theorem cut_app {c : UInt8} {x r : List UInt8} (h : c ∉ x) : Lib.cut (x ++ c :: r) [c] = (x, r, true) := by
  rw [Lib.cut, index_app x r h, if_pos (by omega)]
  simp only [Int.toNat_natCast, List.take_left, List.length_singleton, Prod.mk.injEq, and_true, true_and]
  rw [← List.drop_drop, List.drop_left]
  rfl

def digU (b : UInt8) : Prop := 48 ≤ b.toNat ∧ b.toNat ≤ 57
theorem decDigits_dig (u : Nat) : ∀ b ∈ Lib.decDigits u, digU b := by
  induction u using Nat.strongRecOn with
  | _ u ih =>
    have one : ∀ k, k < 10 → digU (UInt8.ofNat (48 + k)) := fun k hk => by
      have : (UInt8.ofNat (48 + k)).toNat = 48 + k := by rw [UInt8.toNat_ofNat']; omega
      rw [digU, this]
      omega
    intro b hb
    rw [Lib.decDigits] at hb
    split at hb
    · rename_i h
      simp only [List.mem_singleton] at hb
      subst hb
      exact one u h
    · rename_i h
      rcases List.mem_append.1 hb with hb | hb
      · exact ih (u / 10) (by omega) b hb
      · simp only [List.mem_singleton] at hb
        subst hb
        exact one _ (Nat.mod_lt _ (by omega))
theorem itoa_chars (n : Int) : ∀ b ∈ Lib.itoa n, b.toNat = 45 ∨ digU b := by
  intro b hb
  rw [Lib.itoa] at hb
  split at hb
  · rcases List.mem_cons.1 hb with rfl | hb
    · exact .inl rfl
    · exact .inr (decDigits_dig _ b hb)
  · exact .inr (decDigits_dig _ b hb)
theorem itoa_free {c : UInt8} (h : c.toNat ≠ 45 ∧ (c.toNat < 48 ∨ 57 < c.toNat)) (n : Int) : c ∉ Lib.itoa n := fun hc => by
  rcases itoa_chars n c hc with e | e
  · exact h.1 e
  · unfold digU at e
    omega
theorem decDigits_ne (u : Nat) : Lib.decDigits u ≠ [] := by
  rw [Lib.decDigits]
  split <;> simp
theorem parse_app : ∀ (l1 l2 : List UInt8) (acc v : Nat), Lib.parseUint10 acc l1 = .ok v → Lib.parseUint10 acc (l1 ++ l2) = Lib.parseUint10 v l2
  | [], l2, acc, v, h => by
    simp only [Lib.parseUint10, Lib.NumEnd.ok.injEq] at h
    rw [h]
    rfl
  | b :: l, l2, acc, v, h => by
    rw [List.cons_append]
    simp only [Lib.parseUint10] at h ⊢
    split at h
    · rename_i h1
      rw [if_pos h1]
      split at h
      · cases h
      · rename_i h2
        rw [if_neg h2]
        split at h
        · cases h
        · rename_i h3
          rw [if_neg h3]
          exact parse_app l l2 _ v h
    · cases h
theorem parse_digits (u : Nat) (hu : u < 10 ^ 18) : Lib.parseUint10 0 (Lib.decDigits u) = .ok u := by
  induction u using Nat.strongRecOn with
  | _ u ih =>
    have one : ∀ a k, a < 10 ^ 17 → k < 10 → Lib.parseUint10 a [UInt8.ofNat (48 + k)] = .ok (a * 10 + k) := fun a k ha hk => by
      have e : (UInt8.ofNat (48 + k)).toNat = 48 + k := by rw [UInt8.toNat_ofNat']; omega
      simp only [Lib.parseUint10, e]
      rw [if_pos (by omega), if_neg (by omega), if_neg (by omega)]
      congr 1
      omega
    rw [Lib.decDigits]
    split
    · rename_i h
      rw [one 0 u (by omega) h, Nat.zero_mul, Nat.zero_add]
    · rw [parse_app _ _ _ _ (ih (u / 10) (by omega) (by omega)), one _ _ (by omega) (Nat.mod_lt _ (by omega))]
      congr 1
      omega
theorem atoi_itoa (n : Int) (h1 : -10 ^ 17 < n) (h2 : n < 10 ^ 17) : Lib.atoiAll (Lib.itoa n) = .ok n := by
  rw [Lib.itoa]
  split
  · rename_i h
    unfold Lib.atoiAll
    have e : (45 : UInt8).toNat = 45 := rfl
    simp only [e, or_true, if_true]
    rw [Lib.parseMag, if_neg (decDigits_ne _), parse_digits _ (by omega)]
    simp only [not_true, false_and, if_false, true_and]
    rw [if_neg (by omega)]
    simp only [Lib.NumEnd.ok.injEq]
    omega
  · rename_i h
    have hd := decDigits_dig n.toNat
    have hp := parse_digits n.toNat (by omega)
    have hne := decDigits_ne n.toNat
    cases hl : Lib.decDigits n.toNat with
    | nil => exact absurd hl hne
    | cons b l =>
      rw [hl] at hd hp
      have hb := hd b List.mem_cons_self
      unfold digU at hb
      unfold Lib.atoiAll
      simp only
      rw [if_neg (by omega), Lib.parseMag, if_neg (by simp), hp]
      simp only
      rw [if_neg (by omega), if_neg (by omega)]
      simp only [Lib.NumEnd.ok.injEq]
      rw [if_neg (by omega)]
      omega
end Go.Proofs.YtddhmidegldhdaaGreatDoor

/- Decimal numbers: strconv.Itoa by the shelf's contract, the reference's l6Dec by walking. Conditions: the int's range. -/
namespace Go.Proofs.YtddhmidegldhdaaGreatDoor
open Go.RowKit Go.Shelf
set_option maxRecDepth 100000

def Tryz.laysItoa_ren : Go.Shelf.Ren := ⟨fun | 171 => 48 | 243 => 109 | 246 => 167 | 283 => 239 | 284 => 240 | 285 => 241 | 286 => 242 | 129 => 209 | 317 => 296 | 318 => 297 | 319 => 298 | 320 => 299 | 337 => 321 | 338 => 322 | n => n, fun | 3 => 3 | 9 => 9 | 2 => 2 | 4 => 4 | 171 => 263 | 0 => 0 | 53 => 207 | 37 => 22 | 5 => 5 | 173 => 265 | 212 => 305 | 51 => 203 | 20 => 20 | 213 => 306 | 46 => 175 | 232 => 339 | 233 => 340 | n => n, fun | 17 => 3 | 18 => 8 | 19 => 9 | n => n⟩
theorem Tryz.laysItoa : Go.Proofs.LaysM.n171 Tryz.prog Tryz.laysItoa_ren := {
  mixed := by kernel_rfl
  f129 := Tryz.func209.trans (congrArg some (by kernel_rfl))
  f171 := Tryz.func48.trans (congrArg some (by kernel_rfl))
  f243 := Tryz.func109.trans (congrArg some (by kernel_rfl))
  f246 := Tryz.func167.trans (congrArg some (by kernel_rfl))
  f283 := Tryz.func239.trans (congrArg some (by kernel_rfl))
  f284 := Tryz.func240.trans (congrArg some (by kernel_rfl))
  f285 := Tryz.func241.trans (congrArg some (by kernel_rfl))
  f286 := Tryz.func242.trans (congrArg some (by kernel_rfl))
  f317 := Tryz.func296.trans (congrArg some (by kernel_rfl))
  f318 := Tryz.func297.trans (congrArg some (by kernel_rfl))
  f319 := Tryz.func298.trans (congrArg some (by kernel_rfl))
  f320 := Tryz.func299.trans (congrArg some (by kernel_rfl))
  f337 := Tryz.func321.trans (congrArg some (by kernel_rfl))
  f338 := Tryz.func322.trans (congrArg some (by kernel_rfl))
  t0 := Tryz.underlying0
  a0 := Tryz.isAgg0
  z0 := Tryz.sizeOf0
  v0 := Tryz.zeroValue0
  t2 := Tryz.underlying2
  a2 := Tryz.isAgg2
  z2 := Tryz.sizeOf2
  v2 := Tryz.zeroValue2
  t3 := Tryz.underlying3
  a3 := Tryz.isAgg3
  z3 := Tryz.sizeOf3
  v3 := Tryz.zeroValue3
  t4 := Tryz.underlying4
  a4 := Tryz.isAgg4
  z4 := Tryz.sizeOf4
  v4 := Tryz.zeroValue4
  t5 := Tryz.underlying5
  a5 := Tryz.isAgg5
  z5 := Tryz.sizeOf5
  v5 := Tryz.zeroValue5
  t9 := Tryz.underlying9
  a9 := Tryz.isAgg9
  z9 := Tryz.sizeOf9
  v9 := Tryz.zeroValue9
  t20 := Tryz.underlying20
  a20 := Tryz.isAgg20
  z20 := Tryz.sizeOf20
  v20 := Tryz.zeroValue20
  t37 := Tryz.underlying22
  a37 := Tryz.isAgg22
  z37 := Tryz.sizeOf22
  v37 := Tryz.zeroValue22
  t46 := Tryz.underlying175
  a46 := Tryz.isAgg175
  z46 := Tryz.sizeOf175
  v46 := Tryz.zeroValue175
  t51 := Tryz.underlying203
  a51 := Tryz.isAgg203
  z51 := Tryz.sizeOf203
  v51 := Tryz.zeroValue203
  t53 := Tryz.underlying207
  a53 := Tryz.isAgg207
  z53 := Tryz.sizeOf207
  v53 := Tryz.zeroValue207
  t171 := Tryz.underlying263
  a171 := Tryz.isAgg263
  z171 := Tryz.sizeOf263
  v171 := Tryz.zeroValue263
  t173 := Tryz.underlying265
  a173 := Tryz.isAgg265
  z173 := Tryz.sizeOf265
  v173 := Tryz.zeroValue265
  t212 := Tryz.underlying305
  a212 := Tryz.isAgg305
  z212 := Tryz.sizeOf305
  v212 := Tryz.zeroValue305
  t213 := Tryz.underlying306
  a213 := Tryz.isAgg306
  z213 := Tryz.sizeOf306
  t232 := Tryz.underlying339
  a232 := Tryz.isAgg339
  z232 := Tryz.sizeOf339
  v232 := Tryz.zeroValue339
  t233 := Tryz.underlying340
  a233 := Tryz.isAgg340
  z233 := Tryz.sizeOf340
  v233 := Tryz.zeroValue340
  g17 := by kernel_rfl
  g18 := by kernel_rfl
  g19 := by kernel_rfl
  i0 := by kernel_rfl
  i2 := by kernel_rfl
  i3 := by kernel_rfl
  i4 := by kernel_rfl
  i5 := by kernel_rfl
  i9 := by kernel_rfl
  i20 := by kernel_rfl
  i37 := by kernel_rfl
  i46 := by kernel_rfl
  i51 := by kernel_rfl
  i53 := by kernel_rfl
  i171 := by kernel_rfl
  i173 := by kernel_rfl
  i212 := by kernel_rfl
  i232 := by kernel_rfl
  i233 := by kernel_rfl
  m17 := by kernel_rfl
  m18 := by kernel_rfl
  m19 := by kernel_rfl }

def decB (n : Int) : ByteArray := ⟨(Lib.itoa n).toArray⟩
def fDec : List Value → Option (Value × List Bool)
  | [.int .i64 n] => some (.string (decB n), [decide (-9223372036854775808 ≤ n), decide (n ≤ 9223372036854775807)])
  | _ => none

theorem tab_pow10 {M : Nat → Prop} {w : World} (h : TabOk M w) : Lib.TabIs Tryz.prog w "internal/strconv.uint64pow10" .u64 Lib.pow10Tab := by
  obtain ⟨_, l, t, fz, h1, rfl⟩ := h _ List.mem_cons_self
  have e : Tryz.prog.globalNamed "internal/strconv.uint64pow10" = some 3 := by kernel_rfl
  simp only [Lib.TabIs, World.var?, e, Option.bind_some, h1]

theorem fr_grow (w : World) (k : Nat) (os : Array Obj) : Fr (fun _ => False) w (Sort.grow (w.drewN k) os) := by
  refine ⟨rfl, rfl, rfl, by simp [Sort.grow], fun i hi _ => ?_⟩
  simp only [Sort.grow, World.heap_drewN]
  rw [Array.getElem?_append_left (by simpa using hi)]

theorem ok_itoa : SpecOk Tryz.prog 48 (specV fDec) := by
  refine specV_ok (fun args w => enters 48 Tryz.f48 Tryz.func48 rfl args w) fun vs x ob hF ho w ht => ?_
  unfold fDec at hF
  split at hF
  · rename_i n
    simp only [Option.some.injEq, Prod.mk.injEq] at hF
    obtain ⟨rfl, rfl⟩ := hF
    obtain ⟨h1, h2⟩ := obl2 ho
    refine (Any.strconv_Itoa Tryz.laysItoa n (of_decide_eq_true h1) (of_decide_eq_true h2) w (tab_pow10 ht)).mono ?_
    rintro e w' ⟨rfl, k, os, rfl⟩
    exact ⟨rfl, fr_grow w k os⟩
  · cases hF


def fDecP (dc : Int → ByteArray) (p : Int → Bool) : List Value → Option (Value × List Bool)
  | [.int .i64 n] => some (.string (dc n), [p n])
  | _ => none
def gmDec (dc : Int → ByteArray) (p : Int → Bool) : Gam := ext g0 63 (specV (fDecP dc p))

theorem treeDec_h (dc : Int → ByteArray) (p : Int → Bool) (n : Int) (u0 : _) (hu0 : (IntKind.wrap .i64 ((48 : Int) + Int.tmod n (10 : Int))) = u0) (u1 : _) (hu1 : (IntKind.wrap .i64 (Int.tdiv n (10 : Int))) = u1) (u2 : _) (hu2 : (IntKind.wrap .i64 ((48 : Int) + n)) = u2) (u3 : _) (hu3 : (IntKind.wrap .i64 ((0 : Int) - n)) = u3) (u4 : _) (hu4 : (txOf [u8Of (IntKind.wrap .u8 u0)]) = u4) : execF Tryz.prog (gmDec dc p) noLam 100 Tryz.f63 [.v (i64 n)] [] valK
    = bif decide (n < (-9223372036854775807 : Int)) then Res.out .ret [AV.v (.string (ByteArray.mk (Array.mk [(45 : UInt8), (57 : UInt8), (50 : UInt8), (50 : UInt8), (51 : UInt8), (51 : UInt8), (55 : UInt8), (50 : UInt8), (48 : UInt8), (51 : UInt8), (54 : UInt8), (56 : UInt8), (53 : UInt8), (52 : UInt8), (55 : UInt8), (55 : UInt8), (53 : UInt8), (56 : UInt8), (48 : UInt8), (56 : UInt8)])))] [] else bif decide (n < (0 : Int)) then needs [p u3, Nat.ble ((1 : Nat) + ByteArray.size (dc u3)) (9223372036854775807 : Nat)] (Res.out .ret [AV.v (.string (catB (ByteArray.mk (Array.mk [(45 : UInt8)])) (dc u3)))] []) else bif decide (n < (10 : Int)) then needs [decide ((0 : Int) ≤ IntKind.wrap .u8 u2), decide (IntKind.wrap .u8 u2 < (256 : Int))] (Res.out .ret [AV.v (.string (txOf [u8Of (IntKind.wrap .u8 u2)]))] []) else needs [p u1, decide ((0 : Int) ≤ IntKind.wrap .u8 u0), decide (IntKind.wrap .u8 u0 < (256 : Int)), Nat.ble (ByteArray.size (dc u1) + ByteArray.size u4) (9223372036854775807 : Nat)] (Res.out .ret [AV.v (.string (catB (dc u1) u4))] []) := by
  subst hu4 hu3 hu2 hu1 hu0
  kernel_rfl
theorem treeDec (dc : Int → ByteArray) (p : Int → Bool) (n : Int) : type_of% (treeDec_h dc p n _ rfl _ rfl _ rfl _ rfl _ rfl) := treeDec_h dc p n _ rfl _ rfl _ rfl _ rfl _ rfl

theorem nDigits_le : ∀ (k u : Nat), u < 10 ^ (k + 1) → Lib.nDigits u ≤ k + 1
  | 0, u, h => by rw [Lib.nDigits_small (by simpa using h)]; omega
  | k + 1, u, h => by
    by_cases hu : u < 10
    · rw [Lib.nDigits_small hu]; omega
    · rw [Lib.nDigits_big hu]
      have := nDigits_le k (u / 10) (by rw [Nat.pow_succ] at h; omega)
      omega
theorem decB_size {n : Int} (h1 : -10000000000000000000 < n) (h2 : n < 10000000000000000000) : (decB n).size ≤ 20 := by
  simp only [decB, ByteArray.size, List.size_toArray, Lib.itoa]
  split
  · rw [List.length_cons, Lib.decDigits_length]
    have := nDigits_le 18 n.natAbs (by omega)
    omega
  · rw [Lib.decDigits_length]
    have := nDigits_le 18 n.toNat (by omega)
    omega
theorem decB_neg {n : Int} (h : n < 0) : decB n = catB ⟨⟨[45]⟩⟩ (decB (-n)) := by
  have h1 : Lib.itoa n = 45 :: Lib.decDigits n.natAbs := by rw [Lib.itoa, if_pos h]
  have h2 : Lib.itoa (-n) = Lib.decDigits n.natAbs := by rw [Lib.itoa, if_neg (by omega), show (-n).toNat = n.natAbs by omega]
  simp only [decB, catB, h1, h2]
  exact (ByteArray.mk_append_mk [45] (Lib.decDigits n.natAbs)).symm
theorem u8Of_dig {n : Int} (h0 : 0 ≤ n) (h1 : n < 10) : u8Of (IntKind.u8.wrap (48 + n)) = UInt8.ofNat (48 + n.toNat) := by
  have : IntKind.u8.wrap (48 + n) = 48 + n := by rw [IntKind.wrap_u8]; omega
  rw [this, u8Of]
  congr 1
  omega
theorem decB_small {n : Int} (h0 : 0 ≤ n) (h1 : n < 10) : decB n = txOf [u8Of (IntKind.u8.wrap (48 + n))] := by
  rw [u8Of_dig h0 h1, decB, txOf, Lib.itoa, if_neg (by omega), Lib.decDigits_one (by omega)]
theorem decB_big {n : Int} (h1 : 10 ≤ n) : decB n = catB (decB (n.tdiv 10)) (txOf [u8Of (IntKind.u8.wrap (48 + n.tmod 10))]) := by
  have e1 : n.tdiv 10 = n / 10 := Int.tdiv_eq_ediv_of_nonneg (by omega)
  have e2 : n.tmod 10 = n % 10 := Int.tmod_eq_emod_of_nonneg (by omega)
  rw [e1, e2, u8Of_dig (by omega) (by omega)]
  have h2 : Lib.itoa n = Lib.decDigits (n / 10).toNat ++ [UInt8.ofNat (48 + (n % 10).toNat)] := by
    rw [Lib.itoa, if_neg (by omega), Lib.decDigits, dif_neg (by omega), show n.toNat / 10 = (n / 10).toNat by omega, show n.toNat % 10 = (n % 10).toNat by omega]
  have h3 : Lib.itoa (n / 10) = Lib.decDigits (n / 10).toNat := by rw [Lib.itoa, if_neg (by omega)]
  simp only [decB, catB, txOf, h2, h3]
  exact (ByteArray.mk_append_mk _ _).symm

theorem dec_step {p q : Int → Bool} (hp : SpecOk Tryz.prog 63 (specV (fDecP decB p))) (h1 : ∀ n, q n = true → -9223372036854775807 ≤ n ∧ n ≤ 9223372036854775807) (h2 : ∀ n, q n = true → n < 0 → p (-n) = true)
    (h3 : ∀ n, q n = true → 10 ≤ n → p (n.tdiv 10) = true) : SpecOk Tryz.prog 63 (specV (fDecP decB q)) := by
  refine mkV (n := 100) (ext_ok g0_ok hp) Tryz.func63 rfl fun vs x ob hF ho => ?_
  unfold fDecP at hF
  split at hF
  · rename_i n
    simp only [Option.some.injEq, Prod.mk.injEq] at hF
    obtain ⟨rfl, rfl⟩ := hF
    have hq : q n = true := by simpa [obls] using ho
    obtain ⟨r1, r2⟩ := h1 n hq
    have e := treeDec decB p n
    unfold gmDec at e
    simp only [List.map_cons, List.map_nil]
    rw [e]
    have W1 : ∀ {x : Int}, -9223372036854775808 ≤ x → x ≤ 9223372036854775807 → IntKind.wrap IntKind.i64 x = x := fun a b => wr_in ⟨a, b⟩
    have U1 : ∀ {x : Int}, 0 ≤ x → x < 10 → 0 ≤ IntKind.wrap IntKind.u8 (48 + x) ∧ IntKind.wrap IntKind.u8 (48 + x) < 256 := fun _ _ => by rw [IntKind.wrap_u8]; omega
    suffices h : GoodQ _ (Gives (.string (decB n))) from ⟨h.out⟩
    refine good_cond (fun c1 => ?_) fun _ => good_cond (fun c2 => ?_) fun c2 => good_cond (fun c3 => ?_) fun c3 => ?_
    · have c1 := of_decide_eq_true c1
      omega
    · have c2 := of_decide_eq_true c2
      rw [W1 (by omega) (by omega), Int.zero_sub]
      have hs := decB_size (n := -n) (by omega) (by omega)
      refine good_needs (by simp only [ob_cons, ob_nil, and_true, Nat.ble_eq]; exact ⟨h2 n hq c2, by omega⟩) (good_out ⟨_, rfl, ?_⟩)
      rw [decB_neg c2]
      rfl
    · have c2 := of_decide_eq_false c2
      have c3 := of_decide_eq_true c3
      rw [W1 (by omega) (by omega)]
      obtain ⟨u1, u2⟩ := U1 (x := n) (by omega) (by omega)
      refine good_needs (by simp only [ob_cons, ob_nil, and_true, decide_eq_true_eq]; exact ⟨u1, u2⟩) (good_out ⟨_, rfl, ?_⟩)
      rw [decB_small (by omega) (by omega)]
      rfl
    · have c2 := of_decide_eq_false c2
      have c3 := of_decide_eq_false c3
      have e1 : n.tdiv 10 = n / 10 := Int.tdiv_eq_ediv_of_nonneg (by omega)
      have e2 : n.tmod 10 = n % 10 := Int.tmod_eq_emod_of_nonneg (by omega)
      have hp := h3 n hq (by omega)
      rw [W1 (x := n.tdiv 10) (by omega) (by omega), W1 (x := 48 + n.tmod 10) (by omega) (by omega)]
      obtain ⟨u1, u2⟩ := U1 (x := n.tmod 10) (by omega) (by omega)
      have hs := decB_size (n := n.tdiv 10) (by omega) (by omega)
      have ht : (txOf [u8Of (IntKind.wrap IntKind.u8 (48 + n.tmod 10))]).size = 1 := rfl
      refine good_needs (by simp only [ob_cons, ob_nil, and_true, decide_eq_true_eq, Nat.ble_eq]; exact ⟨hp, u1, u2, by omega⟩) (good_out ⟨_, rfl, ?_⟩)
      rw [decB_big (n := n) (by omega)]
      rfl
  · cases hF

def inDec (k : Nat) (n : Int) : Bool := decide (0 ≤ n ∧ n < 10 ^ k ∧ n ≤ 9223372036854775807)
theorem dec_zero : SpecOk Tryz.prog 63 (specV (fDecP decB fun _ => false)) := by
  refine specV_ok (fun args w => enters 63 Tryz.f63 Tryz.func63 rfl args w) fun vs x ob hF ho => ?_
  unfold fDecP at hF
  split at hF
  · simp only [Option.some.injEq, Prod.mk.injEq] at hF
    obtain ⟨rfl, rfl⟩ := hF
    simp [obls] at ho
  · cases hF
theorem dec_at : ∀ k : Nat, SpecOk Tryz.prog 63 (specV (fDecP decB (inDec (k + 1))))
  | 0 => dec_step dec_zero (fun n h => by simp only [inDec, decide_eq_true_eq] at h; omega) (fun n h => by simp only [inDec, decide_eq_true_eq] at h; omega) (fun n h => by simp only [inDec, decide_eq_true_eq] at h; omega)
  | k + 1 => dec_step (dec_at k) (fun n h => by simp only [inDec, decide_eq_true_eq] at h; omega) (fun n h => by simp only [inDec, decide_eq_true_eq] at h; omega) (fun n h h10 => by
    simp only [inDec, decide_eq_true_eq] at h ⊢
    rw [Int.pow_succ] at h
    have e1 : n.tdiv 10 = n / 10 := Int.tdiv_eq_ediv_of_nonneg (by omega)
    omega)
theorem ok_dec : SpecOk Tryz.prog 63 (specV (fDecP decB fun n => decide (-9223372036854775807 ≤ n ∧ n ≤ 9223372036854775807))) :=
  dec_step (dec_at 19) (fun n h => by simpa using h) (fun n h h0 => by simp only [inDec, decide_eq_true_eq] at h ⊢; omega) (fun n h h0 => by
    simp only [inDec, decide_eq_true_eq] at h ⊢
    have e1 : n.tdiv 10 = n / 10 := Int.tdiv_eq_ediv_of_nonneg (by omega)
    omega)
end Go.Proofs.YtddhmidegldhdaaGreatDoor

/- strings.Join by the shelf's contract: a list of texts as a read-only row. Conditions: the lengths. -/
namespace Go.Proofs.YtddhmidegldhdaaGreatDoor
open Go.RowKit Go.Shelf
set_option maxRecDepth 100000

def Tryz.lays156_ren : Go.Shelf.Ren := ⟨fun | 156 => 86 | 165 => 141 | 166 => 46 | 169 => 49 | 240 => 88 | 241 => 210 | 276 => 145 | 277 => 276 | n => n, fun | 31 => 71 | 9 => 9 | 3 => 3 | 4 => 4 | 0 => 0 | 20 => 20 | 72 => 70 | 76 => 50 | 70 => 68 | 37 => 22 | 75 => 49 | 127 => 135 | 164 => 160 | 5 => 5 | 80 => 74 | n => n, fun | n => n⟩
theorem Tryz.lays156 : Go.Proofs.Lays.n156 Tryz.prog Tryz.lays156_ren := {
  mixed := by kernel_rfl
  f156 := Tryz.func86.trans (congrArg some (by kernel_rfl))
  f165 := Tryz.func141.trans (congrArg some (by kernel_rfl))
  f166 := Tryz.func46.trans (congrArg some (by kernel_rfl))
  f169 := Tryz.func49.trans (congrArg some (by kernel_rfl))
  f240 := Tryz.func88.trans (congrArg some (by kernel_rfl))
  f241 := Tryz.func210.trans (congrArg some (by kernel_rfl))
  f276 := Tryz.func145.trans (congrArg some (by kernel_rfl))
  f277 := Tryz.func276.trans (congrArg some (by kernel_rfl))
  t0 := Tryz.underlying0
  a0 := Tryz.isAgg0
  z0 := Tryz.sizeOf0
  v0 := Tryz.zeroValue0
  t3 := Tryz.underlying3
  a3 := Tryz.isAgg3
  z3 := Tryz.sizeOf3
  v3 := Tryz.zeroValue3
  t4 := Tryz.underlying4
  a4 := Tryz.isAgg4
  z4 := Tryz.sizeOf4
  v4 := Tryz.zeroValue4
  t9 := Tryz.underlying9
  a9 := Tryz.isAgg9
  z9 := Tryz.sizeOf9
  v9 := Tryz.zeroValue9
  t20 := Tryz.underlying20
  a20 := Tryz.isAgg20
  z20 := Tryz.sizeOf20
  v20 := Tryz.zeroValue20
  t31 := Tryz.underlying71
  a31 := Tryz.isAgg71
  z31 := Tryz.sizeOf71
  v31 := Tryz.zeroValue71
  t37 := Tryz.underlying22
  a37 := Tryz.isAgg22
  z37 := Tryz.sizeOf22
  v37 := Tryz.zeroValue22
  t70 := Tryz.underlying68
  a70 := Tryz.isAgg68
  z70 := Tryz.sizeOf68
  v70 := Tryz.zeroValue68
  t72 := Tryz.underlying70
  a72 := Tryz.isAgg70
  z72 := Tryz.sizeOf70
  v72 := Tryz.zeroValue70
  t75 := Tryz.underlying49
  a75 := Tryz.isAgg49
  z75 := Tryz.sizeOf49
  v75 := Tryz.zeroValue49
  t76 := Tryz.underlying50
  a76 := Tryz.isAgg50
  z76 := Tryz.sizeOf50
  v76 := Tryz.zeroValue50
  t127 := Tryz.underlying135
  a127 := Tryz.isAgg135
  z127 := Tryz.sizeOf135
  v127 := Tryz.zeroValue135
  t164 := Tryz.underlying160
  a164 := Tryz.isAgg160
  z164 := Tryz.sizeOf160
  v164 := Tryz.zeroValue160 }
theorem Tryz.extra156 : Builder.Extra Tryz.prog Tryz.lays156_ren where
  sizeBuilder := by kernel_rfl
  liesBuilder := by kernel_rfl
  t5 := Tryz.underlying5
  a5 := Tryz.isAgg5
  z5 := Tryz.sizeOf5
  v5 := Tryz.zeroValue5
  infoByte := by kernel_rfl
  cellsByte := by kernel_rfl
  sizeByte := by kernel_rfl
  neB5 := by decide

theorem RH.quiet {M : Nat → Prop} {ν : Nu} {H : Nat → AB} {w w' : World} (h : RH M ν H w) (f : Fr (fun _ => False) w w') : RH M ν H w' :=
  ⟨fun i => (h.br i).of_block fun k hk _ => f.block _ (h.lt i k hk) fun x => x, h.sep, h.own, fun i b hb => Nat.lt_of_lt_of_le (h.lt i b hb) f.size, h.tab.block fun k hk _ => f.block k hk fun x => x⟩

def strV : List Value → ByteArray
  | [.string s] => s
  | _ => ⟨#[]⟩
def isS : List Value → Bool
  | [.string _] => true
  | _ => false
def allS (m : Nat) (g : Nat → List Value) : Bool := (List.range m).all fun j => isS (g j)
def strs (g : Nat → List Value) (m : Nat) : List ByteArray := (List.range m).map fun j => strV (g j)
def joinB (xs : List ByteArray) (sep : ByteArray) : ByteArray := ⟨(Lib.join (xs.map (·.data.toList)) sep.data.toList).toArray⟩
theorem allS_get {m : Nat} {g : Nat → List Value} (h : allS m g = true) {j : Nat} (hj : j < m) : g j = [.string (strV (g j))] := by
  have := List.all_eq_true.1 h j (List.mem_range.2 hj)
  match hg : g j, this with
  | [.string s], _ => rfl

def FjoO (jn : List ByteArray → ByteArray → ByteArray) : List SA → Option FR
  | [.row m g, .v (.string sep)] => some { val := .v (.string (jn (strs g m) sep)), obl := [allS m g, Nat.ble m 1048576, Nat.ble (jn (strs g m) sep).size 140737488355328] }
  | _ => none
theorem ok_join : SpecOk Tryz.prog 86 (specR [.rd 1 9, .val] (FjoO joinB)) := by
  refine specR_calls enters Tryz.func86 rfl fun sas fr hF ho => ?_
  unfold FjoO at hF
  split at hF
  · rename_i m g sep
    simp only [Option.some.injEq] at hF
    subst hF
    simp only [ob_cons, ob_nil, and_true, Nat.ble_eq] at ho
    obtain ⟨hS, hm, hl⟩ := ho
    refine ⟨_, Hsim.refl _, fun M vals w ν hM hv hH hdom => ?_⟩
    have fin : ∀ w', Fr (fun _ => False) w w' → RetG (GivR (abP [Md.rd 1 9, .val] [SA.row m g, .v (.string sep)] []) { val := .v (.string (joinB (strs g m) sep)), obl := [allS m g, Nat.ble m 1048576, Nat.ble (joinB (strs g m) sep).size 140737488355328] }) M ν w (.returned (.string (joinB (strs g m) sep))) w' := fun w' f =>
      ⟨_, _, abC [Md.rd 1 9, .val] [SA.row m g, .v (.string sep)], ν, rfl, ⟨_, rfl, rfl, Hsim.refl _⟩, by simp only [VR], hH.quiet f, f.mono fun _ _ h => h.elim, Le.refl _, hdom⟩
    match vals, hv with
    | [x, y], hv =>
      simp only [avC, VRs, VR, and_true] at hv
      obtain ⟨⟨p, c, rfl, _, hc, hp⟩, rfl⟩ := hv
      have hb := hH.br 0
      simp only [abC, List.getD_cons_zero] at hb
      have none' : m = 0 → Calls Tryz.prog 86 #[.slice p m c, .string sep] w (RetG (GivR (abP [Md.rd 1 9, .val] [SA.row m g, .v (.string sep)] []) { val := .v (.string (joinB (strs g m) sep)), obl := [allS m g, Nat.ble m 1048576, Nat.ble (joinB (strs g m) sep).size 140737488355328] }) M ν w) := by
        rintro rfl
        refine (Any.strings_Join_none Tryz.lays156 Tryz.extra156 p c sep w).mono ?_
        rintro e w' ⟨rfl, rfl⟩
        exact fin w' (Fr.refl _ _)
      by_cases h0 : m = 0
      · exact none' h0
      · obtain ⟨b, hb1, hp1⟩ := hp (by omega)
        subst hp1
        rcases hb with ⟨_, h1, _⟩ | ⟨b', l, t', fz, h1, h2, _, hn, hg⟩
        · exact absurd h1 h0
        · rw [hb1] at h1
          cases h1
          have hlen : (strs g m).length = m := by simp [strs]
          have := Any.strings_Join Tryz.lays156 Tryz.extra156 b.n b.o c (strs g m) sep w (fun j x hx => ?_) (hH.lt 0 b hb1) (by omega) (by omega) (by simpa [joinB, ByteArray.size] using hl)
          · rw [hlen] at this
            refine this.mono ?_
            rintro e w' ⟨rfl, hbl⟩
            exact fin w' (Below.fr hbl)
          · have hj : j < m := by
              have := (List.getElem?_eq_some_iff.1 hx).1
              omega
            have hx' : x = strV (g j) := by
              simp only [strs, List.getElem?_map, List.getElem?_range hj, Option.map_some, Option.some.injEq] at hx
              exact hx.symm
            rw [hx', cell_at h2]
            have := (hg j hj).2 0 (by omega)
            simp only [Nat.mul_one, Nat.add_zero] at this
            rw [this, allS_get hS hj]
            rfl
  · cases hF
end Go.Proofs.YtddhmidegldhdaaGreatDoor

/- The text of a tidy design, by both sides: trees. Conditions: a list of wheels. -/
namespace Go.Proofs.YtddhmidegldhdaaGreatDoor
open Go.RowKit
set_option maxRecDepth 100000

def fDecO (dc : Int → ByteArray) : List Value → Option (Value × List Bool)
  | [.int .i64 n] => some (.string (dc n), [decide (-9223372036854775808 ≤ n), decide (n ≤ 9223372036854775807)])
  | _ => none
def gmTx (dc : Int → ByteArray) (jn : List ByteArray → ByteArray → ByteArray) : Gam := ext (ext g0 48 (specV (fDecO dc))) 86 (specR [.rd 1 9, .val] (FjoO jn))
def tAt (ws : List ByteArray) (j : Nat) : ByteArray := ws.getD j ⟨#[]⟩
def rowS (ws : List ByteArray) : Nat → List Value := fun j => [.string (tAt ws j)]
abbrev lvTx : Ex → List Nat := lv3 [3, 15, 16, 17] [3] [2]
abbrev hpTx (m : Nat) (f : Nat → Nat → Int) (t : TypeId) (n : Nat) (ws : List ByteArray) : List AB := [.row false m 9 (row9 f) t, .row true n 1 (rowS ws) 9]
abbrev stTx (m n i : Nat) : List AV := [.own 1 n, .sl 0 9 0 0 m none, .v (i64 m), .v (i64 i)]

theorem rndTx_h (dc : Int → ByteArray) (jn : List ByteArray → ByteArray → ByteArray) (m : Nat) (f : Nat → Nat → Int) (t : TypeId) (n : Nat) (ws : List ByteArray) (i : Nat) (u2 : _) (hu2 : (-9223372036854775808 : Int) = u2) (u3 : _) (hu3 : (9223372036854775807 : Int) = u3) (u4 : _) (hu4 : (0 : Nat) = u4) (u5 : _) (hu5 : (1 : Nat) = u5) (u1 : _) (hu1 : (u4 + Int.toNat (↑i : Int)) = u1) (u6 : _) (hu6 : (catB (dc (f u1 u4)) (ByteArray.mk (Array.mk [(58 : UInt8)]))) = u6) (u0 : _) (hu0 : (jn (strs (fun q ↦ [Value.string (bif Nat.blt q (7 : Nat) then bif Nat.blt q (6 : Nat) then bif Nat.blt q (5 : Nat) then bif Nat.blt q (4 : Nat) then bif Nat.blt q (3 : Nat) then bif Nat.blt q (2 : Nat) then bif Nat.blt q u5 then bif Nat.blt q u4 then ByteArray.mk (Array.mk []) else dc (f u1 u5) else dc (f u1 (2 : Nat)) else dc (f u1 (3 : Nat)) else dc (f u1 (4 : Nat)) else dc (f u1 (5 : Nat)) else dc (f u1 (6 : Nat)) else dc (f u1 (7 : Nat)) else dc (f u1 (8 : Nat)))]) (8 : Nat)) (ByteArray.mk (Array.mk [(44 : UInt8)]))) = u0) : execC Tryz.prog (gmTx dc jn) 200 noLam (loopAt 0 Tryz.f44) (mkT 0 47 ((lvTx .normal).zip (stTx m n i))) (hpTx m f t n ws) (leafV 47 lvTx 1)
    = bif decide ((↑i : Int) < (m : Int)) then needs [decide ((↑i : Int) < (m : Int)), decide (u4 + Int.toNat (↑i : Int) < m), decide (u2 ≤ f u1 u5), decide (f u1 u5 ≤ u3), decide (u2 ≤ f u1 (2 : Nat)), decide (f u1 (2 : Nat) ≤ u3), decide (u2 ≤ f u1 (3 : Nat)), decide (f u1 (3 : Nat) ≤ u3), decide (u2 ≤ f u1 (4 : Nat)), decide (f u1 (4 : Nat) ≤ u3), decide (u2 ≤ f u1 (5 : Nat)), decide (f u1 (5 : Nat) ≤ u3), decide (u2 ≤ f u1 (6 : Nat)), decide (f u1 (6 : Nat) ≤ u3), decide (u2 ≤ f u1 (7 : Nat)), decide (f u1 (7 : Nat) ≤ u3), decide (u2 ≤ f u1 (8 : Nat)), decide (f u1 (8 : Nat) ≤ u3), decide (u2 ≤ f u1 u4), decide (f u1 u4 ≤ u3), Nat.ble (ByteArray.size (dc (f u1 u4)) + u5) (9223372036854775807 : Nat), Nat.ble (ByteArray.size u0) (140737488355328 : Nat), Nat.ble (ByteArray.size u6 + ByteArray.size u0) (9223372036854775807 : Nat), Nat.ble n n, Nat.ble (n + u5) (549755813888 : Nat)] (Res.out .normal [AV.own u5 (n + u5), AV.sl u4 (9 : Nat) u4 u4 m none, AV.v (.int .i64 (m : Int)), AV.v (.int .i64 (IntKind.wrap .i64 ((↑i : Int) + (1 : Int))))] [AB.row false m 9 (row9 f) t, AB.row true (n + u5) u5 (fun q ↦ [Value.string (bif Nat.blt q n then tAt ws q else catB u6 u0)]) (9 : Nat)]) else Res.out (Ex.exit u4) [AV.own u5 n] [AB.row false m 9 (row9 f) t, AB.row true n u5 (rowS ws) 9] := by
  subst hu0 hu6 hu1 hu5 hu4 hu3 hu2
  kernel_rfl
theorem rndTx (dc : Int → ByteArray) (jn : List ByteArray → ByteArray → ByteArray) (m : Nat) (f : Nat → Nat → Int) (t : TypeId) (n : Nat) (ws : List ByteArray) (i : Nat) : type_of% (rndTx_h dc jn m f t n ws i _ rfl _ rfl _ rfl _ rfl _ rfl _ rfl _ rfl) := rndTx_h dc jn m f t n ws i _ rfl _ rfl _ rfl _ rfl _ rfl _ rfl _ rfl

noncomputable abbrev lamTx (m : Nat) (f : Nat → Nat → Int) (t : TypeId) (ws : List ByteArray) : Nat → Option Sum := oneL 0 (atS 47 (lvTx .normal) 1 (stTx m 0 0) (hpTx m f t 0 []) (fun K => K .normal (mkT 0 47 [(3, .own 1 m)]) (hpTx m f t m ws)))
theorem treeTx (dc : Int → ByteArray) (jn : List ByteArray → ByteArray → ByteArray) (m : Nat) (f : Nat → Nat → Int) (t : TypeId) (ws : List ByteArray) : execF Tryz.prog (gmTx dc jn) (lamTx m f t ws) 200 Tryz.f44 [.sl 0 9 0 0 m none] [.row false m 9 (row9 f) t] (packK 1)
    = bif (m : Int) == (0 : Int) then Res.out .ret [AV.v (.string (ByteArray.mk (Array.mk [(45 : UInt8)])))] [AB.row false m 9 (row9 f) t] else needs [decide ((m : Int) ≤ (1099511627776 : Int)), chk ([AV.own 1 (0 : Nat), AV.sl 0 (9 : Nat) (0 : Nat) (0 : Nat) m none, AV.v (.int .i64 (m : Int)), AV.v (.int .i64 0)] = stTx m (0 : Nat) (0 : Nat) ∧ Hsim [AB.row false m 9 (row9 f) t, AB.row true (0 : Nat) (1 : Nat) (fun _ ↦ [Value.string (ByteArray.mk (Array.mk []))]) (9 : Nat)] (hpTx m f t (0 : Nat) [])), Nat.ble m m, allS m (rowS ws), Nat.ble m (1048576 : Nat), Nat.ble (ByteArray.size (jn (strs (rowS ws) m) (ByteArray.mk (Array.mk [(32 : UInt8)])))) (140737488355328 : Nat)] (Res.out .ret [AV.v (.string (jn (strs (rowS ws) m) (ByteArray.mk (Array.mk [(32 : UInt8)]))))] [AB.row false m 9 (row9 f) t]) := by kernel_rfl

theorem treeSw_h (dc : Int → ByteArray) (p : Int → Bool) (a0 a1 a2 a3 a4 a5 a6 a7 a8 : Int) (u1 : _) (hu1 : (ByteArray.mk (Array.mk [(44 : UInt8)])) = u1) (u2 : _) (hu2 : (9223372036854775807 : Nat) = u2) (u7 : _) (hu7 : (catB (dc a0) (ByteArray.mk (Array.mk [(58 : UInt8)]))) = u7) (u9 : _) (hu9 : (1 : Nat) = u9) (u3 : _) (hu3 : (catB u7 (dc a1)) = u3) (u6 : _) (hu6 : (catB (catB u3 u1) (dc a2)) = u6) (u0 : _) (hu0 : (catB (catB (catB u6 u1) (dc a3)) u1) = u0) (u5 : _) (hu5 : (catB (catB (catB u0 (dc a4)) u1) (dc a5)) = u5) (u4 : _) (hu4 : (catB (catB u5 u1) (dc a6)) = u4) (u8 : _) (hu8 : (catB (catB u4 u1) (dc a7)) = u8) : execF Tryz.prog (gmDec dc p) noLam 200 Tryz.f180 [.v (.agg ⟨[i64 a0, i64 a1, i64 a2, i64 a3, i64 a4, i64 a5, i64 a6, i64 a7, i64 a8]⟩)] [] valK
    = needs [p a0, Nat.ble (ByteArray.size (dc a0) + u9) u2, p a1, Nat.ble (ByteArray.size u7 + ByteArray.size (dc a1)) u2, Nat.ble (ByteArray.size u3 + u9) u2, p a2, Nat.ble (ByteArray.size (catB u3 u1) + ByteArray.size (dc a2)) u2, Nat.ble (ByteArray.size u6 + u9) u2, p a3, Nat.ble (ByteArray.size (catB u6 u1) + ByteArray.size (dc a3)) u2, Nat.ble (ByteArray.size (catB (catB u6 u1) (dc a3)) + u9) u2, p a4, Nat.ble (ByteArray.size u0 + ByteArray.size (dc a4)) u2, Nat.ble (ByteArray.size (catB u0 (dc a4)) + u9) u2, p a5, Nat.ble (ByteArray.size (catB (catB u0 (dc a4)) u1) + ByteArray.size (dc a5)) u2, Nat.ble (ByteArray.size u5 + u9) u2, p a6, Nat.ble (ByteArray.size (catB u5 u1) + ByteArray.size (dc a6)) u2, Nat.ble (ByteArray.size u4 + u9) u2, p a7, Nat.ble (ByteArray.size (catB u4 u1) + ByteArray.size (dc a7)) u2, Nat.ble (ByteArray.size u8 + u9) u2, p a8, Nat.ble (ByteArray.size (catB u8 u1) + ByteArray.size (dc a8)) u2] (Res.out .ret [AV.v (.string (catB (catB u8 u1) (dc a8)))] []) := by
  subst hu8 hu4 hu5 hu0 hu6 hu3 hu9 hu7 hu2 hu1
  kernel_rfl
theorem treeSw (dc : Int → ByteArray) (p : Int → Bool) (a0 a1 a2 a3 a4 a5 a6 a7 a8 : Int) : type_of% (treeSw_h dc p a0 a1 a2 a3 a4 a5 a6 a7 a8 _ rfl _ rfl _ rfl _ rfl _ rfl _ rfl _ rfl _ rfl _ rfl _ rfl) := treeSw_h dc p a0 a1 a2 a3 a4 a5 a6 a7 a8 _ rfl _ rfl _ rfl _ rfl _ rfl _ rfl _ rfl _ rfl _ rfl _ rfl

def fWtO (wt : Wh → ByteArray) (okw : Wh → Bool) : List Value → Option (Value × List Bool)
  | [.agg ⟨[.int .i64 a0, .int .i64 a1, .int .i64 a2, .int .i64 a3, .int .i64 a4, .int .i64 a5, .int .i64 a6, .int .i64 a7, .int .i64 a8]⟩] => some (.string (wt ⟨a0, ⟨a1, a2, a3, a4, a5, a6, a7, a8⟩⟩), [okw ⟨a0, ⟨a1, a2, a3, a4, a5, a6, a7, a8⟩⟩])
  | _ => none
def gmSx (wt : Wh → ByteArray) (okw : Wh → Bool) : Gam := ext g0 180 (specV (fWtO wt okw))
abbrev lvSx : Ex → List Nat := lv3 [0, 3, 4] [3] [2]
abbrev hpSx (m : Nat) (f : Nat → Nat → Int) (t : TypeId) : List AB := [.row false m 9 (row9 f) t]
abbrev stSx (m : Nat) (s : ByteArray) (i : Nat) : List AV := [.sl 0 9 0 0 m none, .v (.string s), .v (i64 i)]
theorem rndSx_h (wt : Wh → ByteArray) (okw : Wh → Bool) (m : Nat) (f : Nat → Nat → Int) (t : TypeId) (s : ByteArray) (i : Nat) (u3 : _) (hu3 : [AB.row false m 9 (row9 f) t] = u3) (u4 : _) (hu4 : (↑i : Int) = u4) (u5 : _) (hu5 : (0 : Nat) = u5) (u6 : _) (hu6 : (9223372036854775807 : Nat) = u6) (u7 : _) (hu7 : (catB s (ByteArray.mk (Array.mk [(32 : UInt8)]))) = u7) (u1 : _) (hu1 : (u5 + Int.toNat u4) = u1) (u2 : _) (hu2 : (AV.v (.int .i64 (IntKind.wrap .i64 (u4 + (1 : Int))))) = u2) (u0 : _) (hu0 : (Wh.mk (f u1 u5) (Cy.mk (f u1 (1 : Nat)) (f u1 (2 : Nat)) (f u1 (3 : Nat)) (f u1 (4 : Nat)) (f u1 (5 : Nat)) (f u1 (6 : Nat)) (f u1 (7 : Nat)) (f u1 (8 : Nat)))) = u0) : execC Tryz.prog (gmSx wt okw) 100 noLam (loopAt 0 Tryz.f124) (mkT 0 26 ((lvSx .normal).zip (stSx m s i))) (hpSx m f t) (leafV 26 lvSx 1)
    = bif decide (u4 < (m : Int)) then bif decide (u4 > (0 : Int)) then needs [Nat.ble (ByteArray.size s + (1 : Nat)) u6, decide (u4 < (m : Int)), decide (u5 + Int.toNat u4 < m), okw u0, Nat.ble (ByteArray.size u7 + ByteArray.size (wt u0)) u6] (Res.out .normal [AV.sl u5 (9 : Nat) u5 u5 m none, AV.v (.string (catB u7 (wt u0))), u2] u3) else needs [decide (u4 < (m : Int)), decide (u5 + Int.toNat u4 < m), okw u0, Nat.ble (ByteArray.size s + ByteArray.size (wt u0)) u6] (Res.out .normal [AV.sl u5 (9 : Nat) u5 u5 m none, AV.v (.string (catB s (wt u0))), u2] u3) else Res.out (Ex.exit u5) [AV.v (.string s)] u3 := by
  subst hu0 hu2 hu1 hu7 hu6 hu5 hu4 hu3
  kernel_rfl
theorem rndSx (wt : Wh → ByteArray) (okw : Wh → Bool) (m : Nat) (f : Nat → Nat → Int) (t : TypeId) (s : ByteArray) (i : Nat) : type_of% (rndSx_h wt okw m f t s i _ rfl _ rfl _ rfl _ rfl _ rfl _ rfl _ rfl _ rfl) := rndSx_h wt okw m f t s i _ rfl _ rfl _ rfl _ rfl _ rfl _ rfl _ rfl _ rfl

noncomputable abbrev lamSx (m : Nat) (f : Nat → Nat → Int) (t : TypeId) (s : ByteArray) : Nat → Option Sum := oneL 0 (atS 26 (lvSx .normal) 1 (stSx m ⟨#[]⟩ 0) (hpSx m f t) (fun K => K .normal (mkT 0 26 [(3, .v (.string s))]) (hpSx m f t)))
theorem treeSx (wt : Wh → ByteArray) (okw : Wh → Bool) (m : Nat) (f : Nat → Nat → Int) (t : TypeId) (s : ByteArray) : execF Tryz.prog (gmSx wt okw) (lamSx m f t s) 100 Tryz.f124 [.sl 0 9 0 0 m none] [.row false m 9 (row9 f) t] (packK 1)
    = bif (m : Int) == (0 : Int) then Res.out .ret [AV.v (.string (ByteArray.mk (Array.mk [(45 : UInt8)])))] [AB.row false m 9 (row9 f) t] else needs [chk ([AV.sl 0 (9 : Nat) (0 : Nat) (0 : Nat) m none, AV.v (.string (ByteArray.mk (Array.mk []))), AV.v (.int .i64 0)] = stSx m (ByteArray.mk (Array.mk [])) (0 : Nat) ∧ Hsim [AB.row false m 9 (row9 f) t] (hpSx m f t))] (Res.out .ret [AV.v (.string s)] [AB.row false m 9 (row9 f) t]) := by kernel_rfl

end Go.Proofs.YtddhmidegldhdaaGreatDoor

/- A text cut at a byte, and a number read, by the reference: trees. Conditions: a text. -/
namespace Go.Proofs.YtddhmidegldhdaaGreatDoor
open Go.RowKit
set_option maxRecDepth 100000

abbrev lvCt : Ex → List Nat := lv3 [0, 1, 5, 6, 7] [5] [4]
abbrev hpCt (n : Nat) (ws : List ByteArray) : List AB := [.row true n 1 (rowS ws) 9]
abbrev stCt (s : ByteArray) (c : Int) (n : Nat) (fr i : Int) : List AV := [.v (.string s), .v (.int .u8 c), .own 0 n, .v (i64 fr), .v (i64 i)]
theorem rndCt_h (s : ByteArray) (c : Int) (n : Nat) (ws : List ByteArray) (fr i : Int) (u2 : _) (hu2 : (AV.v (.int .i64 (IntKind.wrap .i64 (i + (1 : Int))))) = u2) (u3 : _) (hu3 : (↑(ByteArray.size s) : Int) = u3) (u4 : _) (hu4 : [AB.row true n 1 (rowS ws) 9] = u4) (u0 : _) (hu0 : (Res.out .normal [AV.v (.string s), AV.v (.int .u8 c), AV.own 0 (n + (1 : Nat)), u2, u2] [AB.row true (n + (1 : Nat)) (1 : Nat) (fun q ↦ [Value.string (bif Nat.blt q n then tAt ws q else ByteArray.extract s (Int.toNat fr) (Int.toNat i))]) (9 : Nat)]) = u0) (u1 : _) (hu1 : [decide ((0 : Int) ≤ fr), decide (fr ≤ i), decide (i ≤ u3), Nat.ble n n, Nat.ble (n + (1 : Nat)) (549755813888 : Nat)] = u1) : execC Tryz.prog g0 200 noLam (loopAt 0 Tryz.f58) (mkT 0 36 ((lvCt .normal).zip (stCt s c n fr i))) (hpCt n ws) (leafV 36 lvCt 0)
    = bif decide (i ≤ u3) then bif i == u3 then needs u1 u0 else needs [decide ((0 : Int) ≤ i), decide (i < u3)] (bif byB s i == c then needs u1 u0 else Res.out .normal [AV.v (.string s), AV.v (.int .u8 c), AV.own 0 n, AV.v (.int .i64 fr), u2] u4) else Res.out (Ex.exit (0 : Nat)) [AV.own 0 n] u4 := by
  subst hu1 hu0 hu4 hu3 hu2
  kernel_rfl
theorem rndCt (s : ByteArray) (c : Int) (n : Nat) (ws : List ByteArray) (fr i : Int) : type_of% (rndCt_h s c n ws fr i _ rfl _ rfl _ rfl _ rfl _ rfl) := rndCt_h s c n ws fr i _ rfl _ rfl _ rfl _ rfl _ rfl

noncomputable abbrev lamCt (s : ByteArray) (c : Int) (m : Nat) (ws : List ByteArray) : Nat → Option Sum := oneL 0 (atS 36 (lvCt .normal) 0 (stCt s c 0 0 0) (hpCt 0 []) (fun K => K .normal (mkT 0 36 [(5, .own 0 m)]) (hpCt m ws)))
theorem treeCt (s : ByteArray) (c : Int) (m : Nat) (ws : List ByteArray) : execF Tryz.prog g0 (lamCt s c m ws) 200 Tryz.f58 [.v (.string s), .v (.int .u8 c)] [] (packK 0)
    = needs [chk ([AV.v (.string s), AV.v (.int .u8 c), AV.own 0 (0 : Nat), AV.v (.int .i64 0), AV.v (.int .i64 0)] = stCt s c (0 : Nat) (0 : Int) (0 : Int) ∧ Hsim [AB.row true (0 : Nat) (1 : Nat) (fun _ ↦ []) (9 : Nat)] (hpCt (0 : Nat) []))] (Res.out .ret [AV.own 0 m] [AB.row true m 1 (rowS ws) 9]) := by kernel_rfl

abbrev lvNb : Ex → List Nat := lv3 [0, 3, 4, 5] [3, 4] [2]
abbrev stNb (s : ByteArray) (n g : Int) (i : Int) : List AV := [.v (.string s), .v (i64 n), .v (i64 g), .v (i64 i)]
theorem rndNb_h (s : ByteArray) (n g i : Int) (u1 : _) (hu1 : [decide ((0 : Int) ≤ i), decide (i < (↑(ByteArray.size s) : Int))] = u1) (u2 : _) (hu2 : (AV.v (.int .i64 (IntKind.wrap .i64 (i + (1 : Int))))) = u2) (u3 : _) (hu3 : (AV.v (.int .i64 n)) = u3) (u4 : _) (hu4 : (AV.v (.int .i64 g)) = u4) (u5 : _) (hu5 : (AV.v (.string s)) = u5) (u0 : _) (hu0 : (bif decide (byB s i ≥ (48 : Int)) then needs u1 (bif decide (byB s i ≤ (57 : Int)) then needs u1 (Res.out .normal [u5, AV.v (.int .i64 (IntKind.wrap .i64 (IntKind.wrap .i64 ((10 : Int) * n) + IntKind.wrap .i64 (IntKind.wrap .u8 (byB s i - (48 : Int)))))), u4, u2] []) else Res.out .normal [u5, u3, u4, u2] []) else Res.out .normal [u5, u3, u4, u2] []) = u0) : execC Tryz.prog g0 200 noLam (loopAt 0 Tryz.f59) (mkT 0 47 ((lvNb .normal).zip (stNb s n g i))) [] (leafV 47 lvNb 0)
    = bif decide (i < (↑(ByteArray.size s) : Int)) then bif decide (i < (9 : Int)) then bif i == (0 : Int) then needs u1 (bif byB s i == (45 : Int) then Res.out .normal [u5, u3, AV.v (.int .i64 (-1 : Int)), u2] [] else needs u1 u0) else needs u1 u0 else Res.out (Ex.exit (0 : Nat)) [u3, u4] [] else Res.out (Ex.exit (0 : Nat)) [u3, u4] [] := by
  subst hu0 hu5 hu4 hu3 hu2 hu1
  kernel_rfl
theorem rndNb (s : ByteArray) (n g i : Int) : type_of% (rndNb_h s n g i _ rfl _ rfl _ rfl _ rfl _ rfl _ rfl) := rndNb_h s n g i _ rfl _ rfl _ rfl _ rfl _ rfl _ rfl

noncomputable abbrev lamNb (s : ByteArray) (n g : Int) : Nat → Option Sum := oneL 0 (atS 47 (lvNb .normal) 0 (stNb s 0 1 0) [] (fun K => K .normal (mkT 0 47 [(3, .v (i64 n)), (4, .v (i64 g))]) []))
theorem treeNb (s : ByteArray) (n g : Int) : execF Tryz.prog g0 (lamNb s n g) 200 Tryz.f59 [.v (.string s)] [] (packK 0)
    = needs [chk ([AV.v (.string s), AV.v (.int .i64 0), AV.v (.int .i64 1), AV.v (.int .i64 0)] = stNb s (0 : Int) (1 : Int) (0 : Int) ∧ Hsim [] [])] (Res.out .ret [AV.v (.int .i64 (IntKind.wrap .i64 (g * n)))] []) := by kernel_rfl

end Go.Proofs.YtddhmidegldhdaaGreatDoor

/- The text of a tidy design: one plain function; both sides give it. Conditions: a valid list of wheels. -/
namespace Go.Proofs.YtddhmidegldhdaaGreatDoor
open Go.RowKit
set_option maxRecDepth 100000

def wtxL (w : Wh) : List UInt8 := Lib.itoa w.s ++ 58 :: Lib.join [Lib.itoa w.r.c0, Lib.itoa w.r.c1, Lib.itoa w.r.c2, Lib.itoa w.r.c3, Lib.itoa w.r.c4, Lib.itoa w.r.c5, Lib.itoa w.r.c6, Lib.itoa w.r.c7] [44]
def wtx (w : Wh) : ByteArray := ⟨(wtxL w).toArray⟩
def textL (L : List Wh) : List UInt8 := Lib.join (L.map wtxL) [32]
def textB (L : List Wh) : ByteArray := bif L.isEmpty then ⟨#[45]⟩ else ⟨(textL L).toArray⟩
def okw (w : Wh) : Bool := inR w.s (-1000) 1000 && cyOk w.r

theorem catB_mk (x y : List UInt8) : catB ⟨x.toArray⟩ ⟨y.toArray⟩ = ⟨(x ++ y).toArray⟩ := ByteArray.mk_append_mk x y
theorem catB_size (x y : ByteArray) : (catB x y).size = x.size + y.size := by simp [catB]
theorem mk_size (x : List UInt8) : (ByteArray.mk x.toArray).size = x.length := by simp [ByteArray.size]
theorem okw_bd {w : Wh} (h : okw w = true) : (-1000 ≤ w.s ∧ w.s ≤ 1000) ∧ ∀ k, k < 8 → -1000000 ≤ w.r.f k ∧ w.r.f k ≤ 1000000 := by
  simp only [okw, Bool.and_eq_true] at h
  exact ⟨inR_iff.1 h.1, smallF_iff.1 h.2⟩
theorem okw_9 {w : Wh} (h : okw w = true) : ∀ x ∈ [w.s, w.r.c0, w.r.c1, w.r.c2, w.r.c3, w.r.c4, w.r.c5, w.r.c6, w.r.c7], -1000000 ≤ x ∧ x ≤ 1000000 := by
  obtain ⟨h1, h2⟩ := okw_bd h
  intro x hx
  simp only [List.mem_cons, List.not_mem_nil, or_false] at hx
  rcases hx with rfl | rfl | rfl | rfl | rfl | rfl | rfl | rfl | rfl
  · omega
  · exact h2 0 (by omega)
  · exact h2 1 (by omega)
  · exact h2 2 (by omega)
  · exact h2 3 (by omega)
  · exact h2 4 (by omega)
  · exact h2 5 (by omega)
  · exact h2 6 (by omega)
  · exact h2 7 (by omega)
theorem okD_okw {L : List Wh} (h : okD L = true) : ∀ w ∈ L, okw w = true := fun w hw => by
  simp only [okD, Bool.and_eq_true, List.all_eq_true] at h
  rw [okw, Bool.and_eq_true]
  exact h.2 w hw
theorem itoa_len {n : Int} (h1 : -1000000 ≤ n) (h2 : n ≤ 1000000) : (Lib.itoa n).length ≤ 20 := by
  have := decB_size (n := n) (by omega) (by omega)
  rwa [decB, mk_size] at this

theorem strs8 (a1 a2 a3 a4 a5 a6 a7 a8 : ByteArray) : strs (fun q => [Value.string (bif Nat.blt q 7 then bif Nat.blt q 6 then bif Nat.blt q 5 then bif Nat.blt q 4 then bif Nat.blt q 3 then bif Nat.blt q 2 then bif Nat.blt q 1 then bif Nat.blt q 0 then ByteArray.mk (Array.mk []) else a1 else a2 else a3 else a4 else a5 else a6 else a7 else a8)]) 8 = [a1, a2, a3, a4, a5, a6, a7, a8] := rfl
theorem wtx_eq (a0 a1 a2 a3 a4 a5 a6 a7 a8 : Int) : catB (catB (decB a0) (ByteArray.mk (Array.mk [58]))) (joinB [decB a1, decB a2, decB a3, decB a4, decB a5, decB a6, decB a7, decB a8] (ByteArray.mk (Array.mk [44]))) = wtx ⟨a0, ⟨a1, a2, a3, a4, a5, a6, a7, a8⟩⟩ := by
  show catB (catB ⟨(Lib.itoa a0).toArray⟩ ⟨[58].toArray⟩) ⟨(Lib.join ([⟨(Lib.itoa a1).toArray⟩, ⟨(Lib.itoa a2).toArray⟩, ⟨(Lib.itoa a3).toArray⟩, ⟨(Lib.itoa a4).toArray⟩, ⟨(Lib.itoa a5).toArray⟩, ⟨(Lib.itoa a6).toArray⟩, ⟨(Lib.itoa a7).toArray⟩, ⟨(Lib.itoa a8).toArray⟩].map fun b : ByteArray => b.data.toList) [44]).toArray⟩ = _
  rw [catB_mk, catB_mk, wtx, wtxL]
  simp
theorem wtx_size {w : Wh} (h : okw w = true) : (wtx w).size ≤ 200 := by
  have h9 := okw_9 h
  simp only [List.forall_mem_cons, List.not_mem_nil, false_imp_iff, implies_true, and_true] at h9
  obtain ⟨⟨a1, a2⟩, ⟨b1, b2⟩, ⟨c1, c2⟩, ⟨d1, d2⟩, ⟨e1, e2⟩, ⟨f1, f2⟩, ⟨g1, g2⟩, ⟨i1, i2⟩, ⟨j1, j2⟩⟩ := h9
  have := itoa_len a1 a2; have := itoa_len b1 b2; have := itoa_len c1 c2; have := itoa_len d1 d2; have := itoa_len e1 e2; have := itoa_len f1 f2; have := itoa_len g1 g2; have := itoa_len i1 i2; have := itoa_len j1 j2
  rw [wtx, mk_size, wtxL, Lib.join_cons]
  simp [Lib.joinTail]
  omega
theorem joinTail_len (sep : List UInt8) : ∀ (r : List (List UInt8)) (b : Nat), (∀ x ∈ r, x.length ≤ b) → (Lib.joinTail sep r).length ≤ r.length * (b + sep.length)
  | [], b, _ => by simp [Lib.joinTail]
  | x :: r, b, h => by
    have h1 := joinTail_len sep r b fun y hy => h y (List.mem_cons_of_mem _ hy)
    have h2 := h x List.mem_cons_self
    have : (Lib.joinTail sep (x :: r)).length = sep.length + x.length + (Lib.joinTail sep r).length := by simp [Lib.joinTail]; omega
    rw [this, List.length_cons, Nat.add_mul]
    omega
theorem textL_size {L : List Wh} (h : ∀ w ∈ L, okw w = true) : (textL L).length ≤ L.length * 201 := by
  cases L with
  | nil => simp [textL, Lib.join_nil]
  | cons w L =>
    rw [textL, List.map_cons, Lib.join_cons, List.length_append]
    have h1 := joinTail_len [32] (L.map wtxL) 200 fun x hx => by
      obtain ⟨w', hw', rfl⟩ := List.mem_map.1 hx
      have := wtx_size (h w' (List.mem_cons_of_mem _ hw'))
      rwa [wtx, mk_size] at this
    have h2 := wtx_size (h w List.mem_cons_self)
    rw [wtx, mk_size] at h2
    simp only [List.length_map, List.length_cons, List.length_nil] at h1 ⊢
    omega
theorem textB_join (L : List Wh) : joinB (L.map wtx) (ByteArray.mk (Array.mk [32])) = ⟨(textL L).toArray⟩ := by
  simp only [joinB, textL, List.map_map]
  rfl
theorem tAt_snoc (ws : List ByteArray) (x : ByteArray) (i : Nat) (hl : ws.length = i) (q : Nat) (hq : q < i + 1) : [Value.string (bif Nat.blt q i then tAt ws q else x)] = rowS (ws ++ [x]) q := by
  subst hl
  unfold rowS tAt
  by_cases e : q < ws.length
  · rw [show Nat.blt q ws.length = true from by rw [Nat.blt_eq]; exact e, cond_true]
    simp [List.getD, List.getElem?_append_left e]
  · have : q = ws.length := by omega
    subst this
    rw [show Nat.blt ws.length ws.length = false from by simp [Nat.blt_eq, ← Bool.not_eq_true], cond_false]
    simp [List.getD]
theorem strs_rowS (ws : List ByteArray) (m : Nat) (h : ws.length = m) : strs (rowS ws) m = ws := by
  subst h
  apply List.ext_getElem (by simp [strs])
  intro i h1 h2
  simp [strs, rowS, strV, tAt, List.getD, h2]
theorem allS_rowS (ws : List ByteArray) (m : Nat) : allS m (rowS ws) = true := List.all_eq_true.2 fun _ _ => rfl

theorem gmTx_ok : GamOk Tryz.prog (gmTx decB joinB) := ext_ok (ext_ok g0_ok ok_itoa) ok_join
theorem sumTx (m : Nat) (f : Nat → Nat → Int) (t : TypeId) (hm : m ≤ 12) (hok : ∀ w ∈ listW f m, okw w = true) :
    SumOk Tryz.prog 1 (.block 0 (.loop (loopAt 0 Tryz.f44))) (atS 47 (lvTx .normal) 1 (stTx m 0 0) (hpTx m f t 0 []) (fun K => K .normal (mkT 0 47 [(3, .own 1 m)]) (hpTx m f t m ((listW f m).map wtx)))) := by
  refine for_at gmTx_ok (n := 200) (m := 1) (lv := lvTx) (fun i => stTx m i i) (fun i => hpTx m f t i ((listW f i).map wtx)) (fun _ => True) m (fun _ => noLam) (lv3_ris rfl rfl rfl) (Nat.le_refl _) trivial fun K Q hk i hi him => ⟨noLam_ok _ _ _, ?_⟩
  rw [rndTx]
  refine good_cond (fun c1 => ?_) fun c1 => ?_
  · have c1 := of_decide_eq_true c1
    have c1' : i < m := by omega
    have hw : okw (whOf (f i)) = true := hok _ (List.mem_of_getElem? (listW_get f c1'))
    have h9 := okw_9 hw
    have hz := wtx_size hw
    simp only [whOf, List.forall_mem_cons, List.not_mem_nil, false_imp_iff, implies_true, and_true] at h9
    obtain ⟨⟨a1, a2⟩, ⟨b1, b2⟩, ⟨c1, c2⟩, ⟨d1, d2⟩, ⟨e1, e2⟩, ⟨f1, f2⟩, ⟨g1, g2⟩, ⟨i1, i2⟩, ⟨j1, j2⟩⟩ := h9
    rw [Int.toNat_natCast, Nat.zero_add, wr_in (x := (i : Int) + 1) (by omega), strs8]
    have ez : (wtx (whOf (f i))).size = (decB (f i 0)).size + 1 + (joinB [decB (f i 1), decB (f i 2), decB (f i 3), decB (f i 4), decB (f i 5), decB (f i 6), decB (f i 7), decB (f i 8)] (ByteArray.mk (Array.mk [44]))).size := by
      rw [whOf, ← wtx_eq, catB_size, catB_size]
      rfl
    refine good_needs ?_ (good_out ⟨i + 1, ⟨rfl, c1', trivial⟩, rfl, ?_⟩)
    · simp only [ob_cons, ob_nil, and_true, decide_eq_true_eq, Nat.ble_eq, catB_size]
      have e1 : (ByteArray.mk (Array.mk [58])).size = 1 := rfl
      rw [e1]
      omega
    · show Hsim _ (hpTx m f t (i + 1) ((listW f (i + 1)).map wtx))
      rw [listW_succ, List.map_append, wtx_eq]
      refine (.cons (ABeq.refl _) (.cons (ABeq.row fun q hq => ?_) .nil))
      exact tAt_snoc _ _ i (by rw [List.length_map, listW_length]) q hq
  · have c1 := of_decide_eq_false c1
    have : i = m := by omega
    subst this
    refine good_out ⟨_, Hsim.refl _, ?_⟩
    rw [if_pos rfl]
    exact hk

def FtxO (tx : List Wh → ByteArray) (okd : List Wh → Bool) : List SA → Option FR
  | [.row m g] => some { val := .v (.string (tx (listW (itW g) m))), obl := [allW m g, okd (listW (itW g) m)] }
  | _ => none
theorem ok_tx : SpecOk Tryz.prog 44 (specR md_ws (FtxO textB okD)) := by
  refine specR_hr gmTx_ok Tryz.func44 rfl fun sas fr hF ho => ?_
  unfold FtxO at hF
  split at hF
  · rename_i m g
    cases hF
    simp only [ob_cons] at ho
    obtain ⟨h1, h2, _⟩ := ho
    have hok := okD_okw h2
    have hm := okD_len h2
    rw [listW_length] at hm
    have hts := textL_size hok
    rw [listW_length] at hts
    refine ⟨[.row false m 9 (row9 (itW g)) 60], lamTx m (itW g) 60 ((listW (itW g) m).map wtx), 200, .cons (ABeq.row fun j hj => allW_get h1 j hj) .nil, lam1 (by kernel_rfl) (sumTx m (itW g) 60 hm hok), ?_⟩
    show GoodQ (execF Tryz.prog (gmTx decB joinB) (lamTx m (itW g) 60 ((listW (itW g) m).map wtx)) 200 Tryz.f44 [.sl 0 9 0 0 m none] [.row false m 9 (row9 (itW g)) 60] (packK 1)) _
    rw [treeTx, strs_rowS _ m (by rw [List.length_map, listW_length]), textB_join]
    have hl : (listW (itW g) m).length = m := listW_length _ _
    refine good_cond (fun c0 => ?_) fun c0 => good_needs ?_ ?_
    · have c0 : m = 0 := by simpa using c0
      subst c0
      refine good_out ⟨_, rfl, ?_, .cons (ABeq.row fun j hj => (allW_get h1 j hj).symm) .nil⟩
      rfl
    · simp only [ob_cons, ob_nil, and_true, decide_eq_true_eq, Nat.ble_eq, allS_rowS, true_and, mk_size]
      exact ⟨by omega, chk_of ⟨rfl, (.cons (ABeq.refl _) (.cons (ABeq.row fun j hj => absurd hj (Nat.not_lt_zero _)) .nil))⟩, by omega, by omega⟩
    · have c0 : m ≠ 0 := by simpa using c0
      refine good_out ⟨_, rfl, ?_, .cons (ABeq.row fun j hj => (allW_get h1 j hj).symm) .nil⟩
      have : (listW (itW g) m).isEmpty = false := by
        cases hL : listW (itW g) m with
        | nil => rw [hL] at hl; exact absurd hl.symm c0
        | cons => rfl
      rw [textB, this]
      rfl
  · cases hF
end Go.Proofs.YtddhmidegldhdaaGreatDoor

/- A text cut at a byte, and a number read, by the reference: their words. Conditions: a text that is no giant. -/
namespace Go.Proofs.YtddhmidegldhdaaGreatDoor
open Go.RowKit
set_option maxRecDepth 100000

def stepCt (s : ByteArray) (c : Int) (i : Nat) (p : List ByteArray × Nat) : List ByteArray × Nat := bif ((i : Int) == (s.size : Int)) || (byB s i == c) then (p.1 ++ [s.extract p.2 i], i + 1) else p
def cutP (s : ByteArray) (c : Int) : Nat → List ByteArray × Nat
  | 0 => ([], 0)
  | i + 1 => stepCt s c i (cutP s c i)
def cutB (s : ByteArray) (c : Int) : List ByteArray := (cutP s c (s.size + 1)).1
theorem cutP_le (s : ByteArray) (c : Int) : ∀ i : Nat, (cutP s c i).1.length ≤ i ∧ (cutP s c i).2 ≤ i
  | 0 => ⟨Nat.le_refl _, Nat.le_refl _⟩
  | i + 1 => by
    have h := cutP_le s c i
    unfold cutP stepCt
    cases ((i : Int) == (s.size : Int)) || (byB s i == c) with
    | true =>
      simp only [cond_true, List.length_append, List.length_cons, List.length_nil]
      omega
    | false =>
      simp only [cond_false]
      omega
theorem row_snocS (ws : List ByteArray) (x : ByteArray) (i : Nat) (hl : ws.length = i) : ∀ q, q < i + 1 → [Value.string (bif Nat.blt q i then tAt ws q else x)] = rowS (ws ++ [x]) q := fun q hq => tAt_snoc ws x i hl q hq
theorem sumCt (s : ByteArray) (c : Int) (hs : s.size < 4294967281) :
    SumOk Tryz.prog 0 (.block 0 (.loop (loopAt 0 Tryz.f58))) (atS 36 (lvCt .normal) 0 (stCt s c 0 0 0) (hpCt 0 []) (fun K => K .normal (mkT 0 36 [(5, .own 0 (cutB s c).length)]) (hpCt (cutB s c).length (cutB s c)))) := by
  refine for_at g0_ok (n := 200) (m := 0) (lv := lvCt) (fun i => stCt s c (cutP s c i).1.length ((cutP s c i).2 : Nat) i) (fun i => hpCt (cutP s c i).1.length (cutP s c i).1) (fun _ => True) (s.size + 1) (fun _ => noLam) (lv3_ris rfl rfl rfl) (Nat.le_refl _) trivial fun K Q hk i hi him => ⟨noLam_ok _ _ _, ?_⟩
  have hle := cutP_le s c i
  rw [rndCt]
  refine good_cond (fun c1 => ?_) fun c1 => ?_
  · have c1 := of_decide_eq_true c1
    have ew : IntKind.wrap IntKind.i64 ((i : Int) + 1) = ((i + 1 : Nat) : Int) := by rw [wr_in (by omega)]; omega
    rw [ew, Int.toNat_natCast, Int.toNat_natCast]
    have e1 : (((i : Int) == (s.size : Int)) || (byB s i == c)) = true → cutP s c (i + 1) = ((cutP s c i).1 ++ [s.extract (cutP s c i).2 i], i + 1) := fun h => by rw [cutP, stepCt, h]; rfl
    have e2 : (((i : Int) == (s.size : Int)) || (byB s i == c)) = false → cutP s c (i + 1) = cutP s c i := fun h => by rw [cutP, stepCt, h]; rfl
    refine good_cond (fun c2 => ?_) fun c2 => good_needs ?_ (good_cond (fun c3 => ?_) fun c3 => ?_)
    · refine good_needs (by simp only [ob_cons, ob_nil, and_true, decide_eq_true_eq, Nat.ble_eq]; omega) (good_out ⟨i + 1, ⟨rfl, by omega, trivial⟩, ?_⟩)
      have e := e1 (by rw [c2]; rfl)
      simp only [e, List.length_append, List.length_cons, List.length_nil]
      refine ⟨trivial, .cons (ABeq.row fun q hq => row_snocS _ _ _ rfl q hq) .nil⟩
    · have c2' : (i : Int) ≠ s.size := by simpa using c2
      simp only [ob_cons, ob_nil, and_true, decide_eq_true_eq]
      omega
    · refine good_needs (by simp only [ob_cons, ob_nil, and_true, decide_eq_true_eq, Nat.ble_eq]; omega) (good_out ⟨i + 1, ⟨rfl, by omega, trivial⟩, ?_⟩)
      have e := e1 (by rw [c3, Bool.or_true])
      simp only [e, List.length_append, List.length_cons, List.length_nil]
      refine ⟨trivial, .cons (ABeq.row fun q hq => row_snocS _ _ _ rfl q hq) .nil⟩
    · refine good_out ⟨i + 1, ⟨rfl, by omega, trivial⟩, ?_⟩
      have e := e2 (by rw [c2, c3]; rfl)
      simp only [e]
      exact ⟨trivial, Hsim.refl _⟩
  · have c1 := of_decide_eq_false c1
    have : i = s.size + 1 := by omega
    subst this
    refine good_out ⟨_, Hsim.refl _, ?_⟩
    rw [if_pos rfl]
    exact hk
def cuG (s : ByteArray) (c : Int) (j : Nat) : ByteArray := tAt (cutB s c) j
def cuN (s : ByteArray) (c : Int) : Nat := (cutB s c).length
def FcuO (g : ByteArray → Int → Nat → ByteArray) (n : ByteArray → Int → Nat) : List SA → Option FR
  | [.v (.string s), .v (.int .u8 c)] => some { val := .own 0 (n s c), new := [.row true (n s c) 1 (fun j => [.string (g s c j)]) 9], obl := [Nat.blt s.size 4294967281] }
  | _ => none
theorem ok_cu : SpecOk Tryz.prog 58 (specR [.val, .val] (FcuO cuG cuN)) := by
  refine specR_hr g0_ok Tryz.func58 rfl fun sas fr hF ho => ?_
  unfold FcuO at hF
  split at hF
  · rename_i s c
    cases hF
    simp only [ob_cons, ob_nil, and_true, Nat.blt_eq] at ho
    refine ⟨[], lamCt s c (cutB s c).length (cutB s c), 200, Hsim.refl _, lam1 (by kernel_rfl) (sumCt s c ho), ?_⟩
    show GoodQ (execF Tryz.prog g0 (lamCt s c (cutB s c).length (cutB s c)) 200 Tryz.f58 [.v (.string s), .v (.int .u8 c)] [] (packK 0)) _
    rw [treeCt]
    refine good_needs ?_ (good_out ⟨_, rfl, rfl, Hsim.refl _⟩)
    simp only [ob_cons, ob_nil, and_true]
    exact chk_of ⟨trivial, (.cons (ABeq.row fun j hj => absurd hj (Nat.not_lt_zero _)) .nil)⟩
  · cases hF
def numP (s : ByteArray) : Nat → Int × Int
  | 0 => (0, 1)
  | i + 1 => bif Nat.beq i 0 && (byB s i == 45) then ((numP s i).1, -1) else bif decide (48 ≤ byB s i) && decide (byB s i ≤ 57) then (10 * (numP s i).1 + (byB s i - 48), (numP s i).2) else numP s i
def numM (s : ByteArray) : Nat := min s.size 9
def numI (s : ByteArray) : Int := (numP s (numM s)).2 * (numP s (numM s)).1
theorem numP_bd (s : ByteArray) : ∀ i : Nat, (0 ≤ (numP s i).1 ∧ (numP s i).1 < 10 ^ i) ∧ ((numP s i).2 = 1 ∨ (numP s i).2 = -1)
  | 0 => ⟨by simp [numP], .inl rfl⟩
  | i + 1 => by
    obtain ⟨⟨h1, h2⟩, h3⟩ := numP_bd s i
    have hp : (10 : Int) ^ (i + 1) = 10 ^ i * 10 := Int.pow_succ _ _
    have h4 : (0 : Int) ≤ 10 ^ i := by omega
    unfold numP
    cases Nat.beq i 0 && (byB s i == 45) with
    | true =>
      simp only [cond_true]
      exact ⟨⟨h1, by omega⟩, .inr trivial⟩
    | false =>
      simp only [cond_false]
      cases hd : decide (48 ≤ byB s i) && decide (byB s i ≤ 57) with
      | true =>
        simp only [Bool.and_eq_true, decide_eq_true_eq] at hd
        simp only [cond_true]
        exact ⟨⟨by omega, by omega⟩, h3⟩
      | false =>
        simp only [cond_false]
        exact ⟨⟨h1, by omega⟩, h3⟩
theorem byB_bd (s : ByteArray) (i : Int) : 0 ≤ byB s i ∧ byB s i < 256 := by
  unfold byB
  have := (s.data[i.toNat]!).toNat_lt
  omega
theorem pow_le9 {i : Nat} (h : i < 9) : (10 : Int) ^ i ≤ 100000000 := by
  have : i = 0 ∨ i = 1 ∨ i = 2 ∨ i = 3 ∨ i = 4 ∨ i = 5 ∨ i = 6 ∨ i = 7 ∨ i = 8 := by omega
  rcases this with rfl | rfl | rfl | rfl | rfl | rfl | rfl | rfl | rfl <;> decide
theorem sumNb (s : ByteArray) :
    SumOk Tryz.prog 0 (.block 0 (.loop (loopAt 0 Tryz.f59))) (atS 47 (lvNb .normal) 0 (stNb s 0 1 0) [] (fun K => K .normal (mkT 0 47 [(3, .v (i64 (numP s (numM s)).1)), (4, .v (i64 (numP s (numM s)).2))]) [])) := by
  refine for_at g0_ok (n := 200) (m := 0) (lv := lvNb) (fun i => stNb s (numP s i).1 (numP s i).2 i) (fun _ => []) (fun _ => True) (numM s) (fun _ => noLam) (lv3_ris rfl rfl rfl) (Nat.le_refl _) trivial fun K Q hk i hi him => ⟨noLam_ok _ _ _, ?_⟩
  have hm : numM s = min s.size 9 := rfl
  obtain ⟨⟨h1, h2⟩, h3⟩ := numP_bd s i
  have hb := byB_bd s i
  rw [rndNb]
  have ex : i < numM s → IntKind.wrap IntKind.i64 ((i : Int) + 1) = ((i + 1 : Nat) : Int) := fun h => by rw [wr_in (by omega)]; omega
  refine good_cond (fun c1 => good_cond (fun c2 => ?_) fun c2 => ?_) fun c1 => ?_
  · have c1 := of_decide_eq_true c1
    have c2 := of_decide_eq_true c2
    have hlt : i < numM s := by omega
    have hp := pow_le9 (i := i) (by omega)
    rw [ex hlt]
    have ob : obls [decide (0 ≤ (i : Int)), decide ((i : Int) < (s.size : Int))] = true := by simp only [ob_cons, ob_nil, and_true, decide_eq_true_eq]; omega
    have dig : ∀ {R : Ex → List AV → List AB → Prop}, (Nat.beq i 0 && (byB s i == 45)) = false → (∀ p : Int × Int, numP s (i + 1) = p → R .normal [.v (.string s), .v (i64 p.1), .v (i64 p.2), .v (i64 ((i + 1 : Nat) : Int))] []) →
        GoodQ (bif decide (byB s i ≥ 48) then needs [decide (0 ≤ (i : Int)), decide ((i : Int) < (s.size : Int))] (bif decide (byB s i ≤ 57) then needs [decide (0 ≤ (i : Int)), decide ((i : Int) < (s.size : Int))] (.out .normal [.v (.string s), .v (i64 (IntKind.wrap IntKind.i64 (IntKind.wrap IntKind.i64 (10 * (numP s i).1) + IntKind.wrap IntKind.i64 (IntKind.wrap IntKind.u8 (byB s i - 48))))), .v (i64 (numP s i).2), .v (i64 ((i + 1 : Nat) : Int))] []) else .out .normal [.v (.string s), .v (i64 (numP s i).1), .v (i64 (numP s i).2), .v (i64 ((i + 1 : Nat) : Int))] []) else .out .normal [.v (.string s), .v (i64 (numP s i).1), .v (i64 (numP s i).2), .v (i64 ((i + 1 : Nat) : Int))] []) R := by
      intro R hn hR
      refine good_cond (fun d1 => good_needs ob (good_cond (fun d2 => good_needs ob (good_out ?_)) fun d2 => good_out ?_)) fun d1 => good_out ?_
      · have d1' := of_decide_eq_true d1
        have d2' := of_decide_eq_true d2
        have e8 : IntKind.wrap IntKind.u8 (byB s i - 48) = byB s i - 48 := by rw [IntKind.wrap_u8]; omega
        rw [e8, wr_in (x := 10 * (numP s i).1) (by omega), wr_in (x := byB s i - 48) (by omega), wr_in (x := 10 * (numP s i).1 + (byB s i - 48)) (by omega)]
        refine hR (10 * (numP s i).1 + (byB s i - 48), (numP s i).2) ?_
        rw [numP, hn, show decide (48 ≤ byB s i) = true from decide_eq_true d1', d2]
        rfl
      · refine hR (numP s i) ?_
        rw [numP, hn, d2, Bool.and_false]
        rfl
      · refine hR (numP s i) ?_
        rw [numP, hn, show decide (48 ≤ byB s i) = false from d1, Bool.false_and]
        rfl
    refine good_cond (fun c3 => good_needs ob (good_cond (fun c4 => good_out ?_) fun c4 => good_needs ob (dig ?_ fun p hp => ?_))) fun c3 => good_needs ob (dig ?_ fun p hp => ?_)
    · have c3' : i = 0 := by simpa using c3
      refine ⟨i + 1, ⟨rfl, by omega, trivial⟩, ?_, Hsim.refl _⟩
      have : numP s (i + 1) = ((numP s i).1, -1) := by rw [numP, c4, show Nat.beq i 0 = true from by rw [c3']; rfl]; rfl
      simp only [this]
    · rw [c4, Bool.and_false]
    · refine ⟨i + 1, ⟨rfl, by omega, trivial⟩, ?_, Hsim.refl _⟩
      simp only [hp]
    · have c3' : i ≠ 0 := by simpa using c3
      rw [show Nat.beq i 0 = false from by cases i with | zero => exact absurd rfl c3' | succ k => rfl]
      rfl
    · refine ⟨i + 1, ⟨rfl, by omega, trivial⟩, ?_, Hsim.refl _⟩
      simp only [hp]
  · have c1 := of_decide_eq_true c1
    have c2 := of_decide_eq_false c2
    have : i = numM s := by omega
    refine good_out ⟨_, Hsim.refl _, ?_⟩
    rw [if_pos rfl, this]
    exact hk
  · have c1 := of_decide_eq_false c1
    have : i = numM s := by omega
    refine good_out ⟨_, Hsim.refl _, ?_⟩
    rw [if_pos rfl, this]
    exact hk
def FnbO (f : ByteArray → Int) : List SA → Option FR
  | [.v (.string s)] => some { val := .v (i64 (f s)) }
  | _ => none
theorem numI_bd (s : ByteArray) : -1000000000 < numI s ∧ numI s < 1000000000 := by
  obtain ⟨⟨h1, h2⟩, h3⟩ := numP_bd s (numM s)
  have hm : numM s ≤ 9 := Nat.min_le_right _ _
  have hp : (10 : Int) ^ numM s ≤ 1000000000 := by
    rcases Nat.lt_or_ge (numM s) 9 with h | h
    · have := pow_le9 h
      omega
    · rw [show numM s = 9 by omega]
      decide
  unfold numI
  rcases h3 with h | h <;> rw [h] <;> omega
theorem ok_nu : SpecOk Tryz.prog 59 (specR [.val] (FnbO numI)) := by
  refine specR_hr g0_ok Tryz.func59 rfl fun sas fr hF ho => ?_
  unfold FnbO at hF
  split at hF
  · rename_i s
    cases hF
    have hb := numI_bd s
    refine ⟨[], lamNb s (numP s (numM s)).1 (numP s (numM s)).2, 200, Hsim.refl _, lam1 (by kernel_rfl) (sumNb s), ?_⟩
    show GoodQ (execF Tryz.prog g0 (lamNb s (numP s (numM s)).1 (numP s (numM s)).2) 200 Tryz.f59 [.v (.string s)] [] (packK 0)) _
    rw [treeNb]
    refine good_needs ?_ (good_out ⟨.v (i64 (numI s)), rfl, ?_, Hsim.refl _⟩)
    · simp only [ob_cons, ob_nil, and_true]
      exact chk_of ⟨trivial, Hsim.refl _⟩
    · rw [show (numP s (numM s)).2 * (numP s (numM s)).1 = numI s from rfl, wr_in (by omega)]
  · cases hF
end Go.Proofs.YtddhmidegldhdaaGreatDoor

/- The text of a tidy design, the reference's side. Conditions: a valid list of wheels. -/
namespace Go.Proofs.YtddhmidegldhdaaGreatDoor
open Go.RowKit
set_option maxRecDepth 100000

def inD (n : Int) : Bool := decide (-9223372036854775807 ≤ n ∧ n ≤ 9223372036854775807)
theorem gmDec_ok : GamOk Tryz.prog (gmDec decB inD) := ext_ok g0_ok ok_dec
theorem swB_eq (a0 a1 a2 a3 a4 a5 a6 a7 a8 : Int) : catB (catB (catB (catB (catB (catB (catB (catB (catB (catB (catB (catB (catB (catB (catB (catB (decB a0) (ByteArray.mk (Array.mk [58]))) (decB a1)) (ByteArray.mk (Array.mk [44]))) (decB a2)) (ByteArray.mk (Array.mk [44]))) (decB a3)) (ByteArray.mk (Array.mk [44]))) (decB a4)) (ByteArray.mk (Array.mk [44]))) (decB a5)) (ByteArray.mk (Array.mk [44]))) (decB a6)) (ByteArray.mk (Array.mk [44]))) (decB a7)) (ByteArray.mk (Array.mk [44]))) (decB a8) = wtx ⟨a0, ⟨a1, a2, a3, a4, a5, a6, a7, a8⟩⟩ := by
  have c58 : (ByteArray.mk (Array.mk [58])) = ⟨[(58 : UInt8)].toArray⟩ := rfl
  have c44 : (ByteArray.mk (Array.mk [44])) = ⟨[(44 : UInt8)].toArray⟩ := rfl
  simp only [decB, c58, c44, catB_mk, wtx, wtxL, Lib.join_cons]
  simp [Lib.joinTail]
theorem ok_sw : SpecOk Tryz.prog 180 (specV (fWtO wtx okw)) := by
  refine mkV (n := 200) gmDec_ok Tryz.func180 rfl fun vs x ob hF ho => ?_
  unfold fWtO at hF
  split at hF
  · rename_i a0 a1 a2 a3 a4 a5 a6 a7 a8
    simp only [Option.some.injEq, Prod.mk.injEq] at hF
    obtain ⟨rfl, rfl⟩ := hF
    have hw : okw ⟨a0, ⟨a1, a2, a3, a4, a5, a6, a7, a8⟩⟩ = true := by simpa [obls] using ho
    have h9 := okw_9 hw
    simp only [List.forall_mem_cons, List.not_mem_nil, false_imp_iff, implies_true, and_true] at h9
    obtain ⟨⟨p1, p2⟩, ⟨b1, b2⟩, ⟨c1, c2⟩, ⟨d1, d2⟩, ⟨e1, e2⟩, ⟨f1, f2⟩, ⟨g1, g2⟩, ⟨i1, i2⟩, ⟨j1, j2⟩⟩ := h9
    have q0 := decB_size (n := a0) (by omega) (by omega); have q1 := decB_size (n := a1) (by omega) (by omega); have q2 := decB_size (n := a2) (by omega) (by omega)
    have q3 := decB_size (n := a3) (by omega) (by omega); have q4 := decB_size (n := a4) (by omega) (by omega); have q5 := decB_size (n := a5) (by omega) (by omega)
    have q6 := decB_size (n := a6) (by omega) (by omega); have q7 := decB_size (n := a7) (by omega) (by omega); have q8 := decB_size (n := a8) (by omega) (by omega)
    have s58 : (ByteArray.mk (Array.mk [58])).size = 1 := rfl
    have s44 : (ByteArray.mk (Array.mk [44])).size = 1 := rfl
    suffices h : GoodQ _ (Gives (.string (wtx ⟨a0, ⟨a1, a2, a3, a4, a5, a6, a7, a8⟩⟩))) from ⟨h.out⟩
    show GoodQ (execF Tryz.prog (gmDec decB inD) noLam 200 Tryz.f180 [.v (.agg ⟨[i64 a0, i64 a1, i64 a2, i64 a3, i64 a4, i64 a5, i64 a6, i64 a7, i64 a8]⟩)] [] valK) _
    rw [treeSw]
    refine good_needs ?_ (good_out ⟨_, rfl, ?_⟩)
    · simp only [ob_cons, ob_nil, and_true, Nat.ble_eq, catB_size, s58, s44, inD, decide_eq_true_eq]
      omega
    · rw [swB_eq]
      rfl
  · cases hF

theorem gmSx_ok : GamOk Tryz.prog (gmSx wtx okw) := ext_ok g0_ok ok_sw
def accS (f : Nat → Nat → Int) (i : Nat) : ByteArray := ⟨(textL (listW f i)).toArray⟩
theorem textL_snoc (L : List Wh) (w : Wh) (h : L ≠ []) : textL (L ++ [w]) = textL L ++ [32] ++ wtxL w := by
  cases L with
  | nil => exact absurd rfl h
  | cons x L =>
    simp only [textL, List.cons_append, List.map_cons, List.map_append, List.map_nil, Lib.join_cons]
    simp [Lib.joinTail]
theorem accS_succ (f : Nat → Nat → Int) (i : Nat) (h : 0 < i) : catB (catB (accS f i) (ByteArray.mk (Array.mk [32]))) (wtx (whOf (f i))) = accS f (i + 1) := by
  have c32 : (ByteArray.mk (Array.mk [32])) = ⟨[(32 : UInt8)].toArray⟩ := rfl
  rw [accS, accS, c32, wtx, catB_mk, catB_mk, listW_succ, textL_snoc _ _ (fun e => by have := congrArg List.length e; rw [listW_length] at this; simp at this; omega)]
theorem accS_one (f : Nat → Nat → Int) : catB (accS f 0) (wtx (whOf (f 0))) = accS f 1 := by
  rw [accS, accS, wtx, catB_mk, listW_succ]
  have e1 : textL (listW f 0) = [] := rfl
  rw [e1]
  simp [textL, listW, Lib.join_one]
theorem accS_size {f : Nat → Nat → Int} {m i : Nat} (hok : ∀ w ∈ listW f m, okw w = true) (hi : i ≤ m) : (accS f i).size ≤ i * 201 := by
  rw [accS, mk_size]
  have := textL_size (L := listW f i) fun w hw => by
    obtain ⟨j, hj, rfl⟩ := List.mem_map.1 hw
    exact hok _ (List.mem_map.2 ⟨j, List.mem_range.2 (by have := List.mem_range.1 hj; omega), rfl⟩)
  rwa [listW_length] at this
theorem sumSx (m : Nat) (f : Nat → Nat → Int) (t : TypeId) (hm : m ≤ 12) (hok : ∀ w ∈ listW f m, okw w = true) :
    SumOk Tryz.prog 1 (.block 0 (.loop (loopAt 0 Tryz.f124))) (atS 26 (lvSx .normal) 1 (stSx m ⟨#[]⟩ 0) (hpSx m f t) (fun K => K .normal (mkT 0 26 [(3, .v (.string (accS f m)))]) (hpSx m f t))) := by
  refine for_at gmSx_ok (n := 100) (m := 1) (lv := lvSx) (fun i => stSx m (accS f i) i) (fun _ => hpSx m f t) (fun _ => True) m (fun _ => noLam) (lv3_ris rfl rfl rfl) (Nat.le_refl _) trivial fun K Q hk i hi him => ⟨noLam_ok _ _ _, ?_⟩
  rw [rndSx]
  refine good_cond (fun c1 => ?_) fun c1 => ?_
  · have c1 := of_decide_eq_true c1
    have c1' : i < m := by omega
    have hw : okw (whOf (f i)) = true := hok _ (List.mem_of_getElem? (listW_get f c1'))
    have hz := wtx_size hw
    have ha := accS_size hok (i := i) (by omega)
    have s32 : (ByteArray.mk (Array.mk [32])).size = 1 := rfl
    rw [Int.toNat_natCast, Nat.zero_add, wr_in (x := (i : Int) + 1) (by omega)]
    show GoodQ (cond _ (needs [_, _, _, okw (whOf (f i)), _] _) (needs [_, _, okw (whOf (f i)), _] _)) _
    refine good_cond (fun c2 => ?_) fun c2 => ?_
    · have c2 := of_decide_eq_true c2
      refine good_needs ?_ (good_out ⟨i + 1, ⟨rfl, c1', trivial⟩, ?_, Hsim.refl _⟩)
      · show obls [_, _, _, _, Nat.ble (_ + (wtx (whOf (f i))).size) _] = true
        simp only [ob_cons, ob_nil, and_true, decide_eq_true_eq, Nat.ble_eq, catB_size, s32, hw, true_and]
        omega
      · show [_, AV.v (.string (catB (catB (accS f i) _) (wtx (whOf (f i))))), _] = _
        rw [accS_succ f i (by omega)]
        rfl
    · have c2 := of_decide_eq_false c2
      have : i = 0 := by omega
      subst this
      refine good_needs ?_ (good_out ⟨0 + 1, ⟨rfl, c1', trivial⟩, ?_, Hsim.refl _⟩)
      · show obls [_, _, _, Nat.ble (_ + (wtx (whOf (f 0))).size) _] = true
        simp only [ob_cons, ob_nil, and_true, decide_eq_true_eq, Nat.ble_eq, hw, true_and]
        omega
      · show [_, AV.v (.string (catB (accS f 0) (wtx (whOf (f 0))))), _] = _
        rw [accS_one f]
        rfl
  · have c1 := of_decide_eq_false c1
    have : i = m := by omega
    subst this
    refine good_out ⟨_, Hsim.refl _, ?_⟩
    rw [if_pos rfl]
    exact hk
theorem ok_sx : SpecOk Tryz.prog 124 (specR md_ws (FtxO textB okD)) := by
  refine specR_hr gmSx_ok Tryz.func124 rfl fun sas fr hF ho => ?_
  unfold FtxO at hF
  split at hF
  · rename_i m g
    cases hF
    simp only [ob_cons] at ho
    obtain ⟨h1, h2, _⟩ := ho
    have hok := okD_okw h2
    have hm := okD_len h2
    rw [listW_length] at hm
    have hl : (listW (itW g) m).length = m := listW_length _ _
    refine ⟨[.row false m 9 (row9 (itW g)) 60], lamSx m (itW g) 60 (accS (itW g) m), 100, .cons (ABeq.row fun j hj => allW_get h1 j hj) .nil, lam1 (by kernel_rfl) (sumSx m (itW g) 60 hm hok), ?_⟩
    show GoodQ (execF Tryz.prog (gmSx wtx okw) (lamSx m (itW g) 60 (accS (itW g) m)) 100 Tryz.f124 [.sl 0 9 0 0 m none] [.row false m 9 (row9 (itW g)) 60] (packK 1)) _
    rw [treeSx]
    refine good_cond (fun c0 => ?_) fun c0 => good_needs ?_ ?_
    · have c0 : m = 0 := by simpa using c0
      subst c0
      exact good_out ⟨_, rfl, rfl, .cons (ABeq.row fun j hj => (allW_get h1 j hj).symm) .nil⟩
    · rw [ob_cons]
      exact ⟨chk_of ⟨rfl, Hsim.refl _⟩, rfl⟩
    · have c0 : m ≠ 0 := by simpa using c0
      refine good_out ⟨_, rfl, ?_, .cons (ABeq.row fun j hj => (allW_get h1 j hj).symm) .nil⟩
      have : (listW (itW g) m).isEmpty = false := by
        cases hL : listW (itW g) m with
        | nil => rw [hL] at hl; exact absurd hl.symm c0
        | cons => rfl
      rw [textB, this]
      rfl
  · cases hF
end Go.Proofs.YtddhmidegldhdaaGreatDoor

/- DesignAt, the reference's: its word. Conditions: a list of wheels. -/
namespace Go.Proofs.YtddhmidegldhdaaGreatDoor
open Go.RowKit
set_option maxRecDepth 100000

end Go.Proofs.YtddhmidegldhdaaGreatDoor

/- impl.at and the program's DesignAt: the reference's word. Conditions: a list of wheels. -/
namespace Go.Proofs.YtddhmidegldhdaaGreatDoor
open Go.RowKit
set_option maxRecDepth 100000

end Go.Proofs.YtddhmidegldhdaaGreatDoor

/- Single points of both. Conditions: a point. -/
namespace Go.Proofs.YtddhmidegldhdaaGreatDoor
open Go.RowKit
set_option maxRecDepth 100000

end Go.Proofs.YtddhmidegldhdaaGreatDoor

/- Single numbers that stay finite: sums and products of small ones. No program, no conditions. -/
namespace Go.Proofs.YtddhmidegldhdaaGreatDoor
open Go.RowKit

def Fin32 (x : Nat) (e : Int) : Prop := ∃ s m i, FloatKind.f32.format.read x = .number s m i ∧ i + (m.log2 : Int) ≤ e
theorem Fin32.mono {x : Nat} {e d : Int} (h : Fin32 x e) (hd : e ≤ d) : Fin32 x d := by
  obtain ⟨s, m, i, h1, h2⟩ := h
  exact ⟨s, m, i, h1, by omega⟩
end Go.Proofs.YtddhmidegldhdaaGreatDoor

/- The reference's DesignTidy: its word. Conditions: a list of wheels. -/
namespace Go.Proofs.YtddhmidegldhdaaGreatDoor
open Go.RowKit
set_option maxRecDepth 100000

def gmZ1 (okd : List Wh → Bool) (ti : List Wh → List Wh) (okt : List Wh → Bool) : Gam := ext (ext g0 140 (specR md_ws (FdvO okd))) 41 (specR md_ws (FtidyO ti okt))
theorem gmZ1_ok : GamOk Tryz.prog (gmZ1 okD tidyL okT) := by
  unfold gmZ1
  rw [FtidyO_eq, FdvO_eq]
  exact ext_ok (ext_ok g0_ok ok_dv) ok_tidyS
theorem treeTiS (okd : List Wh → Bool) (ti : List Wh → List Wh) (okt : List Wh → Bool) (m : Nat) (f : Nat → Nat → Int) : execF Tryz.prog (gmZ1 okd ti okt) noLam 100 Tryz.f123 [.sl 0 9 0 0 m none] [.row false m 9 (row9 f) 60] (packK 1)
    = needs [Nat.ble ((0 : Nat) + m) m, allW m fun q ↦ row9 f ((0 : Nat) + q), decide (m ≤ (549755813888 : Nat))] (bif !okd (listW (itW fun q ↦ row9 f ((0 : Nat) + q)) m) then Res.out .ret [AV.tup [AV.own 1 (0 : Nat), AV.v (.bool false)]] [AB.row false m 9 (row9 f) 60, AB.row true (0 : Nat) (9 : Nat) (fun _ ↦ []) (60 : Nat)] else needs [Nat.ble ((0 : Nat) + m) m, allW m fun q ↦ row9 f ((0 : Nat) + q), decide (m ≤ (274877906944 : Nat))] (Res.out .ret [AV.tup [AV.own 1 (List.length (ti (listW (itW fun q ↦ row9 f ((0 : Nat) + q)) m))), AV.v (.bool (okt (listW (itW fun q ↦ row9 f ((0 : Nat) + q)) m)))]] [AB.row false m 9 (row9 f) 60, AB.row true (List.length (ti (listW (itW fun q ↦ row9 f ((0 : Nat) + q)) m))) (9 : Nat) (row9 (wfun (ti (listW (itW fun q ↦ row9 f ((0 : Nat) + q)) m)))) 60])) := by kernel_rfl

def FOw (yes : List Wh → Bool) (tl : List Wh → List Wh) : List SA → Option FR
  | [.row m g] => some { val := .tup [.own 0 (tl (listW (itW g) m)).length, .v (.bool (yes (listW (itW g) m)))], new := [.row true (tl (listW (itW g) m)).length 9 (row9 (wfun (tl (listW (itW g) m)))) 60], obl := [allW m g, decide (m ≤ 2 ^ 38)] }
  | _ => none
theorem tI_no {L : List Wh} (h : yI L = false) : tI L = [] := by rw [tI, h]; rfl
theorem ok_tiS : SpecOk Tryz.prog 123 (specR md_ws (FOw yI tI)) := by
  refine specR_hr gmZ1_ok Tryz.func123 rfl fun sas fr hF ho => ?_
  unfold FOw at hF
  split at hF
  · rename_i m g
    cases hF
    simp only [ob_cons] at ho
    obtain ⟨h1, h2, _⟩ := ho
    have hm := of_decide_eq_true h2
    refine ⟨[.row false m 9 (row9 (itW g)) 60], noLam, 100, .cons (ABeq.row fun j hj => allW_get h1 j hj) .nil, noLam' _, ?_⟩
    show GoodQ (execF Tryz.prog (gmZ1 okD tidyL okT) noLam 100 Tryz.f123 [.sl 0 9 0 0 m none] [.row false m 9 (row9 (itW g)) 60] (packK 1)) _
    rw [treeTiS]
    simp only [row0, listW_itW]
    refine good_needs (by simp only [ob_cons, ob_nil, and_true, decide_eq_true_eq, Nat.ble_eq, allW_row, true_and]; omega) (good_cond (fun q => ?_) fun q => ?_)
    · have q2 : okD (listW (itW g) m) = false := by simpa using q
      have hy : yI (listW (itW g) m) = false := by rw [yI, q2]; rfl
      refine good_out ⟨_, rfl, ?_, .cons (ABeq.row fun j hj => (allW_get h1 j hj).symm) ?_⟩
      · rw [tI_no hy, hy]
        rfl
      · show Hsim _ [.row true (tI (listW (itW g) m)).length 9 (row9 (wfun (tI (listW (itW g) m)))) 60]
        rw [tI_no hy]
        exact .cons (ABeq.row fun j hj => absurd hj (Nat.not_lt_zero _)) .nil
    · have q2 : okD (listW (itW g) m) = true := by simpa using q
      refine good_needs (by simp only [ob_cons, ob_nil, and_true, decide_eq_true_eq, Nat.ble_eq, allW_row, true_and]; omega) (good_out ?_)
      have hT : tI (listW (itW g) m) = tidyL (listW (itW g) m) := by
        rw [tI, yI, q2, Bool.true_and]
        cases ht : okT (listW (itW g) m) with
        | true => rfl
        | false => exact (tidyL_no ht).symm
      have hY : yI (listW (itW g) m) = okT (listW (itW g) m) := by rw [yI, q2, Bool.true_and]
      refine ⟨_, rfl, ?_, .cons (ABeq.row fun j hj => (allW_get h1 j hj).symm) ?_⟩
      · rw [hT, hY]
        rfl
      · show Hsim _ [.row true (tI (listW (itW g) m)).length 9 (row9 (wfun (tI (listW (itW g) m)))) 60]
        rw [hT]
        exact Hsim.refl _
  · cases hF

end Go.Proofs.YtddhmidegldhdaaGreatDoor

/- DesignCheck of both: trees. Conditions: a list of wheels. -/
namespace Go.Proofs.YtddhmidegldhdaaGreatDoor
open Go.RowKit
set_option maxRecDepth 100000

end Go.Proofs.YtddhmidegldhdaaGreatDoor

/- DesignCheck of both: single points, loops. Conditions: a list of wheels. -/
namespace Go.Proofs.YtddhmidegldhdaaGreatDoor
open Go.RowKit
set_option maxRecDepth 100000

abbrev hpC (m : Nat) (f : Nat → Nat → Int) : List AB := [.row false m 9 (row9 f) 60]
def hsh (h : Int) (R M : Nat) : Int := IntKind.wrap IntKind.u32 (IntKind.wrap IntKind.u32 (((BitVec.ofInt 32 (IntKind.wrap IntKind.u32 (IntKind.wrap IntKind.u32 (((BitVec.ofInt 32 h ^^^ BitVec.ofInt 32 (R : Int)).toNat : Nat) : Int) * 16777619)) ^^^ BitVec.ofInt 32 (M : Int)).toNat : Nat) : Int) * 16777619)
def gmTdI (yI : List Wh → Bool) (tI : List Wh → List Wh) : Gam := ext g0 43 (specU md_ws (UO0 yI tI))
def gmTdS (yI : List Wh → Bool) (tI : List Wh → List Wh) : Gam := ext g0 123 (specR md_ws (FOw yI tI))
end Go.Proofs.YtddhmidegldhdaaGreatDoor

/- DesignCheck of both: their word. Conditions: a list of wheels. -/
namespace Go.Proofs.YtddhmidegldhdaaGreatDoor
open Go.RowKit
set_option maxRecDepth 100000

end Go.Proofs.YtddhmidegldhdaaGreatDoor

/- DesignText and EntryMake of both sides: trees. Conditions: a list of wheels. -/
namespace Go.Proofs.YtddhmidegldhdaaGreatDoor
open Go.RowKit
set_option maxRecDepth 100000

def gmDtI (yI : List Wh → Bool) (tI : List Wh → List Wh) (tx : List Wh → ByteArray) (okd : List Wh → Bool) : Gam := ext (gmTdI yI tI) 44 (specR md_ws (FtxO tx okd))
def gmDtS (yI : List Wh → Bool) (tI : List Wh → List Wh) (tx : List Wh → ByteArray) (okd : List Wh → Bool) : Gam := ext (gmTdS yI tI) 124 (specR md_ws (FtxO tx okd))
theorem treeDtI_h (yI : List Wh → Bool) (tI : List Wh → List Wh) (tx : List Wh → ByteArray) (okd : List Wh → Bool) (m : Nat) (f : Nat → Nat → Int) (u0 : _) (hu0 : (listW (itW fun q ↦ row9 f ((0 : Nat) + q)) m) = u0) (u1 : _) (hu1 : (listW (itW fun q ↦ row9 (wfun (tI u0)) ((0 : Nat) + q)) (List.length (tI u0))) = u1) (u2 : _) (hu2 : [AB.row false m 9 (row9 f) 60] = u2) : execF Tryz.prog (gmDtI yI tI tx okd) noLam 100 Tryz.f14 [.sl 0 9 0 0 m none] (hpC m f) (packK 1)
    = needs [Nat.ble ((0 : Nat) + m) m, allW m fun q ↦ row9 f ((0 : Nat) + q), decide (m ≤ (274877906944 : Nat))] (bif !yI u0 then Res.out .ret [AV.tup [AV.v (.string (ByteArray.mk (Array.mk []))), AV.v (.bool false)]] u2 else needs [Nat.ble ((0 : Nat) + List.length (tI u0)) (List.length (tI u0)), allW (List.length (tI u0)) fun q ↦ row9 (wfun (tI u0)) ((0 : Nat) + q), okd u1] (Res.out .ret [AV.tup [AV.v (.string (tx u1)), AV.v (.bool true)]] u2)) := by
  subst hu2 hu1 hu0
  kernel_rfl
theorem treeDtI (yI : List Wh → Bool) (tI : List Wh → List Wh) (tx : List Wh → ByteArray) (okd : List Wh → Bool) (m : Nat) (f : Nat → Nat → Int) : type_of% (treeDtI_h yI tI tx okd m f _ rfl _ rfl _ rfl) := treeDtI_h yI tI tx okd m f _ rfl _ rfl _ rfl

theorem treeDtS_h (yI : List Wh → Bool) (tI : List Wh → List Wh) (tx : List Wh → ByteArray) (okd : List Wh → Bool) (m : Nat) (f : Nat → Nat → Int) (u0 : _) (hu0 : (listW (itW fun q ↦ row9 f ((0 : Nat) + q)) m) = u0) (u1 : _) (hu1 : (List.length (tI u0)) = u1) (u2 : _) (hu2 : [AB.row false m 9 (row9 f) 60] = u2) : execF Tryz.prog (gmDtS yI tI tx okd) noLam 100 Tryz.f60 [.sl 0 9 0 0 m none] (hpC m f) (packK 1)
    = needs [Nat.ble ((0 : Nat) + m) m, allW m fun q ↦ row9 f ((0 : Nat) + q), decide (m ≤ (274877906944 : Nat))] (bif !yI u0 then Res.out .ret [AV.tup [AV.v (.string (ByteArray.mk (Array.mk []))), AV.v (.bool false)]] u2 else needs [Nat.ble u1 u1, allW u1 (row9 (wfun (tI u0))), okd (listW (itW (row9 (wfun (tI u0)))) u1)] (Res.out .ret [AV.tup [AV.v (.string (tx (listW (itW (row9 (wfun (tI u0)))) u1))), AV.v (.bool true)]] u2)) := by
  subst hu2 hu1 hu0
  kernel_rfl
theorem treeDtS (yI : List Wh → Bool) (tI : List Wh → List Wh) (tx : List Wh → ByteArray) (okd : List Wh → Bool) (m : Nat) (f : Nat → Nat → Int) : type_of% (treeDtS_h yI tI tx okd m f _ rfl _ rfl _ rfl) := treeDtS_h yI tI tx okd m f _ rfl _ rfl _ rfl

def FdtO (tv : List Wh → ByteArray) (yt : List Wh → Bool) : List SA → Option FR
  | [.row m g] => some { val := .tup [.v (.string (tv (listW (itW g) m))), .v (.bool (yt (listW (itW g) m)))], obl := [allW m g, decide (m ≤ 2 ^ 38)] }
  | _ => none
end Go.Proofs.YtddhmidegldhdaaGreatDoor

/- Plain algebra: how great products, mirrored points and parts can be. No program, no conditions. -/
namespace Go.Proofs.YtddhmidegldhdaaGreatDoor
open Go.RowKit

def bd8 (B : Int) (f : Nat → Int) : Prop := ∀ k, k < 8 → -B ≤ f k ∧ f k ≤ B
end Go.Proofs.YtddhmidegldhdaaGreatDoor

/- Plain lists of wheels: sums over the wheels that are linear in the radii do not change when the list is tidied; a tidy list is known by its sums. No program, no conditions. -/
namespace Go.Proofs.YtddhmidegldhdaaGreatDoor
open Go.RowKit

def linS (φ : Int → (Nat → Int) → Int) : List Wh → Int
  | [] => 0
  | w :: l => φ w.s w.r.f + linS φ l
def Lin (φ : Int → (Nat → Int) → Int) : Prop := ∀ s f g, φ s (fun k => f k + g k) = φ s f + φ s g
theorem Lin.zero {φ : Int → (Nat → Int) → Int} (h : Lin φ) (s : Int) : φ s (fun _ => 0) = 0 := by
  have := h s (fun _ => 0) (fun _ => 0)
  have e : (fun k : Nat => (fun _ : Nat => (0 : Int)) k + (fun _ : Nat => (0 : Int)) k) = fun _ => 0 := by
    funext k
    rfl
  rw [e] at this
  omega
def bdW (B : Int) (L : List Wh) : Prop := ∀ w ∈ L, bd8 B w.r.f
theorem Cy.f_out (a : Cy) {k : Nat} (h : 8 ≤ k) : a.f k = 0 := by
  unfold Cy.f
  match k, h with
  | k + 8, _ => rfl
theorem cyAdd_f {a b : Cy} (ha : bd8 2000000000000 a.f) (hb : bd8 2000000000000 b.f) : (cyAdd a b).f = fun k => a.f k + b.f k := by
  funext k
  by_cases hk : k < 8
  · have e : (cyAdd a b).f k = W (a.f k + b.f k) := by
      rcases (by omega : k = 0 ∨ k = 1 ∨ k = 2 ∨ k = 3 ∨ k = 4 ∨ k = 5 ∨ k = 6 ∨ k = 7) with rfl | rfl | rfl | rfl | rfl | rfl | rfl | rfl <;> rfl
    have h1 := ha k hk
    have h2 := hb k hk
    rw [e, w64_in (by omega) (by omega)]
  · rw [Cy.f_out _ (by omega), Cy.f_out _ (by omega), Cy.f_out _ (by omega)]
    rfl
theorem cyOk_bd {a : Cy} (h : cyOk a = true) : bd8 1000000 a.f := fun k hk => by
  have := smallF_iff.1 h k hk
  omega
theorem bd8.mono {A B : Int} {f : Nat → Int} (h : bd8 A f) (hAB : A ≤ B) : bd8 B f := fun k hk => by
  have := h k hk
  omega
theorem bdW.mono {A B : Int} {L : List Wh} (h : bdW A L) (hAB : A ≤ B) : bdW B L := fun w hw => (h w hw).mono hAB

theorem linS_insS {φ : Int → (Nat → Int) → Int} (hφ : Lin φ) {w : Wh} (hw : bd8 2000000000000 w.r.f) : ∀ {l : List Wh}, bdW 2000000000000 l → linS φ (insS l w) = linS φ l + φ w.s w.r.f
  | [], _ => by
    show φ w.s w.r.f + 0 = 0 + φ w.s w.r.f
    omega
  | x :: l, h => by
    unfold insS
    split
    · show φ x.s x.r.f + linS φ (insS l w) = φ x.s x.r.f + linS φ l + φ w.s w.r.f
      rw [linS_insS hφ hw fun y hy => h y (by simp [hy])]
      omega
    · split
      · rename_i e
        show φ x.s (cyAdd x.r w.r).f + linS φ l = φ x.s x.r.f + linS φ l + φ w.s w.r.f
        rw [cyAdd_f (h x (by simp)) hw, hφ, e]
        omega
      · show φ w.s w.r.f + (φ x.s x.r.f + linS φ l) = φ x.s x.r.f + linS φ l + φ w.s w.r.f
        omega
def okW (L : List Wh) : Prop := ∀ w ∈ L, cyOk w.r = true
theorem okW.bd {L : List Wh} (h : okW L) : bdW 1000000 L := fun w hw => cyOk_bd (h w hw)
theorem insS_ok {l : List Wh} {w : Wh} (hr : rising l) (h : okW l) (ho : cyOk (sumR l w) = true) : okW (insS l w) := fun x hx => by
  have := (insS_perm hr).subset hx
  rcases List.mem_cons.1 this with rfl | hx
  · exact ho
  · exact h x (List.mem_filter.1 hx).1
theorem linS_run {φ : Int → (Nat → Int) → Int} (hφ : Lin φ) : ∀ {ws acc B : List Wh}, bdW 2000000000000 ws → rising acc → okW acc → runT insS acc ws = some B → linS φ B = linS φ acc + linS φ ws ∧ rising B ∧ okW B
  | [], acc, B, _, hr, ho, h => by
    simp only [runT, Option.some.injEq] at h
    subst h
    exact ⟨by show linS φ acc = linS φ acc + 0; omega, hr, ho⟩
  | w :: ws, acc, B, hb, hr, ho, h => by
    unfold runT at h
    split at h
    · rename_i hk
      obtain ⟨e, h1, h2⟩ := linS_run hφ (ws := ws) (fun x hx => hb x (by simp [hx])) (insS_rising w hr) (insS_ok hr ho hk) h
      refine ⟨?_, h1, h2⟩
      rw [e, linS_insS hφ (hb w (by simp)) (ho.bd.mono (by omega))]
      show _ = linS φ acc + (φ w.s w.r.f + linS φ ws)
      omega
    · cases h
theorem linS_nonZ {φ : Int → (Nat → Int) → Int} (hφ : Lin φ) : ∀ L : List Wh, linS φ (nonZ L) = linS φ L
  | [] => rfl
  | w :: l => by
    have ih := linS_nonZ hφ l
    unfold nonZ at ih ⊢
    by_cases h : w.r = cyZ
    · rw [List.filter_cons_of_neg (by simp [h]), ih]
      show linS φ l = φ w.s w.r.f + linS φ l
      rw [h, show cyZ.f = fun _ => 0 from funext fun k => by
        by_cases hk : k < 8
        · rcases (by omega : k = 0 ∨ k = 1 ∨ k = 2 ∨ k = 3 ∨ k = 4 ∨ k = 5 ∨ k = 6 ∨ k = 7) with rfl | rfl | rfl | rfl | rfl | rfl | rfl | rfl <;> rfl
        · exact Cy.f_out _ (by omega), hφ.zero]
      omega
    · rw [List.filter_cons_of_pos (by simp [h])]
      show φ w.s w.r.f + linS φ _ = φ w.s w.r.f + linS φ l
      rw [ih]
def isTidy (T : List Wh) : Prop := rising T ∧ (∀ w ∈ T, w.r ≠ cyZ) ∧ dValid T = true
theorem tidyS_lin {ws T : List Wh} (hb : bdW 2000000000000 ws) (h : tidyS ws = some T) : isTidy T ∧ ∀ φ, Lin φ → linS φ T = linS φ ws := by
  unfold tidyS at h
  split at h
  · rename_i l hl
    split at h
    · rename_i hv
      cases h
      obtain ⟨_, h1, _⟩ := linS_run (φ := fun _ _ => 0) (fun _ _ _ => rfl) hb List.Pairwise.nil (fun w hw => by simp at hw) hl
      refine ⟨⟨List.Pairwise.filter _ h1, fun w hw => by simpa using (List.mem_filter.1 hw).2, hv⟩, fun φ hφ => ?_⟩
      obtain ⟨e, _⟩ := linS_run hφ hb List.Pairwise.nil (fun w hw => by simp at hw) hl
      rw [linS_nonZ hφ, e]
      show 0 + _ = _
      omega
    · cases h
  · cases h
theorem okT_some {L : List Wh} (h : okT L = true) : tidyS L = some (tidyL L) := by
  unfold okT at h
  unfold tidyL
  cases e : tidyS L with
  | none => rw [e] at h; cases h
  | some T => rfl
theorem tidyL_lin {ws : List Wh} (hb : bdW 2000000000000 ws) (h : okT ws = true) : isTidy (tidyL ws) ∧ ∀ φ, Lin φ → linS φ (tidyL ws) = linS φ ws := tidyS_lin hb (okT_some h)

theorem insS_end : ∀ {l : List Wh} {w : Wh}, (∀ x ∈ l, x.s < w.s) → insS l w = l ++ [w]
  | [], _, _ => rfl
  | x :: l, w, h => by
    unfold insS
    rw [if_pos (h x (by simp)), insS_end fun y hy => h y (by simp [hy])]
    rfl
theorem sumR_end {l : List Wh} {w : Wh} (h : ∀ x ∈ l, x.s < w.s) : sumR l w = w.r := by
  have : (l.find? fun x => decide (x.s = w.s)) = none := List.find?_eq_none.2 fun x hx => by
    have := h x hx
    simp only [decide_eq_true_eq]
    omega
  simp [sumR, radAt, this]
theorem run_tidy : ∀ {ws acc : List Wh}, rising (acc ++ ws) → okW ws → runT insS acc ws = some (acc ++ ws)
  | [], acc, _, _ => by simp [runT]
  | w :: ws, acc, hr, ho => by
    have hl : ∀ x ∈ acc, x.s < w.s := fun x hx => (List.pairwise_append.1 hr).2.2 x hx w (by simp)
    unfold runT
    rw [sumR_end hl, if_pos (ho w (by simp)), insS_end hl, run_tidy (by simpa using hr) fun x hx => ho x (by simp [hx])]
    simp
theorem dValid_ok {L : List Wh} (h : dValid L = true) : okW L := fun w hw => by
  rw [dValid, Bool.and_eq_true, List.all_eq_true] at h
  have := h.2 w hw
  rw [Bool.and_eq_true] at this
  exact this.2
theorem tidyS_self {T : List Wh} (h : isTidy T) : tidyS T = some T := by
  have hz : nonZ T = T := List.filter_eq_self.2 fun w hw => by simpa using h.2.1 w hw
  unfold tidyS
  rw [run_tidy (acc := []) (by simpa using h.1) (dValid_ok h.2.2)]
  simp only [List.nil_append]
  rw [hz, if_pos h.2.2]
theorem okT_self {T : List Wh} (h : isTidy T) : okT T = true := by rw [okT, tidyS_self h]; rfl
theorem tidyL_self {T : List Wh} (h : isTidy T) : tidyL T = T := by rw [tidyL, tidyS_self h]; rfl

end Go.Proofs.YtddhmidegldhdaaGreatDoor
