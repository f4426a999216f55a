/- The frame of a law over bytes. No conditions. -/
import Derived.Test.YtfpebhlkikmgbaaGreatDoorZD0
import Derived.Test.YtfpebhlkikmgbaaGreatDoorZD1
import Derived.Test.YtfpebhlkikmgbaaGreatDoorZD2
import Derived.Test.YtfpebhlkikmgbaaGreatDoorZD3
/- The sort of wheels by their speeds. Conditions: at most twelve. -/
namespace Go.Proofs.YtfpebhlkikmgbaaGreatDoor
open Go.RowKit
set_option maxRecDepth 100000

noncomputable abbrev fIS : Func := Tryz.f70
theorem treeCmp (a b : Int) : execF Tryz.prog g0 noLam 100 Tryz.f42 ([i64 a, i64 b].map .v) [] valK
    = bif a != a then bif b != b then Res.out .ret [AV.v (.int .i64 0)] [] else Res.out .ret [AV.v (.int .i64 (-1 : Int))] [] else bif b != b then Res.out .ret [AV.v (.int .i64 1)] [] else bif decide (a < b) then Res.out .ret [AV.v (.int .i64 (-1 : Int))] [] else bif decide (a > b) then Res.out .ret [AV.v (.int .i64 1)] [] else Res.out .ret [AV.v (.int .i64 0)] [] := by kernel_rfl

def cmpI (a b : Int) : Int := bif decide (a < b) then -1 else bif decide (a > b) then 1 else 0
def f_cmp : List Value → Option (Value × List Bool)
  | [.int .i64 a, .int .i64 b] => some (.int .i64 (cmpI a b), [])
  | _ => none
theorem ok_cmp : SpecOk Tryz.prog 42 (specV f_cmp) := by
  refine mkV (n := 100) g0_ok Tryz.func42 rfl fun vs v ob hF ho => ?_
  unfold f_cmp at hF
  split at hF
  · rename_i a b
    cases hF
    show Good (execF Tryz.prog g0 noLam 100 Tryz.f42 ([i64 a, i64 b].map .v) [] valK) _
    rw [treeCmp]
    refine gives_of ?_
    have e1 : (a != a) = false := by simp
    have e2 : (b != b) = false := by simp
    rw [e1, e2, cond_false, cond_false]
    show outV (cond (decide (a < b)) (rv (.int .i64 (-1))) (cond (decide (a > b)) (rv (.int .i64 1)) (rv (.int .i64 0)))) = _
    simp only [outV_cond, outV_rv, cond_some, cond_int, cmpI]
  · cases hF
def gmCmp : Gam := ext g0 42 (specV f_cmp)
theorem gmCmp_ok : GamOk Tryz.prog gmCmp := ext_ok g0_ok ok_cmp

def fC3 (c : Int → Int → Int) : List Value → Option (Value × List Bool)
  | [.agg ⟨[.int .i64 a, .int .i64 _, .int .i64 _, .int .i64 _, .int .i64 _, .int .i64 _, .int .i64 _, .int .i64 _, .int .i64 _]⟩, .agg ⟨[.int .i64 b, .int .i64 _, .int .i64 _, .int .i64 _, .int .i64 _, .int .i64 _, .int .i64 _, .int .i64 _, .int .i64 _]⟩] => some (.int .i64 (c a b), [])
  | _ => none
theorem ok_c3 : SpecOk Tryz.prog 41 (specV (fC3 cmpI)) := by
  refine mkV (n := 100) gmCmp_ok Tryz.func41 rfl fun vs v ob hF ho => ?_
  unfold fC3 at hF
  split at hF
  · cases hF
    exact one (by kernel_rfl)
  · cases hF

def gmIS (c : Int → Int → Int) : Gam := ext g0 41 (specV (fC3 c))
abbrev fnS : AV := .fn 41 []
abbrev lvI2 : Ex → List Nat := lv3 [0, 1, 2, 3, 8, 9] [0, 1, 2, 3, 8] []
abbrev lvI0 : Ex → List Nat := lv3 [0, 1, 2, 3, 8] [] []
abbrev slS (m : Nat) : AV := .sl 0 9 0 0 m none
abbrev stI2 (m i j : Nat) : List AV := [slS m, .v (i64 0), .v (i64 m), fnS, .v (i64 i), .v (i64 j)]
abbrev stI0 (m i : Nat) : List AV := [slS m, .v (i64 0), .v (i64 m), fnS, .v (i64 i)]
theorem rndI2_h (c : Int → Int → Int) (m n : Nat) (h : Nat → Nat → Int) (t : TypeId) (i j : Nat) (u2 : _) (hu2 : ((↑j : Int) - (1 : Int)) = u2) (u5 : _) (hu5 : (0 : Nat) = u5) (u6 : _) (hu6 : (decide (IntKind.wrap .i64 u2 < (m : Int))) = u6) (u7 : _) (hu7 : (decide ((0 : Int) ≤ IntKind.wrap .i64 u2)) = u7) (u8 : _) (hu8 : (decide (u5 + Int.toNat (↑j : Int) < n)) = u8) (u9 : _) (hu9 : (decide ((↑j : Int) < (m : Int))) = u9) (u10 : _) (hu10 : (IntKind.wrap .i64 u2) = u10) (u11 : _) (hu11 : (AV.v (.int .i64 (m : Int))) = u11) (u12 : _) (hu12 : (AV.v (.int .i64 (↑i : Int))) = u12) (u0 : _) (hu0 : (u5 + Int.toNat u10) = u0) (u1 : _) (hu1 : (u5 + Int.toNat (↑j : Int)) = u1) (u3 : _) (hu3 : [AV.sl u5 (9 : Nat) u5 u5 m none, AV.v (.int .i64 0), u11, AV.fn (41 : FuncId) [], u12] = u3) (u4 : _) (hu4 : (decide (u5 + Int.toNat u10 < n)) = u4) : execC Tryz.prog (gmIS c) 100 noLam (loopAt 2 fIS) (mkT 0 53 ((lvI2 .normal).zip (stI2 m i j))) (hpDF n h t) (leafV 53 lvI2 1)
    = bif decide ((↑j : Int) > (0 : Int)) then needs [u9, u8, u7, u6, u4] (bif decide (c (h u1 u5) (h u0 u5) < (0 : Int)) then needs [u7, u6, u4, u9, u8, u9, u8, u7, u6, u4] (Res.out .normal [AV.sl u5 (9 : Nat) u5 u5 m none, AV.v (.int .i64 0), u11, AV.fn (41 : FuncId) [], u12, AV.v (.int .i64 u10)] [AB.row true n 9 (fun q ↦ [Value.int .i64 (bif Nat.beq q u0 then h u1 u5 else bif Nat.beq q u1 then h u0 u5 else h q u5), Value.int .i64 (bif Nat.beq q u0 then h u1 (1 : Nat) else bif Nat.beq q u1 then h u0 (1 : Nat) else h q (1 : Nat)), Value.int .i64 (bif Nat.beq q u0 then h u1 (2 : Nat) else bif Nat.beq q u1 then h u0 (2 : Nat) else h q (2 : Nat)), Value.int .i64 (bif Nat.beq q u0 then h u1 (3 : Nat) else bif Nat.beq q u1 then h u0 (3 : Nat) else h q (3 : Nat)), Value.int .i64 (bif Nat.beq q u0 then h u1 (4 : Nat) else bif Nat.beq q u1 then h u0 (4 : Nat) else h q (4 : Nat)), Value.int .i64 (bif Nat.beq q u0 then h u1 (5 : Nat) else bif Nat.beq q u1 then h u0 (5 : Nat) else h q (5 : Nat)), Value.int .i64 (bif Nat.beq q u0 then h u1 (6 : Nat) else bif Nat.beq q u1 then h u0 (6 : Nat) else h q (6 : Nat)), Value.int .i64 (bif Nat.beq q u0 then h u1 (7 : Nat) else bif Nat.beq q u1 then h u0 (7 : Nat) else h q (7 : Nat)), Value.int .i64 (bif Nat.beq q u0 then h u1 (8 : Nat) else bif Nat.beq q u1 then h u0 (8 : Nat) else h q (8 : Nat))]) t]) else Res.out (Ex.exit (2 : Nat)) u3 [AB.row true n 9 (row9 h) t]) else Res.out (Ex.exit (2 : Nat)) u3 [AB.row true n 9 (row9 h) t] := by
  subst hu4 hu3 hu1 hu0 hu12 hu11 hu10 hu9 hu8 hu7 hu6 hu5 hu2
  kernel_rfl
theorem rndI2 (c : Int → Int → Int) (m n : Nat) (h : Nat → Nat → Int) (t : TypeId) (i j : Nat) : type_of% (rndI2_h c m n h t i j _ rfl _ rfl _ rfl _ rfl _ rfl _ rfl _ rfl _ rfl _ rfl _ rfl _ rfl _ rfl _ rfl) := rndI2_h c m n h t i j _ rfl _ rfl _ rfl _ rfl _ rfl _ rfl _ rfl _ rfl _ rfl _ rfl _ rfl _ rfl _ rfl

noncomputable abbrev lamI2 (m n i : Nat) (h : Nat → Nat → Int) (t : TypeId) (h2 : Nat → Nat → Int) : Nat → Option Sum := oneL 2 (atS 53 (lvI2 .normal) 1 (stI2 m i i) (hpDF n h t) (fun K => K .normal (mkT 0 53 ([0, 1, 2, 3, 8].zip (stI0 m i))) (hpDF n h2 t)))
theorem rndI0 (c : Int → Int → Int) (m n : Nat) (h : Nat → Nat → Int) (t : TypeId) (i : Nat) (h2 : Nat → Nat → Int) : execC Tryz.prog (gmIS c) 100 (lamI2 m n i h t h2) (loopAt 0 fIS) (mkT 0 53 ((lvI0 .normal).zip (stI0 m i))) (hpDF n h t) (leafV 53 lvI0 1)
    = bif decide ((↑i : Int) < (m : Int)) then needs [chk ([AV.sl 0 (9 : Nat) (0 : Nat) (0 : Nat) m none, AV.v (.int .i64 0), AV.v (.int .i64 (m : Int)), AV.fn (41 : FuncId) [], AV.v (.int .i64 (↑i : Int)), AV.v (.int .i64 (↑i : Int))] = stI2 m i i ∧ Hsim [AB.row true n 9 (row9 h) t] (hpDF n h t))] (Res.out .normal [AV.sl 0 (9 : Nat) (0 : Nat) (0 : Nat) m none, AV.v (.int .i64 0), AV.v (.int .i64 (m : Int)), AV.fn (41 : FuncId) [], AV.v (.int .i64 (IntKind.wrap .i64 ((↑i : Int) + (1 : Int))))] [AB.row true n 9 (row9 h2) t]) else Res.out (Ex.exit (0 : Nat)) [] [AB.row true n 9 (row9 h) t] := by kernel_rfl

noncomputable abbrev lamI0 (m n : Nat) (h : Nat → Nat → Int) (t : TypeId) (h2 : Nat → Nat → Int) : Nat → Option Sum := oneL 0 (atS 53 (lvI0 .normal) 1 (stI0 m 1) (hpDF n h t) (fun K => K .normal (mkT 0 53 []) (hpDF n h2 t)))
theorem treeIS (m n : Nat) (h : Nat → Nat → Int) (t : TypeId) (h2 : Nat → Nat → Int) : execF Tryz.prog g0 (lamI0 m n h t h2) 100 fIS [slS m, .v (i64 0), .v (i64 m), fnS] (hpDF n h t) (packK 1)
    = needs [chk ([AV.sl 0 (9 : Nat) (0 : Nat) (0 : Nat) m none, AV.v (.int .i64 0), AV.v (.int .i64 (m : Int)), AV.fn (41 : FuncId) [], AV.v (.int .i64 1)] = stI0 m (1 : Nat) ∧ Hsim [AB.row true n 9 (row9 h) t] (hpDF n h t))] (Res.out .ret [AV.tup []] [AB.row true n 9 (row9 h2) t]) := by kernel_rfl

def errS : Sum := fun _ _ _ => .err
theorem rndI0n (c : Int → Int → Int) (m n : Nat) (h : Nat → Nat → Int) (t : TypeId) (i : Nat) : execC Tryz.prog (gmIS c) 100 (oneL 2 errS) (loopAt 0 fIS) (mkT 0 53 ((lvI0 .normal).zip (stI0 m i))) (hpDF n h t) (leafV 53 lvI0 1)
    = bif decide ((↑i : Int) < (m : Int)) then Res.err else Res.out (Ex.exit (0 : Nat)) [] [AB.row true n 9 (row9 h) t] := by kernel_rfl

theorem errS_ok {P : Program} {m0 : Nat} {b : Code} : SumOk P m0 b errS := by
  intro M w0 ν0 hM hm0 T H K Q a w ν hS
  exact hS.elim
def FisO (o : List Wh → List Wh) : List AV → List AB → Option HR
  | [.sl 0 9 0 0 m none, .v (.int .i64 0), .v (.int .i64 b), .fn fi []], [.row true n 9 g t] => some { val := .tup [], out := [.row true m 9 (row9 (wfun (o (listW (itW g) m)))) t], obl := [Nat.beq fi 41, decide (b = m), Nat.ble m n, allW n g, decide (m ≤ 2 ^ 38)] }
  | _, _ => none

theorem lamC {P : Program} {m0 id : Nat} {S : Sum} {c cc : Code} (h : codeAt id cc = [.block id (.loop c)]) (hS : SumOk P m0 (.block id (.loop c)) S) : LamOk P m0 (oneL id S) cc := by
  intro j S' hj b hb
  unfold oneL at hj
  cases hjb : Nat.beq j id with
  | false => rw [hjb] at hj; cases hj
  | true =>
    rw [hjb] at hj
    cases hj
    rw [Nat.eq_of_beq_eq_true hjb] at hb
    rw [h] at hb
    simp at hb
    subst hb
    exact hS

theorem cmpI_lt (a b : Int) : decide (cmpI a b < 0) = decide (a < b) := by
  unfold cmpI
  by_cases h : a < b
  · rw [decide_eq_true h]; rfl
  · by_cases h2 : a > b
    · rw [decide_eq_false h, decide_eq_true h2]; rfl
    · rw [decide_eq_false h, decide_eq_false h2]; rfl
theorem wfun_spd (L : List Wh) (j : Nat) : wfun L j 0 = spd L j := by
  unfold wfun spd
  cases L[j]? <;> rfl
theorem gmIS_ok : GamOk Tryz.prog (gmIS cmpI) := ext_ok g0_ok ok_c3
theorem sumI2 (m i : Nat) (L0 : List Wh) (t : TypeId) (hm : m ≤ 2 ^ 38) (hi : i < m) (hL : L0.length = m) :
    SumOk Tryz.prog 1 (.block 2 (.loop (loopAt 2 fIS))) (atS 53 (lvI2 .normal) 1 (stI2 m i i) (hpDF m (wfun L0) t) (fun K => K .normal (mkT 0 53 ([0, 1, 2, 3, 8].zip (stI0 m i))) (hpDF m (wfun (sinkL i L0)) t))) := by
  refine loop_at gmIS_ok (n := 100) (m := 1) (m0 := 1) (lv := lvI2) (σ := List Wh × Nat) (fun s => stI2 m i s.2) (fun s => hpDF m (wfun s.1) t) (fun s => s.1.length = m ∧ s.2 ≤ i ∧ sinkL s.2 s.1 = sinkL i L0) (fun s => s.2) (L0, i) (fun _ => noLam) (lv3_ris rfl rfl rfl) (Nat.le_refl _) ⟨hL, Nat.le_refl _, rfl⟩ fun K Q hk s hs => ⟨noLam_ok _ _ _, ?_⟩
  obtain ⟨L, j⟩ := s
  obtain ⟨h1, h2, h3⟩ := hs
  simp only at h1 h2 h3
  have done : sinkL j L = L → GoodQ (.out (.exit 2) (stI0 m i) (hpDF m (wfun L) t)) (RoundV 53 2 lvI2 (fun s : List Wh × Nat => stI2 m i s.2) (fun s => hpDF m (wfun s.1) t) (fun s' => (s'.1.length = m ∧ s'.2 ≤ i ∧ sinkL s'.2 s'.1 = sinkL i L0) ∧ s'.2 < j) K Q) := fun e => by
    refine good_out ⟨_, Hsim.refl _, ?_⟩
    rw [if_pos rfl]
    rw [← h3, e] at hk
    exact hk
  show GoodQ (execC Tryz.prog (gmIS cmpI) 100 noLam (loopAt 2 fIS) (mkT 0 53 ((lvI2 .normal).zip (stI2 m i j))) (hpDF m (wfun L) t) (leafV 53 lvI2 1)) _
  rw [rndI2]
  refine good_cond (fun c1 => ?_) fun c1 => ?_
  · have c1 := of_decide_eq_true c1
    obtain ⟨j, rfl⟩ : ∃ q, j = q + 1 := ⟨j - 1, by omega⟩
    have e1 : IntKind.wrap IntKind.i64 (((j + 1 : Nat) : Int) - 1) = (j : Int) := by rw [wr_in (by omega)]; omega
    simp only [e1, Int.toNat_natCast, Nat.zero_add]
    refine good_needs (by simp only [ob_cons, ob_nil, and_true, decide_eq_true_eq]; omega) ?_
    rw [cmpI_lt, wfun_spd, wfun_spd]
    refine good_cond (fun c2 => ?_) fun c2 => ?_
    · have c2 := of_decide_eq_true c2
      have e2 : sinkL (j + 1) L = sinkL j (swpL L j) := by rw [sinkL, if_pos c2]
      refine good_needs (by simp only [ob_cons, ob_nil, and_true, decide_eq_true_eq]; omega) (good_out ⟨(swpL L j, j), ⟨⟨by rw [swpL_length]; exact h1, by show j ≤ i; omega, by rw [← h3, e2]⟩, Nat.lt_succ_self j⟩, rfl, .cons (ABeq.row fun q hq => ?_) .nil⟩)
      show row9 (fun q k => bif Nat.beq q j then wfun L (j + 1) k else bif Nat.beq q (j + 1) then wfun L j k else wfun L q k) q = row9 (wfun (swpL L j)) q
      refine row9_congr fun k hk => ?_
      rw [wfun_swp L j q (by omega)]
      by_cases q1 : q = j
      · rw [q1, if_pos rfl, show Nat.beq j j = true from Nat.beq_refl j, cond_true]
      · rw [if_neg q1, beq_ne q1, cond_false]
        by_cases q2 : q = j + 1
        · rw [q2, if_pos rfl, show Nat.beq (j + 1) (j + 1) = true from Nat.beq_refl _, cond_true]
        · rw [if_neg q2, beq_ne q2, cond_false]
    · have c2 := of_decide_eq_false c2
      exact done (by rw [sinkL, if_neg c2])
  · have c1 := of_decide_eq_false c1
    have : j = 0 := by omega
    subst this
    exact done rfl

theorem sortTo_length (L : List Wh) (n : Nat) : (sortTo L n).length = L.length := (sortTo_perm L n).length_eq
theorem sumI0 (m : Nat) (L : List Wh) (t : TypeId) (hm : m ≤ 2 ^ 38) (hL : L.length = m) :
    SumOk Tryz.prog 1 (.block 0 (.loop (loopAt 0 fIS))) (atS 53 (lvI0 .normal) 1 (stI0 m 1) (hpDF m (wfun L) t) (fun K => K .normal (mkT 0 53 []) (hpDF m (wfun (sortL L)) t))) := by
  refine for_at gmIS_ok (n := 100) (m := 1) (m0 := 1) (lv := lvI0) (fun i => stI0 m (i + 1)) (fun i => hpDF m (wfun (sortTo L (i + 1))) t) (fun _ => True) (m - 1) (fun i => bif Nat.blt (i + 1) m then lamI2 m m (i + 1) (wfun (sortTo L (i + 1))) t (wfun (sinkL (i + 1) (sortTo L (i + 1)))) else oneL 2 errS) (lv3_ris rfl rfl rfl) (Nat.le_refl _) trivial fun K Q hk i _ him => ?_
  by_cases hlt : i + 1 < m
  · have b : Nat.blt (i + 1) m = true := by rw [Nat.blt_eq]; exact hlt
    rw [b, cond_true]
    refine ⟨lamC (by kernel_rfl) (sumI2 m (i + 1) (sortTo L (i + 1)) t hm hlt (by rw [sortTo_length]; exact hL)), ?_⟩
    rw [rndI0]
    refine good_true (decide_eq_true (by omega)) (good_needs (by rw [ob_cons]; exact ⟨chk_of ⟨rfl, Hsim.refl _⟩, rfl⟩) ?_)
    rw [wr_in (x := ((i + 1 : Nat) : Int) + 1) (by omega)]
    exact good_out ⟨i + 1, ⟨rfl, by omega, trivial⟩, rfl, Hsim.refl _⟩
  · have b : Nat.blt (i + 1) m = false := by
      cases hb : Nat.blt (i + 1) m with
      | false => rfl
      | true => rw [Nat.blt_eq] at hb; omega
    rw [b, cond_false]
    refine ⟨lamC (c := loopAt 2 fIS) (by kernel_rfl) errS_ok, ?_⟩
    have hs : sortTo L (i + 1) = sortL L := by
      unfold sortL
      rw [hL]
      by_cases h0 : m = 0
      · have : i = 0 := by omega
        subst this h0
        rfl
      · rw [show i + 1 = m by omega]
    rw [hs, rndI0n]
    refine good_false (decide_eq_false (by omega)) (good_out ⟨_, Hsim.refl _, ?_⟩)
    rw [if_pos rfl]
    exact hk

def F_is : List AV → List AB → Option HR := FisO sortL
theorem ok_is : SpecOk Tryz.prog 70 (specH [] F_is) := by
  refine specH_ok g0_ok Tryz.func70 rfl fun avs H hr hF ho => ?_
  unfold F_is FisO at hF
  split at hF
  · rename_i m b fi n g t
    cases hF
    simp only [ob_cons] at ho
    obtain ⟨h0, h1, h2, h3, h4, _⟩ := ho
    have h0 := Nat.eq_of_beq_eq_true h0
    have h1 := of_decide_eq_true h1
    have h4 := of_decide_eq_true h4
    have h2 := Nat.le_of_ble_eq_true h2
    subst h0 h1
    have hL : (listW (itW g) m).length = m := listW_length _ _
    refine ⟨hpDF m (wfun (listW (itW g) m)) t, lamI0 m m (wfun (listW (itW g) m)) t (wfun (sortL (listW (itW g) m))), 100, .cons (ABeq.cut h2 fun j hj => ?_) .nil, lam1 (by kernel_rfl) (sumI0 m (listW (itW g) m) t h4 hL), ?_⟩
    · rw [row9_list _ hj]
      exact allW_get h3 j (by omega)
    · show GoodQ (execF Tryz.prog g0 (lamI0 m m (wfun (listW (itW g) m)) t (wfun (sortL (listW (itW g) m)))) 100 fIS [slS m, .v (i64 0), .v (i64 m), fnS] (hpDF m (wfun (listW (itW g) m)) t) (packK 1)) _
      rw [treeIS]
      exact good_needs (by rw [ob_cons]; exact ⟨chk_of ⟨rfl, Hsim.refl _⟩, rfl⟩) (good_out ⟨rfl, Hsim.refl _⟩)
  · cases hF

end Go.Proofs.YtfpebhlkikmgbaaGreatDoor

/- SortFunc on wheels, and Clip. Conditions: at most twelve. -/
namespace Go.Proofs.YtfpebhlkikmgbaaGreatDoor
open Go.RowKit
set_option maxRecDepth 100000

noncomputable abbrev fSF : Func := Tryz.f40
def gmSF (o : List Wh → List Wh) : Gam := ext g0 70 (specH [] (FisO o))
theorem treeSFm (o : List Wh → List Wh) (n : Nat) (g : Nat → List Value) (t : TypeId) : ∀ m, m ≤ 12 → execF Tryz.prog (gmSF o) noLam 100 fSF [slS m, fnS] [.row true n 9 g t] (packK 1) = needs [Nat.ble m n, allW n g] (.out .ret [.tup []] [.row true m 9 (row9 (wfun (o (listW (itW g) m)))) t])
  | 0, _ => by kernel_rfl
  | 1, _ => by kernel_rfl
  | 2, _ => by kernel_rfl
  | 3, _ => by kernel_rfl
  | 4, _ => by kernel_rfl
  | 5, _ => by kernel_rfl
  | 6, _ => by kernel_rfl
  | 7, _ => by kernel_rfl
  | 8, _ => by kernel_rfl
  | 9, _ => by kernel_rfl
  | 10, _ => by kernel_rfl
  | 11, _ => by kernel_rfl
  | 12, _ => by kernel_rfl
  | n + 13, h => absurd h (by omega)
def FsfO (o : List Wh → List Wh) : List AV → List AB → Option HR
  | [.sl 0 9 0 0 m none, .fn fi []], [.row true n 9 g t] => some { val := .tup [], out := [.row true m 9 (row9 (wfun (o (listW (itW g) m)))) t], obl := [Nat.beq fi 41, Nat.ble m n, allW n g, decide (m ≤ 12)] }
  | _, _ => none
theorem ok_sort : SpecOk Tryz.prog 40 (specH [] (FsfO sortL)) := by
  refine specH_ok (ext_ok g0_ok ok_is) Tryz.func40 rfl fun avs H hr hF ho => ?_
  unfold FsfO at hF
  split at hF
  · rename_i m fi n g t
    cases hF
    simp only [ob_cons] at ho
    obtain ⟨h0, h1, h2, h3, _⟩ := ho
    have h0 := Nat.eq_of_beq_eq_true h0
    have h3 := of_decide_eq_true h3
    subst h0
    refine ⟨[.row true n 9 g t], noLam, 100, Hsim.refl _, noLam' _, ?_⟩
    show GoodQ (execF Tryz.prog (gmSF sortL) noLam 100 fSF [slS m, fnS] [.row true n 9 g t] (packK 1)) _
    rw [treeSFm _ _ _ _ m h3]
    exact good_needs (by simp only [ob_cons, ob_nil, and_true]; exact ⟨h1, h2⟩) (good_out ⟨rfl, Hsim.refl _⟩)
  · cases hF

end Go.Proofs.YtfpebhlkikmgbaaGreatDoor

/- tidied: the program's tidy design. Conditions: a list of wheels. -/
namespace Go.Proofs.YtfpebhlkikmgbaaGreatDoor
open Go.RowKit
set_option maxRecDepth 100000

def FifaO (o : (Nat → Nat → Int) → Int → Nat → Int) : List AV → List AB → Option HR
  | [.own 0 m, .fn 35 [.ptr 1 0 0 0]], [.row false n 9 g t, .cells [.v (.int .i64 x0), .v (.int .i64 x1), .v (.int .i64 x2), .v (.int .i64 x3), .v (.int .i64 x4), .v (.int .i64 x5), .v (.int .i64 x6), .v (.int .i64 x7), .v (.int .i64 x8)] t2] => some { val := .v (i64 (o (itW g) x0 m)), out := [.row false n 9 g t, .cells [.v (.int .i64 x0), .v (.int .i64 x1), .v (.int .i64 x2), .v (.int .i64 x3), .v (.int .i64 x4), .v (.int .i64 x5), .v (.int .i64 x6), .v (.int .i64 x7), .v (.int .i64 x8)] t2], obl := [Nat.beq n m, allW m g, decide (m ≤ 2 ^ 38)] }
  | _, _ => none
def fAdd2 (ad : (Nat → Int) → (Nat → Int) → Nat → Int) : List Value → Option (Value × List Bool)
  | [.agg ⟨[.int .i64 a0, .int .i64 a1, .int .i64 a2, .int .i64 a3, .int .i64 a4, .int .i64 a5, .int .i64 a6, .int .i64 a7]⟩, .agg ⟨[.int .i64 b0, .int .i64 b1, .int .i64 b2, .int .i64 b3, .int .i64 b4, .int .i64 b5, .int .i64 b6, .int .i64 b7]⟩] => some (cyv (ad (v8 a0 a1 a2 a3 a4 a5 a6 a7) (v8 b0 b1 b2 b3 b4 b5 b6 b7)), [])
  | _ => none
def gmTI (o : (Nat → Nat → Int) → Int → Nat → Int) (ok : (Nat → Int) → Bool) (ad : (Nat → Int) → (Nat → Int) → Nat → Int) : Gam := ext (ext (ext g0 37 (specV (fOkc ok))) 36 (specV (fAdd2 ad))) 34 (specH [true] (FifaO o))
abbrev lvTI : Ex → List Nat := lv3 [4, 9, 10, 11] [4] [2, 3]
abbrev hpTI (m : Nat) (f : Nat → Nat → Int) (t : TypeId) (n : Nat) (h : Nat → Nat → Int) : List AB := [.row false m 9 (row9 f) t, .row true n 9 (row9 h) 53]
abbrev stTI (m n i : Nat) : List AV := [.own 1 n, .sl 0 9 0 0 m none, .v (i64 m), .v (i64 i)]
theorem rndTI_h (o : (Nat → Nat → Int) → Int → Nat → Int) (ok : (Nat → Int) → Bool) (ad : (Nat → Int) → (Nat → Int) → Nat → Int) (m : Nat) (f : Nat → Nat → Int) (t : TypeId) (n : Nat) (h : Nat → Nat → Int) (i : Nat) (u6 : _) (hu6 : (0 : Nat) = u6) (u7 : _) (hu7 : (0 : Int) = u7) (u8 : _) (hu8 : (1 : Nat) = u8) (u9 : _) (hu9 : (AB.row false m 9 (row9 f) t) = u9) (u10 : _) (hu10 : (itW (row9 h)) = u10) (u11 : _) (hu11 : (↑n : Int) = u11) (u12 : _) (hu12 : (AV.v (.int .i64 (IntKind.wrap .i64 ((↑i : Int) + (1 : Int))))) = u12) (u14 : _) (hu14 : (decide (u11 < (↑(n + u8) : Int))) = u14) (u15 : _) (hu15 : (2 : Nat) = u15) (u16 : _) (hu16 : (5 : Nat) = u16) (u17 : _) (hu17 : (3 : Nat) = u17) (u18 : _) (hu18 : (4 : Nat) = u18) (u19 : _) (hu19 : (6 : Nat) = u19) (u21 : _) (hu21 : (7 : Nat) = u21) (u23 : _) (hu23 : (decide (Int.toNat u11 < n + u8)) = u23) (u24 : _) (hu24 : [AV.v (Value.slice none u6 u6), AV.v (.bool false)] = u24) (u25 : _) (hu25 : (AV.v (.int .i64 (m : Int))) = u25) (u0 : _) (hu0 : (u6 + Int.toNat (↑i : Int)) = u0) (u3 : _) (hu3 : (v8 (f u0 u8) (f u0 u15) (f u0 u17) (f u0 u18) (f u0 u16) (f u0 u19) (f u0 u21) (f u0 (8 : Nat))) = u3) (u4 : _) (hu4 : (Int.toNat (o u10 (f u0 u6) n)) = u4) (u5 : _) (hu5 : (Int.toNat u11) = u5) (u13 : _) (hu13 : (decide (Int.toNat (o u10 (f u0 u6) n) < n)) = u13) (u20 : _) (hu20 : (decide (u7 ≤ o u10 (f u0 u6) n)) = u20) (u22 : _) (hu22 : (decide (o u10 (f u0 u6) n < u11)) = u22) (u1 : _) (hu1 : (v8 (bif Nat.blt u5 n then h u5 u8 else u7) (bif Nat.blt u5 n then h u5 u15 else u7) (bif Nat.blt u5 n then h u5 u17 else u7) (bif Nat.blt u5 n then h u5 u18 else u7) (bif Nat.blt u5 n then h u5 u16 else u7) (bif Nat.blt u5 n then h u5 u19 else u7) (bif Nat.blt u5 n then h u5 u21 else u7) (bif Nat.blt u5 n then h u5 (8 : Nat) else u7)) = u1) (u2 : _) (hu2 : (v8 (h u4 u8) (h u4 u15) (h u4 u17) (h u4 u18) (h u4 u16) (h u4 u19) (h u4 u21) (h u4 (8 : Nat))) = u2) : execC Tryz.prog (gmTI o ok ad) 100 noLam (loopAt 0 Tryz.f18) (mkT 0 57 ((lvTI .normal).zip (stTI m n i))) (hpTI m f t n h) (leafV 57 lvTI 1)
    = bif decide ((↑i : Int) < (m : Int)) then needs [decide ((↑i : Int) < (m : Int)), decide (u6 + Int.toNat (↑i : Int) < m), Nat.beq n n, allW n (row9 h), decide (n ≤ (274877906944 : Nat))] (bif decide (o u10 (f u0 u6) n < u7) then needs [Nat.ble n n, Nat.ble (n + u8) (549755813888 : Nat), u14, u23, u14, u23, u14, u23] (bif !ok (v8 (bif Nat.beq u5 u5 then ad u1 u3 u6 else bif Nat.blt u5 n then h u5 u8 else u7) (bif Nat.beq u5 u5 then ad u1 u3 u8 else bif Nat.blt u5 n then h u5 u15 else u7) (bif Nat.beq u5 u5 then ad u1 u3 u15 else bif Nat.blt u5 n then h u5 u17 else u7) (bif Nat.beq u5 u5 then ad u1 u3 u17 else bif Nat.blt u5 n then h u5 u18 else u7) (bif Nat.beq u5 u5 then ad u1 u3 u18 else bif Nat.blt u5 n then h u5 u16 else u7) (bif Nat.beq u5 u5 then ad u1 u3 u16 else bif Nat.blt u5 n then h u5 u19 else u7) (bif Nat.beq u5 u5 then ad u1 u3 u19 else bif Nat.blt u5 n then h u5 u21 else u7) (bif Nat.beq u5 u5 then ad u1 u3 u21 else bif Nat.blt u5 n then h u5 (8 : Nat) else u7)) then Res.out .ret u24 [u9] else Res.out .normal [AV.own u8 (n + u8), AV.sl u6 (9 : Nat) u6 u6 m none, u25, u12] [u9, AB.row true (n + u8) (9 : Nat) (fun q ↦ [Value.int .i64 (bif Nat.beq q u5 then bif Nat.blt u5 n then h u5 u6 else f u0 u6 else bif Nat.blt q n then h q u6 else f u0 u6), Value.int .i64 (bif Nat.beq q u5 then ad u1 u3 u6 else bif Nat.blt q n then h q u8 else u7), Value.int .i64 (bif Nat.beq q u5 then ad u1 u3 u8 else bif Nat.blt q n then h q u15 else u7), Value.int .i64 (bif Nat.beq q u5 then ad u1 u3 u15 else bif Nat.blt q n then h q u17 else u7), Value.int .i64 (bif Nat.beq q u5 then ad u1 u3 u17 else bif Nat.blt q n then h q u18 else u7), Value.int .i64 (bif Nat.beq q u5 then ad u1 u3 u18 else bif Nat.blt q n then h q u16 else u7), Value.int .i64 (bif Nat.beq q u5 then ad u1 u3 u16 else bif Nat.blt q n then h q u19 else u7), Value.int .i64 (bif Nat.beq q u5 then ad u1 u3 u19 else bif Nat.blt q n then h q u21 else u7), Value.int .i64 (bif Nat.beq q u5 then ad u1 u3 u21 else bif Nat.blt q n then h q (8 : Nat) else u7)]) (53 : Nat)]) else needs [u20, u22, u13, u20, u22, u13, u20, u22, u13] (bif !ok (v8 (bif Nat.beq u4 u4 then ad u2 u3 u6 else h u4 u8) (bif Nat.beq u4 u4 then ad u2 u3 u8 else h u4 u15) (bif Nat.beq u4 u4 then ad u2 u3 u15 else h u4 u17) (bif Nat.beq u4 u4 then ad u2 u3 u17 else h u4 u18) (bif Nat.beq u4 u4 then ad u2 u3 u18 else h u4 u16) (bif Nat.beq u4 u4 then ad u2 u3 u16 else h u4 u19) (bif Nat.beq u4 u4 then ad u2 u3 u19 else h u4 u21) (bif Nat.beq u4 u4 then ad u2 u3 u21 else h u4 (8 : Nat))) then Res.out .ret u24 [u9] else Res.out .normal [AV.own u8 n, AV.sl u6 (9 : Nat) u6 u6 m none, u25, u12] [u9, AB.row true n 9 (fun q ↦ [Value.int .i64 (bif Nat.beq q u4 then h u4 u6 else h q u6), Value.int .i64 (bif Nat.beq q u4 then ad u2 u3 u6 else h q u8), Value.int .i64 (bif Nat.beq q u4 then ad u2 u3 u8 else h q u15), Value.int .i64 (bif Nat.beq q u4 then ad u2 u3 u15 else h q u17), Value.int .i64 (bif Nat.beq q u4 then ad u2 u3 u17 else h q u18), Value.int .i64 (bif Nat.beq q u4 then ad u2 u3 u18 else h q u16), Value.int .i64 (bif Nat.beq q u4 then ad u2 u3 u16 else h q u19), Value.int .i64 (bif Nat.beq q u4 then ad u2 u3 u19 else h q u21), Value.int .i64 (bif Nat.beq q u4 then ad u2 u3 u21 else h q (8 : Nat))]) 53])) else Res.out (Ex.exit u6) [AV.own u8 n] [u9, AB.row true n 9 (row9 h) 53] := by
  subst hu2 hu1 hu22 hu20 hu13 hu5 hu4 hu3 hu0 hu25 hu24 hu23 hu21 hu19 hu18 hu17 hu16 hu15 hu14 hu12 hu11 hu10 hu9 hu8 hu7 hu6
  kernel_rfl
theorem rndTI (o : (Nat → Nat → Int) → Int → Nat → Int) (ok : (Nat → Int) → Bool) (ad : (Nat → Int) → (Nat → Int) → Nat → Int) (m : Nat) (f : Nat → Nat → Int) (t : TypeId) (n : Nat) (h : Nat → Nat → Int) (i : Nat) : type_of% (rndTI_h o ok ad m f t n h i _ rfl _ rfl _ rfl _ rfl _ rfl _ rfl _ rfl _ rfl _ rfl _ rfl _ rfl _ rfl _ rfl _ rfl _ rfl _ rfl _ rfl _ rfl _ rfl _ rfl _ rfl _ rfl _ rfl _ rfl _ rfl _ rfl) := rndTI_h o ok ad m f t n h i _ rfl _ rfl _ rfl _ rfl _ rfl _ rfl _ rfl _ rfl _ rfl _ rfl _ rfl _ rfl _ rfl _ rfl _ rfl _ rfl _ rfl _ rfl _ rfl _ rfl _ rfl _ rfl _ rfl _ rfl _ rfl _ rfl

noncomputable abbrev lamTI (m : Nat) (f : Nat → Nat → Int) (t : TypeId) (c : Bool) (n : Nat) (h : Nat → Nat → Int) : Nat → Option Sum := oneL 0 (atS 57 (lvTI .normal) 1 (stTI m 0 0) (hpTI m f t 0 (wfun [])) (fun K => cond c (K .normal (mkT 0 57 [(4, .own 1 n)]) (hpTI m f t n h)) (K .ret (mkT 0 57 [(2, .v (.slice none 0 0)), (3, .v (.bool false))]) [.row false m 9 (row9 f) t])))
def FdelO (nz : List Wh → List Wh) : List AV → List AB → Option HR
  | [.own 0 m, .fn fi []], [.row true n 9 g t] => some { val := .sl 0 9 0 0 (nz (listW (itW g) m)).length none, out := [.row true m 9 (row9 (wfun (nz (listW (itW g) m)))) t], obl := [Nat.beq fi 39, Nat.beq n m, allW m g, decide (m ≤ 2 ^ 38)] }
  | _, _ => none
def FdvO (ok : List Wh → Bool) : List SA → Option FR
  | [.row m g] => some { val := .v (.bool (ok (listW (itW g) m))), obl := [allW m g, decide (m ≤ 2 ^ 39)] }
  | _ => none
def gmTm (nz srt : List Wh → List Wh) (okd : List Wh → Bool) : Gam := ext (ext (ext g0 25 (specR md_ws (FdvO okd))) 38 (specH [] (FdelO nz))) 40 (specH [] (FsfO srt))
theorem treeTI_h (nz srt : List Wh → List Wh) (okd : List Wh → Bool) (m : Nat) (f : Nat → Nat → Int) (t : TypeId) (c : Bool) (n : Nat) (h : Nat → Nat → Int) (u0 : _) (hu0 : (nz (listW (itW (row9 h)) n)) = u0) (u1 : _) (hu1 : (List.length u0) = u1) (u2 : _) (hu2 : (0 : Nat) = u2) (u3 : _) (hu3 : (AB.row false m 9 (row9 f) t) = u3) (u4 : _) (hu4 : [AV.tup [AV.v (Value.slice none u2 u2), AV.v (.bool false)]] = u4) (u5 : _) (hu5 : (↑u1 : Int) = u5) : execF Tryz.prog (gmTm nz srt okd) (lamTI m f t c n h) 100 Tryz.f18 [.sl 0 9 0 0 m none] [.row false m 9 (row9 f) t] (packK 1)
    = needs [chk ([AV.own 1 u2, AV.sl u2 (9 : Nat) u2 u2 m none, AV.v (.int .i64 (m : Int)), AV.v (.int .i64 0)] = stTI m u2 u2 ∧ Hsim [u3, AB.row true u2 9 (fun _ ↦ []) (53 : Nat)] (hpTI m f t u2 (wfun [])))] (bif c then needs [Nat.beq n n, allW n (row9 h), decide (n ≤ (274877906944 : Nat)), Nat.ble (u2 + List.length u0) n, allW u1 fun q ↦ row9 (wfun u0) (u2 + q), decide (List.length u0 ≤ (549755813888 : Nat))] (bif !okd (listW (itW fun q ↦ row9 (wfun u0) (u2 + q)) u1) then Res.out .ret u4 [u3] else needs [Nat.ble u1 n, allW n (row9 (wfun u0)), decide (List.length u0 ≤ (12 : Nat)), decide (u5 ≤ u5), decide (u5 ≤ u5)] (Res.out .ret [AV.tup [AV.sl 1 (9 : Nat) u2 u2 (Int.toNat (u5 - (0 : Int))) (some (Int.toNat (u5 - (0 : Int)))), AV.v (.bool true)]] [u3, AB.row true u1 9 (row9 (wfun (srt (listW (itW (row9 (wfun u0))) u1)))) 53])) else Res.out .ret u4 [u3]) := by
  subst hu5 hu4 hu3 hu2 hu1 hu0
  kernel_rfl
theorem treeTI (nz srt : List Wh → List Wh) (okd : List Wh → Bool) (m : Nat) (f : Nat → Nat → Int) (t : TypeId) (c : Bool) (n : Nat) (h : Nat → Nat → Int) : type_of% (treeTI_h nz srt okd m f t c n h _ rfl _ rfl _ rfl _ rfl _ rfl _ rfl) := treeTI_h nz srt okd m f t c n h _ rfl _ rfl _ rfl _ rfl _ rfl _ rfl


theorem badIa_row (h : Nat → Nat → Int) (x : Int) : badIa (itW (row9 h)) x = badIa h x := rfl
theorem FifaO_eq : FifaO (fun f x m => fstAt (badIa f x) m) = F_ifa := by
  funext l H
  rfl
theorem fAdd2_eq : fAdd2 plusF = f_plus := by
  funext l
  rfl
theorem gmTI_ok : GamOk Tryz.prog (gmTI (fun f x m => fstAt (badIa f x) m) (fun v => cyOk (cyOf v)) plusF) := by
  unfold gmTI
  rw [FifaO_eq, fAdd2_eq, fOkc_eq]
  exact ext_ok (ext_ok (ext_ok g0_ok ok_cvI) ok_plus) ok_ifa
theorem blt_no (n : Nat) : Nat.blt n n = false := by
  cases hb : Nat.blt n n with
  | false => rfl
  | true => rw [Nat.blt_eq] at hb; omega
theorem blt_yes {a b : Nat} (h : a < b) : Nat.blt a b = true := by rw [Nat.blt_eq]; exact h
theorem insA_le (acc : List Wh) (x : Wh) : (insA acc x).length ≤ acc.length + 1 := by
  induction acc with
  | nil => simp [insA]
  | cons y l ih =>
    unfold insA
    split
    · simp
    · simp only [List.length_cons]
      omega
theorem runA_len : ∀ {xs acc A : List Wh}, runT insA acc xs = some A → A.length ≤ acc.length + xs.length
  | [], acc, A, h => by
    simp only [runT, Option.some.injEq] at h
    subst h
    simp
  | x :: xs, acc, A, h => by
    simp only [runT] at h
    split at h
    · have := runA_len h
      have h2 := insA_le acc x
      simp only [List.length_cons]
      omega
    · cases h
def inW (L : List Wh) : Prop := ∀ w ∈ L, cyIn w.r
def accA (f : Nat → Nat → Int) (i : Nat) : List Wh := (runT insA [] (listW f i)).getD []
theorem accA_of {f : Nat → Nat → Int} {i : Nat} {A : List Wh} (h : runT insA [] (listW f i) = some A) : accA f i = A := by
  rw [accA, h]
  rfl
theorem new_row {A : List Wh} {f : Nat → Int} {b : Nat → Int} (hb : ∀ k, k < 8 → b k = (cyAdd cyZ (whOf f).r).f k) (q : Nat) (hq : q < A.length + 1) : [i64 (bif Nat.beq q A.length then f 0 else bif Nat.blt q A.length then wfun A q 0 else f 0), i64 (bif Nat.beq q A.length then b 0 else bif Nat.blt q A.length then wfun A q 1 else 0), i64 (bif Nat.beq q A.length then b 1 else bif Nat.blt q A.length then wfun A q 2 else 0), i64 (bif Nat.beq q A.length then b 2 else bif Nat.blt q A.length then wfun A q 3 else 0), i64 (bif Nat.beq q A.length then b 3 else bif Nat.blt q A.length then wfun A q 4 else 0), i64 (bif Nat.beq q A.length then b 4 else bif Nat.blt q A.length then wfun A q 5 else 0), i64 (bif Nat.beq q A.length then b 5 else bif Nat.blt q A.length then wfun A q 6 else 0), i64 (bif Nat.beq q A.length then b 6 else bif Nat.blt q A.length then wfun A q 7 else 0), i64 (bif Nat.beq q A.length then b 7 else bif Nat.blt q A.length then wfun A q 8 else 0)] = row9 (wfun (A ++ [⟨f 0, cyAdd cyZ (whOf f).r⟩])) q := by
  by_cases e : q = A.length
  · subst e
    have e1 : wfun (A ++ [⟨f 0, cyAdd cyZ (whOf f).r⟩]) A.length = whN ⟨f 0, cyAdd cyZ (whOf f).r⟩ := by
      rw [wfun_get (by simp)]
      simp
    simp only [show Nat.beq A.length A.length = true from Nat.beq_refl _, cond_true, hb 0 (by omega), hb 1 (by omega), hb 2 (by omega), hb 3 (by omega), hb 4 (by omega), hb 5 (by omega), hb 6 (by omega), hb 7 (by omega), row9, e1]
    rfl
  · have hlt : q < A.length := by omega
    have e1 : wfun (A ++ [⟨f 0, cyAdd cyZ (whOf f).r⟩]) q = wfun A q := by
      funext k
      simp only [wfun, List.getElem?_append_left hlt]
    simp only [beq_ne e, blt_yes hlt, cond_true, cond_false, row9, e1]
theorem old_row {A : List Wh} {s : Int} {r : Cy} {b : Nat → Int} {i : Nat} (hi : i < A.length) (hs : A[i].s = s) (hb : ∀ k, k < 8 → b k = r.f k) (q : Nat) : [i64 (bif Nat.beq q i then wfun A i 0 else wfun A q 0), i64 (bif Nat.beq q i then b 0 else wfun A q 1), i64 (bif Nat.beq q i then b 1 else wfun A q 2), i64 (bif Nat.beq q i then b 2 else wfun A q 3), i64 (bif Nat.beq q i then b 3 else wfun A q 4), i64 (bif Nat.beq q i then b 4 else wfun A q 5), i64 (bif Nat.beq q i then b 5 else wfun A q 6), i64 (bif Nat.beq q i then b 6 else wfun A q 7), i64 (bif Nat.beq q i then b 7 else wfun A q 8)] = row9 (wfun (A.set i ⟨s, r⟩)) q := by
  by_cases e : q = i
  · subst e
    have e0 : wfun A q 0 = s := by rw [wfun_get hi, ← hs]; rfl
    simp only [e0, show Nat.beq q q = true from Nat.beq_refl _, cond_true, hb 0 (by omega), hb 1 (by omega), hb 2 (by omega), hb 3 (by omega), hb 4 (by omega), hb 5 (by omega), hb 6 (by omega), hb 7 (by omega), row9, wfun_set A q _ q hi, if_pos]
    rfl
  · simp only [beq_ne e, cond_false, row9, wfun_set A i _ q hi, if_neg e]
theorem sumTI (m : Nat) (f : Nat → Nat → Int) (t : TypeId) (hm : m ≤ 2 ^ 38) (hin : inW (listW f m)) :
    SumOk Tryz.prog 1 (.block 0 (.loop (loopAt 0 Tryz.f18))) (atS 57 (lvTI .normal) 1 (stTI m 0 0) (hpTI m f t 0 (wfun [])) (fun K => cond (runT insA [] (listW f m)).isSome (K .normal (mkT 0 57 [(4, .own 1 (accA f m).length)]) (hpTI m f t (accA f m).length (wfun (accA f m)))) (K .ret (mkT 0 57 [(2, .v (.slice none 0 0)), (3, .v (.bool false))]) [.row false m 9 (row9 f) t]))) := by
  refine for_at gmTI_ok (n := 100) (m := 1) (lv := lvTI) (fun i => stTI m (accA f i).length i) (fun i => hpTI m f t (accA f i).length (wfun (accA f i))) (fun i => (runT insA [] (listW f i)).isSome = true) m (fun _ => noLam) (lv3_ris rfl rfl rfl) (Nat.le_refl _) rfl fun K Q hk i hi him => ⟨noLam_ok _ _ _, ?_⟩
  obtain ⟨A, hA⟩ := Option.isSome_iff_exists.1 hi
  have eA := accA_of hA
  have hl : A.length ≤ i := by
    have := runA_len hA
    rw [listW_length] at this
    simpa using this
  have hs : runT insA [] (listW f (i + 1)) = if cyOk (sumR A (whOf (f i))) = true then some (insA A (whOf (f i))) else none := by
    rw [listW_succ, runT_snoc, hA]
  rw [rndTI, eA]
  refine good_cond (fun c1 => ?_) fun c1 => ?_
  · have c1 := of_decide_eq_true c1
    have c1' : i < m := by omega
    have hw : cyIn (whOf (f i)).r := hin _ (List.mem_of_getElem? (listW_get f c1'))
    have bad : ∀ (r : Cy), sumR A (whOf (f i)) = r → cyOk r = false → GoodQ (.out .ret [.v (.slice none 0 0), .v (.bool false)] [.row false m 9 (row9 f) t]) (RoundV 57 0 lvTI (fun i => stTI m (accA f i).length i) (fun i => hpTI m f t (accA f i).length (wfun (accA f i))) (fun s' => s' = i + 1 ∧ i < m ∧ (runT insA [] (listW f (i + 1))).isSome = true) K Q) := fun r e1 e2 => by
      rw [e1, e2] at hs
      obtain ⟨ys, e⟩ := listW_split f (show i + 1 ≤ m by omega)
      have hn : runT insA [] (listW f m) = none := by rw [e]; exact runT_none _ _ _ _ (by simpa using hs)
      rw [hn] at hk
      exact good_out ⟨_, Hsim.refl _, hk⟩
    simp only [Int.toNat_natCast, Nat.zero_add, badIa_row]
    rw [wr_in (x := (i : Int) + 1) (by omega)]
    refine good_needs (by simp only [ob_cons, ob_nil, and_true, decide_eq_true_eq, allW_row, true_and, beq_me]; omega) ?_
    rcases fstAt_cases (badIa (wfun A) (f i 0)) A.length with ⟨q1, q2⟩ | ⟨i0, q0, q1, q3, q4, q2⟩
    · have hno : ∀ x ∈ A, x.s ≠ (whOf (f i)).s := by
        intro x hx
        obtain ⟨j, hj, rfl⟩ := List.mem_iff_getElem.1 hx
        have := noneTo_get (bad := badIa (wfun A) (f i 0)) q1 hj
        simp only [badIa, wfun_get hj, beq_eq_false_iff_ne] at this
        exact this
      have eS : sumR A (whOf (f i)) = cyAdd cyZ (whOf (f i)).r := by rw [sumR_new hno, cyAdd_zero hw]
      have eI := insA_new hno
      rw [q2]
      refine good_true rfl ?_
      simp only [beq_me, blt_no, cond_true, cond_false]
      refine good_needs (by simp only [ob_cons, ob_nil, and_true, decide_eq_true_eq, Nat.ble_eq]; omega) (good_cond (fun q => ?_) fun q => ?_)
      · refine bad _ eS ?_
        have q' : (!(cyOk (cyAdd cyZ (whOf (f i)).r))) = true := q
        simpa using q'
      · have q0' : (!(cyOk (cyAdd cyZ (whOf (f i)).r))) = false := q
        have q' : cyOk (cyAdd cyZ (whOf (f i)).r) = true := by simpa using q0'
        rw [eS, if_pos q', eI] at hs
        refine good_out ⟨i + 1, ⟨rfl, c1', by rw [hs]; rfl⟩, ?_, ?_⟩
        · show _ = stTI m (accA f (i + 1)).length (i + 1)
          rw [accA_of hs, List.length_append]
          rfl
        · show Hsim _ (hpTI m f t (accA f (i + 1)).length (wfun (accA f (i + 1))))
          rw [accA_of hs, List.length_append]
          refine .cons (ABeq.refl _) (.cons (ABeq.row fun q hq => ?_) .nil)
          exact new_row (fun k hk => by rcases (by omega : k = 0 ∨ k = 1 ∨ k = 2 ∨ k = 3 ∨ k = 4 ∨ k = 5 ∨ k = 6 ∨ k = 7) with rfl | rfl | rfl | rfl | rfl | rfl | rfl | rfl <;> rfl) q hq
    · have hs0 : A[i0].s = (whOf (f i)).s := by
        have := q3
        simp only [badIa, wfun_get q0, beq_iff_eq] at this
        exact this
      have hno : ∀ j (hj : j < i0), (A[j]'(by omega)).s ≠ (whOf (f i)).s := by
        intro j hj
        have := noneTo_get (bad := badIa (wfun A) (f i 0)) q1 hj
        simp only [badIa, wfun_get (show j < A.length by omega), beq_eq_false_iff_ne] at this
        exact this
      have eS := sumR_at q0 hs0 hno
      have eI := insA_at q0 hs0 hno
      rw [q2]
      refine good_false (by simp) ?_
      simp only [Int.toNat_natCast, beq_me, cond_true]
      refine good_needs (by simp only [ob_cons, ob_nil, and_true, decide_eq_true_eq]; omega) (good_cond (fun q => ?_) fun q => ?_)
      · refine bad _ eS ?_
        simp only [wfun_get q0] at q
        have q' : (!(cyOk (cyAdd A[i0].r (whOf (f i)).r))) = true := q
        simpa using q'
      · simp only [wfun_get q0] at q
        have q0' : (!(cyOk (cyAdd A[i0].r (whOf (f i)).r))) = false := q
        have q' : cyOk (cyAdd A[i0].r (whOf (f i)).r) = true := by simpa using q0'
        rw [eS, if_pos q', eI] at hs
        refine good_out ⟨i + 1, ⟨rfl, c1', by rw [hs]; rfl⟩, ?_, ?_⟩
        · show _ = stTI m (accA f (i + 1)).length (i + 1)
          rw [accA_of hs, List.length_set]
          rfl
        · show Hsim _ (hpTI m f t (accA f (i + 1)).length (wfun (accA f (i + 1))))
          rw [accA_of hs, List.length_set]
          refine .cons (ABeq.refl _) (.cons (ABeq.row fun q hq => ?_) .nil)
          refine old_row q0 hs0 (fun k hk => ?_) q
          rw [wfun_get q0]
          rcases (by omega : k = 0 ∨ k = 1 ∨ k = 2 ∨ k = 3 ∨ k = 4 ∨ k = 5 ∨ k = 6 ∨ k = 7) with rfl | rfl | rfl | rfl | rfl | rfl | rfl | rfl <;> rfl
  · have c1 := of_decide_eq_false c1
    have : i = m := by omega
    subst this
    refine good_out ⟨_, Hsim.refl _, ?_⟩
    rw [if_pos rfl]
    rw [hA, eA] at hk
    exact hk

theorem FdelO_eq : FdelO nonZ = F_del := by
  funext l H
  rfl
theorem FdvO_eq : FdvO okD = F_dv := by
  funext l
  rfl
theorem gmTm_ok : GamOk Tryz.prog (gmTm nonZ sortL okD) := by
  unfold gmTm
  rw [FdelO_eq, FdvO_eq]
  exact ext_ok (ext_ok (ext_ok g0_ok ok_dvI) ok_del) ok_sort
noncomputable def inWB (L : List Wh) : Bool := chk (inW L)
def okT (L : List Wh) : Bool := (tidyS L).isSome
abbrev valY (T : List Wh) : AV := .tup [.sl 0 9 0 0 T.length (some T.length), .v (.bool true)]
abbrev valN : AV := .tup [.v (.slice none 0 0), .v (.bool false)]
abbrev newY (T : List Wh) : List AB := [.row true T.length 9 (row9 (wfun T)) 53]
noncomputable def F_tiY : List SA → Option FR
  | [.row m g] => some { val := valY (tidyL (listW (itW g) m)), new := newY (tidyL (listW (itW g) m)), obl := [allW m g, decide (m ≤ 2 ^ 38), inWB (listW (itW g) m), okT (listW (itW g) m)] }
  | _ => none
noncomputable def F_tiN : List SA → Option FR
  | [.row m g] => some { val := valN, obl := [allW m g, decide (m ≤ 2 ^ 38), inWB (listW (itW g) m), !okT (listW (itW g) m)] }
  | _ => none
theorem listW_self (L : List Wh) (n : Nat) (h : L.length = n) : listW (itW (row9 (wfun L))) n = L := by
  subst h
  exact listW_fun L
theorem listW_self0 (L : List Wh) (n : Nat) (h : L.length = n) : listW (itW fun q => row9 (wfun L) (0 + q)) n = L := by
  have : (fun q => row9 (wfun L) (0 + q)) = row9 (wfun L) := by funext q; rw [Nat.zero_add]
  rw [this]
  exact listW_self L n h
theorem sortL_length (L : List Wh) : (sortL L).length = L.length := (sortL_perm L).length_eq
theorem ti_run (m : Nat) (f : Nat → Nat → Int) (t : TypeId) (hm : m ≤ 2 ^ 38) (hin : inW (listW f m)) (Q : Ex → List AV → List AB → Prop)
    (hY : okT (listW f m) = true → ∀ T, tidyL (listW f m) = T → Q .ret [.tup [.sl 1 9 0 0 T.length (some T.length), .v (.bool true)]] [.row false m 9 (row9 f) t, .row true T.length 9 (row9 (wfun T)) 53])
    (hN : okT (listW f m) = false → Q .ret [valN] [.row false m 9 (row9 f) t]) :
    GoodQ (execF Tryz.prog (gmTm nonZ sortL okD) (lamTI m f t (runT insA [] (listW f m)).isSome (accA f m).length (wfun (accA f m))) 100 Tryz.f18 [.sl 0 9 0 0 m none] [.row false m 9 (row9 f) t] (packK 1)) Q := by
  have hte := tidy_eq hin
  rw [treeTI]
  refine good_needs (by rw [ob_cons]; exact ⟨chk_of ⟨rfl, .cons (ABeq.refl _) (.cons (ABeq.row fun j hj => by omega) .nil)⟩, rfl⟩) ?_
  refine good_cond (fun q => ?_) fun q => ?_
  · obtain ⟨A, hA⟩ := Option.isSome_iff_exists.1 q
    have eA := accA_of hA
    have hl : A.length ≤ m := by
      have := runA_len hA
      rw [listW_length] at this
      simpa using this
    rw [hA] at hte
    simp only at hte
    have hz : (nonZ A).length ≤ A.length := List.length_filter_le _ _
    rw [eA, listW_self A _ rfl, listW_self0 (nonZ A) _ rfl, listW_self (nonZ A) _ rfl]
    refine good_needs (by simp only [ob_cons, ob_nil, and_true, decide_eq_true_eq, Nat.ble_eq, allW_row, true_and, beq_me, Nat.zero_add]; omega) (good_cond (fun q2 => ?_) fun q2 => ?_)
    · have q2 : dValid (nonZ A) = false := by
        have q2' : (!dValid (nonZ A)) = true := q2
        simpa using q2'
      rw [if_neg (by rw [q2]; simp)] at hte
      exact good_out (hN (by rw [okT, ← hte]; rfl))
    · have q2 : dValid (nonZ A) = true := by
        have q2' : (!dValid (nonZ A)) = false := q2
        simpa using q2'
      rw [if_pos q2] at hte
      have hlen : (nonZ A).length ≤ 12 := by
        have := q2
        rw [dValid, Bool.and_eq_true] at this
        exact of_decide_eq_true this.1
      have eT : tidyL (listW f m) = sortL (nonZ A) := by rw [tidyL, ← hte]; rfl
      have := hY (by rw [okT, ← hte]; rfl) _ eT
      rw [sortL_length] at this
      refine good_needs (by simp only [ob_cons, ob_nil, and_true, decide_eq_true_eq, Nat.ble_eq, allW_row, true_and]; omega) ?_
      simp only [Int.sub_zero, Int.toNat_natCast]
      exact good_out this
  · have hA : runT insA [] (listW f m) = none := by
      cases h : runT insA [] (listW f m) with
      | none => rfl
      | some A => rw [h] at q; cases q
    rw [hA] at hte
    exact good_out (hN (by rw [okT, ← hte]; rfl))

theorem tiLam (m : Nat) (f : Nat → Nat → Int) (t : TypeId) (hm : m ≤ 2 ^ 38) (hin : inW (listW f m)) : ∀ c, (Tryz.f18).body = some c → LamOk Tryz.prog 1 (lamTI m f t (runT insA [] (listW f m)).isSome (accA f m).length (wfun (accA f m))) c := lam1 (by kernel_rfl) (sumTI m f t hm hin)
theorem ok_tiY : SpecOk Tryz.prog 18 (specR md_ws F_tiY) := by
  refine specR_hr gmTm_ok Tryz.func18 rfl fun sas fr hF ho => ?_
  unfold F_tiY at hF
  split at hF
  · rename_i m g
    cases hF
    simp only [ob_cons] at ho
    obtain ⟨h1, h2, h3, h4, _⟩ := ho
    have hm := of_decide_eq_true h2
    have hin := of_chk h3
    refine ⟨[.row false m 9 (row9 (itW g)) 53], _, 100, .cons (ABeq.row fun j hj => allW_get h1 j hj) .nil, tiLam m (itW g) 53 hm hin, ti_run m (itW g) 53 hm hin _ (fun _ T hT => ?_) fun hN => by rw [hN] at h4; cases h4⟩
    subst hT
    exact ⟨_, rfl, rfl, .cons (ABeq.row fun j hj => (allW_get h1 j hj).symm) (Hsim.refl _)⟩
  · cases hF
theorem ok_tiN : SpecOk Tryz.prog 18 (specR md_ws F_tiN) := by
  refine specR_hr gmTm_ok Tryz.func18 rfl fun sas fr hF ho => ?_
  unfold F_tiN at hF
  split at hF
  · rename_i m g
    cases hF
    simp only [ob_cons] at ho
    obtain ⟨h1, h2, h3, h4, _⟩ := ho
    have hm := of_decide_eq_true h2
    have hin := of_chk h3
    refine ⟨[.row false m 9 (row9 (itW g)) 53], _, 100, .cons (ABeq.row fun j hj => allW_get h1 j hj) .nil, tiLam m (itW g) 53 hm hin, ti_run m (itW g) 53 hm hin _ (fun hY => by rw [hY] at h4; cases h4) fun _ => ?_⟩
    exact ⟨_, rfl, rfl, .cons (ABeq.row fun j hj => (allW_get h1 j hj).symm) .nil⟩
  · cases hF

end Go.Proofs.YtfpebhlkikmgbaaGreatDoor

/- l2Turned and l2Done, the reference's: their words. Conditions: at most 2^40 steps. -/
namespace Go.Proofs.YtfpebhlkikmgbaaGreatDoor
open Go.RowKit
set_option maxRecDepth 100000

abbrev cyC (a : Nat → Int) : List AV := [.v (i64 (a 0)), .v (i64 (a 1)), .v (i64 (a 2)), .v (i64 (a 3)), .v (i64 (a 4)), .v (i64 (a 5)), .v (i64 (a 6)), .v (i64 (a 7))]
end Go.Proofs.YtfpebhlkikmgbaaGreatDoor

/- root and turned of the program. Conditions: numbers of 64 bits. -/
namespace Go.Proofs.YtfpebhlkikmgbaaGreatDoor
open Go.RowKit
set_option maxRecDepth 100000

def rootP (t m : Nat) : Int := bif Nat.beq m t then 1 else 0
theorem rootT (n : Int) : execF Tryz.prog g0 noLam 100 Tryz.f65 [.v (.int .i64 n)] [] valK = needs [decide (0 ≤ n), decide (n < 24), decide (n.toNat < 24)] (.out .ret [.agg (cyC (redD (rootP n.toNat) 24 16))] []) := by kernel_rfl
def f_root : List Value → Option (Value × List Bool)
  | [.int .i64 n] => some (cyv (rootF n.toNat), [decide (0 ≤ n), decide (n ≤ (23 : Nat))])
  | _ => none
theorem root_eq : ∀ t, t < 24 → ∀ k, k < 8 → redD (rootP t) 24 16 k = rootF t k := by
  decide +kernel
theorem ok_root : SpecOk Tryz.prog 65 (specV f_root) := by
  refine mkV (n := 100) g0_ok Tryz.func65 rfl fun vs x ob hF ho => ?_
  unfold f_root at hF
  split at hF
  · rename_i n
    simp only [Option.some.injEq, Prod.mk.injEq] at hF
    obtain ⟨rfl, rfl⟩ := hF
    obtain ⟨h0, h1⟩ := obl2 ho
    have h0 := of_decide_eq_true h0
    have h1 := of_decide_eq_true h1
    show Good (execF Tryz.prog g0 noLam 100 Tryz.f65 [.v (.int .i64 n)] [] valK) _
    have c1 : decide (0 ≤ n) = true := decide_eq_true h0
    have c2 : decide (n < 24) = true := decide_eq_true (by omega)
    have c3 : decide (n.toNat < 24) = true := decide_eq_true (by omega)
    rw [rootT, c1, c2, c3, ← cyv_congr (root_eq n.toNat (by omega))]
    exact one rfl
  · cases hF

def inB (a : Nat → Int) : Bool := smallF a (-9223372036854775808) 9223372036854775807
def gmTuI (md : Int → Int) (rt : Int → Nat → Int) (mul : (Nat → Int) → (Nat → Int) → Nat → Int) : Gam := ext (ext (ext g0 66 (specV (fun | [.int .i64 n] => some (.int .i64 (md n), [inR n (-9223372036854775808) 9223372036854775807]) | _ => none))) 65 (specV (fun | [.int .i64 n] => some (cyv (rt n), [decide (0 ≤ n), decide (n ≤ (23 : Nat))]) | _ => none))) 64 (specV (fAdd2 mul))
theorem treeTuI (md : Int → Int) (rt : Int → Nat → Int) (mul : (Nat → Int) → (Nat → Int) → Nat → Int) (a : Nat → Int) (n : Int) : execF Tryz.prog (gmTuI md rt mul) noLam 100 Tryz.f50 [.v (cyv a), .v (i64 n)] [] (packK 0)
    = needs [inR n (-9223372036854775808 : Int) (9223372036854775807 : Int), decide ((0 : Int) ≤ md n), decide (md n ≤ (23 : Int))] (Res.out .ret [AV.agg [AV.v (.int .i64 (mul (w8 a) (w8 (rt (md n))) (0 : Nat))), AV.v (.int .i64 (mul (w8 a) (w8 (rt (md n))) (1 : Nat))), AV.v (.int .i64 (mul (w8 a) (w8 (rt (md n))) (2 : Nat))), AV.v (.int .i64 (mul (w8 a) (w8 (rt (md n))) (3 : Nat))), AV.v (.int .i64 (mul (w8 a) (w8 (rt (md n))) (4 : Nat))), AV.v (.int .i64 (mul (w8 a) (w8 (rt (md n))) (5 : Nat))), AV.v (.int .i64 (mul (w8 a) (w8 (rt (md n))) (6 : Nat))), AV.v (.int .i64 (mul (w8 a) (w8 (rt (md n))) (7 : Nat)))]] []) := by kernel_rfl

theorem gmTuI_ok : GamOk Tryz.prog (gmTuI (fun n => n % 24) (fun n => rootF n.toNat) mulF) := by
  have e1 : (fun | [.int .i64 n] => some (.int .i64 (n % 24), [inR n (-9223372036854775808) 9223372036854775807]) | _ => none) = f_turnOf := by funext l; rfl
  have e2 : (fun | [.int .i64 n] => some (cyv (rootF n.toNat), [decide (0 ≤ n), decide (n ≤ (23 : Nat))]) | _ => none) = f_root := by funext l; rfl
  have e3 : fAdd2 mulF = f_times := by funext l; rfl
  unfold gmTuI
  rw [e1, e2, e3]
  exact ext_ok (ext_ok (ext_ok g0_ok ok_turnOf) ok_root) ok_times
def FtuI (tu : (Nat → Int) → Int → Nat → Int) : List SA → Option FR
  | [.v (.agg ⟨[.int .i64 a0, .int .i64 a1, .int .i64 a2, .int .i64 a3, .int .i64 a4, .int .i64 a5, .int .i64 a6, .int .i64 a7]⟩), .v (.int .i64 n)] => some { val := .agg (cyC (tu (v8 a0 a1 a2 a3 a4 a5 a6 a7) n)), obl := [inB (v8 a0 a1 a2 a3 a4 a5 a6 a7), inR n (-9223372036854775808) 9223372036854775807] }
  | _ => none
abbrev tuF : (Nat → Int) → Int → Nat → Int := fun a n => turnedF a (n % 24).toNat
theorem ok_tuI : SpecOk Tryz.prog 50 (specR [.val, .val] (FtuI tuF)) := by
  refine specR_hr gmTuI_ok Tryz.func50 rfl fun sas fr hF ho => ?_
  unfold FtuI at hF
  split at hF
  · rename_i a0 a1 a2 a3 a4 a5 a6 a7 n
    cases hF
    simp only [ob_cons] at ho
    obtain ⟨h1, h2, _⟩ := ho
    generalize ha : v8 a0 a1 a2 a3 a4 a5 a6 a7 = a at *
    have hin := smallF_iff.1 h1
    refine ⟨[], noLam, 100, .nil, noLam' _, ?_⟩
    have hav : avC 0 [Md.val, Md.val] [SA.v (.agg ⟨[.int .i64 a0, .int .i64 a1, .int .i64 a2, .int .i64 a3, .int .i64 a4, .int .i64 a5, .int .i64 a6, .int .i64 a7]⟩), SA.v (.int .i64 n)] = [.v (cyv a), .v (i64 n)] := by
      rw [← ha]
      rfl
    rw [hav]
    show GoodQ (execF Tryz.prog (gmTuI (fun n => n % 24) (fun n => rootF n.toNat) mulF) noLam 100 Tryz.f50 [.v (cyv a), .v (i64 n)] [] (packK 0)) _
    rw [treeTuI]
    have e : ∀ k, k < 8 → mulF (w8 a) (w8 (rootF (n % 24).toNat)) k = turnedF a (n % 24).toNat k := by
      intro k hk
      have e1 : mulF (w8 a) (w8 (rootF (n % 24).toNat)) k = mulF a (rootF (n % 24).toNat) k := rfl
      rw [e1, mul_root hin _ k hk]
    simp only [e 0 (by omega), e 1 (by omega), e 2 (by omega), e 3 (by omega), e 4 (by omega), e 5 (by omega), e 6 (by omega), e 7 (by omega)]
    exact good_needs (by simp only [ob_cons, ob_nil, and_true, decide_eq_true_eq]; exact ⟨h2, by omega, by omega⟩) (good_out ⟨_, rfl, rfl, .nil⟩)
  · cases hF

end Go.Proofs.YtfpebhlkikmgbaaGreatDoor

/- 'changed', for each change that the program makes: trees. Conditions: a list of wheels. -/
namespace Go.Proofs.YtfpebhlkikmgbaaGreatDoor
open Go.RowKit
set_option maxRecDepth 100000

def gmC (_ : (Nat → Int) → Nat → Int) (tu : (Nat → Int) → Int → Nat → Int) : Gam := ext g0 50 (specR [.val, .val] (FtuI tu))
abbrev lvCh : Ex → List Nat := lv3 [1, 6, 15, 16, 17] [6] [4, 5]
def FtiYO (ti : List Wh → List Wh) (okt inw : List Wh → Bool) : List SA → Option FR
  | [.row m g] => some { val := valY (ti (listW (itW g) m)), new := newY (ti (listW (itW g) m)), obl := [allW m g, decide (m ≤ 2 ^ 38), inw (listW (itW g) m), okt (listW (itW g) m)] }
  | _ => none
def FtiNO (okt inw : List Wh → Bool) : List SA → Option FR
  | [.row m g] => some { val := valN, obl := [allW m g, decide (m ≤ 2 ^ 38), inw (listW (itW g) m), !okt (listW (itW g) m)] }
  | _ => none
def gmChY (okd : List Wh → Bool) (ti : List Wh → List Wh) (okt inw : List Wh → Bool) : Gam := ext (ext g0 25 (specR md_ws (FdvO okd))) 18 (specR md_ws (FtiYO ti okt inw))
def gmChN (okd : List Wh → Bool) (okt inw : List Wh → Bool) : Gam := ext (ext g0 25 (specR md_ws (FdvO okd))) 18 (specR md_ws (FtiNO okt inw))

abbrev fnTi : AV := .fn 52 []
abbrev hpCTi (m : Nat) (f : Nat → Nat → Int) (t : TypeId) (n : Nat) (h : Nat → Nat → Int) : List AB := [.row false m 9 (row9 f) t, .row true n 9 (row9 h) 53]
abbrev stCTi (m n i : Nat) : List AV := [fnTi, .own 1 n, .sl 0 9 0 0 m none, .v (i64 m), .v (i64 i)]
theorem rndCTi (mi : (Nat → Int) → Nat → Int) (tu : (Nat → Int) → Int → Nat → Int) (m : Nat) (f : Nat → Nat → Int) (t : TypeId) (n : Nat) (h : Nat → Nat → Int) (i : Nat) : execC Tryz.prog (gmC mi tu) 100 noLam (loopAt 0 Tryz.f51) (mkT 0 32 ((lvCh .normal).zip (stCTi m n i))) (hpCTi m f t n h) (leafV 32 lvCh 1)
    = bif decide ((↑i : Int) < (m : Int)) then needs [decide ((↑i : Int) < (m : Int)), decide ((0 : Nat) + Int.toNat (↑i : Int) < m), Nat.ble n n, Nat.ble (n + (1 : Nat)) (549755813888 : Nat)] (Res.out .normal [AV.fn (52 : FuncId) [], AV.own 1 (n + (1 : Nat)), AV.sl 0 (9 : Nat) (0 : Nat) (0 : Nat) m none, AV.v (.int .i64 (m : Int)), AV.v (.int .i64 (IntKind.wrap .i64 ((↑i : Int) + (1 : Int))))] [AB.row false m 9 (row9 f) t, AB.row true (n + (1 : Nat)) (9 : Nat) (fun q ↦ [Value.int .i64 (bif Nat.blt q n then h q (0 : Nat) else f ((0 : Nat) + Int.toNat (↑i : Int)) (0 : Nat)), Value.int .i64 (bif Nat.blt q n then h q (1 : Nat) else f ((0 : Nat) + Int.toNat (↑i : Int)) (1 : Nat)), Value.int .i64 (bif Nat.blt q n then h q (2 : Nat) else f ((0 : Nat) + Int.toNat (↑i : Int)) (2 : Nat)), Value.int .i64 (bif Nat.blt q n then h q (3 : Nat) else f ((0 : Nat) + Int.toNat (↑i : Int)) (3 : Nat)), Value.int .i64 (bif Nat.blt q n then h q (4 : Nat) else f ((0 : Nat) + Int.toNat (↑i : Int)) (4 : Nat)), Value.int .i64 (bif Nat.blt q n then h q (5 : Nat) else f ((0 : Nat) + Int.toNat (↑i : Int)) (5 : Nat)), Value.int .i64 (bif Nat.blt q n then h q (6 : Nat) else f ((0 : Nat) + Int.toNat (↑i : Int)) (6 : Nat)), Value.int .i64 (bif Nat.blt q n then h q (7 : Nat) else f ((0 : Nat) + Int.toNat (↑i : Int)) (7 : Nat)), Value.int .i64 (bif Nat.blt q n then h q (8 : Nat) else f ((0 : Nat) + Int.toNat (↑i : Int)) (8 : Nat))]) (53 : Nat)]) else Res.out (Ex.exit (0 : Nat)) [AV.own 1 n] [AB.row false m 9 (row9 f) t, AB.row true n 9 (row9 h) 53] := by kernel_rfl

noncomputable abbrev lamCTi (m : Nat) (f : Nat → Nat → Int) (t : TypeId) (n : Nat) (h : Nat → Nat → Int) : Nat → Option Sum := oneL 0 (atS 32 (lvCh .normal) 1 (stCTi m 0 0) (hpCTi m f t 0 (wfun [])) (fun K => K .normal (mkT 0 32 [(6, .own 1 n)]) (hpCTi m f t n h)))
theorem treeYTi_h (okd : List Wh → Bool) (ti : List Wh → List Wh) (okt inw : List Wh → Bool) (m : Nat) (f : Nat → Nat → Int) (t : TypeId) (n : Nat) (h : Nat → Nat → Int) (u0 : _) (hu0 : (Value.int .i64 0) = u0) (u1 : _) (hu1 : (listW (itW (row9 h)) n) = u1) (u2 : _) (hu2 : (0 : Nat) = u2) (u3 : _) (hu3 : (AB.row false m 9 (row9 f) t) = u3) : execF Tryz.prog (gmChY okd ti okt inw) (lamCTi m f t n h) 100 Tryz.f51 [.sl 0 9 0 0 m none, fnTi] [.row false m 9 (row9 f) t] (packK 1)
    = needs [Nat.ble (u2 + m) m, allW m fun q ↦ row9 f (u2 + q), decide (m ≤ (549755813888 : Nat))] (bif !okd (listW (itW fun q ↦ row9 f (u2 + q)) m) then Res.out .ret [AV.tup [AV.v (Value.slice none u2 u2), AV.v (.bool false)]] [u3] else needs [decide ((m : Int) ≤ (1099511627776 : Int)), chk ([AV.fn (52 : FuncId) [], AV.own 1 u2, AV.sl u2 (9 : Nat) u2 u2 m none, AV.v (.int .i64 (m : Int)), AV.v (.int .i64 0)] = stCTi m u2 u2 ∧ Hsim [u3, AB.row true u2 9 (fun _ ↦ [u0, u0, u0, u0, u0, u0, u0, u0, u0]) (53 : Nat)] (hpCTi m f t u2 (wfun []))), Nat.ble n n, allW n (row9 h), decide (n ≤ (274877906944 : Nat)), inw u1, okt u1] (Res.out .ret [AV.tup [AV.sl 1 (9 : Nat) u2 u2 (List.length (ti u1)) (some (List.length (ti u1))), AV.v (.bool true)]] [u3, AB.row true (List.length (ti u1)) (9 : Nat) (row9 (wfun (ti u1))) 53])) := by
  subst hu3 hu2 hu1 hu0
  kernel_rfl
theorem treeYTi (okd : List Wh → Bool) (ti : List Wh → List Wh) (okt inw : List Wh → Bool) (m : Nat) (f : Nat → Nat → Int) (t : TypeId) (n : Nat) (h : Nat → Nat → Int) : type_of% (treeYTi_h okd ti okt inw m f t n h _ rfl _ rfl _ rfl _ rfl) := treeYTi_h okd ti okt inw m f t n h _ rfl _ rfl _ rfl _ rfl

theorem treeNTi_h (okd : List Wh → Bool) (okt inw : List Wh → Bool) (m : Nat) (f : Nat → Nat → Int) (t : TypeId) (n : Nat) (h : Nat → Nat → Int) (u0 : _) (hu0 : (Value.int .i64 0) = u0) (u1 : _) (hu1 : (0 : Nat) = u1) (u2 : _) (hu2 : (AB.row false m 9 (row9 f) t) = u2) (u3 : _) (hu3 : [AV.tup [AV.v (Value.slice none u1 u1), AV.v (.bool false)]] = u3) : execF Tryz.prog (gmChN okd okt inw) (lamCTi m f t n h) 100 Tryz.f51 [.sl 0 9 0 0 m none, fnTi] [.row false m 9 (row9 f) t] (packK 1)
    = needs [Nat.ble (u1 + m) m, allW m fun q ↦ row9 f (u1 + q), decide (m ≤ (549755813888 : Nat))] (bif !okd (listW (itW fun q ↦ row9 f (u1 + q)) m) then Res.out .ret u3 [u2] else needs [decide ((m : Int) ≤ (1099511627776 : Int)), chk ([AV.fn (52 : FuncId) [], AV.own 1 u1, AV.sl u1 (9 : Nat) u1 u1 m none, AV.v (.int .i64 (m : Int)), AV.v (.int .i64 0)] = stCTi m u1 u1 ∧ Hsim [u2, AB.row true u1 9 (fun _ ↦ [u0, u0, u0, u0, u0, u0, u0, u0, u0]) (53 : Nat)] (hpCTi m f t u1 (wfun []))), Nat.ble n n, allW n (row9 h), decide (n ≤ (274877906944 : Nat)), inw (listW (itW (row9 h)) n), !okt (listW (itW (row9 h)) n)] (Res.out .ret u3 [u2])) := by
  subst hu3 hu2 hu1 hu0
  kernel_rfl
theorem treeNTi (okd : List Wh → Bool) (okt inw : List Wh → Bool) (m : Nat) (f : Nat → Nat → Int) (t : TypeId) (n : Nat) (h : Nat → Nat → Int) : type_of% (treeNTi_h okd okt inw m f t n h _ rfl _ rfl _ rfl _ rfl) := treeNTi_h okd okt inw m f t n h _ rfl _ rfl _ rfl _ rfl

end Go.Proofs.YtfpebhlkikmgbaaGreatDoor

/- 'changed', for each change that the program makes: its words. Conditions: a list of wheels. -/
namespace Go.Proofs.YtfpebhlkikmgbaaGreatDoor
open Go.RowKit
set_option maxRecDepth 100000

theorem gmC_ok : GamOk Tryz.prog (gmC mirF tuF) := ext_ok g0_ok ok_tuI
theorem ch_row (L : List Wh) (w : Wh) (i : Nat) (hl : L.length = i) (q : Nat) (hq : q < i + 1) : [i64 (bif Nat.blt q i then wfun L q 0 else whN w 0), i64 (bif Nat.blt q i then wfun L q 1 else whN w 1), i64 (bif Nat.blt q i then wfun L q 2 else whN w 2), i64 (bif Nat.blt q i then wfun L q 3 else whN w 3), i64 (bif Nat.blt q i then wfun L q 4 else whN w 4), i64 (bif Nat.blt q i then wfun L q 5 else whN w 5), i64 (bif Nat.blt q i then wfun L q 6 else whN w 6), i64 (bif Nat.blt q i then wfun L q 7 else whN w 7), i64 (bif Nat.blt q i then wfun L q 8 else whN w 8)] = row9 (wfun (L ++ [w])) q := by
  subst hl
  exact row9_snoc L (whN w) q hq
theorem okD_mem {L : List Wh} (h : okD L = true) {w : Wh} (hw : w ∈ L) : (-1000 ≤ w.s ∧ w.s ≤ 1000) ∧ ∀ k, k < 8 → -1000000 ≤ w.r.f k ∧ w.r.f k ≤ 1000000 := by
  rw [okD, Bool.and_eq_true] at h
  have := List.all_eq_true.1 h.2 w hw
  rw [Bool.and_eq_true] at this
  exact ⟨inR_iff.1 this.1, smallF_iff.1 this.2⟩
theorem okD_len {L : List Wh} (h : okD L = true) : L.length ≤ 12 := by
  rw [okD, Bool.and_eq_true] at h
  exact of_decide_eq_true h.1
theorem valid_in {L : List Wh} (h : okD L = true) {w : Wh} (hw : w ∈ L) : cyIn w.r := fun k hk => by
  have := (okD_mem h hw).2 k hk
  omega
theorem valid_inB {L : List Wh} (h : okD L = true) {w : Wh} (hw : w ∈ L) : inB w.r.f = true := smallF_iff.2 (valid_in h hw)
theorem cyOf_f8 (a : Nat → Int) : ∀ k, k < 8 → (cyOf a).f k = a k := forall8 rfl rfl rfl rfl rfl rfl rfl rfl
theorem FtiYO_eq : FtiYO tidyL okT inWB = F_tiY := by
  funext l
  rfl
theorem FtiNO_eq : FtiNO okT inWB = F_tiN := by
  funext l
  rfl
theorem gmChY_ok : GamOk Tryz.prog (gmChY okD tidyL okT inWB) := by
  unfold gmChY
  rw [FdvO_eq, FtiYO_eq]
  exact ext_ok (ext_ok g0_ok ok_dvI) ok_tiY
theorem gmChN_ok : GamOk Tryz.prog (gmChN okD okT inWB) := by
  unfold gmChN
  rw [FdvO_eq, FtiNO_eq]
  exact ext_ok (ext_ok g0_ok ok_dvI) ok_tiN
theorem row0 (f : Nat → Nat → Int) : (fun q => row9 f (0 + q)) = row9 f := by
  funext q
  rw [Nat.zero_add]

theorem treeETi (okd : List Wh → Bool) (okt inw : List Wh → Bool) (m : Nat) (f : Nat → Nat → Int) (t : TypeId) : execF Tryz.prog (gmChN okd okt inw) (oneL 0 errS) 100 Tryz.f51 [.sl 0 9 0 0 m none, fnTi] [.row false m 9 (row9 f) t] (packK 1)
    = needs [Nat.ble ((0 : Nat) + m) m, allW m fun q ↦ row9 f ((0 : Nat) + q), decide (m ≤ (549755813888 : Nat))] (bif !okd (listW (itW fun q ↦ row9 f ((0 : Nat) + q)) m) then Res.out .ret [AV.tup [AV.v (Value.slice none (0 : Nat) (0 : Nat)), AV.v (.bool false)]] [AB.row false m 9 (row9 f) t] else needs [decide ((m : Int) ≤ (1099511627776 : Int))] Res.err) := by kernel_rfl

def chTi (w : Wh) : Wh := w
abbrev mpTi : List Wh → List Wh := fun L => L.map chTi
theorem inwTi {L : List Wh} (h : okD L = true) : inW (L.map chTi) := by
  intro w' hw'
  obtain ⟨w, hw, rfl⟩ := List.mem_map.1 hw'
  exact valid_in h hw
theorem sumCTi (m : Nat) (f : Nat → Nat → Int) (t : TypeId) (hm : m ≤ 2 ^ 38) (hok : ∀ w ∈ listW f m, inB w.r.f = true) :
    SumOk Tryz.prog 1 (.block 0 (.loop (loopAt 0 Tryz.f51))) (atS 32 (lvCh .normal) 1 (stCTi m 0 0) (hpCTi m f t 0 (wfun [])) (fun K => K .normal (mkT 0 32 [(6, .own 1 m)]) (hpCTi m f t m (wfun ((listW f m).map chTi))))) := by
  refine for_at gmC_ok (n := 100) (m := 1) (lv := lvCh) (fun i => stCTi m i i) (fun i => hpCTi m f t i (wfun ((listW f i).map chTi))) (fun _ => True) m (fun _ => noLam) (lv3_ris rfl rfl rfl) (Nat.le_refl _) trivial fun K Q hk i hi him => ⟨noLam_ok _ _ _, ?_⟩
  rw [rndCTi]
  refine good_cond (fun c1 => ?_) fun c1 => ?_
  · have c1 := of_decide_eq_true c1
    have c1' : i < m := by omega
    rw [Int.toNat_natCast, Nat.zero_add, wr_in (x := (i : Int) + 1) (by omega)]
    refine good_needs (by simp only [ob_cons, ob_nil, and_true, decide_eq_true_eq, Nat.ble_eq]; omega) (good_out ⟨i + 1, ⟨rfl, c1', trivial⟩, rfl, ?_⟩)
    show Hsim _ (hpCTi m f t (i + 1) (wfun ((listW f (i + 1)).map chTi)))
    rw [listW_succ, List.map_append]
    refine (.cons (ABeq.refl _) (.cons (ABeq.row fun q hq => ?_) .nil))
    exact ch_row _ (chTi (whOf (f i))) i (by rw [List.length_map, listW_length]) q hq
  · have c1 := of_decide_eq_false c1
    have : i = m := by omega
    subst this
    refine good_out ⟨_, Hsim.refl _, ?_⟩
    rw [if_pos rfl]
    exact hk

def FchYTi (okd : List Wh → Bool) (ti : List Wh → List Wh) (okt : List Wh → Bool) (mp : List Wh → List Wh) : List AV → List AB → Option HR
  | [.sl 0 9 0 0 m none, .fn 52 []], [.row false n 9 g t] => some { val := .tup [.sl 1 9 0 0 (ti (mp (listW (itW g) m))).length (some (ti (mp (listW (itW g) m))).length), .v (.bool true)], out := [.row false n 9 g t], new := newY (ti (mp (listW (itW g) m))), obl := [Nat.beq n m, allW m g, decide (m ≤ 2 ^ 38), okd (listW (itW g) m) && okt (mp (listW (itW g) m))] }
  | _, _ => none
def FchNTi (okd : List Wh → Bool) (okt : List Wh → Bool) (mp : List Wh → List Wh) : List AV → List AB → Option HR
  | [.sl 0 9 0 0 m none, .fn 52 []], [.row false n 9 g t] => some { val := valN, out := [.row false n 9 g t], obl := [Nat.beq n m, allW m g, decide (m ≤ 2 ^ 38), !(okd (listW (itW g) m) && okt (mp (listW (itW g) m)))] }
  | _, _ => none
theorem ok_chYTi : SpecOk Tryz.prog 51 (specH [true] (FchYTi okD tidyL okT mpTi)) := by
  refine specH_ok gmChY_ok Tryz.func51 rfl fun avs H hr hF ho => ?_
  unfold FchYTi at hF
  split at hF
  · rename_i m n g t
    cases hF
    simp only [ob_cons] at ho
    obtain ⟨h0, h1, h2, h3, _⟩ := ho
    have h0 := Nat.eq_of_beq_eq_true h0
    subst h0
    have hm := of_decide_eq_true h2
    rw [Bool.and_eq_true] at h3
    obtain ⟨hd, ht⟩ := h3
    have hin := inwTi hd
    have hs := sumCTi n (itW g) t hm (fun w hw => valid_inB hd hw)
    refine ⟨[.row false n 9 (row9 (itW g)) t], lamCTi n (itW g) t n (wfun ((listW (itW g) n).map chTi)), 100, .cons (ABeq.row fun j hj => allW_get h1 j hj) .nil, lam1 (by kernel_rfl) hs, ?_⟩
    show GoodQ (execF Tryz.prog (gmChY okD tidyL okT inWB) (lamCTi n (itW g) t n (wfun ((listW (itW g) n).map chTi))) 100 Tryz.f51 [.sl 0 9 0 0 n none, fnTi] [.row false n 9 (row9 (itW g)) t] (packK 1)) _
    rw [treeYTi, row0, listW_itW, listW_self ((listW (itW g) n).map chTi) n (by rw [List.length_map, listW_length])]
    refine good_needs (by simp only [ob_cons, ob_nil, and_true, decide_eq_true_eq, Nat.ble_eq, allW_row, true_and]; omega) (good_false (by rw [hd]; rfl) (good_needs ?_ (good_out ⟨rfl, .cons (ABeq.row fun j hj => (allW_get h1 j hj).symm) (Hsim.refl _)⟩)))
    simp only [ob_cons, ob_nil, and_true, allW_row]
    exact ⟨decide_eq_true (by omega), chk_of ⟨rfl, (.cons (ABeq.refl _) (.cons (ABeq.row fun j hj => absurd hj (Nat.not_lt_zero _)) .nil))⟩, by simp, trivial, decide_eq_true (by omega), chk_of hin, ht⟩
  · cases hF
theorem ok_chNTi : SpecOk Tryz.prog 51 (specH [true] (FchNTi okD okT mpTi)) := by
  refine specH_ok gmChN_ok Tryz.func51 rfl fun avs H hr hF ho => ?_
  unfold FchNTi at hF
  split at hF
  · rename_i m n g t
    cases hF
    simp only [ob_cons] at ho
    obtain ⟨h0, h1, h2, h3, _⟩ := ho
    have h0 := Nat.eq_of_beq_eq_true h0
    subst h0
    have hm := of_decide_eq_true h2
    cases hd : okD (listW (itW g) n) with
    | false =>
      have hz : SumOk Tryz.prog 1 (.block 0 (.loop (loopAt 0 Tryz.f51))) errS := errS_ok
      refine ⟨[.row false n 9 (row9 (itW g)) t], oneL 0 errS, 100, .cons (ABeq.row fun j hj => allW_get h1 j hj) .nil, lam1 (by kernel_rfl) hz, ?_⟩
      show GoodQ (execF Tryz.prog (gmChN okD okT inWB) (oneL 0 errS) 100 Tryz.f51 [.sl 0 9 0 0 n none, fnTi] [.row false n 9 (row9 (itW g)) t] (packK 1)) _
      rw [treeETi, row0, listW_itW]
      exact good_needs (by simp only [ob_cons, ob_nil, and_true, decide_eq_true_eq, Nat.ble_eq, allW_row, true_and]; omega) (good_true (by rw [hd]; rfl) (good_out ⟨rfl, .cons (ABeq.row fun j hj => (allW_get h1 j hj).symm) .nil⟩))
    | true =>
    rw [hd, Bool.true_and] at h3
    have ht : okT ((listW (itW g) n).map chTi) = false := by simpa using h3
    have hin := inwTi hd
    have hs := sumCTi n (itW g) t hm (fun w hw => valid_inB hd hw)
    refine ⟨[.row false n 9 (row9 (itW g)) t], lamCTi n (itW g) t n (wfun ((listW (itW g) n).map chTi)), 100, .cons (ABeq.row fun j hj => allW_get h1 j hj) .nil, lam1 (by kernel_rfl) hs, ?_⟩
    show GoodQ (execF Tryz.prog (gmChN okD okT inWB) (lamCTi n (itW g) t n (wfun ((listW (itW g) n).map chTi))) 100 Tryz.f51 [.sl 0 9 0 0 n none, fnTi] [.row false n 9 (row9 (itW g)) t] (packK 1)) _
    rw [treeNTi, row0, listW_itW, listW_self ((listW (itW g) n).map chTi) n (by rw [List.length_map, listW_length])]
    refine good_needs (by simp only [ob_cons, ob_nil, and_true, decide_eq_true_eq, Nat.ble_eq, allW_row, true_and]; omega) (good_false (by rw [hd]; rfl) (good_needs ?_ (good_out ⟨rfl, .cons (ABeq.row fun j hj => (allW_get h1 j hj).symm) .nil⟩)))
    simp only [ob_cons, ob_nil, and_true, allW_row]
    exact ⟨decide_eq_true (by omega), chk_of ⟨rfl, (.cons (ABeq.refl _) (.cons (ABeq.row fun j hj => absurd hj (Nat.not_lt_zero _)) .nil))⟩, by simp, trivial, decide_eq_true (by omega), chk_of hin, by rw [ht]; rfl⟩
  · cases hF

end Go.Proofs.YtfpebhlkikmgbaaGreatDoor

/- The program's designs changed: DesignTidy, DesignTurned, DesignLater, DesignBack, DesignMirror. Conditions: a list of wheels. -/
namespace Go.Proofs.YtfpebhlkikmgbaaGreatDoor
open Go.RowKit
set_option maxRecDepth 100000

def yesTi (L : List Wh) : Bool := (okD L && okT (L.map chTi))
def FdeYTi (yes : List Wh → Bool) (ti : List Wh → List Wh) (mp : List Wh → List Wh) : List SA → Option FR
  | [.row m g] => some { val := valY (ti (mp (listW (itW g) m))), new := newY (ti (mp (listW (itW g) m))), obl := [allW m g, decide (m ≤ 2 ^ 38), yes (listW (itW g) m)] }
  | _ => none
def FdeNTi (yes : List Wh → Bool) : List SA → Option FR
  | [.row m g] => some { val := valN, obl := [allW m g, decide (m ≤ 2 ^ 38), !yes (listW (itW g) m)] }
  | _ => none
theorem treeDYTi (okd : List Wh → Bool) (ti : List Wh → List Wh) (okt : List Wh → Bool) (mp : List Wh → List Wh) (m : Nat) (f : Nat → Nat → Int) : execF Tryz.prog (ext gm_within 51 (specH [true] (FchYTi okd ti okt mp))) noLam 100 Tryz.f29 [.sl 0 9 0 0 m none] [.row false m 9 (row9 f) 53] (packK 1)
    = needs [Nat.beq m m, allW m (row9 f), decide (m ≤ (274877906944 : Nat)), okd (listW (itW (row9 f)) m) && okt (mp (listW (itW (row9 f)) m))] (Res.out .ret [AV.tup [AV.sl 1 (9 : Nat) (0 : Nat) (0 : Nat) (List.length (ti (mp (listW (itW (row9 f)) m)))) (some (List.length (ti (mp (listW (itW (row9 f)) m))))), AV.v (.bool true)]] [AB.row false m 9 (row9 f) 53, AB.row true (List.length (ti (mp (listW (itW (row9 f)) m)))) (9 : Nat) (row9 (wfun (ti (mp (listW (itW (row9 f)) m))))) 53]) := by kernel_rfl

theorem treeDNTi (okd : List Wh → Bool) (okt : List Wh → Bool) (mp : List Wh → List Wh) (m : Nat) (f : Nat → Nat → Int) : execF Tryz.prog (ext gm_within 51 (specH [true] (FchNTi okd okt mp))) noLam 100 Tryz.f29 [.sl 0 9 0 0 m none] [.row false m 9 (row9 f) 53] (packK 1)
    = needs [Nat.beq m m, allW m (row9 f), decide (m ≤ (274877906944 : Nat)), !(okd (listW (itW (row9 f)) m) && okt (mp (listW (itW (row9 f)) m)))] (Res.out .ret [AV.tup [AV.v (Value.slice none (0 : Nat) (0 : Nat)), AV.v (.bool false)]] [AB.row false m 9 (row9 f) 53]) := by kernel_rfl

theorem ok_deYTi : SpecOk Tryz.prog 29 (specR md_ws (FdeYTi yesTi tidyL mpTi)) := by
  refine specR_hr (ext_ok gm_within_ok ok_chYTi) Tryz.func29 rfl fun sas fr hF ho => ?_
  unfold FdeYTi at hF
  split at hF
  · rename_i m g
    cases hF
    simp only [ob_cons] at ho
    obtain ⟨h1, h2, h3, _⟩ := ho
    have hm := of_decide_eq_true h2
    refine ⟨[.row false m 9 (row9 (itW g)) 53], noLam, 100, .cons (ABeq.row fun j hj => allW_get h1 j hj) .nil, noLam' _, ?_⟩
    show GoodQ (execF Tryz.prog (ext gm_within 51 (specH [true] (FchYTi okD tidyL okT mpTi))) noLam 100 Tryz.f29 [.sl 0 9 0 0 m none] [.row false m 9 (row9 (itW g)) 53] (packK 1)) _
    rw [treeDYTi]
    rw [yesTi] at h3
    exact good_needs (by simp only [ob_cons, ob_nil, and_true, beq_me, allW_row, listW_itW, true_and]; exact ⟨decide_eq_true hm, h3⟩) (good_out ⟨_, rfl, rfl, .cons (ABeq.row fun j hj => (allW_get h1 j hj).symm) (Hsim.refl _)⟩)
  · cases hF
theorem ok_deNTi : SpecOk Tryz.prog 29 (specR md_ws (FdeNTi yesTi)) := by
  refine specR_hr (ext_ok gm_within_ok ok_chNTi) Tryz.func29 rfl fun sas fr hF ho => ?_
  unfold FdeNTi at hF
  split at hF
  · rename_i m g
    cases hF
    simp only [ob_cons] at ho
    obtain ⟨h1, h2, h3, _⟩ := ho
    have hm := of_decide_eq_true h2
    refine ⟨[.row false m 9 (row9 (itW g)) 53], noLam, 100, .cons (ABeq.row fun j hj => allW_get h1 j hj) .nil, noLam' _, ?_⟩
    show GoodQ (execF Tryz.prog (ext gm_within 51 (specH [true] (FchNTi okD okT mpTi))) noLam 100 Tryz.f29 [.sl 0 9 0 0 m none] [.row false m 9 (row9 (itW g)) 53] (packK 1)) _
    rw [treeDNTi]
    rw [yesTi] at h3
    exact good_needs (by simp only [ob_cons, ob_nil, and_true, beq_me, allW_row, listW_itW, true_and]; exact ⟨decide_eq_true hm, h3⟩) (good_out ⟨_, rfl, rfl, .cons (ABeq.row fun j hj => (allW_get h1 j hj).symm) .nil⟩)
  · cases hF

end Go.Proofs.YtfpebhlkikmgbaaGreatDoor

/- l5At and DesignAt, the reference's: their words. Conditions: a list of wheels. -/
namespace Go.Proofs.YtfpebhlkikmgbaaGreatDoor
open Go.RowKit
set_option maxRecDepth 100000

abbrev hpAt (m : Nat) (f : Nat → Nat → Int) (t : TypeId) (a : Nat → Int) : List AB := [.row false m 9 (row9 f) t, .cells (cyC fun _ => 0) 33, .cells (cyC a) 33]
def atF (f : Nat → Nat → Int) (n : Int) : Nat → Nat → Int
  | 0 => fun _ => 0
  | i + 1 => sumF (atF f n i) 1 (turnedF (v8 (f i 1) (f i 2) (f i 3) (f i 4) (f i 5) (f i 6) (f i 7) (f i 8)) (IntKind.wrap IntKind.i64 (n * f i 0) % 24).toNat)
theorem atF_row (g : Nat → Nat → Int) (n : Int) (m : Nat) : atF (itW (row9 g)) n m = atF g n m := by
  induction m with
  | zero => rfl
  | succ m ih => rw [atF, ih]; rfl
end Go.Proofs.YtfpebhlkikmgbaaGreatDoor

/- l5Each, the reference's. Conditions: a list of wheels. -/
namespace Go.Proofs.YtfpebhlkikmgbaaGreatDoor
open Go.RowKit
set_option maxRecDepth 100000

def FtidyO (ti : List Wh → List Wh) (okt : List Wh → Bool) : List SA → Option FR
  | [.row m g] => some { val := .tup [.own 0 (ti (listW (itW g) m)).length, .v (.bool (okt (listW (itW g) m)))], new := [.row true (ti (listW (itW g) m)).length 9 (row9 (wfun (ti (listW (itW g) m)))) 53], obl := [allW m g, decide (m ≤ 2 ^ 38)] }
  | _ => none
theorem FtidyO_eq : FtidyO tidyL okT = F_tidy := by
  funext l
  rfl
end Go.Proofs.YtfpebhlkikmgbaaGreatDoor

/- Helpers on what l5Each and the changes come to. No conditions. -/
namespace Go.Proofs.YtfpebhlkikmgbaaGreatDoor
open Go.RowKit
set_option maxRecDepth 100000

def md_eqWS : List Md := [.rd 9 53, .rd 9 53]
theorem ble_me (n : Nat) : Nat.ble n n = true := by simp
theorem needs_nil (r : Res) : needs [] r = r := rfl
theorem needs_t (l : List Bool) (r : Res) : needs (true :: l) r = needs l r := rfl
theorem tidyL_no {L : List Wh} (h : okT L = false) : tidyL L = [] := by
  unfold okT at h
  unfold tidyL
  cases e : tidyS L with
  | none => rfl
  | some T => rw [e] at h; cases h
theorem tidyL_len {L : List Wh} (h : okT L = true) : (tidyL L).length ≤ 12 := by
  unfold okT at h
  unfold tidyL
  cases e : tidyS L with
  | none => rw [e] at h; cases h
  | some T =>
    unfold tidyS at e
    split at e
    · split at e
      · rename_i hv
        cases e
        rw [dValid, Bool.and_eq_true] at hv
        exact of_decide_eq_true hv.1
      · cases e
    · cases e
end Go.Proofs.YtfpebhlkikmgbaaGreatDoor

/- A word for a callee that hands back a new list or none: read as one. Conditions: those of its two cases. -/
namespace Go.Proofs.YtfpebhlkikmgbaaGreatDoor
open Go.RowKit
set_option maxRecDepth 100000

theorem putC_nil : ∀ (is : List (Option Nat)) (bs : List AB), (∀ b ∈ bs, b.wr = false) → putC is bs = []
  | [], [], _ => rfl
  | [], _ :: _, _ => by simp [putC]
  | i :: is, [], _ => by cases i <;> simp [putC]
  | none :: is, b :: bs, h => by
    simp only [putC]
    exact putC_nil is bs fun x hx => h x (by simp [hx])
  | some i :: is, b :: bs, h => by
    have ih := putC_nil is bs fun x hx => h x (by simp [hx])
    have hb := h b (by simp)
    cases b with
    | row rw n s g t =>
      cases rw with
      | true => cases hb
      | false => simp only [putC]; exact ih
    | cells cs t => cases hb
    | gone => simp only [putC]; exact ih
theorem abP_rd : ∀ {mds : List Md} {sas : List SA} {ps : List (Nat → List Value)}, hasWr mds = false → ∀ b ∈ abP mds sas ps, b.wr = false
  | [], [], ps, _, b, hb => by simp [abP] at hb
  | .val :: ds, .v x :: r, ps, h, b, hb => abP_rd (mds := ds) (sas := r) (ps := ps) h b (by simpa only [abP] using hb)
  | .rd s t :: ds, .row m g :: r, ps, h, b, hb => by
    simp only [abP, List.mem_cons] at hb
    rcases hb with rfl | hb
    · rfl
    · exact abP_rd (mds := ds) (sas := r) (ps := ps) h b hb
  | .wr s t :: ds, _, ps, h, b, hb => by cases h
  | [], _ :: _, ps, _, b, hb => by simp [abP] at hb
  | .val :: ds, [], ps, _, b, hb => by simp [abP] at hb
  | .val :: ds, .row .. :: _, ps, _, b, hb => by simp [abP] at hb
  | .val :: ds, .own .. :: _, ps, _, b, hb => by simp [abP] at hb
  | .rd .. :: ds, [], ps, _, b, hb => by simp [abP] at hb
  | .rd .. :: ds, .v _ :: _, ps, _, b, hb => by simp [abP] at hb
  | .rd .. :: ds, .own .. :: _, ps, _, b, hb => by simp [abP] at hb

structure UR where
  b : Bool
  T : List Wh
  obl : List Bool
def specU (mds : List Md) (U : List SA → Option UR) : Spec := fun avs H base =>
  match saAll H mds avs with
  | some xs => match U (xs.map (·.sa)) with
    | some u => some { val := .tup [.sl base 9 0 0 u.T.length (some u.T.length), .v (.bool u.b)], rd := (ixC mds xs).filterMap id, put := [], new := [.row false u.T.length 9 (row9 (wfun u.T)) 53], obl := xs.flatMap (·.ob) ++ u.obl }
    | none => none
  | none => none

theorem specU_ok {P : Program} {f : FuncId} {mds : List Md} {FY FN : List SA → Option FR} {U : List SA → Option UR} (hw : hasWr mds = false) (hY : SpecOk P f (specR mds FY)) (hN : SpecOk P f (specR mds FN))
    (h : ∀ sas u, U sas = some u → obls u.obl = true → Nat.beq (abP mds sas []).length (abC mds sas).length = true ∧ ((u.b = true ∧ ∃ ob, FY sas = some { val := valY u.T, new := newY u.T, obl := ob } ∧ obls ob = true) ∨ (u.b = false ∧ u.T = [] ∧ ∃ ob, FN sas = some { val := valN, obl := ob } ∧ obls ob = true))) : SpecOk P f (specU mds U) := by
  refine ⟨hY.1, fun avs H base δ ν vals w hS ho hv hr hlt hfree hsep htab => ?_⟩
  unfold specU at hS
  split at hS
  case h_2 => cases hS
  rename_i xs hxs
  split at hS
  case h_2 => cases hS
  rename_i u hu
  simp only [Option.some.injEq] at hS
  subst hS
  have ho' : obls (xs.flatMap (·.ob)) = true ∧ obls u.obl = true := by simpa [obls, List.all_append] using ho
  obtain ⟨hl, hc⟩ := h _ _ hu ho'.2
  have hput : putC (ixC mds xs) (abP mds (xs.map (·.sa)) []) = [] := putC_nil _ _ fun b hb => abP_rd hw b hb
  rcases hc with ⟨hb, ob, e1, e2⟩ | ⟨hb, hT, ob, e1, e2⟩
  · have hS2 : specR mds FY avs H base = some { val := .tup [.sl base 9 0 0 u.T.length (some u.T.length), .v (.bool true)], rd := (ixC mds xs).filterMap id, put := [], new := newY u.T, obl := xs.flatMap (·.ob) ++ ob } := by
      unfold specR
      rw [hxs]
      simp only [e1]
      show cond _ _ _ = _
      rw [hw, hl, hput]
      rfl
    refine (hY.2 avs H base _ ν vals w hS2 (by simpa [obls, List.all_append] using And.intro ho'.1 e2) hv hr hlt hfree (fun i o j b b' hp => by cases hp) (htab.call fun x hx => by first | exact hx | cases hx)).mono ?_
    rintro e w' ⟨v, ν', rfl, d⟩
    refine ⟨v, ν', rfl, d.le, d.dom, by rw [hb]; exact d.val, fun i b hl => (by cases hl), fun j b hj => ?_, d.os, d.tape, d.output, d.size, d.block, d.fresh, d.apart⟩
    match j with
    | 0 =>
      simp only [List.getElem?_cons_zero, Option.some.injEq] at hj
      subst hj
      have := d.new 0 _ rfl
      rcases this with ⟨h1, _, _⟩ | ⟨k, l, t', fz, h1, h2, _, h4, h5⟩
      · cases h1
      · exact .inr ⟨k, l, t', fz, h1, h2, fun h => (by cases h), h4, h5⟩
    | j + 1 => simp at hj
  · have hS2 : specR mds FN avs H base = some { val := valN, rd := (ixC mds xs).filterMap id, put := [], new := [], obl := xs.flatMap (·.ob) ++ ob } := by
      unfold specR
      rw [hxs]
      simp only [e1]
      show cond _ _ _ = _
      rw [hw, hl, hput]
      rfl
    refine (hN.2 avs H base _ ν vals w hS2 (by simpa [obls, List.all_append] using And.intro ho'.1 e2) hv hr hlt (fun j hj => absurd hj (Nat.not_lt_zero _)) (fun i o j b b' hp => by cases hp) (htab.call fun x hx => by first | exact hx | cases hx)).mono ?_
    rintro e w' ⟨v, ν', rfl, d⟩
    have hnone : ν' base = none := by
      have h0 : ν base = none := hfree 0 (Nat.zero_lt_one)
      cases hq : ν' base with
      | none => rfl
      | some b =>
        have := d.dom base h0 (by rw [hq]; simp)
        simp at this
    have hv0 : VR ν' (.tup [.sl base 9 0 0 0 (some 0), .v (.bool false)]) v := by
      have := d.val
      simp only [VR] at this ⊢
      obtain ⟨l, e1, e2⟩ := this
      match l, e2 with
      | [a, b], ⟨ha, hbb, _⟩ => exact ⟨[a, b], e1, ⟨none, 0, ha, fun c' hc' => by simpa using hc', Nat.le_refl _, fun hc => absurd hc (Nat.lt_irrefl 0)⟩, hbb, trivial⟩
    refine ⟨v, ν', rfl, d.le, fun i h1 h2 => ?_, by rw [hb, hT]; exact hv0, fun i b hl => (by cases hl), fun j b hj => ?_, d.os, d.tape, d.output, d.size, d.block, fun j b hj hq => ?_, fun j j' b b' hne hj hj' => ?_⟩
    · have := d.dom i h1 h2
      simp at this
      omega
    · match j with
      | 0 =>
        simp only [List.getElem?_cons_zero, Option.some.injEq] at hj
        subst hj
        rw [hT]
        exact .inl ⟨rfl, rfl, hnone⟩
      | j + 1 => simp at hj
    · have hj : j < 1 := hj
      have : j = 0 := by omega
      subst this
      rw [Nat.add_zero, hnone] at hq
      cases hq
    · have hj : j < 1 := hj
      have hj' : j' < 1 := hj'
      omega

end Go.Proofs.YtfpebhlkikmgbaaGreatDoor

/- The abstract machine, 27: words for callees by their view, which may hand back what points to rows that are only read. Conditions: those of the table of callees. -/
namespace Go.Proofs.YtfpebhlkikmgbaaGreatDoor
open Go.RowKit

def bkK (keep : List Nat) (Hc : List AB) (base : Nat) : Nat → Option Nat := fun i => bif Nat.blt i keep.length then (bif (Hc.getD i .gone).live then keep[i]? else none) else some (base + (i - keep.length))

def fullB : List AB → List Bool
  | [] => []
  | .row false n _ _ _ :: l => decide (0 < n) :: fullB l
  | _ :: l => fullB l
theorem fullB_get : ∀ {H : List AB} {j n w : Nat} {g : Nat → List Value} {t : TypeId}, obls (fullB H) = true → H.getD j .gone = .row false n w g t → 0 < n
  | [], j, n, w, g, t, _, h => by simp at h
  | b :: H, 0, n, w, g, t, ho, h => by
    simp only [List.getD_cons_zero] at h
    subst h
    simp only [fullB, ob_cons, decide_eq_true_eq] at ho
    exact ho.1
  | b :: H, j + 1, n, w, g, t, ho, h => by
    simp only [List.getD_cons_succ] at h
    refine fullB_get (H := H) (j := j) ?_ h
    unfold fullB at ho
    split at ho
    · rename_i e; cases e
    · rename_i e; cases e; exact (ob_cons.1 ho).2
    · rename_i e; cases e; exact ho
theorem obls_app {a b : List Bool} : obls (a ++ b) = true ↔ obls a = true ∧ obls b = true := by
  simp [obls]

def specK (ros : List Bool) (F : List AV → List AB → Option HR) : Spec := fun avs H base =>
  match viewH ros avs H with
  | some q => match F q.2.1 q.2.2 with
    | some hr => match mapA (bkK q.1 q.2.2 base) hr.val, mapBs (bkK q.1 q.2.2 base) hr.out, mapBs (bkK q.1 q.2.2 base) hr.new with
      | some v, some ou, some nw => cond (Nat.beq hr.out.length q.2.2.length && hr.new.all AB.wr)
          (some { val := v, rd := q.1, put := putH q.1 q.2.2 ou, new := nw, obl := hr.obl ++ fullB q.2.2 }) none
      | _, _, _ => none
    | none => none
  | none => none

theorem specK_wk {f : FuncId} {fn : Func} {ros : List Bool} {F : List AV → List AB → Option HR} (hf : Tryz.prog.funcs[f]? = some fn) (hb : fn.body.isSome = true)
    (h : ∀ avs H hr, F avs H = some hr → obls hr.obl = true → ∃ (Γ : Gam) (H0 : List AB) (Λ : Nat → Option Sum) (n : Nat), GamOk Tryz.prog Γ ∧ Hsim H H0 ∧ (∀ c, fn.body = some c → LamOk Tryz.prog H0.length Λ c) ∧ GoodQ (execF Tryz.prog Γ Λ n fn avs H0 (packK H0.length)) (GivW hr)) : SpecOk Tryz.prog f (specK ros F) := by
  refine ⟨fun args w => enters f fn hf hb args w, fun avs H base δ ν vals w hS ho hv hbr hlt hfree hsep htab => ?_⟩
  unfold specK at hS
  split at hS
  case h_2 => cases hS
  rename_i q hq
  split at hS
  case h_2 => cases hS
  rename_i hr hF
  split at hS
  case h_2 => cases hS
  rename_i v ou nw hval hou hnw
  cases hck : (Nat.beq hr.out.length q.2.2.length && hr.new.all AB.wr) with
  | false => rw [hck] at hS; cases hS
  | true =>
  rw [hck] at hS
  simp only [cond_true, Option.some.injEq] at hS
  subst hS
  rw [Bool.and_eq_true] at hck
  have hlen := Nat.eq_of_beq_eq_true hck.1
  have hnewwr := List.all_eq_true.1 hck.2
  unfold viewH at hq
  generalize reach H 400 [] (idxAs avs) = keep at *
  split at hq
  case h_2 => cases hq
  rename_i avs' H1 hra hrb
  cases hnd : nodupB keep with
  | false => rw [hnd] at hq; cases hq
  | true =>
  rw [hnd] at hq
  simp only [cond_true, Option.some.injEq] at hq
  subst hq
  simp only at hval hou hnw hF hlen hbr hsep ho hfree ⊢
  rw [obls_app] at ho
  obtain ⟨ho, hof⟩ := ho
  obtain ⟨hl1, hg1⟩ := renBs_get hrb
  have hlHc : (roL ros H1).length = keep.length := by rw [roL_length, hl1]
  have nuAt : ∀ {j i}, keep[j]? = some i → keepNu keep ν j = ν i := fun hj => by simp [keepNu, hj]
  have ofNu : ∀ {j b}, keepNu keep ν j = some b → ∃ i, keep[j]? = some i ∧ ν i = some b := by
    intro j b hb
    unfold keepNu at hb
    split at hb
    · rename_i i hi; exact ⟨i, hi, hb⟩
    · cases hb
  have ren_marks : ∀ {b b' : AB}, renB keep b = some b' → b'.wr = b.wr ∧ b'.live = b.live := by
    intro b b' hb
    cases b with
    | cells cs t => simp only [renB, Option.map_eq_some_iff] at hb; obtain ⟨q, _, rfl⟩ := hb; exact ⟨rfl, rfl⟩
    | row => simp only [renB, Option.some.injEq] at hb; subst hb; exact ⟨rfl, rfl⟩
    | gone => simp only [renB, Option.some.injEq] at hb; subst hb; exact ⟨rfl, rfl⟩
  -- the callee's block j is the caller's block keep j
  have view : ∀ {j i}, keep[j]? = some i → ∃ b1, H1[j]? = some b1 ∧ renB keep (H.getD i .gone) = some b1 ∧ (roL ros H1)[j]? = some (roB (ros.getD j false) b1) := by
    intro j i hj
    obtain ⟨b1, e1, e2⟩ := hg1 j i hj
    exact ⟨b1, e1, e2, by rw [roL_get, e1]; rfl⟩
  have wrOf : ∀ {j i}, keep[j]? = some i → ((roL ros H1).getD j .gone).wr = true → (H.getD i .gone).wr = true := by
    intro j i hj hw
    obtain ⟨b1, _, e2, e3⟩ := view hj
    have : (roL ros H1).getD j .gone = roB (ros.getD j false) b1 := by simp [List.getD_eq_getElem?_getD, e3]
    rw [this] at hw
    rw [← (ren_marks e2).1]
    exact roB_wr hw
  have liveOf : ∀ {j i}, keep[j]? = some i → ((roL ros H1).getD j .gone).live = true → (H.getD i .gone).live = true := by
    intro j i hj hw
    obtain ⟨b1, _, e2, e3⟩ := view hj
    have : (roL ros H1).getD j .gone = roB (ros.getD j false) b1 := by simp [List.getD_eq_getElem?_getD, e3]
    rw [this, roB_live] at hw
    rw [← (ren_marks e2).2]
    exact hw
  obtain ⟨hlo, hgo⟩ := mapBs_get hou
  obtain ⟨hln, hgn⟩ := mapBs_get hnw
  have inPut : ∀ {j i}, keep[j]? = some i → ((roL ros H1).getD j .gone).wr = true → ∃ o o', hr.out[j]? = some o ∧ ou[j]? = some o' ∧ mapB (bkK keep (roL ros H1) base) o = some o' ∧ (i, o') ∈ putH keep (roL ros H1) ou := by
    intro j i hj hw
    have hjl : j < keep.length := (List.getElem?_eq_some_iff.1 hj).1
    have ho : hr.out[j]? = some (hr.out[j]'(by omega)) := List.getElem?_eq_getElem _
    obtain ⟨o', e1, e2⟩ := hgo j _ ho
    have hh : (roL ros H1)[j]? = some ((roL ros H1)[j]'(by omega)) := List.getElem?_eq_getElem _
    refine ⟨_, o', ho, e1, e2, putH_of hj hh e1 ?_⟩
    have : (roL ros H1).getD j .gone = (roL ros H1)[j]'(by omega) := by simp [List.getD_eq_getElem?_getD, hh]
    rw [← this]; exact hw
  let M : Nat → Prop := fun k => w.heap.size ≤ k ∨ ∃ j b, ((roL ros H1).getD j .gone).wr = true ∧ keepNu keep ν j = some b ∧ b.n = k
  have hRH : RH M (keepNu keep ν) (fun b => (roL ros H1).getD b .gone) w := by
    refine ⟨fun j => ?_, fun i j b b' hne hw hlv hb hb' => ?_, fun i b hw hb => .inr ⟨i, b, hw, hb, rfl⟩, fun i b hb => ?_, htab.mono ?_⟩
    · cases hj : keep[j]? with
      | none =>
        have : (roL ros H1).getD j .gone = .gone := by
          rw [List.getD_eq_getElem?_getD, List.getElem?_eq_none]
          · rfl
          · rw [hlHc]
            exact List.getElem?_eq_none_iff.1 hj
        simp only [this]
        trivial
      | some i =>
        obtain ⟨b1, e1, e2, e3⟩ := view hj
        have : (roL ros H1).getD j .gone = roB (ros.getD j false) b1 := by simp [List.getD_eq_getElem?_getD, e3]
        simp only [this]
        refine roB_br ?_
        have hbi := hbr i (List.mem_of_getElem? hj)
        have hν := nuAt hj
        cases hi : H.getD i .gone with
        | cells cs t =>
          rw [hi] at e2 hbi
          simp only [renB, Option.map_eq_some_iff] at e2
          obtain ⟨cs', h1, h2⟩ := e2
          rw [← h2]
          obtain ⟨b, l, g1, g2, g3, g4⟩ := hbi
          exact ⟨b, l, by rw [hν]; exact g1, g2, g3, g4.ren h1⟩
        | row rw' n wd g t =>
          rw [hi] at e2 hbi
          simp only [renB, Option.some.injEq] at e2
          rw [← e2]
          rcases hbi with ⟨g1, g2, g3⟩ | ⟨b, l, t', fz, g1, g2⟩
          · exact .inl ⟨g1, g2, by rw [hν]; exact g3⟩
          · exact .inr ⟨b, l, t', fz, by rw [hν]; exact g1, g2⟩
        | gone =>
          rw [hi] at e2
          simp only [renB, Option.some.injEq] at e2
          rw [← e2]
          trivial
    · obtain ⟨i', hi, e1⟩ := ofNu hb
      obtain ⟨j', hj, e2⟩ := ofNu hb'
      obtain ⟨_, o', _, _, _, hp⟩ := inPut hi hw
      refine hsep i' o' j' b b' hp (List.mem_of_getElem? hj) (fun e => ?_) (liveOf hj hlv) e1 e2
      subst e
      exact hne (nodupB_ne hnd i j i' hi hj)
    · obtain ⟨i', _, e1⟩ := ofNu hb
      exact hlt i' b e1
    · rintro k _ (hk | ⟨j, b, hw, hb, rfl⟩)
      · exact .inl hk
      · obtain ⟨i', hi, e1⟩ := ofNu hb
        obtain ⟨_, o', _, _, _, hp⟩ := inPut hi hw
        exact .inr ⟨i', b, _, hp, e1, rfl⟩
  obtain ⟨Γ, H0, Λ, n, hΓ, hsim, hL, hG⟩ := h avs' (roL ros H1) hr hF ho
  have hl0 : H0.length = keep.length := by rw [← hsim.length, hlHc]
  have hdom0 : ∀ i b, keepNu keep ν i = some b → i < H0.length := by
    intro i b hb
    obtain ⟨i', hi, _⟩ := ofNu hb
    rw [hl0]
    exact (List.getElem?_eq_some_iff.1 hi).1
  refine (calls_pack hΓ mixed enters hf hL (fun k hk => Or.inl hk) hG.out (hv.ren hra) (hRH.sim hsim) hdom0).mono ?_
  rintro e w' ⟨vv, av, He, ν', rfl, ⟨av2, hav, hwk, hHe⟩, hvr, hRH', hfr, hle, hdom'⟩
  simp only [List.cons.injEq, and_true] at hav
  subst hav
  have hvr := hwk _ _ _ _ hRH' hvr
  have hRH2 := hRH'.sim hHe
  have hHl : He.length = keep.length + hr.new.length := by rw [hHe.length, List.length_append, hlen, hlHc]
  -- a block that may be written has a place
  have wrNu : ∀ {j : Nat}, ((roL ros H1).getD j .gone).wr = true → ∃ b, keepNu keep ν j = some b := by
    intro j hw
    have : BR (keepNu keep ν) j ((roL ros H1).getD j .gone) w := hRH.br j
    cases hb : (roL ros H1).getD j .gone with
    | cells cs t => rw [hb] at this; obtain ⟨b, l, e1, _⟩ := this; exact ⟨b, e1⟩
    | row rw' n wd g t =>
      rw [hb] at this hw
      rcases this with ⟨e1, _⟩ | ⟨b, l, t', fz, e1, _⟩
      · simp only [AB.wr] at hw
        rw [e1] at hw
        cases hw
      · exact ⟨b, e1⟩
    | gone => rw [hb] at hw; cases hw
  have liveNu : ∀ {j : Nat}, ((roL ros H1).getD j .gone).live = true → ∃ b, keepNu keep ν j = some b := by
    intro j hw
    have : BR (keepNu keep ν) j ((roL ros H1).getD j .gone) w := hRH.br j
    cases hb : (roL ros H1).getD j .gone with
    | cells cs t => rw [hb] at this; obtain ⟨b, l, e1, _⟩ := this; exact ⟨b, e1⟩
    | row rw' n wd g t =>
      rw [hb] at this
      rcases this with ⟨e1, e2, _⟩ | ⟨b, l, t', fz, e1, _⟩
      · subst e1
        have := fullB_get hof hb
        omega
      · exact ⟨b, e1⟩
    | gone => rw [hb] at hw; cases hw
  let ν2 : Nu := fun i => match ν i with
    | some b => some b
    | none => if base ≤ i ∧ i < base + nw.length then ν' (keep.length + (i - base)) else none
  have n2old : ∀ {i b}, ν i = some b → ν2 i = some b := fun {i b} h => by simp only [ν2, h]
  have n2new : ∀ {j : Nat}, j < nw.length → ν2 (base + j) = ν' (keep.length + j) := fun {j} hj => by
    have h0 := hfree j hj
    have h1 : ν2 (base + j) = if base ≤ base + j ∧ base + j < base + nw.length then ν' (keep.length + (base + j - base)) else none := by
      show (match ν (base + j) with | some b => some b | none => if base ≤ base + j ∧ base + j < base + nw.length then ν' (keep.length + (base + j - base)) else none) = _
      rw [h0]
    rw [h1, if_pos ⟨by omega, by omega⟩, Nat.add_sub_cancel_left]
  have mp : ∀ i i' b, bkK keep (roL ros H1) base i = some i' → ν' i = some b → ν2 i' = some b := by
    intro i i' b h1 h2
    unfold bkK at h1
    cases hc : Nat.blt i keep.length with
    | true =>
      rw [hc, cond_true] at h1
      cases hw : ((roL ros H1).getD i .gone).live with
      | false => rw [hw] at h1; cases h1
      | true =>
        rw [hw, cond_true] at h1
        obtain ⟨b0, hb0⟩ := liveNu hw
        have := hle _ _ hb0
        rw [h2] at this
        cases this
        rw [nuAt h1] at hb0
        exact n2old hb0
    | false =>
      rw [hc, cond_false, Option.some.injEq] at h1
      subst h1
      have hge : ¬ i < keep.length := fun hl => by rw [← Nat.blt_eq] at hl; rw [hl] at hc; cases hc
      have hd := hdom' i b h2
      have e : i = keep.length + (i - keep.length) := by omega
      rw [n2new (by rw [hln]; omega), ← e]
      exact h2
  have outBR : ∀ {j : Nat} {o : AB}, hr.out[j]? = some o → BR ν' j o w' := by
    intro j o hj
    have := hRH2.br j
    have hjl : j < hr.out.length := (List.getElem?_eq_some_iff.1 hj).1
    simp only [List.getD_eq_getElem?_getD, List.getElem?_append_left hjl, hj, Option.getD_some] at this
    exact this
  have newAt : ∀ {j : Nat} {o : AB}, hr.new[j]? = some o → (hr.out ++ hr.new).getD (keep.length + j) .gone = o := by
    intro j o hj
    rw [List.getD_eq_getElem?_getD, List.getElem?_append_right (by omega)]
    have : keep.length + j - hr.out.length = j := by omega
    rw [this, hj]
    rfl
  refine ⟨vv, ν2, rfl, ⟨fun i b hb => n2old hb, fun i h1 h2 => ?_, hvr.map mp hval, fun i b hl => ?_, fun j b hj => ?_, hfr.os, hfr.tape, hfr.output, hfr.size, fun k hk hne => ?_, fun j b hj hb => ?_, fun j j' b b' hne hj hj' hb hb' => ?_⟩⟩
  · simp only [ν2, h1] at h2
    split at h2
    · assumption
    · exact (h2 rfl).elim
  · obtain ⟨j, hh, e1, e2, e3, e4⟩ := putH_mem (lookB_mem hl)
    have hw : ((roL ros H1).getD j .gone).wr = true := by simp only [List.getD_eq_getElem?_getD, e2, Option.getD_some]; exact e4
    obtain ⟨o, o', g1, g2, g3, _⟩ := inPut e1 hw
    rw [e3] at g2
    cases g2
    obtain ⟨b0, hb0⟩ := wrNu hw
    have e5 : ν2 i = ν' j := by
      rw [hle _ _ hb0]
      rw [nuAt e1] at hb0
      exact n2old hb0
    exact (outBR g1).map mp e5 g3
  · have hjl : j < nw.length := (List.getElem?_eq_some_iff.1 hj).1
    have hn : hr.new[j]? = some (hr.new[j]'(by omega)) := List.getElem?_eq_getElem _
    obtain ⟨b', e1, e2⟩ := hgn j _ hn
    rw [hj] at e1
    cases e1
    have : BR ν' (keep.length + j) ((hr.out ++ hr.new).getD (keep.length + j) .gone) w' := hRH2.br (keep.length + j)
    rw [newAt hn] at this
    exact this.map mp (n2new hjl) e2
  · refine hfr.block k hk fun hM => ?_
    rcases hM with hM | ⟨j, b, hw, hb, e⟩
    · omega
    · obtain ⟨i, hi, e1⟩ := ofNu hb
      obtain ⟨_, o', _, _, _, hp⟩ := inPut hi hw
      exact hne _ b hp e1 e
  · have hj : j < nw.length := hj
    rw [n2new hj] at hb
    refine ⟨hRH2.lt _ _ hb, ?_⟩
    have hn : hr.new[j]? = some (hr.new[j]'(by omega)) := List.getElem?_eq_getElem _
    have hwn : ((hr.out ++ hr.new).getD (keep.length + j) .gone).wr = true := by
      rw [newAt hn]
      exact hnewwr _ (List.mem_of_getElem? hn)
    rcases hRH2.own _ b hwn hb with hM | ⟨i, b0, hw, hb0, e⟩
    · exact .inl hM
    · right
      obtain ⟨i', hi, e1⟩ := ofNu hb0
      obtain ⟨o, o', g1, g2, g3, hp⟩ := inPut hi hw
      obtain ⟨o2, hl2⟩ := lookB_of hp
      refine ⟨i', b0, ?_, e1, e⟩
      have hil : i < keep.length := (List.getElem?_eq_some_iff.1 hi).1
      have hgone : o = .gone := by
        cases hlv : o.live with
        | false => cases o <;> first | rfl | cases hlv
        | true =>
          have e3 : (hr.out ++ hr.new).getD i .gone = o := by
            rw [List.getD_eq_getElem?_getD, List.getElem?_append_left (by omega), g1]
            rfl
          exact (hRH2.sep (keep.length + j) i b b0 (by omega) hwn (by rw [e3]; exact hlv) hb (hle _ _ hb0) e.symm).elim
      subst hgone
      have ho' := (mapB_marks g3).2.2 rfl
      subst ho'
      obtain ⟨j2, h2, f1, f2, f3, f4⟩ := putH_mem (lookB_mem hl2)
      have : j2 = i := nodupB_ne hnd j2 i i' f1 hi
      subst this
      rw [g2] at f3
      cases f3
      exact hl2
  · have hj : j < nw.length := hj
    have hj' : j' < nw.length := hj'
    rw [n2new hj] at hb
    rw [n2new hj'] at hb'
    have hn : hr.new[j]? = some (hr.new[j]'(by omega)) := List.getElem?_eq_getElem _
    have hn' : hr.new[j']? = some (hr.new[j']'(by omega)) := List.getElem?_eq_getElem _
    have w1 : ((hr.out ++ hr.new).getD (keep.length + j) .gone).wr = true := by
      rw [newAt hn]
      exact hnewwr _ (List.mem_of_getElem? hn)
    have w2 : ((hr.out ++ hr.new).getD (keep.length + j') .gone).live = true := by
      rw [newAt hn']
      have := hnewwr _ (List.mem_of_getElem? hn')
      revert this
      cases hr.new[j']'(by omega) <;> simp [AB.wr, AB.live]
    exact hRH2.sep (keep.length + j) (keep.length + j') b b' (by omega) w1 w2 hb hb'

theorem specK_okG {f : FuncId} {fn : Func} {ros : List Bool} {F : List AV → List AB → Option HR} (hf : Tryz.prog.funcs[f]? = some fn) (hb : fn.body.isSome = true)
    (h : ∀ avs H hr, F avs H = some hr → obls hr.obl = true → ∃ (Γ : Gam) (H0 : List AB) (Λ : Nat → Option Sum) (n : Nat), GamOk Tryz.prog Γ ∧ Hsim H H0 ∧ (∀ c, fn.body = some c → LamOk Tryz.prog H0.length Λ c) ∧ GoodQ (execF Tryz.prog Γ Λ n fn avs H0 (packK H0.length)) (GivH hr)) : SpecOk Tryz.prog f (specK ros F) :=
  specK_wk hf hb fun avs H hr hF ho => by
    obtain ⟨Γ, H0, Λ, n, h0, h1, h2, h3⟩ := h avs H hr hF ho
    exact ⟨Γ, H0, Λ, n, h0, h1, h2, ⟨res_mono (fun e l He ⟨h4, h5⟩ => ⟨_, h4, fun _ _ _ _ _ hv => hv, h5⟩) h3.out⟩⟩
theorem specK_ok {Γ : Gam} (hΓ : GamOk Tryz.prog Γ) {f : FuncId} {fn : Func} {ros : List Bool} {F : List AV → List AB → Option HR} (hf : Tryz.prog.funcs[f]? = some fn) (hb : fn.body.isSome = true)
    (h : ∀ avs H hr, F avs H = some hr → obls hr.obl = true → ∃ (H0 : List AB) (Λ : Nat → Option Sum) (n : Nat), Hsim H H0 ∧ (∀ c, fn.body = some c → LamOk Tryz.prog H0.length Λ c) ∧ GoodQ (execF Tryz.prog Γ Λ n fn avs H0 (packK H0.length)) (GivH hr)) : SpecOk Tryz.prog f (specK ros F) :=
  specK_okG hf hb fun avs H hr hF ho => let ⟨H0, Λ, n, h1, h2, h3⟩ := h avs H hr hF ho; ⟨Γ, H0, Λ, n, hΓ, h1, h2, h3⟩

end Go.Proofs.YtfpebhlkikmgbaaGreatDoor

/- A reader of bytes: pick, its tree. -/
namespace Go.Proofs.YtfpebhlkikmgbaaGreatDoor
open Go.RowKit
set_option maxRecDepth 100000

abbrev rowB (b : Nat → Int) : Nat → List Value := fun j => [.int .u8 (b j)]
abbrev hpRd (l : Nat) (c : Option Nat) (p : Int) (m : Nat) (b : Nat → Int) (tr tb : TypeId) : List AB := [.cells [.sl 1 1 0 0 l c, .v (i64 p)] tr, .row false m 1 (rowB b) tb]
theorem treePk_h (l : Nat) (c : Option Nat) (p : Int) (m : Nat) (b : Nat → Int) (tr tb : TypeId) (n : Int) (u0 : _) (hu0 : (IntKind.wrap .i64 (p + (1 : Int)) - (1 : Int)) = u0) (u3 : _) (hu3 : (IntKind.wrap .i64 (IntKind.wrap .i64 (IntKind.wrap .i64 u0 * (7 : Int)) + (3 : Int))) = u3) (u4 : _) (hu4 : (IntKind.wrap .i64 u0) = u4) (u5 : _) (hu5 : (↑l : Int) = u5) (u6 : _) (hu6 : (0 : Int) = u6) (u7 : _) (hu7 : (0 : Nat) = u7) (u1 : _) (hu1 : (IntKind.wrap .i64 (IntKind.wrap .i64 (IntKind.wrap .i64 (IntKind.wrap .i64 (IntKind.wrap .i64 (b (u7 + Int.toNat (Int.tmod u4 u5))) * (131 : Int)) + IntKind.wrap .i64 (IntKind.wrap .i64 (b (u7 + Int.toNat (Int.tmod u3 u5))) * (1117 : Int))) + IntKind.wrap .i64 (IntKind.wrap .i64 u0 * (29 : Int))) + IntKind.wrap .i64 (IntKind.wrap .i64 (Int.tdiv u4 u5) * (53 : Int)))) = u1) (u2 : _) (hu2 : [AB.cells [AV.sl 1 (1 : Nat) u7 u7 l c, AV.v (.int .i64 (IntKind.wrap .i64 (p + (1 : Int))))] tr, AB.row false m 1 (rowB b) tb] = u2) : execF Tryz.prog g0 noLam 100 Tryz.f14 [.ptr 0 0 0 0, .v (i64 n)] (hpRd l c p m b tr tb) (packK 2)
    = bif decide (n < (1 : Int)) then Res.out .ret [AV.v (.int .i64 u6)] u2 else bif u5 == u6 then Res.out .ret [AV.v (.int .i64 u6)] u2 else bif decide (IntKind.wrap .i64 u0 < u5) then needs [decide (u6 ≤ IntKind.wrap .i64 u0), decide (IntKind.wrap .i64 u0 < u5), decide (u7 + Int.toNat u4 < m), !decide (n = u6)] (Res.out .ret [AV.v (.int .i64 (Int.tmod (IntKind.wrap .i64 (b (u7 + Int.toNat u4))) n))] u2) else needs [!decide (u5 = u6), decide (u6 ≤ Int.tmod u4 u5), decide (Int.tmod u4 u5 < u5), decide (u7 + Int.toNat (Int.tmod u4 u5) < m), !decide (u5 = u6), decide (u6 ≤ Int.tmod u3 u5), decide (Int.tmod u3 u5 < u5), decide (u7 + Int.toNat (Int.tmod u3 u5) < m), !decide (u5 = u6), !decide (n = u6)] (Res.out .ret [AV.v (.int .i64 (Int.tmod (IntKind.wrap .i64 (↑(BitVec.toNat (BitVec.ofInt (64 : Nat) u1 ^^^ BitVec.ofInt (64 : Nat) (IntKind.wrap .i64 (Int.tdiv u1 (64 : Int))))) : Int)) n))] u2) := by
  subst hu2 hu1 hu7 hu6 hu5 hu4 hu3 hu0
  kernel_rfl
theorem treePk (l : Nat) (c : Option Nat) (p : Int) (m : Nat) (b : Nat → Int) (tr tb : TypeId) (n : Int) : type_of% (treePk_h l c p m b tr tb n _ rfl _ rfl _ rfl _ rfl _ rfl _ rfl _ rfl _ rfl) := treePk_h l c p m b tr tb n _ rfl _ rfl _ rfl _ rfl _ rfl _ rfl _ rfl _ rfl

end Go.Proofs.YtfpebhlkikmgbaaGreatDoor

/- A reader of bytes: what pick returns. Conditions: bytes; the reader's place is at most 2^30. -/
namespace Go.Proofs.YtfpebhlkikmgbaaGreatDoor
open Go.RowKit
set_option maxRecDepth 100000

def isB : List Value → Bool
  | [.int .u8 x] => inR x 0 255
  | _ => false
def u8Qv : Value → Int
  | .int .u8 x => x
  | _ => 0
def itB (g : Nat → List Value) : Nat → Int := fun j => u8Qv ((g j).getD 0 undef)
def okB (m : Nat) (g : Nat → List Value) : Bool := (List.range m).all fun j => isB (g j)
theorem okB_get {m : Nat} {g : Nat → List Value} (h : okB m g = true) {j : Nat} (hj : j < m) : g j = rowB (itB g) j ∧ 0 ≤ itB g j ∧ itB g j ≤ 255 := by
  have h1 := List.all_eq_true.1 h j (by simpa using hj)
  unfold isB at h1
  unfold rowB itB
  split at h1
  · rename_i x e
    rw [e]
    have e2 : u8Qv ([Value.int .u8 x].getD 0 undef) = x := rfl
    rw [e2]
    unfold inR at h1
    simp only [Bool.and_eq_true, decide_eq_true_eq] at h1
    exact ⟨rfl, h1.1, h1.2⟩
  · cases h1
theorem itB_row (b : Nat → Int) : itB (rowB b) = b := rfl

def pkX (l : Nat) (b : Nat → Int) (p : Int) : Int :=
  W (W (W (W (W (b (0 + (Int.tmod p l).toNat)) * 131) + W (W (b (0 + (Int.tmod (W (W (p * 7) + 3)) l).toNat)) * 1117)) + W (p * 29)) + W (W (Int.tdiv p l) * 53))
def pkY (x : Int) : Int := W ((BitVec.ofInt 64 x ^^^ BitVec.ofInt 64 (W (Int.tdiv x 64))).toNat)
def pkR (l : Nat) (b : Nat → Int) (p n : Int) : Int :=
  bif decide (n < 1) then 0 else bif (l : Int) == 0 then 0 else bif decide (p < l) then Int.tmod (W (b (0 + p.toNat))) n else Int.tmod (pkY (pkX l b p)) n
def pkV (l : Nat) (b : Nat → Int) (p n : Int) : Int := if 0 ≤ pkR l b p n ∧ pkR l b p n < n then pkR l b p n else 0
theorem pkY_nn {x : Int} (h0 : 0 ≤ x) (h1 : x < 2 ^ 62) : 0 ≤ pkY x := by
  unfold pkY
  have e : W (Int.tdiv x 64) = x / 64 := by
    rw [Int.tdiv_eq_ediv_of_nonneg h0]
    exact w64_in (by omega) (by omega)
  rw [e, BitVec.toNat_xor, BitVec.toNat_ofInt, BitVec.toNat_ofInt]
  have : (x % (2 ^ 64 : Nat)).toNat ^^^ (x / 64 % (2 ^ 64 : Nat)).toNat < 2 ^ 62 := Nat.xor_lt_two_pow (by omega) (by omega)
  rw [w64_in (by omega) (by omega)]
  omega
theorem tmod_in {x : Int} {l : Nat} (h : 0 ≤ x) (hl : l ≠ 0) : 0 ≤ Int.tmod x l ∧ Int.tmod x l < l := by
  have : (0 : Int) < l := by omega
  exact ⟨Int.tmod_nonneg _ h, Int.tmod_lt_of_pos _ this⟩
theorem pkX_in {l m : Nat} {b : Nat → Int} {p : Int} (hb : ∀ j, j < m → 0 ≤ b j ∧ b j ≤ 255) (hl : l ≤ m) (hl0 : l ≠ 0) (h0 : 0 ≤ p) (h1 : p ≤ 2 ^ 30) : 0 ≤ pkX l b p ∧ pkX l b p < 2 ^ 62 := by
  have a1 := tmod_in h0 hl0
  have e1 : W (W (p * 7) + 3) = p * 7 + 3 := by rw [w64_in (x := p * 7) (by omega) (by omega), w64_in (by omega) (by omega)]
  have a2 := tmod_in (x := p * 7 + 3) (by omega) hl0
  have b1 := hb (0 + (Int.tmod p l).toNat) (by omega)
  have b2 := hb (0 + (Int.tmod (p * 7 + 3) l).toNat) (by omega)
  have a3 : 0 ≤ Int.tdiv p l := Int.tdiv_nonneg h0 (by omega)
  have a4 : Int.tdiv p l ≤ p := by
    rw [Int.tdiv_eq_ediv_of_nonneg h0]
    exact Int.ediv_le_self _ h0
  unfold pkX
  rw [e1]
  generalize b (0 + (Int.tmod p l).toNat) = x1 at b1
  generalize b (0 + (Int.tmod (p * 7 + 3) l).toNat) = x2 at b2
  generalize Int.tdiv p l = x3 at a3 a4
  rw [w64_in (x := x1) (by omega) (by omega), w64_in (x := x2) (by omega) (by omega), w64_in (x := x3) (by omega) (by omega), w64_in (x := x1 * 131) (by omega) (by omega), w64_in (x := x2 * 1117) (by omega) (by omega), w64_in (x := x3 * 53) (by omega) (by omega), w64_in (x := p * 29) (by omega) (by omega), w64_in (x := x1 * 131 + x2 * 1117) (by omega) (by omega), w64_in (x := x1 * 131 + x2 * 1117 + p * 29) (by omega) (by omega), w64_in (by omega) (by omega)]
  omega
theorem pkV_eq {l m : Nat} {b : Nat → Int} {p n : Int} (hb : ∀ j, j < m → 0 ≤ b j ∧ b j ≤ 255) (hl : l ≤ m) (h0 : 0 ≤ p) (h1 : p ≤ 2 ^ 30) : pkV l b p n = pkR l b p n := by
  have : pkR l b p n = 0 ∨ 0 ≤ pkR l b p n ∧ pkR l b p n < n := by
    unfold pkR
    by_cases c1 : n < 1
    · rw [decide_eq_true c1]; exact .inl rfl
    · rw [decide_eq_false c1, cond_false]
      by_cases c2 : (l : Int) = 0
      · rw [beq_iff_eq.2 c2]; exact .inl rfl
      · rw [beq_eq_false_iff_ne.2 c2, cond_false]
        by_cases c3 : p < l
        · rw [decide_eq_true c3, cond_true]
          have b1 := hb (0 + p.toNat) (by omega)
          rw [w64_in (by omega) (by omega)]
          exact .inr ⟨Int.tmod_nonneg _ b1.1, Int.tmod_lt_of_pos _ (by omega)⟩
        · rw [decide_eq_false c3, cond_false]
          have := pkX_in hb hl (by omega) h0 h1
          exact .inr ⟨Int.tmod_nonneg _ (pkY_nn this.1 this.2), Int.tmod_lt_of_pos _ (by omega)⟩
  unfold pkV
  split
  · rfl
  · omega

theorem ABeq.trans' {a b c : AB} (h1 : ABeq a b) (h2 : ABeq b c) : ABeq a c := by
  cases a with
  | row rw n w g t =>
    obtain ⟨n', g', rfl, hn, hg⟩ := h1
    obtain ⟨n2, g2, rfl, hn2, hg2⟩ := h2
    exact ⟨n2, g2, rfl, Nat.le_trans hn2 hn, fun j hj => (hg j (by omega)).trans (hg2 j hj)⟩
  | cells => cases h1; exact h2
  | gone => cases h1; exact h2
def FpkO (pk : Nat → (Nat → Int) → Int → Int → Int) : List AV → List AB → Option HR
  | [.ptr 0 0 0 0, .v (.int .i64 n)], [.cells [.sl 1 1 0 0 l c, .v (.int .i64 p)] tr, .row false m 1 g tb] => some { val := .v (.int .i64 (pk l (itB g) p n)), out := [.cells [.sl 1 1 0 0 l c, .v (.int .i64 (p + 1))] tr, .row false m 1 g tb], obl := [okB m g, decide (l ≤ m), decide (0 ≤ p), decide (p ≤ 2 ^ 30)] }
  | _, _ => none
theorem pick_good {l m : Nat} {c : Option Nat} {p : Int} {b : Nat → Int} {tr tb : TypeId} (n : Int) (hb : ∀ j, j < m → 0 ≤ b j ∧ b j ≤ 255) (h2 : l ≤ m) (h3 : 0 ≤ p) (h4 : p ≤ 2 ^ 30) :
    GoodQ (execF Tryz.prog g0 noLam 100 Tryz.f14 [.ptr 0 0 0 0, .v (i64 n)] (hpRd l c p m b tr tb) (packK 2)) (fun _ vs He => vs = [.v (i64 (pkV l b p n))] ∧ Hsim He (hpRd l c (p + 1) m b tr tb)) := by
  have e0 : IntKind.wrap IntKind.i64 (p + 1) = p + 1 := wr_in (by omega)
  have e1 : IntKind.wrap IntKind.i64 (p + 1 - 1) = p := by rw [wr_in (by omega)]; omega
  rw [treePk]
  simp only [e0, e1]
  have hv := pkV_eq (n := n) hb h2 h3 h4
  have key : ∀ x, pkR l b p n = x → [AV.v (.int .i64 x)] = [AV.v (i64 (pkV l b p n))] ∧ Hsim (hpRd l c (p + 1) m b tr tb) (hpRd l c (p + 1) m b tr tb) := by
    intro x hx
    exact ⟨by rw [hv, hx], Hsim.refl _⟩
  by_cases c1 : n < 1
  · refine good_true (decide_eq_true c1) (good_out (key _ ?_))
    rw [pkR, decide_eq_true c1]; rfl
  · refine good_false (decide_eq_false c1) ?_
    by_cases c2 : (l : Int) = 0
    · refine good_true (beq_iff_eq.2 c2) (good_out (key _ ?_))
      rw [pkR, decide_eq_false c1, beq_iff_eq.2 c2]; rfl
    · refine good_false (beq_eq_false_iff_ne.2 c2) ?_
      by_cases c3 : p < l
      · refine good_true (decide_eq_true c3) (good_needs ?_ (good_out (key _ ?_)))
        · simp only [ob_cons, ob_nil, and_true, decide_eq_true_eq, Bool.not_eq_true', decide_eq_false_iff_not]
          omega
        · rw [pkR, decide_eq_false c1, beq_eq_false_iff_ne.2 c2, decide_eq_true c3]; rfl
      · have e2 : IntKind.wrap IntKind.i64 (IntKind.wrap IntKind.i64 (p * 7) + 3) = p * 7 + 3 := by rw [wr_in (x := p * 7) (by omega), wr_in (by omega)]
        have a1 := tmod_in h3 (l := l) (by omega)
        have a2 := tmod_in (x := p * 7 + 3) (by omega) (l := l) (by omega)
        refine good_false (decide_eq_false c3) (good_needs ?_ (good_out (key _ ?_)))
        · simp only [ob_cons, ob_nil, and_true, decide_eq_true_eq, Bool.not_eq_true', decide_eq_false_iff_not, e2]
          omega
        · rw [pkR, decide_eq_false c1, beq_eq_false_iff_ne.2 c2, decide_eq_false c3]; rfl
theorem rd_sim {l m : Nat} {c : Option Nat} {p : Int} {tr tb : TypeId} {g : Nat → List Value} (h : okB m g = true) : Hsim [.cells [.sl 1 1 0 0 l c, .v (.int .i64 p)] tr, .row false m 1 g tb] (hpRd l c p m (itB g) tr tb) := .cons (ABeq.refl _) (.cons (ABeq.row fun _ hj => (okB_get h hj).1) .nil)
theorem rd_sim' {l m : Nat} {c : Option Nat} {p : Int} {tr tb : TypeId} {g : Nat → List Value} (h : okB m g = true) : Hsim (hpRd l c p m (itB g) tr tb) [.cells [.sl 1 1 0 0 l c, .v (.int .i64 p)] tr, .row false m 1 g tb] := .cons (ABeq.refl _) (.cons (ABeq.row fun _ hj => (okB_get h hj).1.symm) .nil)
theorem Hsim.trans' : ∀ {H H' H'' : List AB}, Hsim H H' → Hsim H' H'' → Hsim H H''
  | _, _, _, .nil, .nil => .nil
  | _, _, _, .cons h1 t1, .cons h2 t2 => .cons (ABeq.trans' h1 h2) (Hsim.trans' t1 t2)
theorem ok_pick : SpecOk Tryz.prog 14 (specK [] (FpkO pkV)) := by
  refine specK_ok g0_ok Tryz.func14 rfl fun avs H hr hF ho => ?_
  unfold FpkO at hF
  split at hF
  · rename_i n l c p tr m g tb
    cases hF
    simp only [ob_cons, decide_eq_true_eq] at ho
    obtain ⟨h1, h2, h3, h4, _⟩ := ho
    refine ⟨hpRd l c p m (itB g) tr tb, noLam, 100, rd_sim h1, noLam' _, ⟨res_mono (fun e vs He hq => ?_) (pick_good n (fun j hj => (okB_get h1 hj).2) h2 h3 h4).out⟩⟩
    exact ⟨hq.1, hq.2.trans' (rd_sim' h1)⟩
  · cases hF

end Go.Proofs.YtfpebhlkikmgbaaGreatDoor

/- The frame of a law over bytes. No conditions. -/
namespace Go.Proofs.YtfpebhlkikmgbaaGreatDoor
open Go.ChangeShapes Go.WideShapes Go.ChangeAt Go.RowKit Go.Deep
set_option maxRecDepth 100000

theorem okB_row {m : Nat} {b : Nat → Int} (h : ∀ j, j < m → 0 ≤ b j ∧ b j ≤ 255) : okB m (rowB b) = true := List.all_eq_true.2 fun j hj => by
  have := h j (by simpa using hj)
  show inR (b j) 0 255 = true
  exact inR_iff.2 this
section
variable {H : Type} {enc : TypeId × Value → H} {W : World}
theorem byte_elem (n : Nat) (cs : List Value) (x : DataW H × List MemPlace) (_ : cs.length = 1) (h : DataW.trod enc Tryz.prog W 0 (fun _ => true) true n 5 cs = some x) :
    ∃ f : Nat → Int, (0 ≤ f 0 ∧ f 0 ≤ 255) ∧ cs = [.int .u8 (f 0)] := by
  obtain ⟨k, e, _, hw⟩ := DataW.trod_int Tryz.underlying5 h
  unfold Lit.wf at hw
  rw [Bool.and_eq_true, decide_eq_true_eq, decide_eq_true_eq] at hw
  exact ⟨fun _ => k, hw, e⟩
end

theorem contractB {f : FuncId} {fn : Func} {spec : ChangeSpec} (hf : Tryz.prog.funcs[f]? = some fn) (hp : fn.params = #[22]) (hr : fn.resultTypes = #[4]) (hvars : spec.vars = []) (hspec : ∀ (H : Type) (d : DataW H), spec.fn H [d] = { results := [.lit (.bool true)], args := [d] })
    (yes : ∀ (m : Nat) (b : Nat → Int), m ≤ 9223372036854775807 → okB m (rowB b) = true → ∃ Γ n Λ, GamOk Tryz.prog Γ ∧ (∀ cc, fn.body = some cc → LamOk Tryz.prog 1 Λ cc) ∧ GoodQ (execF Tryz.prog Γ Λ n fn [.sl 0 1 0 0 m none] [.row false m 1 (rowB b) 5] (packK 1)) SaysYes)
    (H : Type) (enc : TypeId × Value → H) (W : World) (base : Nat) (args : Array Value) (ds gs : List (DataW H)) (before : List MemPlace)
    (hval : ∀ (j : Nat) t v, fn.params[j]? = some t → args[j]? = some v → Value.okWide Tryz.prog W .any base t v)
    (hW : DataW.Whole enc Tryz.prog fn.params.toList spec.vars false W args.toList ds gs before) (htab : TabOk (fun k => W.heap.size ≤ k) W := by intro x hx; simp [tabG] at hx) :
    Calls Tryz.prog f args W fun e W' => ∃ v, e = .returned v ∧ spec.post enc Tryz.prog fn false true false false W args v W' := by
  have hW' := hW
  obtain ⟨p, q, hA0, hV, rfl, hfz, hnd⟩ := hW
  have hA : DataW.TrodAll enc Tryz.prog W 0 (fun _ => true) true fn.params.toList args.toList ds p := hA0
  rw [hp] at hA hval
  rw [hvars] at hV
  obtain ⟨v0, vs0, d0, ds0, p0, q0, hargs, rfl, rfl, h0, r0⟩ := trodAll_cons hA
  obtain ⟨rfl, rfl, rfl⟩ := trodAll_nil r0
  obtain rfl : args = #[v0] := by cases args; simp_all
  obtain ⟨rfl, rfl⟩ := trodVars_none hV
  clear hA0 hA r0
  obtain ⟨m, ν, g, hm, hok, hvr, hRH, hdom⟩ := arg_row (H := H) Tryz.underlying22 (s := 1) (by kernel_rfl) Nat.one_pos (hval 0 22 v0 rfl rfl) h0 (fun f => [.int .u8 (f 0)]) (fun f => 0 ≤ f 0 ∧ f 0 ≤ 255) (fun f => ⟨rfl, by simp [Value.oneCell']⟩) byte_elem 5 htab
  obtain ⟨Γ, n, Λ, hΓ, hΛ, hgood⟩ := yes m (fun j => g j 0) hm (okB_row hok)
  have hcall := yes_calls hΓ (n := n) (vals := [v0]) (w := W) hf (Λ := Λ) (H := [.row false m 1 (rowB fun j => g j 0) 5]) hΛ hgood (by simp only [VRs, and_true]; exact hvr) hRH hdom
  refine hcall.mono fun e W' ⟨he, hb⟩ => ?_
  subst he
  have hlt : ∀ x ∈ p0, x.block < W.heap.size := fun x hx => by simpa using hW'.lt x (by simpa using hx)
  refine ⟨_, rfl, post_below (pa := p0) (pv := []) hW' ?_ ?_ ?_ (by simp) hb ?_⟩
  · intro b sp hd
    rw [hr]
    simp only [List.append_nil, hspec]
    exact trodAll_cons_mk (shut_bool Tryz.underlying4 _) trodAll_mk0
  · intro sp hsp
    rw [hp]
    simp only [List.append_nil, hspec]
    refine trodAll_mk1 (WideElems.Trod_stays laidOut (by kernel_rfl) (of_decide_eq_true (by kernel_rfl)) h0 (fun x hx => hb.same (hlt x hx)) fun x hx => hsp x (by simpa using hx))
  · intro sp _
    rw [hvars]
    simp only [List.append_nil, hspec]
    rfl
  · exact ok_one hr rfl (okWide_bool_mk Tryz.underlying4 _)

end Go.Proofs.YtfpebhlkikmgbaaGreatDoor
