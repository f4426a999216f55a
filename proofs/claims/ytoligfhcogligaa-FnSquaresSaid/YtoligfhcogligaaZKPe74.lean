/- Squares are kept by shifts: FnSquares returns true, whatever the bytes are, and they read as before. No conditions. -/
import Derived.Test.YtoligfhcogligaaZS0
import Derived.Test.YtoligfhcogligaaZS1
import Derived.Test.YtoligfhcogligaaZS2
import Derived.Test.YtoligfhcogligaaZS3
import Derived.Test.YtoligfhcogligaaZS4
import Derived.Test.YtoligfhcogligaaZS5
import Derived.Test.YtoligfhcogligaaZKPe70
import Derived.Test.YtoligfhcogligaaZKPe71
import Derived.Test.YtoligfhcogligaaZKPe72
import Derived.Test.YtoligfhcogligaaZKPe73
/- SurdNorm, SurdAdd, RowSquares of both: they tell the same. Conditions: a list of points. -/
namespace Go.Proofs.Ytoligfhcogligaa
open Go.RowKit
set_option maxRecDepth 100000

theorem gmMs_ok : GamOk Try.prog (gmMs (fun v => cyOk (cyOf v)) mirF) := by
  have e : fMirO mirF = f_l2Mirror := by funext l; rfl
  unfold gmMs
  rw [fOkc_eq, e]
  exact ext_ok (ext_ok g0_ok ok_cv) ok_l2Mirror
theorem ok_cMs : SpecOk Try.prog 117 (specR [.val] (FcqO vMi okMi)) := by
  refine specR_hr gmMs_ok Try.func117 rfl fun sas fr hF ho => ?_
  unfold FcqO at hF
  split at hF
  · rename_i a0 a1 a2 a3 a4 a5 a6 a7
    cases hF
    refine ⟨[], noLam, 100, .nil, noLam' _, ?_⟩
    show GoodQ (execF Try.prog (gmMs (fun v => cyOk (cyOf v)) mirF) noLam 100 Try.f117 [.v (cyv (v8 a0 a1 a2 a3 a4 a5 a6 a7))] [] (packK 0)) _
    rw [treeMs]
    generalize hA : v8 a0 a1 a2 a3 a4 a5 a6 a7 = a
    have hw : w8 a = a := by subst hA; rfl
    rw [hw]
    have fin : ∀ (v : Nat → Int) (o : Bool), vMi a = v → okMi a = o → GoodQ (.out .ret [.tup [.agg (cyC v), .v (.bool o)]] []) (GivR (abP [.val] [.v (.agg ⟨[.int .i64 a0, .int .i64 a1, .int .i64 a2, .int .i64 a3, .int .i64 a4, .int .i64 a5, .int .i64 a6, .int .i64 a7]⟩)] []) { val := .tup [.agg (cyC (vMi a)), .v (.bool (okMi a))] }) := by
      rintro v o rfl rfl
      exact good_out ⟨_, rfl, rfl, .nil⟩
    refine good_cond (fun q => ?_) fun q => good_cond (fun q2 => ?_) fun q2 => ?_
    · have q' : (!cyOk (cyOf a)) = true := q
      have e : okMi a = false := by rw [okMi, show cyOk (cyOf a) = false by simpa using q']; rfl
      exact fin (fun _ => 0) false (by rw [vMi, e]; rfl) e
    · have q' : (!cyOk (cyOf (w8 (mirF a)))) = true := q2
      have e : okMi a = false := by
        rw [okMi, show cyOk (cyOf (mirF a)) = false by simpa using (show (!cyOk (cyOf (mirF a))) = true from q'), Bool.and_false]
      exact fin (fun _ => 0) false (by rw [vMi, e]; rfl) e
    · have q' : (!cyOk (cyOf a)) = false := q
      have q2' : (!cyOk (cyOf (mirF a))) = false := q2
      have e : okMi a = true := by rw [okMi, show cyOk (cyOf a) = true by simpa using q', show cyOk (cyOf (mirF a)) = true by simpa using q2']; rfl
      exact fin (mirF a) true (by rw [vMi, e]; rfl) e
  · cases hF
-- norms
def nmW (a : Nat → Int) : Nat → Int := w4 (reF (w8 (prF a (w8 (vMi a)))))
def nmK (a : Nat → Int) : Bool := bif okMi a then bif okM a (w8 (vMi a)) then svV (nmW a) else false else false
def nmV (a : Nat → Int) : Nat → Int := fun k => bif okMi a then bif okM a (w8 (vMi a)) then mdV (nmW a) k else 0 else 0
theorem fReQ_i : fRe reF = f_re := by funext vs; unfold fRe f_re; rfl
theorem fReQ_s : fRe reF = f_l3Re := by funext vs; unfold fRe f_l3Re; rfl
theorem gmNmI_ok : GamOk Try.prog (gmNmI vMi okMi prF okM reF mdV svV) := ext_ok (ext_ok (ext_ok (ext_ok g0_ok ok_cMi) ok_ctI) (fReQ_i ▸ ok_re)) ok_mdI
theorem gmNmS_ok : GamOk Try.prog (gmNmS vMi okMi prF okM reF mdV svV) := ext_ok (ext_ok (ext_ok (ext_ok g0_ok ok_cMs) ok_ctS) (fReQ_s ▸ ok_l3Re)) ok_mdS
theorem nm_good (a : Nat → Int) (sas : List SA) : GoodQ (bif !okMi a then Res.out .ret [.tup [.agg [.v (i64 0), .v (i64 0), .v (i64 0), .v (i64 0)], .v (.bool false)]] []
    else bif !okM a (w8 (vMi a)) then Res.out .ret [.tup [.agg [.v (i64 0), .v (i64 0), .v (i64 0), .v (i64 0)], .v (.bool false)]] []
    else Res.out .ret [.tup [.agg [.v (i64 (mdV (nmW a) 0)), .v (i64 (mdV (nmW a) 1)), .v (i64 (mdV (nmW a) 2)), .v (i64 (mdV (nmW a) 3))], .v (.bool (svV (nmW a)))]] []) (fun _ vs He => vs = [.tup [.agg (sA (nmV a)), .v (.bool (nmK a))]] ∧ He = []) := by
  unfold nmV nmK
  cases okMi a with
  | false => exact good_out ⟨rfl, rfl⟩
  | true =>
    cases okM a (w8 (vMi a)) with
    | false => exact good_out ⟨rfl, rfl⟩
    | true => exact good_out ⟨rfl, rfl⟩
theorem ok_nmI : SpecOk Try.prog 80 (specR [.val] (FnqO nmV nmK)) := by
  refine specR_hr gmNmI_ok Try.func80 rfl fun sas fr hF ho => ?_
  unfold FnqO at hF
  split at hF
  · rename_i a0 a1 a2 a3 a4 a5 a6 a7
    cases hF
    refine ⟨[], noLam, 100, .nil, noLam' _, ?_⟩
    show GoodQ (execF Try.prog (gmNmI vMi okMi prF okM reF mdV svV) noLam 100 Try.f80 [.v (cyv (v8 a0 a1 a2 a3 a4 a5 a6 a7))] [] (packK 0)) _
    rw [treeNmI]
    generalize hA : v8 a0 a1 a2 a3 a4 a5 a6 a7 = a
    have hw : w8 a = a := by subst hA; rfl
    rw [hw]
    exact ⟨res_mono (fun e vs He hq => ⟨_, rfl, hq.1, by rw [hq.2]; exact .nil⟩) (nm_good a []).out⟩
  · cases hF
theorem ok_nmS : SpecOk Try.prog 83 (specR [.val] (FnqO nmV nmK)) := by
  refine specR_hr gmNmS_ok Try.func83 rfl fun sas fr hF ho => ?_
  unfold FnqO at hF
  split at hF
  · rename_i a0 a1 a2 a3 a4 a5 a6 a7
    cases hF
    refine ⟨[], noLam, 100, .nil, noLam' _, ?_⟩
    show GoodQ (execF Try.prog (gmNmS vMi okMi prF okM reF mdV svV) noLam 100 Try.f83 [.v (cyv (v8 a0 a1 a2 a3 a4 a5 a6 a7))] [] (packK 0)) _
    rw [treeNmS]
    generalize hA : v8 a0 a1 a2 a3 a4 a5 a6 a7 = a
    have hw : w8 a = a := by subst hA; rfl
    rw [hw]
    exact ⟨res_mono (fun e vs He hq => ⟨_, rfl, hq.1, by rw [hq.2]; exact .nil⟩) (nm_good a []).out⟩
  · cases hF
-- sums
def plQ (p q : Nat → Int) : Nat → Int := fun k => W (p k + q k)
def suQ (p : Nat → Int) (n : Int) (q : Nat → Int) : Nat → Int := fun k => W (p k + W (n * q k))
def saK (s t : Nat → Int) : Bool := bif svV s then bif svV t then svV (w4 (plQ s t)) else false else false
def saV (s t : Nat → Int) : Nat → Int := fun k => bif svV s then bif svV t then mdV (w4 (plQ s t)) k else 0 else 0
theorem fPq_is : fPq plQ = f_splus := by funext l; unfold fPq f_splus; rfl
theorem fSuQ_is : fSuQ suQ = f_l3Sum := by funext l; unfold fSuQ f_l3Sum; rfl
theorem gmSaI_ok : GamOk Try.prog (gmSaI svV plQ mdV) := ext_ok (ext_ok (ext_ok g0_ok ok_svI) (fPq_is ▸ ok_splus)) ok_mdI
theorem gmSaS_ok : GamOk Try.prog (gmSaS svV suQ mdV) := ext_ok (ext_ok (ext_ok g0_ok ok_svS) (fSuQ_is ▸ ok_l3Sum)) ok_mdS
theorem sa_good (s t : Nat → Int) (u : Nat → Int) (hu : svV s = true → svV t = true → u = w4 (plQ s t)) : GoodQ (bif !svV s then Res.out .ret [.tup [.agg [.v (i64 0), .v (i64 0), .v (i64 0), .v (i64 0)], .v (.bool false)]] []
    else bif !svV t then Res.out .ret [.tup [.agg [.v (i64 0), .v (i64 0), .v (i64 0), .v (i64 0)], .v (.bool false)]] []
    else Res.out .ret [.tup [.agg [.v (i64 (mdV u 0)), .v (i64 (mdV u 1)), .v (i64 (mdV u 2)), .v (i64 (mdV u 3))], .v (.bool (svV u))]] []) (fun _ vs He => vs = [.tup [.agg (sA (saV s t)), .v (.bool (saK s t))]] ∧ He = []) := by
  unfold saV saK
  cases h1 : svV s with
  | false => exact good_out ⟨rfl, rfl⟩
  | true =>
    cases h2 : svV t with
    | false => exact good_out ⟨rfl, rfl⟩
    | true =>
      rw [hu h1 h2]
      exact good_out ⟨rfl, rfl⟩
theorem su_pl {s t : Nat → Int} (h : svV t = true) : w4 (suQ s 1 t) = w4 (plQ s t) := by
  have h := svV_iff.1 h
  have e : ∀ k, k < 4 → suQ s 1 t k = plQ s t k := fun k hk => by
    have := h k hk
    show W (s k + W (1 * t k)) = W (s k + t k)
    rw [Int.one_mul, w64_in (x := t k) (by omega) (by omega)]
  show v4 _ _ _ _ = v4 _ _ _ _
  rw [e 0 (by omega), e 1 (by omega), e 2 (by omega), e 3 (by omega)]
theorem ok_saI : SpecOk Try.prog 81 (specR [.val, .val] (FsqO saV saK)) := by
  refine specR_hr gmSaI_ok Try.func81 rfl fun sas fr hF ho => ?_
  unfold FsqO at hF
  split at hF
  · rename_i s0 s1 s2 s3 t0 t1 t2 t3
    cases hF
    refine ⟨[], noLam, 100, .nil, noLam' _, ?_⟩
    show GoodQ (execF Try.prog (gmSaI svV plQ mdV) noLam 100 Try.f81 [.v (sdv (v4 s0 s1 s2 s3)), .v (sdv (v4 t0 t1 t2 t3))] [] (packK 0)) _
    rw [treeSaI]
    generalize hs : v4 s0 s1 s2 s3 = s
    generalize ht : v4 t0 t1 t2 t3 = t
    have e1 : w4 s = s := by subst hs; rfl
    have e2 : w4 t = t := by subst ht; rfl
    rw [e1, e2]
    exact ⟨res_mono (fun e vs He hq => ⟨_, rfl, hq.1, by rw [hq.2]; exact .nil⟩) (sa_good s t _ fun _ _ => rfl).out⟩
  · cases hF
theorem ok_saS : SpecOk Try.prog 84 (specR [.val, .val] (FsqO saV saK)) := by
  refine specR_hr gmSaS_ok Try.func84 rfl fun sas fr hF ho => ?_
  unfold FsqO at hF
  split at hF
  · rename_i s0 s1 s2 s3 t0 t1 t2 t3
    cases hF
    refine ⟨[], noLam, 100, .nil, noLam' _, ?_⟩
    show GoodQ (execF Try.prog (gmSaS svV suQ mdV) noLam 100 Try.f84 [.v (sdv (v4 s0 s1 s2 s3)), .v (sdv (v4 t0 t1 t2 t3))] [] (packK 0)) _
    rw [treeSaS]
    generalize hs : v4 s0 s1 s2 s3 = s
    generalize ht : v4 t0 t1 t2 t3 = t
    have e1 : w4 s = s := by subst hs; rfl
    have e2 : w4 t = t := by subst ht; rfl
    rw [e1, e2]
    exact ⟨res_mono (fun e vs He hq => ⟨_, rfl, hq.1, by rw [hq.2]; exact .nil⟩) (sa_good s t _ fun _ h => su_pl h).out⟩
  · cases hF
-- sums of squares
def rqT (a : Nat → Nat → Int) (s : Nat → Int) (j : Nat) : Nat → Int := saV (w4 s) (w4 (nmV (w8 (a j))))
def rqS (a : Nat → Nat → Int) (i : Nat) : Nat → Int := (List.range i).foldl (rqT a) (fun _ => 0)
theorem rqS_succ (a : Nat → Nat → Int) (i : Nat) : rqS a (i + 1) = rqT a (rqS a i) i := by
  unfold rqS
  rw [List.range_succ, List.foldl_append]
  rfl
theorem rqS_0 (a : Nat → Nat → Int) : rqS a 0 = fun _ => 0 := by simp only [rqS, List.range_zero, List.foldl_nil]
def rqB (a : Nat → Nat → Int) (j : Nat) : Bool := !nmK (w8 (a j)) || !saK (w4 (rqS a j)) (w4 (nmV (w8 (a j))))
def rkV (a : Nat → Nat → Int) (m : Nat) : Bool := rvB a m && noneTo (rqB a) m
def rqV (a : Nat → Nat → Int) (m : Nat) : Nat → Int := fun k => bif rkV a m then rqS a m k else 0
def FrqO (rq : (Nat → Nat → Int) → Nat → Nat → Int) (rk : (Nat → Nat → Int) → Nat → Bool) : List SA → Option FR
  | [.row m g] => some { val := .tup [.agg (sA (rq (it8 g) m)), .v (.bool (rk (it8 g) m))], obl := [all8 m g, decide (m ≤ 2 ^ 38)] }
  | _ => none
theorem gmRqI_ok : GamOk Try.prog (gmRqI nmV nmK saV saK) := ext_ok (ext_ok g0_ok ok_nmI) ok_saI
theorem gmRqS_ok : GamOk Try.prog (gmRqS nmV nmK saV saK) := ext_ok (ext_ok g0_ok ok_nmS) ok_saS
theorem sumRqI (a : Nat → Nat → Int) (m : Nat) (t : TypeId) (hm : m ≤ 2 ^ 38) :
    SumOk Try.prog 1 (.block 0 (.loop (loopAt 0 fRqI))) (atS 42 (lvRqI .normal) 1 (stRqI m 0) (hpRq a m t fun _ => 0) (fun K => cond (noneTo (rqB a) m) (K .normal (mkT 0 42 [(2, .ptr 1 0 0 0), (4, .ptr 2 0 0 0)]) (hpRq a m t (rqS a m))) (K .ret (mkT 0 42 [(2, .ptr 1 0 0 0), (3, .v (.bool false))]) [.row false m 8 (row8 a) t, celS fun _ => 0]))) := by
  have h := for_at (m0 := 1) (N := 42) (id := 0) (c := loopAt 0 fRqI) (out := fun K => cond (noneTo (rqB a) m) (K .normal (mkT 0 42 [(2, .ptr 1 0 0 0), (4, .ptr 2 0 0 0)]) (hpRq a m t (rqS a m))) (K .ret (mkT 0 42 [(2, .ptr 1 0 0 0), (3, .v (.bool false))]) [.row false m 8 (row8 a) t, celS fun _ => 0])) gmRqI_ok (n := 100) (m := 1) (lv := lvRqI) (fun i => stRqI m i) (fun i => hpRq a m t (rqS a i)) (fun i => noneTo (rqB a) i = true) m (fun _ => noLam) (lv3_ris rfl rfl rfl) (Nat.le_refl _) rfl fun K Q hk i hi him => ⟨noLam_ok _ _ _, ?_⟩
  · rw [rqS_0] at h
    exact h
  rw [rndRqI]
  refine good_cond (fun c1 => ?_) fun c1 => ?_
  · have c1 := of_decide_eq_true c1
    have c1' : i < m := by omega
    simp only [Int.toNat_natCast, Nat.zero_add]
    rw [wr_in (x := (i : Int) + 1) (by omega)]
    have bad : rqB a i = true → GoodQ (.out .ret [.ptr 1 0 0 0, .v (.bool false)] [.row false m 8 (row8 a) t, celS fun _ => 0]) (RoundV 42 0 lvRqI (fun i => stRqI m i) (fun i => hpRq a m t (rqS a i)) (fun s' => s' = i + 1 ∧ i < m ∧ noneTo (rqB a) (i + 1) = true) K Q) := fun hb => by
      refine good_out ⟨_, Hsim.refl _, ?_⟩
      rw [noneTo_no c1' hb] at hk
      exact hk
    refine good_needs (by simp only [ob_cons, ob_nil, and_true, decide_eq_true_eq]; omega) (good_cond (fun q => bad ?_) fun q => good_cond (fun q2 => bad ?_) fun q2 => good_out ⟨i + 1, ⟨rfl, c1', noneTo_succ hi ?_⟩, rfl, ?_⟩)
    · unfold rqB
      rw [q, Bool.true_or]
    · unfold rqB
      rw [q2, Bool.or_true]
    · unfold rqB
      rw [q, q2]
      rfl
    · show Hsim (hpRq a m t (rqT a (rqS a i) i)) (hpRq a m t (rqS a (i + 1)))
      rw [rqS_succ]
      exact Hsim.refl _
  · have c1 := of_decide_eq_false c1
    have : i = m := by omega
    subst this
    refine good_out ⟨_, Hsim.refl _, ?_⟩
    rw [if_pos rfl]
    rw [hi] at hk
    exact hk
theorem sumRqS (a : Nat → Nat → Int) (m : Nat) (t : TypeId) (hm : m ≤ 2 ^ 38) :
    SumOk Try.prog 1 (.block 0 (.loop (loopAt 0 fRqS))) (atS 44 (lvRqS .normal) 1 (stRqS m 0) (hpRq a m t fun _ => 0) (fun K => cond (noneTo (rqB a) m) (K .normal (mkT 0 44 [(2, .ptr 1 0 0 0), (4, .ptr 2 0 0 0)]) (hpRq a m t (rqS a m))) (K .ret (mkT 0 44 [(2, .ptr 1 0 0 0), (3, .v (.bool false))]) [.row false m 8 (row8 a) t, celS fun _ => 0]))) := by
  have h := for_at (m0 := 1) (N := 44) (id := 0) (c := loopAt 0 fRqS) (out := fun K => cond (noneTo (rqB a) m) (K .normal (mkT 0 44 [(2, .ptr 1 0 0 0), (4, .ptr 2 0 0 0)]) (hpRq a m t (rqS a m))) (K .ret (mkT 0 44 [(2, .ptr 1 0 0 0), (3, .v (.bool false))]) [.row false m 8 (row8 a) t, celS fun _ => 0])) gmRqS_ok (n := 100) (m := 1) (lv := lvRqS) (fun i => stRqS m i) (fun i => hpRq a m t (rqS a i)) (fun i => noneTo (rqB a) i = true) m (fun _ => noLam) (lv3_ris rfl rfl rfl) (Nat.le_refl _) rfl fun K Q hk i hi him => ⟨noLam_ok _ _ _, ?_⟩
  · rw [rqS_0] at h
    exact h
  rw [rndRqS]
  refine good_cond (fun c1 => ?_) fun c1 => ?_
  · have c1 := of_decide_eq_true c1
    have c1' : i < m := by omega
    simp only [Int.toNat_natCast, Nat.zero_add]
    rw [wr_in (x := (i : Int) + 1) (by omega)]
    have bad : rqB a i = true → GoodQ (.out .ret [.ptr 1 0 0 0, .v (.bool false)] [.row false m 8 (row8 a) t, celS fun _ => 0]) (RoundV 44 0 lvRqS (fun i => stRqS m i) (fun i => hpRq a m t (rqS a i)) (fun s' => s' = i + 1 ∧ i < m ∧ noneTo (rqB a) (i + 1) = true) K Q) := fun hb => by
      refine good_out ⟨_, Hsim.refl _, ?_⟩
      rw [noneTo_no c1' hb] at hk
      exact hk
    refine good_needs (by simp only [ob_cons, ob_nil, and_true, decide_eq_true_eq]; omega) (good_cond (fun q => bad ?_) fun q => good_cond (fun q2 => bad ?_) fun q2 => good_out ⟨i + 1, ⟨rfl, c1', noneTo_succ hi ?_⟩, rfl, ?_⟩)
    · unfold rqB
      rw [q, Bool.true_or]
    · unfold rqB
      rw [q2, Bool.or_true]
    · unfold rqB
      rw [q, q2]
      rfl
    · show Hsim (hpRq a m t (rqT a (rqS a i) i)) (hpRq a m t (rqS a (i + 1)))
      rw [rqS_succ]
      exact Hsim.refl _
  · have c1 := of_decide_eq_false c1
    have : i = m := by omega
    subst this
    refine good_out ⟨_, Hsim.refl _, ?_⟩
    rw [if_pos rfl]
    rw [hi] at hk
    exact hk
theorem gmRvQ_ok : GamOk Try.prog (gmRvQ rvB) := ext_ok (ext_ok g0_ok ok_rvI) ok_rvS
theorem rq_good (a : Nat → Nat → Int) (m : Nat) (H : List AB) (ob : List Bool) (ho : obls ob = true) : GoodQ (bif !rvB a m then Res.out .ret [.tup [.agg [.v (i64 0), .v (i64 0), .v (i64 0), .v (i64 0)], .v (.bool false)]] H
    else needs ob (bif noneTo (rqB a) m then Res.out .ret [.tup [.agg [.v (i64 (rqS a m 0)), .v (i64 (rqS a m 1)), .v (i64 (rqS a m 2)), .v (i64 (rqS a m 3))], .v (.bool true)]] H
    else Res.out .ret [.tup [.agg [.v (i64 0), .v (i64 0), .v (i64 0), .v (i64 0)], .v (.bool false)]] H)) (fun _ vs He => vs = [.tup [.agg (sA (rqV a m)), .v (.bool (rkV a m))]] ∧ He = H) := by
  unfold rqV rkV
  cases rvB a m with
  | false => exact good_out ⟨rfl, rfl⟩
  | true =>
    refine good_needs ho ?_
    cases noneTo (rqB a) m with
    | false => exact good_out ⟨rfl, rfl⟩
    | true => exact good_out ⟨rfl, rfl⟩
theorem ok_rqI : SpecOk Try.prog 34 (specR md_c8 (FrqO rqV rkV)) := by
  refine specR_hr gmRvQ_ok Try.func34 rfl fun sas fr hF ho => ?_
  unfold FrqO at hF
  split at hF
  · rename_i m g
    cases hF
    simp only [ob_cons] at ho
    obtain ⟨h1, h2, _⟩ := ho
    refine ⟨[.row false m 8 (row8 (it8 g)) 40], lamRqI (it8 g) m 40 (noneTo (rqB (it8 g)) m) (rqS (it8 g) m), 100, .cons (ABeq.row fun j hj => all8_get h1 j hj) .nil, lam1 (by kernel_rfl) (sumRqI (it8 g) m 40 (of_decide_eq_true h2)), ?_⟩
    show GoodQ (execF Try.prog (gmRvQ rvB) (lamRqI (it8 g) m 40 (noneTo (rqB (it8 g)) m) (rqS (it8 g) m)) 100 fRqI [.sl 0 8 0 0 m none] [.row false m 8 (row8 (it8 g)) 40] (packK 1)) _
    rw [treeRqI]
    simp only [Nat.zero_add]
    refine good_needs (by simp only [ob_cons, ob_nil, and_true]; exact ⟨by simp, all8_row _ _, h2⟩) ⟨res_mono (fun e vs He hq => ⟨_, rfl, hq.1, by rw [hq.2]; exact .cons (ABeq.row fun j hj => (all8_get h1 j hj).symm) .nil⟩) (rq_good (it8 g) m _ _ ?_).out⟩
    rw [ob_cons]
    exact ⟨chk_of ⟨rfl, Hsim.refl _⟩, rfl⟩
  · cases hF
theorem ok_rqS : SpecOk Try.prog 35 (specR md_c8 (FrqO rqV rkV)) := by
  refine specR_hr gmRvQ_ok Try.func35 rfl fun sas fr hF ho => ?_
  unfold FrqO at hF
  split at hF
  · rename_i m g
    cases hF
    simp only [ob_cons] at ho
    obtain ⟨h1, h2, _⟩ := ho
    refine ⟨[.row false m 8 (row8 (it8 g)) 40], lamRqS (it8 g) m 40 (noneTo (rqB (it8 g)) m) (rqS (it8 g) m), 100, .cons (ABeq.row fun j hj => all8_get h1 j hj) .nil, lam1 (by kernel_rfl) (sumRqS (it8 g) m 40 (of_decide_eq_true h2)), ?_⟩
    show GoodQ (execF Try.prog (gmRvQ rvB) (lamRqS (it8 g) m 40 (noneTo (rqB (it8 g)) m) (rqS (it8 g) m)) 100 fRqS [.sl 0 8 0 0 m none] [.row false m 8 (row8 (it8 g)) 40] (packK 1)) _
    rw [treeRqS]
    simp only [Nat.zero_add]
    refine good_needs (by simp only [ob_cons, ob_nil, and_true]; exact ⟨by simp, all8_row _ _, h2⟩) ⟨res_mono (fun e vs He hq => ⟨_, rfl, hq.1, by rw [hq.2]; exact .cons (ABeq.row fun j hj => (all8_get h1 j hj).symm) .nil⟩) (rq_good (it8 g) m _ _ ?_).out⟩
    rw [ob_cons]
    exact ⟨chk_of ⟨rfl, Hsim.refl _⟩, rfl⟩
  · cases hF

end Go.Proofs.Ytoligfhcogligaa

/- FnSquares: its trees. Conditions: bytes. -/
namespace Go.Proofs.Ytoligfhcogligaa
open Go.RowKit
set_option maxRecDepth 100000

noncomputable abbrev fSqL : Func := Try.f9
def gmSl (nn : Nat → (Nat → Int) → Nat) (gg : Nat → (Nat → Int) → Nat → Nat → Int) (rq : (Nat → Nat → Int) → Nat → Nat → Int) (rk : (Nat → Nat → Int) → Nat → Bool) (rv : (Nat → Nat → Int) → Nat → Bool) (rh : (Nat → Nat → Int) → Nat → Int → Nat → Nat → Int) (ss : (Nat → Int) → Int) (sv : (Nat → Int) → Bool) : Gam :=
  ext (ext (ext (ext (ext g0 33 (specR md_co (FdrO fun m b => frC (nn m b) (gg m b)))) 34 (specR md_c8 (FrqO rq rk))) 35 (specR md_c8 (FrqO rq rk))) 36 (specR [.val] (FssO ss sv))) 37 (specR md_cv (FrhY rv rh))
theorem lawSl (nn : Nat → (Nat → Int) → Nat) (gg : Nat → (Nat → Int) → Nat → Nat → Int) (rq : (Nat → Nat → Int) → Nat → Nat → Int) (rk : (Nat → Nat → Int) → Nat → Bool) (rv : (Nat → Nat → Int) → Nat → Bool) (rh : (Nat → Nat → Int) → Nat → Int → Nat → Nat → Int) (ss : (Nat → Int) → Int) (sv : (Nat → Int) → Bool) (m : Nat) (b : Nat → Int) : execF Try.prog (gmSl nn gg rq rk rv rh ss sv) noLam 100 fSqL [.sl 0 1 0 0 m none] [.row false m 1 (rowB b) 5] (packK 1)
    = bif decide ((↑m : Int) > (1048576 : Int)) then Res.out Ex.ret [AV.v (Value.bool true)] [AB.row false m (1 : Nat) (rowB b) (5 : TypeId)] else needs [Nat.ble ((0 : Nat) + m) m, okB m fun q ↦ rowB b ((0 : Nat) + q), decide (m ≤ (2097152 : Nat)), Nat.ble (nn m (itB fun q ↦ rowB b ((0 : Nat) + q))) (nn m (itB fun q ↦ rowB b ((0 : Nat) + q))), all8 (nn m (itB fun q ↦ rowB b ((0 : Nat) + q))) (row8 (gg m (itB fun q ↦ rowB b ((0 : Nat) + q)))), decide (nn m (itB fun q ↦ rowB b ((0 : Nat) + q)) ≤ (274877906944 : Nat)), Nat.ble (nn m (itB fun q ↦ rowB b ((0 : Nat) + q))) (nn m (itB fun q ↦ rowB b ((0 : Nat) + q))), all8 (nn m (itB fun q ↦ rowB b ((0 : Nat) + q))) (row8 (gg m (itB fun q ↦ rowB b ((0 : Nat) + q)))), decide (nn m (itB fun q ↦ rowB b ((0 : Nat) + q)) ≤ (274877906944 : Nat))] (bif !rk (it8 (row8 (gg m (itB fun q ↦ rowB b ((0 : Nat) + q))))) (nn m (itB fun q ↦ rowB b ((0 : Nat) + q))) == rk (it8 (row8 (gg m (itB fun q ↦ rowB b ((0 : Nat) + q))))) (nn m (itB fun q ↦ rowB b ((0 : Nat) + q))) then bif rk (it8 (row8 (gg m (itB fun q ↦ rowB b ((0 : Nat) + q))))) (nn m (itB fun q ↦ rowB b ((0 : Nat) + q))) == rk (it8 (row8 (gg m (itB fun q ↦ rowB b ((0 : Nat) + q))))) (nn m (itB fun q ↦ rowB b ((0 : Nat) + q))) then Res.out Ex.ret [AV.v (Value.bool (rq (it8 (row8 (gg m (itB fun q ↦ rowB b ((0 : Nat) + q))))) (nn m (itB fun q ↦ rowB b ((0 : Nat) + q))) (0 : Nat) == rq (it8 (row8 (gg m (itB fun q ↦ rowB b ((0 : Nat) + q))))) (nn m (itB fun q ↦ rowB b ((0 : Nat) + q))) (0 : Nat) && (rq (it8 (row8 (gg m (itB fun q ↦ rowB b ((0 : Nat) + q))))) (nn m (itB fun q ↦ rowB b ((0 : Nat) + q))) (1 : Nat) == rq (it8 (row8 (gg m (itB fun q ↦ rowB b ((0 : Nat) + q))))) (nn m (itB fun q ↦ rowB b ((0 : Nat) + q))) (1 : Nat) && (rq (it8 (row8 (gg m (itB fun q ↦ rowB b ((0 : Nat) + q))))) (nn m (itB fun q ↦ rowB b ((0 : Nat) + q))) (2 : Nat) == rq (it8 (row8 (gg m (itB fun q ↦ rowB b ((0 : Nat) + q))))) (nn m (itB fun q ↦ rowB b ((0 : Nat) + q))) (2 : Nat) && (rq (it8 (row8 (gg m (itB fun q ↦ rowB b ((0 : Nat) + q))))) (nn m (itB fun q ↦ rowB b ((0 : Nat) + q))) (3 : Nat) == rq (it8 (row8 (gg m (itB fun q ↦ rowB b ((0 : Nat) + q))))) (nn m (itB fun q ↦ rowB b ((0 : Nat) + q))) (3 : Nat) && true)))))] [AB.row false m (1 : Nat) (rowB b) (5 : TypeId)] else Res.out Ex.ret [AV.v (Value.bool false)] [AB.row false m (1 : Nat) (rowB b) (5 : TypeId)] else bif !(rq (it8 (row8 (gg m (itB fun q ↦ rowB b ((0 : Nat) + q))))) (nn m (itB fun q ↦ rowB b ((0 : Nat) + q))) (0 : Nat) == rq (it8 (row8 (gg m (itB fun q ↦ rowB b ((0 : Nat) + q))))) (nn m (itB fun q ↦ rowB b ((0 : Nat) + q))) (0 : Nat) && (rq (it8 (row8 (gg m (itB fun q ↦ rowB b ((0 : Nat) + q))))) (nn m (itB fun q ↦ rowB b ((0 : Nat) + q))) (1 : Nat) == rq (it8 (row8 (gg m (itB fun q ↦ rowB b ((0 : Nat) + q))))) (nn m (itB fun q ↦ rowB b ((0 : Nat) + q))) (1 : Nat) && (rq (it8 (row8 (gg m (itB fun q ↦ rowB b ((0 : Nat) + q))))) (nn m (itB fun q ↦ rowB b ((0 : Nat) + q))) (2 : Nat) == rq (it8 (row8 (gg m (itB fun q ↦ rowB b ((0 : Nat) + q))))) (nn m (itB fun q ↦ rowB b ((0 : Nat) + q))) (2 : Nat) && (rq (it8 (row8 (gg m (itB fun q ↦ rowB b ((0 : Nat) + q))))) (nn m (itB fun q ↦ rowB b ((0 : Nat) + q))) (3 : Nat) == rq (it8 (row8 (gg m (itB fun q ↦ rowB b ((0 : Nat) + q))))) (nn m (itB fun q ↦ rowB b ((0 : Nat) + q))) (3 : Nat) && true)))) then bif rk (it8 (row8 (gg m (itB fun q ↦ rowB b ((0 : Nat) + q))))) (nn m (itB fun q ↦ rowB b ((0 : Nat) + q))) == rk (it8 (row8 (gg m (itB fun q ↦ rowB b ((0 : Nat) + q))))) (nn m (itB fun q ↦ rowB b ((0 : Nat) + q))) then Res.out Ex.ret [AV.v (Value.bool (rq (it8 (row8 (gg m (itB fun q ↦ rowB b ((0 : Nat) + q))))) (nn m (itB fun q ↦ rowB b ((0 : Nat) + q))) (0 : Nat) == rq (it8 (row8 (gg m (itB fun q ↦ rowB b ((0 : Nat) + q))))) (nn m (itB fun q ↦ rowB b ((0 : Nat) + q))) (0 : Nat) && (rq (it8 (row8 (gg m (itB fun q ↦ rowB b ((0 : Nat) + q))))) (nn m (itB fun q ↦ rowB b ((0 : Nat) + q))) (1 : Nat) == rq (it8 (row8 (gg m (itB fun q ↦ rowB b ((0 : Nat) + q))))) (nn m (itB fun q ↦ rowB b ((0 : Nat) + q))) (1 : Nat) && (rq (it8 (row8 (gg m (itB fun q ↦ rowB b ((0 : Nat) + q))))) (nn m (itB fun q ↦ rowB b ((0 : Nat) + q))) (2 : Nat) == rq (it8 (row8 (gg m (itB fun q ↦ rowB b ((0 : Nat) + q))))) (nn m (itB fun q ↦ rowB b ((0 : Nat) + q))) (2 : Nat) && (rq (it8 (row8 (gg m (itB fun q ↦ rowB b ((0 : Nat) + q))))) (nn m (itB fun q ↦ rowB b ((0 : Nat) + q))) (3 : Nat) == rq (it8 (row8 (gg m (itB fun q ↦ rowB b ((0 : Nat) + q))))) (nn m (itB fun q ↦ rowB b ((0 : Nat) + q))) (3 : Nat) && true)))))] [AB.row false m (1 : Nat) (rowB b) (5 : TypeId)] else Res.out Ex.ret [AV.v (Value.bool false)] [AB.row false m (1 : Nat) (rowB b) (5 : TypeId)] else bif !rk (it8 (row8 (gg m (itB fun q ↦ rowB b ((0 : Nat) + q))))) (nn m (itB fun q ↦ rowB b ((0 : Nat) + q))) then bif rk (it8 (row8 (gg m (itB fun q ↦ rowB b ((0 : Nat) + q))))) (nn m (itB fun q ↦ rowB b ((0 : Nat) + q))) == rk (it8 (row8 (gg m (itB fun q ↦ rowB b ((0 : Nat) + q))))) (nn m (itB fun q ↦ rowB b ((0 : Nat) + q))) then Res.out Ex.ret [AV.v (Value.bool (rq (it8 (row8 (gg m (itB fun q ↦ rowB b ((0 : Nat) + q))))) (nn m (itB fun q ↦ rowB b ((0 : Nat) + q))) (0 : Nat) == rq (it8 (row8 (gg m (itB fun q ↦ rowB b ((0 : Nat) + q))))) (nn m (itB fun q ↦ rowB b ((0 : Nat) + q))) (0 : Nat) && (rq (it8 (row8 (gg m (itB fun q ↦ rowB b ((0 : Nat) + q))))) (nn m (itB fun q ↦ rowB b ((0 : Nat) + q))) (1 : Nat) == rq (it8 (row8 (gg m (itB fun q ↦ rowB b ((0 : Nat) + q))))) (nn m (itB fun q ↦ rowB b ((0 : Nat) + q))) (1 : Nat) && (rq (it8 (row8 (gg m (itB fun q ↦ rowB b ((0 : Nat) + q))))) (nn m (itB fun q ↦ rowB b ((0 : Nat) + q))) (2 : Nat) == rq (it8 (row8 (gg m (itB fun q ↦ rowB b ((0 : Nat) + q))))) (nn m (itB fun q ↦ rowB b ((0 : Nat) + q))) (2 : Nat) && (rq (it8 (row8 (gg m (itB fun q ↦ rowB b ((0 : Nat) + q))))) (nn m (itB fun q ↦ rowB b ((0 : Nat) + q))) (3 : Nat) == rq (it8 (row8 (gg m (itB fun q ↦ rowB b ((0 : Nat) + q))))) (nn m (itB fun q ↦ rowB b ((0 : Nat) + q))) (3 : Nat) && true)))))] [AB.row false m (1 : Nat) (rowB b) (5 : TypeId)] else Res.out Ex.ret [AV.v (Value.bool false)] [AB.row false m (1 : Nat) (rowB b) (5 : TypeId)] else needs [Nat.ble (nn m (itB fun q ↦ rowB b ((0 : Nat) + q))) (nn m (itB fun q ↦ rowB b ((0 : Nat) + q))), all8 (nn m (itB fun q ↦ rowB b ((0 : Nat) + q))) (row8 (gg m (itB fun q ↦ rowB b ((0 : Nat) + q)))), rv (it8 (row8 (gg m (itB fun q ↦ rowB b ((0 : Nat) + q))))) (nn m (itB fun q ↦ rowB b ((0 : Nat) + q))), Nat.ble (nn m (itB fun q ↦ rowB b ((0 : Nat) + q))) (nn m (itB fun q ↦ rowB b ((0 : Nat) + q))), all8 (nn m (itB fun q ↦ rowB b ((0 : Nat) + q))) (row8 (rh (it8 (row8 (gg m (itB fun q ↦ rowB b ((0 : Nat) + q))))) (nn m (itB fun q ↦ rowB b ((0 : Nat) + q))) (1 : Int))), decide (nn m (itB fun q ↦ rowB b ((0 : Nat) + q)) ≤ (274877906944 : Nat))] (bif sv (w4 (rq (it8 (row8 (gg m (itB fun q ↦ rowB b ((0 : Nat) + q))))) (nn m (itB fun q ↦ rowB b ((0 : Nat) + q))))) then bif decide (ss (w4 (rq (it8 (row8 (gg m (itB fun q ↦ rowB b ((0 : Nat) + q))))) (nn m (itB fun q ↦ rowB b ((0 : Nat) + q))))) ≥ (0 : Int)) then bif !rk (it8 (row8 (rh (it8 (row8 (gg m (itB fun q ↦ rowB b ((0 : Nat) + q))))) (nn m (itB fun q ↦ rowB b ((0 : Nat) + q))) (1 : Int)))) (nn m (itB fun q ↦ rowB b ((0 : Nat) + q))) then Res.out Ex.ret [AV.v (Value.bool true)] [AB.row false m (1 : Nat) (rowB b) (5 : TypeId)] else Res.out Ex.ret [AV.v (Value.bool (rq (it8 (row8 (rh (it8 (row8 (gg m (itB fun q ↦ rowB b ((0 : Nat) + q))))) (nn m (itB fun q ↦ rowB b ((0 : Nat) + q))) (1 : Int)))) (nn m (itB fun q ↦ rowB b ((0 : Nat) + q))) (0 : Nat) == rq (it8 (row8 (gg m (itB fun q ↦ rowB b ((0 : Nat) + q))))) (nn m (itB fun q ↦ rowB b ((0 : Nat) + q))) (0 : Nat) && (rq (it8 (row8 (rh (it8 (row8 (gg m (itB fun q ↦ rowB b ((0 : Nat) + q))))) (nn m (itB fun q ↦ rowB b ((0 : Nat) + q))) (1 : Int)))) (nn m (itB fun q ↦ rowB b ((0 : Nat) + q))) (1 : Nat) == rq (it8 (row8 (gg m (itB fun q ↦ rowB b ((0 : Nat) + q))))) (nn m (itB fun q ↦ rowB b ((0 : Nat) + q))) (1 : Nat) && (rq (it8 (row8 (rh (it8 (row8 (gg m (itB fun q ↦ rowB b ((0 : Nat) + q))))) (nn m (itB fun q ↦ rowB b ((0 : Nat) + q))) (1 : Int)))) (nn m (itB fun q ↦ rowB b ((0 : Nat) + q))) (2 : Nat) == rq (it8 (row8 (gg m (itB fun q ↦ rowB b ((0 : Nat) + q))))) (nn m (itB fun q ↦ rowB b ((0 : Nat) + q))) (2 : Nat) && (rq (it8 (row8 (rh (it8 (row8 (gg m (itB fun q ↦ rowB b ((0 : Nat) + q))))) (nn m (itB fun q ↦ rowB b ((0 : Nat) + q))) (1 : Int)))) (nn m (itB fun q ↦ rowB b ((0 : Nat) + q))) (3 : Nat) == rq (it8 (row8 (gg m (itB fun q ↦ rowB b ((0 : Nat) + q))))) (nn m (itB fun q ↦ rowB b ((0 : Nat) + q))) (3 : Nat) && true)))))] [AB.row false m (1 : Nat) (rowB b) (5 : TypeId)] else Res.out Ex.ret [AV.v (Value.bool false)] [AB.row false m (1 : Nat) (rowB b) (5 : TypeId)] else Res.out Ex.ret [AV.v (Value.bool false)] [AB.row false m (1 : Nat) (rowB b) (5 : TypeId)])) := by kernel_rfl

end Go.Proofs.Ytoligfhcogligaa

/- Plain algebra: surds are ordered, by their values to so many binary places. No program, no conditions. -/
namespace Go.Proofs.Ytoligfhcogligaa
open Go.RowKit

theorem root_ex : ∀ n : Nat, ∃ A : Nat, A * A ≤ n ∧ n < (A + 1) * (A + 1)
  | 0 => ⟨0, by decide, by decide⟩
  | n + 1 => by
    obtain ⟨A, h1, h2⟩ := root_ex n
    by_cases h : n + 1 < (A + 1) * (A + 1)
    · exact ⟨A, by omega, h⟩
    · refine ⟨A + 1, by omega, ?_⟩
      have e : (A + 1 + 1) * (A + 1 + 1) = (A + 1) * (A + 1) + 2 * (A + 1) + 1 := by grind
      omega
noncomputable def flr (n : Nat) : Nat := (root_ex n).choose
theorem flr_spec (n : Nat) : flr n * flr n ≤ n ∧ n < (flr n + 1) * (flr n + 1) := (root_ex n).choose_spec
/-- So many binary places. -/
def pB (N : Nat) : Int := 2 ^ N
theorem pB_pos (N : Nat) : 0 < pB N := Int.pow_pos (by decide)
/-- The root of d, cut at so many places. -/
noncomputable def rB (d : Nat) (N : Nat) : Int := flr (d * (2 ^ N * 2 ^ N))
theorem rB_spec (d N : Nat) : 0 ≤ rB d N ∧ rB d N * rB d N ≤ d * (pB N * pB N) ∧ d * (pB N * pB N) < (rB d N + 1) * (rB d N + 1) := by
  have h := flr_spec (d * (2 ^ N * 2 ^ N))
  have e : ((d * (2 ^ N * 2 ^ N) : Nat) : Int) = (d : Int) * (pB N * pB N) := by
    unfold pB
    push_cast
    rfl
  refine ⟨Int.natCast_nonneg _, ?_, ?_⟩
  · rw [← e]
    unfold rB
    exact_mod_cast h.1
  · rw [← e]
    unfold rB
    exact_mod_cast h.2
theorem lt_of_sq {u v w : Int} (hv : 0 ≤ v) (h1 : u * u ≤ w) (h2 : w < v * v) : u < v := by
  rcases Int.lt_or_le u v with h | h
  · exact h
  · exfalso
    have := Int.mul_le_mul h h hv (by omega)
    omega
theorem rB_le {d N : Nat} (hd : d ≤ 8) : rB d N < 3 * pB N := by
  obtain ⟨_, h1, _⟩ := rB_spec d N
  have hp := pB_pos N
  have hpp := Int.mul_pos hp hp
  refine lt_of_sq (by omega) h1 ?_
  rw [show 3 * pB N * (3 * pB N) = 9 * (pB N * pB N) by grind]
  have : (d : Int) * (pB N * pB N) ≤ 8 * (pB N * pB N) := Int.mul_le_mul_of_nonneg_right (by omega) (by omega)
  omega

/-- At most so much, and at most so many times the places. -/
def O1 (f : Nat → Int) : Prop := ∃ K : Int, 0 ≤ K ∧ ∀ N, -K ≤ f N ∧ f N ≤ K
def OP (f : Nat → Int) : Prop := ∃ K : Int, 0 ≤ K ∧ ∀ N, -(K * pB N) ≤ f N ∧ f N ≤ K * pB N
theorem OP.add {f g : Nat → Int} (hf : OP f) (hg : OP g) : OP fun N => f N + g N := by
  obtain ⟨K, k0, h⟩ := hf
  obtain ⟨L, l0, h'⟩ := hg
  refine ⟨K + L, by omega, fun N => ?_⟩
  have := h N
  have := h' N
  rw [Int.add_mul]
  show -(K * pB N + L * pB N) ≤ f N + g N ∧ f N + g N ≤ K * pB N + L * pB N
  omega
theorem OP.smul {f : Nat → Int} (c : Int) (hf : OP f) : OP fun N => c * f N := by
  obtain ⟨K, k0, h⟩ := hf
  refine ⟨(c.natAbs : Int) * K, Int.mul_nonneg (by omega) k0, fun N => ?_⟩
  have hN := h N
  have hc : -(c.natAbs : Int) ≤ c ∧ c ≤ (c.natAbs : Int) := by omega
  have hp := Int.mul_nonneg k0 (Int.le_of_lt (pB_pos N))
  rw [Int.mul_assoc]
  generalize K * pB N = B at hN hp
  generalize (c.natAbs : Int) = A at hc
  have := Int.mul_nonneg (show 0 ≤ A - c by omega) (show 0 ≤ B + f N by omega)
  have := Int.mul_nonneg (show 0 ≤ A + c by omega) (show 0 ≤ B - f N by omega)
  have := Int.mul_nonneg (show 0 ≤ A - c by omega) (show 0 ≤ B - f N by omega)
  have := Int.mul_nonneg (show 0 ≤ A + c by omega) (show 0 ≤ B + f N by omega)
  show -(A * B) ≤ c * f N ∧ c * f N ≤ A * B
  grind
theorem OP.of {f : Nat → Int} (K : Int) (k0 : 0 ≤ K) (h : ∀ N, -(K * pB N) ≤ f N ∧ f N ≤ K * pB N) : OP f := ⟨K, k0, h⟩
theorem OP.congr {f g : Nat → Int} (hf : OP f) (h : ∀ N, f N = g N) : OP g := by
  obtain ⟨K, k0, hK⟩ := hf
  exact ⟨K, k0, fun N => by rw [← h N]; exact hK N⟩
theorem OP.mulO1 {f g : Nat → Int} (hf : O1 f) (hg : OP g) : OP fun N => f N * g N := by
  obtain ⟨K, k0, h⟩ := hf
  obtain ⟨L, l0, h'⟩ := hg
  refine ⟨K * L, Int.mul_nonneg k0 l0, fun N => ?_⟩
  have h1 := h N
  have h2 := h' N
  rw [Int.mul_assoc]
  generalize L * pB N = B at h2
  have := Int.mul_nonneg (show 0 ≤ K - f N by omega) (show 0 ≤ B + g N by omega)
  have := Int.mul_nonneg (show 0 ≤ K + f N by omega) (show 0 ≤ B - g N by omega)
  have := Int.mul_nonneg (show 0 ≤ K - f N by omega) (show 0 ≤ B - g N by omega)
  have := Int.mul_nonneg (show 0 ≤ K + f N by omega) (show 0 ≤ B + g N by omega)
  show -(K * B) ≤ f N * g N ∧ f N * g N ≤ K * B
  grind
theorem OP.down {f : Nat → Int} (h : OP fun N => pB N * f N) : O1 f := by
  obtain ⟨K, k0, h⟩ := h
  refine ⟨K, k0, fun N => ?_⟩
  have hN : -(K * pB N) ≤ pB N * f N ∧ pB N * f N ≤ K * pB N := h N
  have hp := pB_pos N
  constructor
  · refine Int.le_of_mul_le_mul_left (a := pB N) ?_ hp
    rw [show pB N * -K = -(K * pB N) by grind]
    exact hN.1
  · refine Int.le_of_mul_le_mul_left (a := pB N) ?_ hp
    rw [show pB N * K = K * pB N by grind]
    exact hN.2
/-- The product of two roots is a root, nearly. -/
theorem rr_near {d e g c : Nat} (hd : d ≤ 8) (he : e ≤ 8) (hc : c ≤ 6) (h : d * e = c * c * g) : OP fun N => rB d N * rB e N - c * rB g N * pB N := by
  refine ⟨7, by omega, fun N => ?_⟩
  show -(7 * pB N) ≤ rB d N * rB e N - c * rB g N * pB N ∧ rB d N * rB e N - c * rB g N * pB N ≤ 7 * pB N
  obtain ⟨d0, d1, d2⟩ := rB_spec d N
  obtain ⟨e0, e1, e2⟩ := rB_spec e N
  obtain ⟨g0, g1, g2⟩ := rB_spec g N
  have dl := rB_le (N := N) hd
  have el := rB_le (N := N) he
  have hp := pB_pos N
  have hpp := Int.mul_pos hp hp
  have hw : (d : Int) * (pB N * pB N) * (e * (pB N * pB N)) = (c : Int) * c * (g * (pB N * pB N)) * (pB N * pB N) := by
    have : (d : Int) * e = c * c * g := by exact_mod_cast h
    grind
  generalize rB d N = x at *
  generalize rB e N = y at *
  generalize rB g N = z at *
  generalize pB N = p at *
  have hc0 : (0 : Int) ≤ c := Int.natCast_nonneg c
  have hc3 : (c : Int) ≤ 6 := by omega
  generalize (c : Int) = q at *
  have hz1 : 0 ≤ q * z * p := Int.mul_nonneg (Int.mul_nonneg hc0 g0) (by omega)
  have dn : (0 : Int) ≤ d := Int.natCast_nonneg d
  have en : (0 : Int) ≤ e := Int.natCast_nonneg e
  have gn : (0 : Int) ≤ g := Int.natCast_nonneg g
  constructor
  · -- from below
    have k1 : q * z * p * (q * z * p) ≤ (d : Int) * (p * p) * (e * (p * p)) := by
      rw [hw, show q * z * p * (q * z * p) = q * q * (z * z) * (p * p) by grind]
      exact Int.mul_le_mul_of_nonneg_right (Int.mul_le_mul_of_nonneg_left g1 (Int.mul_nonneg hc0 hc0)) (by omega)
    have k2 : (d : Int) * (p * p) * (e * (p * p)) < (x + 1) * (y + 1) * ((x + 1) * (y + 1)) := by
      rw [show (x + 1) * (y + 1) * ((x + 1) * (y + 1)) = (x + 1) * (x + 1) * ((y + 1) * (y + 1)) by grind]
      have a1 := Int.mul_nonneg dn (show 0 ≤ p * p by omega)
      have a2 := Int.mul_nonneg en (show 0 ≤ p * p by omega)
      exact Int.lt_of_le_of_lt (Int.mul_le_mul_of_nonneg_left (Int.le_of_lt e2) a1) (Int.mul_lt_mul_of_pos_right d2 (by omega))
    have := lt_of_sq (Int.mul_nonneg (by omega) (by omega)) k1 k2
    have e : (x + 1) * (y + 1) = x * y + x + y + 1 := by grind
    omega
  · -- from above
    have k1 : x * y * (x * y) ≤ (d : Int) * (p * p) * (e * (p * p)) := by
      rw [show x * y * (x * y) = x * x * (y * y) by grind]
      exact Int.mul_le_mul d1 e1 (Int.mul_nonneg e0 e0) (Int.mul_nonneg dn (by omega))
    by_cases hq : q = 0
    · subst hq
      have : x * y * (x * y) ≤ 0 := by
        rw [hw] at k1
        simpa using k1
      have h2 := sq_neg (x * y)
      have h3 := sq_zero (show x * y * (x * y) = 0 by omega)
      have e : (0 : Int) * z * p = 0 := by simp
      omega
    · have k2 : (d : Int) * (p * p) * (e * (p * p)) < q * (z + 1) * p * (q * (z + 1) * p) := by
        rw [hw, show q * (z + 1) * p * (q * (z + 1) * p) = q * q * ((z + 1) * (z + 1)) * (p * p) by grind]
        exact Int.mul_lt_mul_of_pos_right (Int.mul_lt_mul_of_pos_left g2 (Int.mul_pos (by omega) (by omega))) hpp
      have := lt_of_sq (Int.mul_nonneg (Int.mul_nonneg hc0 (by omega)) (by omega)) k1 k2
      have e : q * (z + 1) * p = q * z * p + q * p := by grind
      have := Int.mul_le_mul_of_nonneg_right hc3 (show 0 ≤ p by omega)
      omega

/-- A surd's value, to so many places. -/
noncomputable def vB (z : Sd) (N : Nat) : Int := z.a * pB N + z.b * rB 2 N + z.c * rB 3 N + z.d * rB 6 N
theorem OP_p : OP pB := ⟨1, by decide, fun N => by have := pB_pos N; omega⟩
theorem OP_r {d : Nat} (hd : d ≤ 8) : OP (rB d) := ⟨3, by decide, fun N => by
  have := rB_le (N := N) hd
  have := (rB_spec d N).1
  omega⟩
theorem OP_v (z : Sd) : OP (vB z) := (((OP_p.smul z.a).add ((OP_r (d := 2) (by decide)).smul z.b)).add ((OP_r (d := 3) (by decide)).smul z.c)).add ((OP_r (d := 6) (by decide)).smul z.d)
theorem vB_add (z w : Sd) (N : Nat) : vB (z + w) N = vB z N + vB w N := by
  simp only [vB, Sd.add_a, Sd.add_b, Sd.add_c, Sd.add_d]
  grind
theorem vB_neg (z : Sd) (N : Nat) : vB (-z) N = -vB z N := by
  simp only [vB, Sd.neg_a, Sd.neg_b, Sd.neg_c, Sd.neg_d]
  grind
theorem vB_mul (z w : Sd) : OP fun N => vB z N * vB w N - pB N * vB (z * w) N := by
  have e1 : ∀ N, rB 1 N = pB N := fun N => by
    obtain ⟨h0, h1, h2⟩ := rB_spec 1 N
    have hp := pB_pos N
    have a := lt_of_sq (u := rB 1 N) (v := pB N + 1) (by omega) h1 (by simp only [Int.natCast_one, Int.one_mul]; grind)
    have b := lt_of_sq (u := pB N) (v := rB 1 N + 1) (w := (1 : Nat) * (pB N * pB N)) (by omega) (by simp) h2
    omega
  have h22 := rr_near (d := 2) (e := 2) (g := 1) (c := 2) (by decide) (by decide) (by decide) rfl
  have h33 := rr_near (d := 3) (e := 3) (g := 1) (c := 3) (by decide) (by decide) (by decide) rfl
  have h66 := rr_near (d := 6) (e := 6) (g := 1) (c := 6) (by decide) (by decide) (by decide) rfl
  have h23 := rr_near (d := 2) (e := 3) (g := 6) (c := 1) (by decide) (by decide) (by decide) rfl
  have h26 := rr_near (d := 2) (e := 6) (g := 3) (c := 2) (by decide) (by decide) (by decide) rfl
  have h36 := rr_near (d := 3) (e := 6) (g := 2) (c := 3) (by decide) (by decide) (by decide) rfl
  refine OP.congr ((((((h22.smul (z.b * w.b)).add (h33.smul (z.c * w.c))).add (h66.smul (z.d * w.d))).add (h23.smul (z.b * w.c + z.c * w.b))).add (h26.smul (z.b * w.d + z.d * w.b))).add (h36.smul (z.c * w.d + z.d * w.c))) fun N => ?_
  have mul_a : (z * w).a = z.a * w.a + 2 * (z.b * w.b) + 3 * (z.c * w.c) + 6 * (z.d * w.d) := rfl
  have mul_b : (z * w).b = z.a * w.b + z.b * w.a + 3 * (z.c * w.d + z.d * w.c) := rfl
  have mul_c : (z * w).c = z.a * w.c + z.c * w.a + 2 * (z.b * w.d + z.d * w.b) := rfl
  have mul_d : (z * w).d = z.a * w.d + z.d * w.a + z.b * w.c + z.c * w.b := rfl
  simp only [vB, mul_a, mul_b, mul_c, mul_d, e1]
  show _ = _
  generalize rB 2 N = x
  generalize rB 3 N = y
  generalize rB 6 N = u
  generalize pB N = p
  grind
/-- A surd that is not below nothing. -/
def NN (z : Sd) : Prop := ∃ C : Int, ∀ N, -C ≤ vB z N
theorem NN.add {z w : Sd} (hz : NN z) (hw : NN w) : NN (z + w) := by
  obtain ⟨C, h⟩ := hz
  obtain ⟨D, h'⟩ := hw
  refine ⟨C + D, fun N => ?_⟩
  have := h N
  have := h' N
  rw [vB_add]
  omega
theorem down_low {f : Nat → Int} {K : Int} (h : ∀ N, -(K * pB N) ≤ pB N * f N) : ∀ N, -K ≤ f N := fun N => by
  have hp := pB_pos N
  refine Int.le_of_mul_le_mul_left (a := pB N) ?_ hp
  rw [show pB N * -K = -(K * pB N) by grind]
  exact h N
/-- Squares are not below nothing. -/
theorem NN.sq (z : Sd) : NN (z * z) := by
  obtain ⟨K, k0, hK⟩ := vB_mul z z
  refine ⟨K, down_low fun N => ?_⟩
  have : -(K * pB N) ≤ vB z N * vB z N - pB N * vB (z * z) N ∧ vB z N * vB z N - pB N * vB (z * z) N ≤ K * pB N := hK N
  have := sq_neg (vB z N)
  omega
theorem NN.mul {z w : Sd} (hz : NN z) (hw : NN w) : NN (z * w) := by
  obtain ⟨C, h⟩ := hz
  obtain ⟨D, h'⟩ := hw
  obtain ⟨K, k0, hK⟩ := vB_mul z w
  obtain ⟨A, a0, hA⟩ := OP_v z
  obtain ⟨B, b0, hB⟩ := OP_v w
  -- C and D may be taken not below nothing
  have h2 : ∀ N, -(C.natAbs : Int) ≤ vB z N := fun N => by have := h N; omega
  have h2' : ∀ N, -(D.natAbs : Int) ≤ vB w N := fun N => by have := h' N; omega
  generalize hc : (C.natAbs : Int) = c at h2
  generalize hd : (D.natAbs : Int) = d at h2'
  have c0 : 0 ≤ c := by omega
  have d0 : 0 ≤ d := by omega
  refine ⟨K + d * A + c * B + c * d, down_low fun N => ?_⟩
  have h3 : -(K * pB N) ≤ vB z N * vB w N - pB N * vB (z * w) N ∧ vB z N * vB w N - pB N * vB (z * w) N ≤ K * pB N := hK N
  have h4 := Int.mul_nonneg (show 0 ≤ vB z N + c by have := h2 N; omega) (show 0 ≤ vB w N + d by have := h2' N; omega)
  have h5 := Int.mul_le_mul_of_nonneg_left (hA N).2 d0
  have h6 := Int.mul_le_mul_of_nonneg_left (hB N).2 c0
  have hp := pB_pos N
  have h7 := Int.mul_le_mul_of_nonneg_left (show (1 : Int) ≤ pB N by omega) (Int.mul_nonneg c0 d0)
  generalize vB z N = x at *
  generalize vB w N = y at *
  generalize vB (z * w) N = u at *
  generalize pB N = p at *
  have e : (x + c) * (y + d) = x * y + d * x + c * y + c * d := by grind
  rw [e] at h4
  have e2 : (K + d * A + c * B + c * d) * p = K * p + d * (A * p) + c * (B * p) + c * d * p := by grind
  rw [e2]
  generalize p * u = pu at *
  generalize x * y = xy at *
  generalize d * x = dx at *
  generalize c * y = cy at *
  generalize d * (A * p) = dap at *
  generalize c * (B * p) = cbp at *
  generalize K * p = kp at *
  generalize c * d * p = cdp at *
  generalize c * d = cd at *
  omega

/-- Two cuts of a root agree. -/
theorem rB_cross (d N M : Nat) : rB d N * pB M ≤ rB d M * pB N + pB N := by
  obtain ⟨n0, n1, n2⟩ := rB_spec d N
  obtain ⟨m0, m1, m2⟩ := rB_spec d M
  have hn := pB_pos N
  have hm := pB_pos M
  generalize rB d N = x at *
  generalize rB d M = y at *
  generalize pB N = p at *
  generalize pB M = q at *
  have hqq := Int.mul_pos hm hm
  have hpp := Int.mul_pos hn hn
  have k1 : x * q * (x * q) ≤ d * (p * p) * (q * q) := by
    rw [show x * q * (x * q) = x * x * (q * q) by grind]
    exact Int.mul_le_mul_of_nonneg_right n1 (by omega)
  have k2 : d * (p * p) * (q * q) < (y + 1) * p * ((y + 1) * p) := by
    rw [show (d : Int) * (p * p) * (q * q) = d * (q * q) * (p * p) by grind, show (y + 1) * p * ((y + 1) * p) = (y + 1) * (y + 1) * (p * p) by grind]
    exact Int.mul_lt_mul_of_pos_right m2 hpp
  have := lt_of_sq (Int.mul_nonneg (by omega) (by omega)) k1 k2
  have e : (y + 1) * p = y * p + p := by grind
  omega
theorem abs_mul {c e B : Int} (h1 : -B ≤ e) (h2 : e ≤ B) : c * e ≤ (c.natAbs : Int) * B := by
  have hc : -(c.natAbs : Int) ≤ c ∧ c ≤ (c.natAbs : Int) := by omega
  generalize (c.natAbs : Int) = A at hc
  have := Int.mul_nonneg (show 0 ≤ A - c by omega) (show 0 ≤ B + e by omega)
  have := Int.mul_nonneg (show 0 ≤ A + c by omega) (show 0 ≤ B - e by omega)
  have := Int.mul_nonneg (show 0 ≤ A - c by omega) (show 0 ≤ B - e by omega)
  have := Int.mul_nonneg (show 0 ≤ A + c by omega) (show 0 ≤ B + e by omega)
  grind
theorem vB_cross (z : Sd) : ∃ k : Int, 0 ≤ k ∧ ∀ N M, vB z N * pB M ≤ vB z M * pB N + k * (pB N + pB M) := by
  refine ⟨(z.b.natAbs : Int) + z.c.natAbs + z.d.natAbs, by omega, fun N M => ?_⟩
  have hn := pB_pos N
  have hm := pB_pos M
  have c := fun d => And.intro (rB_cross d N M) (rB_cross d M N)
  have b2 := abs_mul (c := z.b) (e := rB 2 N * pB M - rB 2 M * pB N) (B := pB N + pB M) (by have := c 2; omega) (by have := c 2; omega)
  have b3 := abs_mul (c := z.c) (e := rB 3 N * pB M - rB 3 M * pB N) (B := pB N + pB M) (by have := c 3; omega) (by have := c 3; omega)
  have b6 := abs_mul (c := z.d) (e := rB 6 N * pB M - rB 6 M * pB N) (B := pB N + pB M) (by have := c 6; omega) (by have := c 6; omega)
  unfold vB
  generalize (z.b.natAbs : Int) = B at *
  generalize (z.c.natAbs : Int) = C at *
  generalize (z.d.natAbs : Int) = D at *
  generalize rB 2 N = x2 at *
  generalize rB 3 N = x3 at *
  generalize rB 6 N = x6 at *
  generalize rB 2 M = y2 at *
  generalize rB 3 M = y3 at *
  generalize rB 6 M = y6 at *
  generalize pB N = p at *
  generalize pB M = q at *
  generalize z.a = a at *
  generalize z.b = b at *
  generalize z.c = g at *
  generalize z.d = d at *
  have e : (a * p + b * x2 + g * x3 + d * x6) * q - (a * q + b * y2 + g * y3 + d * y6) * p = b * (x2 * q - y2 * p) + g * (x3 * q - y3 * p) + d * (x6 * q - y6 * p) := by grind
  have e2 : (B + C + D) * (p + q) = B * (p + q) + C * (p + q) + D * (p + q) := by grind
  rw [e2]
  generalize (a * p + b * x2 + g * x3 + d * x6) * q = l at *
  generalize (a * q + b * y2 + g * y3 + d * y6) * p = r at *
  omega
/-- A surd or its opposite is not below nothing. -/
theorem NN.total (z : Sd) : NN z ∨ NN (-z) := by
  obtain ⟨k, k0, hk⟩ := vB_cross z
  by_cases h : ∀ N, -k ≤ vB z N
  · exact .inl ⟨k, h⟩
  · right
    obtain ⟨N, hN⟩ := Classical.not_forall.1 h
    refine ⟨k, fun M => ?_⟩
    rw [vB_neg]
    have hx := hk M N
    have hp := pB_pos N
    have hq := pB_pos M
    have h1 : vB z M * pB N ≤ k * pB N := by
      have h2 : vB z N * pB M ≤ -k * pB M := Int.mul_le_mul_of_nonneg_right (by omega) (by omega)
      have e : k * (pB M + pB N) = k * pB M + k * pB N := by grind
      have e2 : -k * pB M = -(k * pB M) := by grind
      omega
    have := Int.le_of_mul_le_mul_right h1 hp
    omega
/-- What stays small is nothing. -/
theorem vB_zero {z : Sd} (h : O1 (vB z)) : z = 0 := by
  have step : ∀ {x y : Sd}, O1 (vB x) → O1 (vB (x * y)) := fun {x y} hx => by
    have h1 := OP.mulO1 hx (OP_v y)
    have h2 := (h1.add ((vB_mul x y).smul (-1))).congr (g := fun N => pB N * vB (x * y) N) fun N => by
      show vB x N * vB y N + -1 * (vB x N * vB y N - pB N * vB (x * y) N) = _
      omega
    exact OP.down h2
  have h1 := step (y := ⟨z.a, z.b, -z.c, -z.d⟩) h
  have h2 := step (y := ⟨(z * ⟨z.a, z.b, -z.c, -z.d⟩).a, -(z * ⟨z.a, z.b, -z.c, -z.d⟩).b, 0, 0⟩) h1
  have e1 : (z * ⟨z.a, z.b, -z.c, -z.d⟩ : Sd).c = 0 := by
    show z.a * -z.c + z.c * z.a + 2 * (z.b * -z.d + z.d * z.b) = 0
    grind
  have e2 : (z * ⟨z.a, z.b, -z.c, -z.d⟩ : Sd).d = 0 := by
    show z.a * -z.d + z.d * z.a + z.b * -z.c + z.c * z.b = 0
    grind
  generalize hu : z * ⟨z.a, z.b, -z.c, -z.d⟩ = u at h2 e1 e2
  have fa : (u * ⟨u.a, -u.b, 0, 0⟩ : Sd).b = 0 := by
    show u.a * -u.b + u.b * u.a + 3 * (u.c * 0 + u.d * 0) = 0
    grind
  have fc : (u * ⟨u.a, -u.b, 0, 0⟩ : Sd).c = 0 := by
    show u.a * 0 + u.c * u.a + 2 * (u.b * 0 + u.d * -u.b) = 0
    rw [e1, e2]
    grind
  have fd : (u * ⟨u.a, -u.b, 0, 0⟩ : Sd).d = 0 := by
    show u.a * 0 + u.d * u.a + u.b * 0 + u.c * -u.b = 0
    rw [e1, e2]
    grind
  generalize hw : u * ⟨u.a, -u.b, 0, 0⟩ = w at h2 fa fc fd
  have wa : w.a = 0 := by
    obtain ⟨K, k0, hK⟩ := h2
    have hv : ∀ N, vB w N = w.a * pB N := fun N => by
      unfold vB
      rw [fa, fc, fd]
      grind
    have hbig := hK K.toNat
    rw [hv] at hbig
    have hlt : ∀ n : Nat, (n : Int) < pB n := fun n => by
      unfold pB
      exact_mod_cast Nat.lt_two_pow_self
    have := hlt K.toNat
    have hp := pB_pos K.toNat
    generalize pB K.toNat = p at *
    rcases Int.lt_trichotomy w.a 0 with h | h | h
    · exfalso
      have := Int.mul_le_mul_of_nonneg_right (show w.a ≤ -1 by omega) (show 0 ≤ p by omega)
      omega
    · exact h
    · exfalso
      have := Int.mul_le_mul_of_nonneg_right (show 1 ≤ w.a by omega) (show 0 ≤ p by omega)
      omega
  have hw0 : w = 0 := Sd.ext wa fa fc fd
  have hu0 : u = 0 := by
    rcases Sd.dom (hw.trans hw0) with h | h
    · exact h
    · have ha : u.a = 0 := congrArg Sd.a h
      have hb : -u.b = 0 := congrArg Sd.b h
      exact Sd.ext ha (by show u.b = 0; omega) e1 e2
  rcases Sd.dom (hu.trans hu0) with h | h
  · exact h
  · have ha : z.a = 0 := congrArg Sd.a h
    have hb : z.b = 0 := congrArg Sd.b h
    have hc : -z.c = 0 := congrArg Sd.c h
    have hd : -z.d = 0 := congrArg Sd.d h
    exact Sd.ext ha hb (by show z.c = 0; omega) (by show z.d = 0; omega)
theorem NN.anti {z : Sd} (h : NN z) (h' : NN (-z)) : z = 0 := by
  obtain ⟨C, hC⟩ := h
  obtain ⟨D, hD⟩ := h'
  refine vB_zero ⟨(C.natAbs : Int) + D.natAbs, by omega, fun N => ?_⟩
  have h1 := hC N
  have h2 := hD N
  rw [vB_neg] at h2
  omega

end Go.Proofs.Ytoligfhcogligaa

/- Plain algebra: the sign of a surd, as the program finds it. No program, no conditions. -/
namespace Go.Proofs.Ytoligfhcogligaa
open Go.RowKit

theorem NN.zero : NN 0 := ⟨0, fun N => by
  have : vB 0 N = 0 := by
    show (0 : Int) * pB N + 0 * rB 2 N + 0 * rB 3 N + 0 * rB 6 N = 0
    omega
  omega⟩
theorem NN.int {m : Int} : NN ⟨m, 0, 0, 0⟩ ↔ 0 ≤ m := by
  have hv : ∀ N, vB ⟨m, 0, 0, 0⟩ N = m * pB N := fun N => by
    show m * pB N + 0 * rB 2 N + 0 * rB 3 N + 0 * rB 6 N = _
    omega
  constructor
  · rintro ⟨C, hC⟩
    rcases Int.lt_or_le m 0 with h | h
    · exfalso
      have h1 := hC C.toNat
      rw [hv] at h1
      have hlt : ∀ n : Nat, (n : Int) < pB n := fun n => by
        unfold pB
        exact_mod_cast Nat.lt_two_pow_self
      have h2 := hlt C.toNat
      have := Int.mul_le_mul_of_nonneg_right (show m ≤ -1 by omega) (Int.le_of_lt (pB_pos C.toNat))
      omega
    · exact h
  · intro h
    refine ⟨0, fun N => ?_⟩
    rw [hv]
    have := Int.mul_nonneg h (Int.le_of_lt (pB_pos N))
    omega
theorem NN.root2 : NN ⟨0, 1, 0, 0⟩ := ⟨0, fun N => by
  have : vB ⟨0, 1, 0, 0⟩ N = rB 2 N := by
    show 0 * pB N + 1 * rB 2 N + 0 * rB 3 N + 0 * rB 6 N = _
    omega
  have := (rB_spec 2 N).1
  omega⟩
theorem NN.root3 : NN ⟨0, 0, 1, 0⟩ := ⟨0, fun N => by
  have : vB ⟨0, 0, 1, 0⟩ N = rB 3 N := by
    show 0 * pB N + 0 * rB 2 N + 1 * rB 3 N + 0 * rB 6 N = _
    omega
  have := (rB_spec 3 N).1
  omega⟩
open Classical in
/-- The sign. -/
noncomputable def SG (z : Sd) : Int := if z = 0 then 0 else if NN z then 1 else -1
theorem neg_zero' {z : Sd} (h : -z = 0) : z = 0 := by
  have ha : -z.a = 0 := congrArg Sd.a h
  have hb : -z.b = 0 := congrArg Sd.b h
  have hc : -z.c = 0 := congrArg Sd.c h
  have hd : -z.d = 0 := congrArg Sd.d h
  exact Sd.ext (by show z.a = 0; omega) (by show z.b = 0; omega) (by show z.c = 0; omega) (by show z.d = 0; omega)
theorem SG_cases (z : Sd) : (z = 0 ∧ SG z = 0) ∨ (z ≠ 0 ∧ NN z ∧ ¬ NN (-z) ∧ SG z = 1) ∨ (z ≠ 0 ∧ ¬ NN z ∧ NN (-z) ∧ SG z = -1) := by
  unfold SG
  by_cases h : z = 0
  · exact .inl ⟨h, if_pos h⟩
  · by_cases h2 : NN z
    · exact .inr (.inl ⟨h, h2, fun h3 => h (h2.anti h3), by rw [if_neg h, if_pos h2]⟩)
    · exact .inr (.inr ⟨h, h2, (NN.total z).resolve_left h2, by rw [if_neg h, if_neg h2]⟩)
theorem SG_nn {z : Sd} : 0 ≤ SG z ↔ NN z := by
  rcases SG_cases z with ⟨h, e⟩ | ⟨_, h, _, e⟩ | ⟨_, h, _, e⟩ <;> rw [e]
  · rw [h]; exact ⟨fun _ => NN.zero, fun _ => by omega⟩
  · exact ⟨fun _ => h, fun _ => by omega⟩
  · exact ⟨fun h' => by omega, fun h' => (h h').elim⟩
theorem SG_pos {z : Sd} (h0 : z ≠ 0) (h : NN z) : SG z = 1 := by unfold SG; rw [if_neg h0, if_pos h]
theorem SG_below {z : Sd} (h0 : z ≠ 0) (h : NN (-z)) : SG z = -1 := by
  unfold SG
  rw [if_neg h0, if_neg fun h' => h0 (h'.anti h)]
theorem SG_zero : SG 0 = 0 := by unfold SG; rw [if_pos rfl]
theorem SG_neg (z : Sd) : SG (-z) = -SG z := by
  have e : -(-z) = z := by grind
  rcases SG_cases z with ⟨h, e1⟩ | ⟨h0, h, h', e1⟩ | ⟨h0, h, h', e1⟩ <;> rw [e1]
  · rw [h, show -(0 : Sd) = 0 by grind, SG_zero]; rfl
  · rw [SG_below (fun hh => h0 (neg_zero' hh)) (by rw [e]; exact h)]
  · rw [SG_pos (fun hh => h0 (neg_zero' hh)) h']; rfl
theorem SG_mul (z w : Sd) : SG (z * w) = SG z * SG w := by
  rcases SG_cases z with ⟨h, e1⟩ | ⟨z0, h, h', e1⟩ | ⟨z0, h, h', e1⟩ <;> rcases SG_cases w with ⟨k, e2⟩ | ⟨w0, k, k', e2⟩ | ⟨w0, k, k', e2⟩ <;> rw [e1, e2]
  · rw [h, show (0 : Sd) * w = 0 by grind, SG_zero]; rfl
  · rw [h, show (0 : Sd) * w = 0 by grind, SG_zero]; rfl
  · rw [h, show (0 : Sd) * w = 0 by grind, SG_zero]; rfl
  · rw [k, show z * (0 : Sd) = 0 by grind, SG_zero]; rfl
  · exact SG_pos (fun hh => (Sd.dom hh).elim z0 w0) (h.mul k)
  · refine SG_below (fun hh => (Sd.dom hh).elim z0 w0) ?_
    rw [show -(z * w) = z * -w by grind]
    exact h.mul k'
  · rw [k, show z * (0 : Sd) = 0 by grind, SG_zero]; rfl
  · refine SG_below (fun hh => (Sd.dom hh).elim z0 w0) ?_
    rw [show -(z * w) = -z * w by grind]
    exact h'.mul k
  · refine SG_pos (fun hh => (Sd.dom hh).elim z0 w0) ?_
    rw [show z * w = -z * -w by grind]
    exact h'.mul k'
/-- Two of one sign, or one of none. -/
theorem SG_add {z w : Sd} (h : 0 ≤ SG z) (k : 0 < SG w) : SG (z + w) = 1 := by
  have hz := SG_nn.1 h
  rcases SG_cases w with ⟨_, e⟩ | ⟨w0, hw, hw', _⟩ | ⟨_, _, _, e⟩
  · omega
  · refine SG_pos (fun hh => hw' ?_) (hz.add hw)
    rw [show -w = z by grind]
    exact hz
  · omega
theorem SG_int (m : Int) : SG ⟨m, 0, 0, 0⟩ = if m = 0 then 0 else if 0 ≤ m then 1 else -1 := by
  unfold SG
  by_cases h : m = 0
  · subst h
    rw [if_pos (show (⟨0, 0, 0, 0⟩ : Sd) = 0 from rfl), if_pos rfl]
  · rw [if_neg (fun hh => h (congrArg Sd.a hh)), if_neg h]
    by_cases h2 : 0 ≤ m
    · rw [if_pos (NN.int.2 h2), if_pos h2]
    · rw [if_neg (fun hh => h2 (NN.int.1 hh)), if_neg h2]
theorem SG_root2 : SG ⟨0, 1, 0, 0⟩ = 1 := SG_pos (fun h => absurd (congrArg Sd.b h) (by show (1 : Int) ≠ 0; decide)) NN.root2
theorem SG_root3 : SG ⟨0, 0, 1, 0⟩ = 1 := SG_pos (fun h => absurd (congrArg Sd.c h) (by show (1 : Int) ≠ 0; decide)) NN.root3
/-- The sign from the product with the conjugate. -/
theorem SG_conj {p q : Sd} (h1 : SG p = 1 ∨ SG p = -1) (h2 : SG q = -SG p) : SG (p + q) = SG p * SG ((p + q) * (p - q)) := by
  have e : SG (p - q) = SG p := by
    rcases h1 with h1 | h1
    · rw [h1, show p - q = p + -q by grind]
      exact SG_add (by omega) (by rw [SG_neg, h2, h1]; decide)
    · rw [h1, show p - q = -(-p + q) by grind, SG_neg, SG_add (by rw [SG_neg, h1]; decide) (by rw [h2, h1]; decide)]
  rw [SG_mul, e]
  rcases h1 with h1 | h1 <;> rw [h1] <;> omega
theorem sg2_SG (x y : Int) : sg2 x y = SG ⟨x, y, 0, 0⟩ := by
  have hp : SG (⟨x, 0, 0, 0⟩ : Sd) = if x = 0 then 0 else if 0 ≤ x then 1 else -1 := SG_int x
  have hq0 : (⟨0, y, 0, 0⟩ : Sd) = ⟨y, 0, 0, 0⟩ * ⟨0, 1, 0, 0⟩ := Sd.ext (by show 0 = y * 0 + 2 * (0 * 1) + 3 * (0 * 0) + 6 * (0 * 0); omega) (by show y = y * 1 + 0 * 0 + 3 * (0 * 0 + 0 * 0); omega) (by show 0 = y * 0 + 0 * 0 + 2 * (0 * 0 + 0 * 1); omega) (by show 0 = y * 0 + 0 * 0 + 0 * 0 + 0 * 1; omega)
  have hq : SG (⟨0, y, 0, 0⟩ : Sd) = if y = 0 then 0 else if 0 ≤ y then 1 else -1 := by
    rw [hq0, SG_mul, SG_root2, Int.mul_one, SG_int]
  have hs : (⟨x, y, 0, 0⟩ : Sd) = ⟨x, 0, 0, 0⟩ + ⟨0, y, 0, 0⟩ := Sd.ext (by show x = x + 0; omega) (by show y = 0 + y; omega) rfl rfl
  have hc : ((⟨x, 0, 0, 0⟩ + ⟨0, y, 0, 0⟩) * (⟨x, 0, 0, 0⟩ - ⟨0, y, 0, 0⟩) : Sd) = ⟨x * x - 2 * (y * y), 0, 0, 0⟩ := Sd.ext (by show (x + 0) * (x - 0) + 2 * ((0 + y) * (0 - y)) + 3 * ((0 + 0) * (0 - 0)) + 6 * ((0 + 0) * (0 - 0)) = _; grind) (by show (x + 0) * (0 - y) + (0 + y) * (x - 0) + 3 * ((0 + 0) * (0 - 0) + (0 + 0) * (0 - 0)) = 0; grind) (by show (x + 0) * (0 - 0) + (0 + 0) * (x - 0) + 2 * ((0 + y) * (0 - 0) + (0 + 0) * (0 - y)) = 0; grind) (by show (x + 0) * (0 - 0) + (0 + 0) * (x - 0) + (0 + y) * (0 - 0) + (0 + 0) * (0 - y) = 0; grind)
  have hr : SG (⟨x * x - 2 * (y * y), 0, 0, 0⟩ : Sd) = if x * x - 2 * (y * y) = 0 then 0 else if 0 ≤ x * x - 2 * (y * y) then 1 else -1 := SG_int _
  rw [hs]
  generalize hP : (⟨x, 0, 0, 0⟩ : Sd) = P at *
  generalize hQ : (⟨0, y, 0, 0⟩ : Sd) = Q at *
  have zP : x = 0 → P = 0 := fun h => by rw [← hP, h]; rfl
  have zQ : y = 0 → Q = 0 := fun h => by rw [← hQ, h]; rfl
  unfold sg2
  by_cases c1 : 0 ≤ x ∧ 0 ≤ y
  · rw [if_pos c1]
    by_cases c2 : x = 0 ∧ y = 0
    · rw [if_pos c2, zP c2.1, zQ c2.2, show (0 : Sd) + 0 = 0 by grind, SG_zero]
    · rw [if_neg c2]
      by_cases hy : y = 0
      · rw [zQ hy, show P + 0 = P by grind, hp, if_neg (by omega), if_pos c1.1]
      · rw [SG_add]
        · rw [hp]; split <;> first | omega | (split <;> omega)
        · rw [hq, if_neg hy, if_pos c1.2]; decide
  · rw [if_neg c1]
    by_cases c2 : x ≤ 0 ∧ y ≤ 0
    · rw [if_pos c2, show P + Q = -(-P + -Q) by grind, SG_neg]
      by_cases hy : y = 0
      · rw [zQ hy, show -P + -(0 : Sd) = -P by grind, SG_neg, hp, if_neg (by omega), if_neg (by omega)]; rfl
      · rw [SG_add]
        · rw [SG_neg, hp]; split <;> first | omega | (split <;> omega)
        · rw [SG_neg, hq, if_neg hy, if_neg (by omega)]; decide
    · rw [if_neg c2]
      have nz : x * x - 2 * (y * y) ≠ 0 := fun h => by
        have := root2 (x := x) (y := y) (by omega)
        omega
      by_cases c3 : x < 0
      · rw [if_pos c3]
        have sp : SG P = -1 := by rw [hp, if_neg (by omega), if_neg (by omega)]
        have sq : SG Q = 1 := by rw [hq, if_neg (by omega), if_pos (by omega)]
        rw [SG_conj (.inr sp) (by rw [sq, sp]; rfl), hc, hr, sp, if_neg nz]
        by_cases c4 : x * x > 2 * (y * y)
        · rw [if_pos c4, if_pos (by omega)]; rfl
        · rw [if_neg c4, if_neg (by omega)]; rfl
      · rw [if_neg c3]
        have sp : SG P = 1 := by rw [hp, if_neg (by omega), if_pos (by omega)]
        have sq : SG Q = -1 := by rw [hq, if_neg (by omega), if_neg (by omega)]
        rw [SG_conj (.inl sp) (by rw [sq, sp]), hc, hr, sp, if_neg nz]
        by_cases c4 : x * x > 2 * (y * y)
        · rw [if_pos c4, if_pos (by omega)]; rfl
        · rw [if_neg c4, if_neg (by omega)]; rfl

def sdOf (s : Nat → Int) : Sd := ⟨s 0, s 1, s 2, s 3⟩
/-- The program's sign is the sign. -/
theorem sgn4_SG {s : Nat → Int} (h : bd4 11520000 s) : sgn4 s = SG (sdOf s) := by
  obtain ⟨ex, ey⟩ := xq_exact h
  unfold sgn4
  rw [sg2_SG, sg2_SG, sg2_SG, ex, ey]
  have hq : (⟨0, 0, s 2, s 3⟩ : Sd) = ⟨s 2, s 3, 0, 0⟩ * ⟨0, 0, 1, 0⟩ := Sd.ext (by show 0 = s 2 * 0 + 2 * (s 3 * 0) + 3 * (0 * 1) + 6 * (0 * 0); omega) (by show 0 = s 2 * 0 + s 3 * 0 + 3 * (0 * 0 + 0 * 1); omega) (by show s 2 = s 2 * 1 + 0 * 0 + 2 * (s 3 * 0 + 0 * 0); omega) (by show s 3 = s 2 * 0 + 0 * 0 + s 3 * 1 + 0 * 0; omega)
  have hQ : SG (⟨s 2, s 3, 0, 0⟩ : Sd) = SG ⟨0, 0, s 2, s 3⟩ := by rw [hq, SG_mul, SG_root3, Int.mul_one]
  have hs : sdOf s = ⟨s 0, s 1, 0, 0⟩ + ⟨0, 0, s 2, s 3⟩ := Sd.ext (by show s 0 = s 0 + 0; omega) (by show s 1 = s 1 + 0; omega) (by show s 2 = 0 + s 2; omega) (by show s 3 = 0 + s 3; omega)
  have hc : ((⟨s 0, s 1, 0, 0⟩ + ⟨0, 0, s 2, s 3⟩) * (⟨s 0, s 1, 0, 0⟩ - ⟨0, 0, s 2, s 3⟩) : Sd) = ⟨s 0 * s 0 + 2 * (s 1 * s 1) - 3 * (s 2 * s 2) - 6 * (s 3 * s 3), 2 * (s 0 * s 1) - 6 * (s 2 * s 3), 0, 0⟩ := by
    generalize s 0 = a
    generalize s 1 = b
    generalize s 2 = c
    generalize s 3 = d
    exact Sd.ext (by show (a + 0) * (a - 0) + 2 * ((b + 0) * (b - 0)) + 3 * ((0 + c) * (0 - c)) + 6 * ((0 + d) * (0 - d)) = _; grind) (by show (a + 0) * (b - 0) + (b + 0) * (a - 0) + 3 * ((0 + c) * (0 - d) + (0 + d) * (0 - c)) = _; grind) (by show (a + 0) * (0 - c) + (0 + c) * (a - 0) + 2 * ((b + 0) * (0 - d) + (0 + d) * (b - 0)) = 0; grind) (by show (a + 0) * (0 - d) + (0 + d) * (a - 0) + (b + 0) * (0 - c) + (0 + c) * (b - 0) = 0; grind)
  rw [← hc, hQ, hs]
  generalize (⟨s 0, s 1, 0, 0⟩ : Sd) = p
  generalize (⟨0, 0, s 2, s 3⟩ : Sd) = q
  by_cases c1 : SG p = SG q ∨ SG q = 0
  · rw [if_pos c1]
    rcases SG_cases q with ⟨k, e2⟩ | ⟨_, _, _, e2⟩ | ⟨_, _, _, e2⟩
    · rw [k, show p + (0 : Sd) = p by grind]
    · have e1 : SG p = 1 := by omega
      rw [e1, SG_add (by omega) (by omega)]
    · have e1 : SG p = -1 := by omega
      rw [show p + q = -(-p + -q) by grind, SG_neg, SG_add (by rw [SG_neg, e1]; decide) (by rw [SG_neg, e2]; decide), e1]
  · rw [if_neg c1]
    by_cases c2 : SG p = 0
    · rw [if_pos c2]
      rcases SG_cases p with ⟨k, _⟩ | ⟨_, _, _, e⟩ | ⟨_, _, _, e⟩
      · rw [k, show (0 : Sd) + q = q by grind]
      · omega
      · omega
    · rw [if_neg c2]
      have h1 := SG_cases p
      have h2 := SG_cases q
      exact (SG_conj (by omega) (by omega)).symm

end Go.Proofs.Ytoligfhcogligaa

/- Plain geometry: turns and windings counted round a polygon. No program, no conditions. -/
namespace Go.Proofs.Ytoligfhcogligaa
open Go.RowKit

def sumZ (g : Nat → Int) : Nat → Int
  | 0 => 0
  | i + 1 => sumZ g i + g i
theorem sumZ_congr {g h : Nat → Int} : ∀ {n : Nat}, (∀ i, i < n → g i = h i) → sumZ g n = sumZ h n
  | 0, _ => rfl
  | n + 1, e => by rw [sumZ, sumZ, sumZ_congr fun i hi => e i (by omega), e n (by omega)]
theorem sumZ_add (g h : Nat → Int) : ∀ n : Nat, sumZ (fun i => g i + h i) n = sumZ g n + sumZ h n
  | 0 => rfl
  | n + 1 => by rw [sumZ, sumZ, sumZ, sumZ_add g h n]; omega
theorem sumZ_neg (g : Nat → Int) : ∀ n : Nat, sumZ (fun i => -g i) n = -sumZ g n
  | 0 => rfl
  | n + 1 => by rw [sumZ, sumZ, sumZ_neg g n]; omega
theorem sumZ_first (g : Nat → Int) : ∀ n : Nat, sumZ g (n + 1) = g 0 + sumZ (fun i => g (i + 1)) n
  | 0 => by show 0 + g 0 = g 0 + 0; omega
  | n + 1 => by
    rw [sumZ, sumZ_first g n]
    show g 0 + sumZ (fun i => g (i + 1)) n + g (n + 1) = g 0 + (sumZ (fun i => g (i + 1)) n + g (n + 1))
    omega
/-- The other way round. -/
theorem sumZ_rev (g : Nat → Int) : ∀ n : Nat, sumZ (fun i => g (n - 1 - i)) n = sumZ g n
  | 0 => rfl
  | n + 1 => by
    rw [sumZ_first]
    have e : sumZ (fun i => g (n + 1 - 1 - (i + 1))) n = sumZ (fun i => g (n - 1 - i)) n := sumZ_congr fun i _ => by rw [show n + 1 - 1 - (i + 1) = n - 1 - i by omega]
    rw [e, sumZ_rev g n, sumZ]
    show g (n + 1 - 1 - 0) + sumZ g n = sumZ g n + g n
    rw [show n + 1 - 1 - 0 = n by omega]
    omega
/-- One place on, round the list. -/
theorem sumZ_prev (g : Nat → Int) : ∀ n : Nat, sumZ (fun i => g ((i + n - 1) % n)) n = sumZ g n
  | 0 => rfl
  | n + 1 => by
    rw [sumZ_first]
    have e : sumZ (fun i => g ((i + 1 + (n + 1) - 1) % (n + 1))) n = sumZ g n := sumZ_congr fun i hi => by
      rw [show i + 1 + (n + 1) - 1 = i + (n + 1) by omega, Nat.add_mod_right, Nat.mod_eq_of_lt (by omega)]
    rw [e, show (0 + (n + 1) - 1) % (n + 1) = n by rw [show 0 + (n + 1) - 1 = n by omega]; exact Nat.mod_eq_of_lt (by omega)]
    rw [sumZ]
    omega
def b2i (b : Bool) : Int := bif b then 1 else 0
/-- A passage up, to the left; down, to the right. -/
def cT (e1 em u v : Bool) : Int := bif e1 && (!u && v) then 1 else bif em && (u && !v) then -1 else 0
theorem cT_both {e1 em u v : Bool} (h : (e1 || em) = true ∨ u = v) (h2 : (e1 && em) = false) : cT e1 em u v + cT em e1 (!v) (!u) = b2i v - b2i u := by
  cases e1 <;> cases em <;> cases u <;> cases v <;> first | decide | exact absurd h2 (by decide) | (simp at h)
theorem round_zero (u : Nat → Bool) (n : Nat) : sumZ (fun i => b2i (u i) - b2i (u ((i + n - 1) % n))) n = 0 := by
  have e : sumZ (fun i => b2i (u i) - b2i (u ((i + n - 1) % n))) n = sumZ (fun i => b2i (u i) + -b2i (u ((i + n - 1) % n))) n := sumZ_congr fun i _ => by omega
  rw [e, sumZ_add, sumZ_neg, sumZ_prev (fun i => b2i (u i))]
  omega
/-- Turns are opposite the other way round. -/
theorem turns_back {be : Nat → Int} {u : Nat → Bool} {n : Nat} (h : ∀ i, i < n → be i = 0 → u ((i + n - 1) % n) = u i) :
    sumZ (fun i => cT (decide (be i < 0)) (decide (be i > 0)) (!u i) (!u ((i + n - 1) % n))) n = -sumZ (fun i => cT (decide (be i > 0)) (decide (be i < 0)) (u ((i + n - 1) % n)) (u i)) n := by
  have e : sumZ (fun i => cT (decide (be i > 0)) (decide (be i < 0)) (u ((i + n - 1) % n)) (u i) + cT (decide (be i < 0)) (decide (be i > 0)) (!u i) (!u ((i + n - 1) % n))) n = 0 := by
    refine Eq.trans (sumZ_congr fun i hi => cT_both ?_ ?_) (round_zero u n)
    · by_cases h0 : be i = 0
      · exact .inr (h i hi h0)
      · left
        rcases Int.lt_trichotomy (be i) 0 with h1 | h1 | h1
        · rw [decide_eq_true h1, Bool.or_true]
        · exact (h0 h1).elim
        · rw [decide_eq_true (show be i > 0 from h1), Bool.true_or]
    · by_cases h1 : be i > 0
      · rw [decide_eq_false (show ¬ be i < 0 by omega), Bool.and_false]
      · rw [decide_eq_false h1, Bool.false_and]
  rw [sumZ_add] at e
  omega
theorem sumZ_nn {g : Nat → Int} : ∀ {n : Nat}, (∀ i, i < n → 0 ≤ g i) → 0 ≤ sumZ g n
  | 0, _ => by show (0 : Int) ≤ 0; omega
  | n + 1, h => by
    have := sumZ_nn (n := n) fun i hi => h i (by omega)
    have := h n (by omega)
    rw [sumZ]
    omega
theorem sumZ_zero {g : Nat → Int} : ∀ {n : Nat}, (∀ i, i < n → 0 ≤ g i) → sumZ g n = 0 → ∀ i, i < n → g i = 0
  | 0, _, _, i, hi => absurd hi (Nat.not_lt_zero _)
  | n + 1, h, e, i, hi => by
    have h1 := sumZ_nn (n := n) fun i hi => h i (by omega)
    have h2 := h n (by omega)
    rw [sumZ] at e
    by_cases hin : i = n
    · subst hin; omega
    · exact sumZ_zero (n := n) (fun i hi => h i (by omega)) (by omega) i (by omega)
/-- All to the left, and some above and some below: at least one turn. -/
theorem turns_left {be : Nat → Int} {u : Nat → Bool} {n : Nat} (h : ∀ i, i < n → be i = 0 → u ((i + n - 1) % n) = u i) (hl : ∀ i, i < n → 0 ≤ be i) (hu : ∃ i, i < n ∧ u i = true) (hd : ∃ i, i < n ∧ u i = false) :
    1 ≤ sumZ (fun i => cT (decide (be i > 0)) (decide (be i < 0)) (u ((i + n - 1) % n)) (u i)) n := by
  have nn : ∀ i, i < n → 0 ≤ cT (decide (be i > 0)) (decide (be i < 0)) (u ((i + n - 1) % n)) (u i) := fun i hi => by
    have := hl i hi
    rw [decide_eq_false (show ¬ be i < 0 by omega)]
    cases decide (be i > 0) <;> cases u ((i + n - 1) % n) <;> cases u i <;> decide
  have h0 := sumZ_nn nn
  by_cases hz : sumZ (fun i => cT (decide (be i > 0)) (decide (be i < 0)) (u ((i + n - 1) % n)) (u i)) n = 0
  · exfalso
    have z := sumZ_zero nn hz
    -- no passage up, so none at all
    have up : ∀ i, i < n → b2i (u i) ≤ b2i (u ((i + n - 1) % n)) := fun i hi => by
      have hz := z i hi
      have hb := hl i hi
      by_cases hb0 : be i = 0
      · rw [h i hi hb0]; omega
      · have hz : cT (decide (be i > 0)) (decide (be i < 0)) (u ((i + n - 1) % n)) (u i) = 0 := hz
        rw [decide_eq_true (show be i > 0 by omega)] at hz
        revert hz
        cases u ((i + n - 1) % n) <;> cases u i <;> cases decide (be i < 0) <;> decide
    have same : ∀ i, i < n → b2i (u ((i + n - 1) % n)) - b2i (u i) = 0 := by
      refine sumZ_zero (fun i hi => by have := up i hi; omega) ?_
      have := round_zero u n
      have e : sumZ (fun i => b2i (u ((i + n - 1) % n)) - b2i (u i)) n = -sumZ (fun i => b2i (u i) - b2i (u ((i + n - 1) % n))) n := by
        rw [← sumZ_neg]
        exact sumZ_congr fun i _ => by omega
      omega
    have all : ∀ i, i < n → b2i (u i) = b2i (u 0) := by
      intro i
      induction i with
      | zero => intro _; rfl
      | succ i ih =>
        intro hi
        have := same (i + 1) hi
        rw [show i + 1 + n - 1 = i + n by omega, Nat.add_mod_right, Nat.mod_eq_of_lt (by omega)] at this
        have := ih (by omega)
        omega
    obtain ⟨i, hi, ei⟩ := hu
    obtain ⟨j, hj, ej⟩ := hd
    have a := all i hi
    have b := all j hj
    rw [ei] at a
    rw [ej] at b
    have : b2i true = b2i false := by rw [a, b]
    exact absurd this (by decide)
  · omega
/-- Windings are opposite the other way round: side by side. -/
theorem wind_one (s : Int) (f t : Bool) : cT (decide (-s > 0)) (decide (-s < 0)) t f = -cT (decide (s > 0)) (decide (s < 0)) f t := by
  by_cases h1 : s > 0
  · rw [decide_eq_true h1, decide_eq_false (show ¬ s < 0 by omega), decide_eq_false (show ¬ -s > 0 by omega), decide_eq_true (show -s < 0 by omega)]
    cases f <;> cases t <;> decide
  · by_cases h2 : s < 0
    · rw [decide_eq_false h1, decide_eq_true h2, decide_eq_true (show -s > 0 by omega), decide_eq_false (show ¬ -s < 0 by omega)]
      cases f <;> cases t <;> decide
    · rw [decide_eq_false h1, decide_eq_false h2, decide_eq_false (show ¬ -s > 0 by omega), decide_eq_false (show ¬ -s < 0 by omega)]
      cases f <;> cases t <;> decide

end Go.Proofs.Ytoligfhcogligaa

/- Plain geometry: directions above and below; how often a polygon passes a height. No program, no conditions. -/
namespace Go.Proofs.Ytoligfhcogligaa
open Go.RowKit

theorem SG_none {z : Sd} : SG z = 0 ↔ z = 0 := by
  rcases SG_cases z with ⟨h, e⟩ | ⟨h, _, _, e⟩ | ⟨h, _, _, e⟩ <;> rw [e]
  · exact ⟨fun _ => h, fun _ => rfl⟩
  · exact ⟨fun h' => absurd h' (by decide), fun h' => (h h').elim⟩
  · exact ⟨fun h' => absurd h' (by decide), fun h' => (h h').elim⟩
theorem SG_range (z : Sd) : SG z = -1 ∨ SG z = 0 ∨ SG z = 1 := by
  rcases SG_cases z with ⟨_, e⟩ | ⟨_, _, _, e⟩ | ⟨_, _, _, e⟩ <;> omega
/-- A direction above the real line, or along it. -/
noncomputable def upB (x y : Sd) : Bool := bif SG y != 0 then decide (SG y > 0) else decide (SG x > 0)
theorem norm_pos {a b : Sd} (h : a ≠ 0 ∨ b ≠ 0) : SG (a * a + b * b) = 1 := by
  refine SG_pos (fun hh => ?_) ((NN.sq a).add (NN.sq b))
  have := Sd.squares hh
  rcases h with h | h
  · exact h this.1
  · exact h this.2
theorem up_same {a b c d : Sd} (h1 : SG (a * d - b * c) = 0) (h2 : SG (a * c + b * d) > 0) : upB a b = upB c d := by
  have h1 := SG_none.1 h1
  have hne : a ≠ 0 ∨ b ≠ 0 := by
    by_cases ha : a = 0
    · refine .inr fun hb => ?_
      rw [ha, hb, show (0 : Sd) * c + 0 * d = 0 by grind, SG_zero] at h2
      omega
    · exact .inl ha
  have hn := norm_pos hne
  have hd1 : SG (a * c + b * d) = 1 := by have := SG_range (a * c + b * d); omega
  have ed : d * (a * a + b * b) = b * (a * c + b * d) := by grind
  have ec : c * (a * a + b * b) = a * (a * c + b * d) := by grind
  have e1 : SG d = SG b := by
    have := congrArg SG ed
    rw [SG_mul, SG_mul, hn, hd1] at this
    omega
  have e2 : SG c = SG a := by
    have := congrArg SG ec
    rw [SG_mul, SG_mul, hn, hd1] at this
    omega
  rw [upB, upB, e1, e2]
theorem up_neg {x y : Sd} (h : x ≠ 0 ∨ y ≠ 0) : upB (-x) (-y) = !upB x y := by
  unfold upB
  rw [SG_neg, SG_neg]
  have hy := SG_range y
  by_cases h0 : SG y = 0
  · have hx : SG x ≠ 0 := fun hh => h.elim (fun k => k (SG_none.1 hh)) fun k => k (SG_none.1 h0)
    have hxr := SG_range x
    rw [h0, show ((-0 : Int) != 0) = false from rfl, show ((0 : Int) != 0) = false from rfl, cond_false, cond_false]
    by_cases hp : SG x > 0
    · rw [decide_eq_true hp, decide_eq_false (show ¬ -SG x > 0 by omega)]; rfl
    · rw [decide_eq_false hp, decide_eq_true (show -SG x > 0 by omega)]; rfl
  · rw [show (SG y != 0) = true from bne_iff_ne.2 h0, show (-SG y != 0) = true from bne_iff_ne.2 (by omega), cond_true, cond_true]
    by_cases hp : SG y > 0
    · rw [decide_eq_true hp, decide_eq_false (show ¬ -SG y > 0 by omega)]; rfl
    · rw [decide_eq_false hp, decide_eq_true (show -SG y > 0 by omega)]; rfl
def sumS (g : Nat → Sd) : Nat → Sd
  | 0 => 0
  | i + 1 => sumS g i + g i
theorem sumS_nn {g : Nat → Sd} : ∀ {n : Nat}, (∀ i, i < n → NN (g i)) → NN (sumS g n)
  | 0, _ => NN.zero
  | n + 1, h => (sumS_nn (n := n) fun i hi => h i (by omega)).add (h n (by omega))
theorem sumS_neg (g : Nat → Sd) : ∀ n : Nat, sumS (fun i => -g i) n = -sumS g n
  | 0 => by show (0 : Sd) = -0; grind
  | n + 1 => by
    show sumS (fun i => -g i) n + -g n = -(sumS g n + g n)
    rw [sumS_neg g n]
    grind
theorem sumS_zero {g : Nat → Sd} : ∀ {n : Nat}, (∀ i, i < n → NN (g i)) → sumS g n = 0 → ∀ i, i < n → g i = 0
  | 0, _, _, i, hi => absurd hi (Nat.not_lt_zero _)
  | n + 1, h, e, i, hi => by
    have h1 := sumS_nn (n := n) fun i hi => h i (by omega)
    have h2 := h n (by omega)
    have e' : sumS g n + g n = 0 := e
    have hn : g n = 0 := h2.anti (by rw [show -g n = sumS g n by grind]; exact h1)
    by_cases hin : i = n
    · subst hin; exact hn
    · exact sumS_zero (n := n) (fun i hi => h i (by omega)) (by rw [hn] at e'; rw [← e']; grind) i (by omega)
/-- Steps that come back do not all go up. -/
theorem not_all_up {X Y : Nat → Sd} {n : Nat} (hn : 0 < n) (hx : sumS X n = 0) (hy : sumS Y n = 0) : ¬ ∀ i, i < n → upB (X i) (Y i) = true := fun h => by
  have yn : ∀ i, i < n → NN (Y i) := fun i hi => by
    have := h i hi
    unfold upB at this
    refine SG_nn.1 ?_
    by_cases h0 : SG (Y i) = 0
    · omega
    · rw [show (SG (Y i) != 0) = true from bne_iff_ne.2 h0, cond_true, decide_eq_true_eq] at this
      omega
  have y0 := sumS_zero yn hy
  have xp : ∀ i, i < n → SG (X i) > 0 := fun i hi => by
    have := h i hi
    unfold upB at this
    rw [y0 i hi, SG_zero, show ((0 : Int) != 0) = false from rfl, cond_false, decide_eq_true_eq] at this
    exact this
  have x0 := sumS_zero (fun i hi => SG_nn.1 (by have := xp i hi; omega)) hx 0 hn
  have := xp 0 hn
  rw [x0, SG_zero] at this
  omega
theorem not_all_down {X Y : Nat → Sd} {n : Nat} (hn : 0 < n) (hx : sumS X n = 0) (hy : sumS Y n = 0) (hz : ∀ i, i < n → X i ≠ 0 ∨ Y i ≠ 0) : ¬ ∀ i, i < n → upB (X i) (Y i) = false := fun h => by
  refine not_all_up (X := fun i => -X i) (Y := fun i => -Y i) hn ?_ ?_ fun i hi => ?_
  · rw [sumS_neg, hx]; grind
  · rw [sumS_neg, hy]; grind
  · rw [up_neg (hz i hi), h i hi]; rfl
/-- A height is passed upwards at most as often as the way turns upwards. -/
theorem pass_le {f u : Nat → Bool} {n : Nat} (h1 : ∀ i, i < n → u i = true → f i = true → f ((i + 1) % n) = true) (h2 : ∀ i, i < n → u i = false → f ((i + 1) % n) = true → f i = true) :
    sumZ (fun i => b2i (!f i && f ((i + 1) % n))) n ≤ sumZ (fun i => b2i (!u ((i + n - 1) % n) && u i)) n := by
  have inv : ∀ i, i ≤ n → sumZ (fun i => b2i (!f i && f ((i + 1) % n))) i + b2i (u ((i + n - 1) % n) && !f (i % n)) ≤ sumZ (fun i => b2i (!u ((i + n - 1) % n) && u i)) i + b2i (u ((0 + n - 1) % n) && !f (0 % n)) := by
    intro i
    induction i with
    | zero => intro _; exact Int.le_refl _
    | succ i ih =>
      intro hi
      have ih := ih (by omega)
      have a := h1 i (by omega)
      have b := h2 i (by omega)
      rw [sumZ, sumZ]
      rw [Nat.mod_eq_of_lt (show i < n by omega)] at ih
      rw [show i + 1 + n - 1 = i + n by omega, Nat.add_mod_right, Nat.mod_eq_of_lt (show i < n by omega)]
      show _ + b2i (!f i && f ((i + 1) % n)) + b2i (u i && !f ((i + 1) % n)) ≤ _ + b2i (!u ((i + n - 1) % n) && u i) + _
      generalize f i = fi at *
      generalize f ((i + 1) % n) = fj at *
      generalize u i = ui at *
      generalize u ((i + n - 1) % n) = up at *
      have key : b2i (!fi && fj) + b2i (ui && !fj) ≤ b2i (!up && ui) + b2i (up && !fi) := by
        cases fi <;> cases fj <;> cases ui <;> cases up <;> simp at a b <;> decide
      omega
  by_cases hn : n = 0
  · subst hn; exact Int.le_refl _
  · have := inv n (Nat.le_refl _)
    rw [Nat.mod_self, Nat.zero_mod, show n + n - 1 = (0 + n - 1) + n by omega, Nat.add_mod_right] at this
    omega
/-- As often down as up. -/
theorem pass_same (f : Nat → Bool) (n : Nat) : sumZ (fun i => b2i (f i && !f ((i + n - 1) % n))) n = sumZ (fun i => b2i (!f i && f ((i + n - 1) % n))) n := by
  have e := round_zero f n
  have e2 : sumZ (fun i => b2i (f i && !f ((i + n - 1) % n)) + -b2i (!f i && f ((i + n - 1) % n))) n = 0 := by
    refine Eq.trans (sumZ_congr fun i _ => ?_) e
    cases f i <;> cases f ((i + n - 1) % n) <;> decide
  rw [sumZ_add, sumZ_neg] at e2
  omega

theorem up_nn {x y : Sd} (h : upB x y = true) : 0 ≤ SG y := by
  unfold upB at h
  by_cases h0 : SG y = 0
  · omega
  · rw [show (SG y != 0) = true from bne_iff_ne.2 h0, cond_true, decide_eq_true_eq] at h
    omega
theorem up_no {x y : Sd} (h : upB x y = false) : SG y ≤ 0 := by
  unfold upB at h
  by_cases h0 : SG y = 0
  · omega
  · rw [show (SG y != 0) = true from bne_iff_ne.2 h0, cond_true, decide_eq_false_iff_not] at h
    omega

theorem sumS_congr {g h : Nat → Sd} : ∀ {n : Nat}, (∀ i, i < n → g i = h i) → sumS g n = sumS h n
  | 0, _ => rfl
  | n + 1, e => by
    show sumS g n + g n = sumS h n + h n
    rw [sumS_congr fun i hi => e i (by omega), e n (by omega)]
theorem sumS_add (g h : Nat → Sd) : ∀ n : Nat, sumS (fun i => g i + h i) n = sumS g n + sumS h n
  | 0 => by show (0 : Sd) = 0 + 0; grind
  | n + 1 => by
    show sumS (fun i => g i + h i) n + (g n + h n) = sumS g n + g n + (sumS h n + h n)
    rw [sumS_add g h n]
    grind
theorem sumS_first (g : Nat → Sd) : ∀ n : Nat, sumS g (n + 1) = g 0 + sumS (fun i => g (i + 1)) n
  | 0 => by show (0 : Sd) + g 0 = g 0 + 0; grind
  | n + 1 => by
    show sumS g (n + 1) + g (n + 1) = g 0 + (sumS (fun i => g (i + 1)) n + g (n + 1))
    rw [sumS_first g n]
    grind
theorem sumS_next (g : Nat → Sd) : ∀ n : Nat, sumS (fun i => g ((i + 1) % n)) n = sumS g n
  | 0 => rfl
  | n + 1 => by
    show sumS (fun i => g ((i + 1) % (n + 1))) n + g ((n + 1) % (n + 1)) = sumS g (n + 1)
    rw [sumS_first g n, Nat.mod_self, sumS_congr (h := fun i => g (i + 1)) fun i hi => by rw [Nat.mod_eq_of_lt (show i + 1 < n + 1 by omega)]]
    grind

end Go.Proofs.Ytoligfhcogligaa

/- A list, the other way round. No conditions. -/
namespace Go.Proofs.Ytoligfhcogligaa
open Go.RowKit

/-- The list, the other way round. -/
def bkC (a : Nat → Nat → Int) (m : Nat) : Nat → Nat → Int := fun j => a (m - 1 - j)

end Go.Proofs.Ytoligfhcogligaa

/- Plain laws of polygons: turns are opposite the other way round. No program, no conditions. -/
namespace Go.Proofs.Ytoligfhcogligaa
open Go.RowKit
set_option maxRecDepth 100000

theorem SG_four (z : Sd) : SG (4 * z) = SG z := by
  rw [SG_mul, show (4 : Sd) = ⟨4, 0, 0, 0⟩ from rfl, SG_int]
  show 1 * SG z = SG z
  omega
theorem up_SG {p : Nat → Int} (h : bd8 200 p) : upF p = upB (RE p) (IM p) := by
  have hi := im_bd h
  have hr := re_bd h
  have e1 : sgn4 (w4 (imF p)) = SG (IM p) := by
    rw [sgn4_w4, sgn4_congr (s := imF p) (s' := imZ p) fun k hk => W4 hi (by omega) k hk, sgn4_SG fun k hk => by have := hi k hk; omega]
    rfl
  have e2 : sgn4 (w4 (reF p)) = SG (RE p) := by
    rw [sgn4_w4, sgn4_congr (s := reF p) (s' := reZ p) fun k hk => W4 hr (by omega) k hk, sgn4_SG fun k hk => by have := hr k hk; omega]
    rfl
  unfold upF upB
  rw [e1, e2]
theorem cross_SG {p q : Nat → Int} (hp : bd8 200 p) (hq : bd8 200 q) : sgn4 (w4 (crossW p q)) = SG (RE p * IM q - IM p * RE q) ∧ sgn4 (w4 (reF (mulF (mirF (w8 p)) (w8 q)))) = SG (RE p * RE q + IM p * IM q) := by
  obtain ⟨c1, c2, c3, c4⟩ := cross_exact hp hq
  rw [im_cross, re_cross, SG_four, SG_four]
  constructor
  · rw [sgn4_w4, sgn4_congr c1, sgn4_SG c3]
    rfl
  · rw [sgn4_w4, sgn4_congr c2, sgn4_SG c4]
    rfl

theorem neg_pt {p q : Nat → Int} (h : ∀ k, k < 8 → p k = -q k) : RE p = -RE q ∧ IM p = -IM q := by
  have h0 := h 0 (by omega)
  have h1 := h 1 (by omega)
  have h2 := h 2 (by omega)
  have h3 := h 3 (by omega)
  have h4 := h 4 (by omega)
  have h5 := h 5 (by omega)
  have h6 := h 6 (by omega)
  have h7 := h 7 (by omega)
  constructor
  · refine Sd.ext ?_ ?_ ?_ ?_
    · show 4 * p 0 + 2 * p 4 = -(4 * q 0 + 2 * q 4); omega
    · show p 1 + 2 * p 3 - p 5 + p 7 = -(q 1 + 2 * q 3 - q 5 + q 7); omega
    · show 2 * p 2 = -(2 * q 2); omega
    · show p 1 + p 5 - p 7 = -(q 1 + q 5 - q 7); omega
  · refine Sd.ext ?_ ?_ ?_ ?_
    · show 2 * p 2 + 4 * p 6 = -(2 * q 2 + 4 * q 6); omega
    · show -p 1 + 2 * p 3 + p 5 + p 7 = -(-q 1 + 2 * q 3 + q 5 + q 7); omega
    · show 2 * p 4 = -(2 * q 4); omega
    · show p 1 + p 5 + p 7 = -(q 1 + q 5 + q 7); omega
theorem valid_bk {a : Nat → Nat → Int} {m : Nat} (h : f_valid a m = true) : f_valid (bkC a m) m = true := by
  simp only [f_valid, Bool.and_eq_true] at h ⊢
  refine ⟨List.all_eq_true.2 fun j hj => ?_, h.2⟩
  have hj := List.mem_range.1 hj
  have h2 : okP a (m - 1 - j) = true := okBp_get h.1 (by omega)
  exact h2
theorem corner_bd {a : Nat → Nat → Int} {m : Nat} (h : f_valid a m = true) {j : Nat} (hj : j < m) : bd8 100 (a j) := by
  simp only [f_valid, Bool.and_eq_true] at h
  exact fun k hk => smallF_iff.1 (okBp_get h.1 hj) k hk
theorem step_at {a : Nat → Nat → Int} {m : Nat} (h : f_valid a m = true) {j : Nat} (hj : j < m) : ∀ k, k < 8 → stepsF a m j k = a ((j + 1) % m) k - a j k := fun k hk => by
  have h1 := corner_bd h hj k hk
  have h2 := corner_bd h (Nat.mod_lt (j + 1) (show 0 < m by omega)) k hk
  show W (a ((j + 1) % m) k + W (a j k * -1)) = _
  rw [w64_in (x := a j k * -1) (by omega) (by omega), w64_in (by omega) (by omega)]
  omega
theorem step_bk {a : Nat → Nat → Int} {m : Nat} (h : f_valid a m = true) {j : Nat} (hj : j < m) : ∀ k, k < 8 → stepsF (bkC a m) m j k = -stepsF a m ((m - 1 - j + m - 1) % m) k := fun k hk => by
  rw [step_at (valid_bk h) hj k hk, step_at h (Nat.mod_lt _ (by omega)) k hk]
  unfold bkC
  by_cases hl : j + 1 = m
  · rw [hl, Nat.mod_self, show m - 1 - j = 0 by omega, show 0 + m - 1 = m - 1 by omega, Nat.mod_eq_of_lt (show m - 1 < m by omega), show m - 1 + 1 = m by omega, Nat.mod_self]
    rw [show m - 1 - 0 = m - 1 by omega]
    omega
  · rw [Nat.mod_eq_of_lt (show j + 1 < m by omega), show m - 1 - j + m - 1 = m - 2 - j + m by omega, Nat.add_mod_right, Nat.mod_eq_of_lt (show m - 2 - j < m by omega), show m - 2 - j + 1 = m - 1 - j by omega, Nat.mod_eq_of_lt (show m - 1 - j < m by omega), show m - 1 - (j + 1) = m - 2 - j by omega]
    omega
theorem step_bk' {a : Nat → Nat → Int} {m : Nat} (h : f_valid a m = true) {j : Nat} (hj : j < m) : ∀ k, k < 8 → stepsF (bkC a m) m ((j + m - 1) % m) k = -stepsF a m (m - 1 - j) k := fun k hk => by
  rw [step_bk h (Nat.mod_lt _ (by omega)) k hk]
  congr 2
  by_cases h0 : j = 0
  · subst h0
    rw [show 0 + m - 1 = m - 1 by omega, Nat.mod_eq_of_lt (show m - 1 < m by omega), show m - 1 - (m - 1) + m - 1 = m - 1 by omega, Nat.mod_eq_of_lt (show m - 1 < m by omega)]
    omega
  · rw [show j + m - 1 = j - 1 + m by omega, Nat.add_mod_right, Nat.mod_eq_of_lt (show j - 1 < m by omega), show m - 1 - (j - 1) + m - 1 = m - 1 - j + m by omega, Nat.add_mod_right, Nat.mod_eq_of_lt (by omega)]

/-- A step's bend and what lies along, as signs; of the steps the other way round too. -/
noncomputable def crV (a : Nat → Nat → Int) (m i : Nat) : Int := SG (RE (stepsF a m ((i + m - 1) % m)) * IM (stepsF a m i) - IM (stepsF a m ((i + m - 1) % m)) * RE (stepsF a m i))
noncomputable def alV (a : Nat → Nat → Int) (m i : Nat) : Int := SG (RE (stepsF a m ((i + m - 1) % m)) * RE (stepsF a m i) + IM (stepsF a m ((i + m - 1) % m)) * IM (stepsF a m i))
noncomputable def upV (a : Nat → Nat → Int) (m i : Nat) : Bool := upB (RE (stepsF a m i)) (IM (stepsF a m i))
theorem bad_SG {a : Nat → Nat → Int} {m i : Nat} (h : f_valid a m = true) (hi : i < m) : badS alS crF sgn4 (stepsF a m) m i = (crV a m i == 0 && decide (alV a m i ≤ 0)) := by
  have hp := steps_bd h (Nat.mod_lt (i + m - 1) (show 0 < m by omega))
  have hq := steps_bd h hi
  have c := cross_SG hp hq
  unfold badS
  rw [alS_eq, show pvI i m = (i + m - 1) % m from rfl]
  have e1 : sgn4 (w4 (crF (w8 (stepsF a m ((i + m - 1) % m))) (w8 (stepsF a m i)))) = crV a m i := c.1
  rw [e1, c.2]
  rfl
theorem bd_w8 {p : Nat → Int} (h : bd8 200 p) : bd8 200 (w8 p) := fun k hk => by
  rw [w8_at _ k hk]
  exact h k hk
theorem con_SG {a : Nat → Nat → Int} {m i : Nat} (h : f_valid a m = true) (hi : i < m) : conS upF crF sgn4 (stepsF a m) m i = cT (decide (crV a m i > 0)) (decide (crV a m i < 0)) (upV a m ((i + m - 1) % m)) (upV a m i) := by
  have hp := steps_bd h (Nat.mod_lt (i + m - 1) (show 0 < m by omega))
  have hq := steps_bd h hi
  have c := cross_SG hp hq
  unfold conS
  rw [show pvI i m = (i + m - 1) % m from rfl]
  have e1 : sgn4 (w4 (crF (w8 (stepsF a m ((i + m - 1) % m))) (w8 (stepsF a m i)))) = crV a m i := c.1
  have u1 : upF (w8 (stepsF a m ((i + m - 1) % m))) = upV a m ((i + m - 1) % m) := up_SG (bd_w8 hp)
  have u2 : upF (w8 (stepsF a m i)) = upV a m i := up_SG (bd_w8 hq)
  rw [e1, u1, u2]
  rfl
theorem back_SG {a : Nat → Nat → Int} {m j : Nat} (h : f_valid a m = true) (hj : j < m) : crV (bkC a m) m j = -crV a m (m - 1 - j) ∧ alV (bkC a m) m j = alV a m (m - 1 - j) := by
  obtain ⟨r1, i1⟩ := neg_pt (step_bk h hj)
  obtain ⟨r2, i2⟩ := neg_pt (step_bk' h hj)
  unfold crV alV
  rw [r1, i1, r2, i2]
  generalize RE (stepsF a m ((m - 1 - j + m - 1) % m)) = x
  generalize IM (stepsF a m ((m - 1 - j + m - 1) % m)) = y
  generalize RE (stepsF a m (m - 1 - j)) = z
  generalize IM (stepsF a m (m - 1 - j)) = w
  constructor
  · rw [← SG_neg]
    congr 1
    grind
  · congr 1
    grind
theorem sumTo_Z (g : Nat → Int) : ∀ n : Nat, sumTo g n = sumZ g n
  | 0 => rfl
  | n + 1 => by rw [sumTo, sumZ, sumTo_Z g n]
theorem good_step {a : Nat → Nat → Int} {m i : Nat} (h : f_valid a m = true) (ht : turnsOk a m = true) (hi : i < m) : (RE (stepsF a m i) ≠ 0 ∨ IM (stepsF a m i) ≠ 0) ∧ (crV a m i = 0 → upV a m ((i + m - 1) % m) = upV a m i) := by
  have hb := noneTo_get ht hi
  rw [bad_SG h hi] at hb
  have key : crV a m i = 0 → alV a m i > 0 := fun h0 => by
    rw [h0] at hb
    by_cases h1 : alV a m i ≤ 0
    · rw [decide_eq_true h1] at hb
      cases hb
    · omega
  constructor
  · by_cases hx : RE (stepsF a m i) = 0
    · refine .inr fun hy => ?_
      have h1 : crV a m i = 0 := by
        unfold crV
        rw [hx, hy]
        refine SG_none.2 ?_
        grind
      have h2 : alV a m i = 0 := by
        unfold alV
        rw [hx, hy]
        refine SG_none.2 ?_
        grind
      have := key h1
      omega
    · exact .inl hx
  · intro h0
    exact up_same h0 (key h0)
/-- Turns are opposite the other way round. -/
theorem law_turns {a : Nat → Nat → Int} {m : Nat} (h : f_valid a m = true) (ht : turnsOk a m = true) : turnsOk (bkC a m) m = true ∧ turnsN (bkC a m) m = -turnsN a m := by
  have hv := valid_bk h
  have ok : turnsOk (bkC a m) m = true := noneTo_iff.2 fun j hj => by
    rw [bad_SG hv hj, (back_SG h hj).1, (back_SG h hj).2]
    have hb := noneTo_get ht (show m - 1 - j < m by omega)
    rw [bad_SG h (by omega)] at hb
    by_cases h0 : crV a m (m - 1 - j) = 0
    · rw [h0] at hb ⊢
      exact hb
    · rw [show (-crV a m (m - 1 - j) == 0) = false from beq_eq_false_iff_ne.2 (by omega)]
      rfl
  refine ⟨ok, ?_⟩
  rw [turnsN, turnsN, ok, ht, cond_true, cond_true, sumTo_Z, sumTo_Z]
  rw [sumZ_congr fun i hi => con_SG h hi, ← turns_back fun i hi => (good_step h ht hi).2]
  rw [← sumZ_rev (fun i => cT (decide (crV a m i < 0)) (decide (crV a m i > 0)) (!upV a m i) (!upV a m ((i + m - 1) % m))) m]
  refine sumZ_congr fun j hj => ?_
  rw [con_SG hv hj, (back_SG h hj).1]
  have hi : m - 1 - j < m := by omega
  have hp : (m - 1 - j + m - 1) % m < m := Nat.mod_lt _ (by omega)
  obtain ⟨r1, i1⟩ := neg_pt (step_bk h hj)
  obtain ⟨r2, i2⟩ := neg_pt (step_bk' h hj)
  have u1 : upV (bkC a m) m j = !upV a m ((m - 1 - j + m - 1) % m) := by
    unfold upV
    rw [r1, i1, up_neg (good_step h ht hp).1]
  have u2 : upV (bkC a m) m ((j + m - 1) % m) = !upV a m (m - 1 - j) := by
    unfold upV
    rw [r2, i2, up_neg (good_step h ht hi).1]
  rw [u1, u2]
  have d1 : decide (-crV a m (m - 1 - j) > 0) = decide (crV a m (m - 1 - j) < 0) := by
    rw [decide_eq_decide]; omega
  have d2 : decide (-crV a m (m - 1 - j) < 0) = decide (crV a m (m - 1 - j) > 0) := by
    rw [decide_eq_decide]; omega
  rw [d1, d2]

theorem sub_pt {p q r : Nat → Int} (h : ∀ k, k < 8 → p k = q k - r k) : RE p = RE q + -RE r ∧ IM p = IM q + -IM r := by
  have h0 := h 0 (by omega)
  have h1 := h 1 (by omega)
  have h2 := h 2 (by omega)
  have h3 := h 3 (by omega)
  have h4 := h 4 (by omega)
  have h5 := h 5 (by omega)
  have h6 := h 6 (by omega)
  have h7 := h 7 (by omega)
  constructor
  · refine Sd.ext ?_ ?_ ?_ ?_
    · show 4 * p 0 + 2 * p 4 = 4 * q 0 + 2 * q 4 + -(4 * r 0 + 2 * r 4); omega
    · show p 1 + 2 * p 3 - p 5 + p 7 = q 1 + 2 * q 3 - q 5 + q 7 + -(r 1 + 2 * r 3 - r 5 + r 7); omega
    · show 2 * p 2 = 2 * q 2 + -(2 * r 2); omega
    · show p 1 + p 5 - p 7 = q 1 + q 5 - q 7 + -(r 1 + r 5 - r 7); omega
  · refine Sd.ext ?_ ?_ ?_ ?_
    · show 2 * p 2 + 4 * p 6 = 2 * q 2 + 4 * q 6 + -(2 * r 2 + 4 * r 6); omega
    · show -p 1 + 2 * p 3 + p 5 + p 7 = -q 1 + 2 * q 3 + q 5 + q 7 + -(-r 1 + 2 * r 3 + r 5 + r 7); omega
    · show 2 * p 4 = 2 * q 4 + -(2 * r 4); omega
    · show p 1 + p 5 + p 7 = q 1 + q 5 + q 7 + -(r 1 + r 5 + r 7); omega
/-- The steps come back. -/
theorem steps_zero {a : Nat → Nat → Int} {m : Nat} (h : f_valid a m = true) : sumS (fun i => RE (stepsF a m i)) m = 0 ∧ sumS (fun i => IM (stepsF a m i)) m = 0 := by
  constructor
  · rw [sumS_congr (h := fun i => RE (a ((i + 1) % m)) + -RE (a i)) fun i hi => (sub_pt (step_at h hi)).1, sumS_add, sumS_neg, sumS_next (fun i => RE (a i))]
    grind
  · rw [sumS_congr (h := fun i => IM (a ((i + 1) % m)) + -IM (a i)) fun i hi => (sub_pt (step_at h hi)).2, sumS_add, sumS_neg, sumS_next (fun i => IM (a i))]
    grind
theorem valid_len {a : Nat → Nat → Int} {m : Nat} (h : f_valid a m = true) : 1 ≤ m ∧ m ≤ 48 := by
  simp only [f_valid, Bool.and_eq_true] at h
  have := inR_iff.1 h.2
  omega
theorem some_up {a : Nat → Nat → Int} {m : Nat} (h : f_valid a m = true) (ht : turnsOk a m = true) : (∃ i, i < m ∧ upV a m i = true) ∧ ∃ i, i < m ∧ upV a m i = false := by
  have hm := valid_len h
  have z := steps_zero h
  constructor
  · refine Classical.byContradiction fun hh => not_all_down (show 0 < m by omega) z.1 z.2 (fun i hi => (good_step h ht hi).1) fun i hi => ?_
    cases e : upV a m i with
    | true => exact (hh ⟨i, hi, e⟩).elim
    | false => exact e
  · refine Classical.byContradiction fun hh => not_all_up (show 0 < m by omega) z.1 z.2 fun i hi => ?_
    cases e : upV a m i with
    | false => exact (hh ⟨i, hi, e⟩).elim
    | true => exact e
theorem bend_SG {a : Nat → Nat → Int} {m i : Nat} (h : f_valid a m = true) (hi : i < m) : bendsF (stepsF a m) m i = crV a m i := (cross_SG (steps_bd h (Nat.mod_lt (i + m - 1) (show 0 < m by omega))) (steps_bd h hi)).1
/-- All to the left: at least one turn. -/
theorem law_left {a : Nat → Nat → Int} {m : Nat} (h : f_valid a m = true) (ht : turnsOk a m = true) (hl : ∀ i, i < m → 0 ≤ bendsF (stepsF a m) m i) : 1 ≤ turnsN a m := by
  obtain ⟨hu, hd⟩ := some_up h ht
  rw [turnsN, ht, cond_true, sumTo_Z, sumZ_congr fun i hi => con_SG h hi]
  exact turns_left (fun i hi => (good_step h ht hi).2) (fun i hi => by rw [← bend_SG h hi]; exact hl i hi) hu hd
/-- Bends are opposite the other way round. -/
theorem law_bends {a : Nat → Nat → Int} {m j : Nat} (h : f_valid a m = true) (hj : j < m) : bendsF (stepsF (bkC a m) m) m j = -bendsF (stepsF a m) m (m - 1 - j) := by
  rw [bend_SG (valid_bk h) hj, bend_SG h (by omega), (back_SG h hj).1]

end Go.Proofs.Ytoligfhcogligaa

/- Plain laws of polygons: convex ones are wound around at most once. No program, no conditions. -/
namespace Go.Proofs.Ytoligfhcogligaa
open Go.RowKit
set_option maxRecDepth 100000

theorem sumZ_next (g : Nat → Int) : ∀ n : Nat, sumZ (fun i => g ((i + 1) % n)) n = sumZ g n
  | 0 => rfl
  | n + 1 => by
    rw [sumZ, sumZ_first g n, Nat.mod_self, sumZ_congr (h := fun i => g (i + 1)) fun i hi => by rw [Nat.mod_eq_of_lt (show i + 1 < n + 1 by omega)]]
    omega
theorem pass_next (f : Nat → Bool) (n : Nat) : sumZ (fun i => b2i (f i && !f ((i + 1) % n))) n = sumZ (fun i => b2i (!f i && f ((i + 1) % n))) n := by
  have e : sumZ (fun i => b2i (f i) + -b2i (f ((i + 1) % n))) n = 0 := by
    rw [sumZ_add, sumZ_neg, sumZ_next (fun i => b2i (f i))]
    omega
  have e2 : sumZ (fun i => b2i (f i && !f ((i + 1) % n)) + -b2i (!f i && f ((i + 1) % n))) n = 0 := by
    refine Eq.trans (sumZ_congr fun i _ => ?_) e
    cases f i <;> cases f ((i + 1) % n) <;> decide
  rw [sumZ_add, sumZ_neg] at e2
  omega
theorem sumZ_le {g h : Nat → Int} : ∀ {n : Nat}, (∀ i, i < n → g i ≤ h i) → sumZ g n ≤ sumZ h n
  | 0, _ => Int.le_refl _
  | n + 1, e => by
    have := sumZ_le (n := n) fun i hi => e i (by omega)
    have := e n (by omega)
    rw [sumZ, sumZ]
    omega
/-- A corner above a height. -/
noncomputable def abV (a : Nat → Nat → Int) (y : Sd) (i : Nat) : Bool := decide (SG (IM (a i) + -y) > 0)
theorem pass_turns {a : Nat → Nat → Int} {m : Nat} (h : f_valid a m = true) (y : Sd) : sumZ (fun i => b2i (!abV a y i && abV a y ((i + 1) % m))) m ≤ sumZ (fun i => b2i (!upV a m ((i + m - 1) % m) && upV a m i)) m := by
  refine pass_le (fun i hi hu hf => ?_) fun i hi hu hf => ?_
  · have hs := up_nn hu
    have e := (sub_pt (step_at h hi)).2
    have hf := of_decide_eq_true hf
    have := SG_add hs hf
    rw [show IM (stepsF a m i) + (IM (a i) + -y) = IM (a ((i + 1) % m)) + -y by rw [e]; grind] at this
    exact decide_eq_true (by omega)
  · have hs := up_no hu
    have e := (sub_pt (step_at h hi)).2
    have hf := of_decide_eq_true hf
    have := SG_add (z := -IM (stepsF a m i)) (by rw [SG_neg]; omega) hf
    rw [show -IM (stepsF a m i) + (IM (a ((i + 1) % m)) + -y) = IM (a i) + -y by rw [e]; grind] at this
    exact decide_eq_true (by omega)
/-- Equal bends and one turn: one passage up of the direction. -/
theorem one_up {a : Nat → Nat → Int} {m : Nat} (h : f_valid a m = true) (ht : turnsOk a m = true) (h1 : turnsN a m = 1 ∨ turnsN a m = -1) (hb : ∀ i, i < m → bendsF (stepsF a m) m i = turnsN a m) : sumZ (fun i => b2i (!upV a m ((i + m - 1) % m) && upV a m i)) m = 1 := by
  have e : turnsN a m = sumZ (fun i => cT (decide (crV a m i > 0)) (decide (crV a m i < 0)) (upV a m ((i + m - 1) % m)) (upV a m i)) m := by
    rw [turnsN, ht, cond_true, sumTo_Z, sumZ_congr fun i hi => con_SG h hi]
  have hc : ∀ i, i < m → crV a m i = turnsN a m := fun i hi => by rw [← bend_SG h hi, hb i hi]
  rcases h1 with h1 | h1
  · rw [h1] at e hc
    rw [e]
    refine sumZ_congr fun i hi => ?_
    rw [hc i hi]
    cases upV a m ((i + m - 1) % m) <;> cases upV a m i <;> decide
  · rw [h1] at e hc
    have s := pass_same (upV a m) m
    have e2 : sumZ (fun i => b2i (!upV a m i && upV a m ((i + m - 1) % m))) m = 1 := by
      have e3 : -sumZ (fun i => b2i (!upV a m i && upV a m ((i + m - 1) % m))) m = -1 := by
        rw [e, ← sumZ_neg]
        refine sumZ_congr fun i hi => ?_
        rw [hc i hi]
        cases upV a m ((i + m - 1) % m) <;> cases upV a m i <;> decide
      omega
    rw [e2] at s
    rw [← s]
    refine sumZ_congr fun i _ => ?_
    rw [Bool.and_comm]
/-- How often a polygon winds, by sides: never more than the passages of a height. -/
theorem law_wind {a : Nat → Nat → Int} {m : Nat} (h : f_valid a m = true) (ht : turnsOk a m = true) (h1 : turnsN a m = 1 ∨ turnsN a m = -1) (hb : ∀ i, i < m → bendsF (stepsF a m) m i = turnsN a m) (y : Sd) (s : Nat → Int) :
    -1 ≤ sumZ (fun i => cT (decide (s i > 0)) (decide (s i < 0)) (abV a y i) (abV a y ((i + 1) % m))) m ∧ sumZ (fun i => cT (decide (s i > 0)) (decide (s i < 0)) (abV a y i) (abV a y ((i + 1) % m))) m ≤ 1 := by
  have p := pass_turns h y
  rw [one_up h ht h1 hb] at p
  have q := pass_next (abV a y) m
  have hi : sumZ (fun i => cT (decide (s i > 0)) (decide (s i < 0)) (abV a y i) (abV a y ((i + 1) % m))) m ≤ sumZ (fun i => b2i (!abV a y i && abV a y ((i + 1) % m))) m := sumZ_le fun i _ => by
    cases decide (s i > 0) <;> cases decide (s i < 0) <;> cases abV a y i <;> cases abV a y ((i + 1) % m) <;> decide
  have lo : sumZ (fun i => -b2i (abV a y i && !abV a y ((i + 1) % m))) m ≤ sumZ (fun i => cT (decide (s i > 0)) (decide (s i < 0)) (abV a y i) (abV a y ((i + 1) % m))) m := sumZ_le fun i _ => by
    cases decide (s i > 0) <;> cases decide (s i < 0) <;> cases abV a y i <;> cases abV a y ((i + 1) % m) <;> decide
  rw [sumZ_neg] at lo
  omega
/-- Windings are opposite the other way round. -/
theorem law_windback {a : Nat → Nat → Int} {m : Nat} (y : Sd) (s s' : Nat → Int) (hs : ∀ j, j < m → s' j = -s ((m - 1 - j + m - 1) % m)) :
    sumZ (fun j => cT (decide (s' j > 0)) (decide (s' j < 0)) (abV (bkC a m) y j) (abV (bkC a m) y ((j + 1) % m))) m = -sumZ (fun i => cT (decide (s i > 0)) (decide (s i < 0)) (abV a y i) (abV a y ((i + 1) % m))) m := by
  rw [← sumZ_neg, ← sumZ_prev (fun i => -cT (decide (s i > 0)) (decide (s i < 0)) (abV a y i) (abV a y ((i + 1) % m))) m]
  rw [← sumZ_rev (fun i => -cT (decide (s ((i + m - 1) % m) > 0)) (decide (s ((i + m - 1) % m) < 0)) (abV a y ((i + m - 1) % m)) (abV a y (((i + m - 1) % m + 1) % m))) m]
  refine sumZ_congr fun j hj => ?_
  rw [hs j hj, ← wind_one]
  have e1 : ((m - 1 - j + m - 1) % m + 1) % m = m - 1 - j := by
    by_cases h0 : m - 1 - j = 0
    · rw [h0, show 0 + m - 1 = m - 1 by omega, Nat.mod_eq_of_lt (show m - 1 < m by omega), show m - 1 + 1 = m by omega, Nat.mod_self]
    · rw [show m - 1 - j + m - 1 = m - 1 - j - 1 + m by omega, Nat.add_mod_right, Nat.mod_eq_of_lt (show m - 1 - j - 1 < m by omega), show m - 1 - j - 1 + 1 = m - 1 - j by omega, Nat.mod_eq_of_lt (by omega)]
  have e2 : m - 1 - (j + 1) % m = (m - 1 - j + m - 1) % m := by
    by_cases hl : j + 1 = m
    · rw [hl, Nat.mod_self, show m - 1 - j = 0 by omega, show 0 + m - 1 = m - 1 by omega, Nat.mod_eq_of_lt (show m - 1 < m by omega)]
      omega
    · rw [Nat.mod_eq_of_lt (show j + 1 < m by omega), show m - 1 - j + m - 1 = m - 2 - j + m by omega, Nat.add_mod_right, Nat.mod_eq_of_lt (by omega)]
      omega
  rw [e1]
  show cT _ _ (decide (SG (IM (a (m - 1 - j)) + -y) > 0)) (decide (SG (IM (a (m - 1 - (j + 1) % m)) + -y) > 0)) = _
  rw [e2]
  rfl

end Go.Proofs.Ytoligfhcogligaa

/- Plain geometry: how often a way turns round does not depend on the direction it is counted at. No program, no conditions. -/
namespace Go.Proofs.Ytoligfhcogligaa
open Go.RowKit

/-- A direction, above as seen along another one. -/
noncomputable def uD (dx dy x y : Sd) : Bool := upB (dx * x + dy * y) (dx * y - dy * x)
theorem upB_no {x y : Sd} (h : SG y = 0) : upB x y = decide (SG x > 0) := by
  unfold upB
  rw [h]
  rfl
theorem upB_yes {x y : Sd} (h : SG y = 1) : upB x y = true := by
  unfold upB
  rw [h]
  rfl
theorem nz_of {x y : Sd} (h : SG (x * x + y * y) = 1) : x ≠ 0 ∨ y ≠ 0 := by
  by_cases hx : x = 0
  · refine .inr fun hy => ?_
    rw [hx, hy, show (0 : Sd) * 0 + 0 * 0 = 0 by grind, SG_zero] at h
    omega
  · exact .inl hx
theorem prod_nz {a b x y : Sd} (hd : SG (a * a + b * b) = 1) (hs : SG (x * x + y * y) = 1) : a * x + b * y ≠ 0 ∨ a * y - b * x ≠ 0 := by
  refine nz_of ?_
  rw [show (a * x + b * y) * (a * x + b * y) + (a * y - b * x) * (a * y - b * x) = (a * a + b * b) * (x * x + y * y) by grind, SG_mul, hd, hs]
  rfl
theorem uD_neg {a b x y : Sd} (hd : SG (a * a + b * b) = 1) (hs : SG (x * x + y * y) = 1) : uD (-a) (-b) x y = !uD a b x y := by
  unfold uD
  rw [show -a * x + -b * y = -(a * x + b * y) by grind, show -a * y - -b * x = -(a * y - b * x) by grind]
  exact up_neg (prod_nz hd hs)
theorem uD_neg' {a b x y : Sd} (hd : SG (a * a + b * b) = 1) (hs : SG (x * x + y * y) = 1) : uD a b (-x) (-y) = !uD a b x y := by
  unfold uD
  rw [show a * -x + b * -y = -(a * x + b * y) by grind, show a * -y - b * -x = -(a * y - b * x) by grind]
  exact up_neg (prod_nz hd hs)
theorem same_dir {a b c d x y : Sd} (hd : SG (a * a + b * b) = 1) (h0 : SG (a * d - b * c) = 0) (h1 : SG (a * c + b * d) = 1) : uD c d x y = uD a b x y := by
  have h0 := SG_none.1 h0
  have e1 : SG (c * y - d * x) = SG (a * y - b * x) := by
    have e : (a * a + b * b) * (c * y - d * x) = (a * c + b * d) * (a * y - b * x) := by
      have : (a * a + b * b) * (c * y - d * x) = (a * c + b * d) * (a * y - b * x) - (a * d - b * c) * (a * x + b * y) := by grind
      rw [this, h0]
      grind
    have := congrArg SG e
    rw [SG_mul, SG_mul, hd, h1] at this
    omega
  have e2 : SG (c * x + d * y) = SG (a * x + b * y) := by
    have e : (a * a + b * b) * (c * x + d * y) = (a * c + b * d) * (a * x + b * y) := by
      have : (a * a + b * b) * (c * x + d * y) = (a * c + b * d) * (a * x + b * y) + (a * d - b * c) * (a * y - b * x) := by grind
      rw [this, h0]
      grind
    have := congrArg SG e
    rw [SG_mul, SG_mul, hd, h1] at this
    omega
  unfold uD upB
  rw [e1, e2]
theorem mul_sgn {p q : Int} (h1 : p = -1 ∨ p = 0 ∨ p = 1) (h2 : q = -1 ∨ q = 0 ∨ q = 1) (hp : p ≤ 0) (hq : 0 ≤ q) : p * q ≤ 0 := by
  rcases h1 with rfl | rfl | rfl <;> rcases h2 with rfl | rfl | rfl <;> simp at *
/-- Not back, in one half. -/
theorem no_back {a b c d x y z w : Sd} (hd : SG (a * a + b * b) = 1) (h1 : uD a b c d = true) (hs : uD a b x y = true) (ht : uD a b z w = true) (hs' : uD c d x y = true) (ht' : uD c d z w = false) (hc : SG (x * w - y * z) = 1) : False := by
  have k1 := up_nn h1
  have k2 := up_nn hs
  have k3 := up_nn ht
  have k4 := up_nn hs'
  have k5 := up_no ht'
  have e : (x * w - y * z) * (a * d - b * c) = (c * w - d * z) * (a * y - b * x) + -((c * y - d * x) * (a * w - b * z)) := by grind
  have n1 : NN (-((c * w - d * z) * (a * y - b * x))) := by
    refine SG_nn.1 ?_
    rw [SG_neg, SG_mul]
    have := mul_sgn (SG_range _) (SG_range _) k5 k2
    omega
  have n2 : NN ((c * y - d * x) * (a * w - b * z)) := (SG_nn.1 k4).mul (SG_nn.1 k3)
  have n3 : NN ((x * w - y * z) * (a * d - b * c)) := by
    refine SG_nn.1 ?_
    rw [SG_mul, hc]
    omega
  have z0 : (x * w - y * z) * (a * d - b * c) = 0 := n3.anti (by
    rw [show -((x * w - y * z) * (a * d - b * c)) = -((c * w - d * z) * (a * y - b * x)) + (c * y - d * x) * (a * w - b * z) by rw [e]; grind]
    exact n1.add n2)
  have s0 : SG (a * d - b * c) = 0 := by
    have := congrArg SG z0
    rw [SG_mul, hc, SG_zero] at this
    omega
  have s1 : SG (a * c + b * d) = 1 := by
    unfold uD at h1
    rw [upB_no s0, decide_eq_true_eq] at h1
    have := SG_range (a * c + b * d)
    omega
  rw [same_dir hd s0 s1, ht] at ht'
  cases ht'
theorem no_back2 {a b c d x y z w : Sd} (hd : SG (a * a + b * b) = 1) (hd' : SG (c * c + d * d) = 1) (hs0 : SG (x * x + y * y) = 1) (ht0 : SG (z * z + w * w) = 1) (h1 : uD a b c d = true) (hs : uD a b x y = false) (hs' : uD c d x y = true) (ht : uD a b z w = true) (ht' : uD c d z w = true) (hc : SG (x * w - y * z) = 1) : False := by
  have k1 := up_nn h1
  by_cases s0 : SG (a * d - b * c) = 0
  · have s1 : SG (a * c + b * d) = 1 := by
      unfold uD at h1
      rw [upB_no s0, decide_eq_true_eq] at h1
      have := SG_range (a * c + b * d)
      omega
    rw [same_dir hd s0 s1, hs] at hs'
    cases hs'
  · have s1 : SG (a * d - b * c) = 1 := by have := SG_range (a * d - b * c); omega
    refine no_back (a := c) (b := d) (c := -a) (d := -b) hd' ?_ hs' ht' (by rw [uD_neg hd hs0, hs]; rfl) (by rw [uD_neg hd ht0, ht]; rfl) hc
    unfold uD
    refine upB_yes ?_
    rw [show c * -b - d * -a = a * d - b * c by grind]
    exact s1
/-- One turn to the left, as two directions count it. -/
theorem count_one {a b c d x y z w : Sd} (hd : SG (a * a + b * b) = 1) (hd' : SG (c * c + d * d) = 1) (hs0 : SG (x * x + y * y) = 1) (ht0 : SG (z * z + w * w) = 1) (h1 : uD a b c d = true) (hc : SG (x * w - y * z) = 1) :
    b2i (!uD a b x y && uD a b z w) + -b2i (!uD c d x y && uD c d z w) = b2i (uD a b z w && !uD c d z w) - b2i (uD a b x y && !uD c d x y) := by
  have n1 := fun p q r s => no_back (x := x) (y := y) (z := z) (w := w) hd h1 p q r s hc
  have n2 := fun p q r s => no_back2 hd hd' hs0 ht0 h1 p q r s hc
  have hs1 : SG (-x * -x + -y * -y) = 1 := by rw [show -x * -x + -y * -y = x * x + y * y by grind]; exact hs0
  have ht1 : SG (-z * -z + -w * -w) = 1 := by rw [show -z * -z + -w * -w = z * z + w * w by grind]; exact ht0
  have hc1 : SG (-x * -w - -y * -z) = 1 := by rw [show -x * -w - -y * -z = x * w - y * z by grind]; exact hc
  have n3 := fun p q r s => no_back (x := -x) (y := -y) (z := -z) (w := -w) hd h1 p q r s hc1
  have n4 := fun p q r s => no_back2 (x := -x) (y := -y) (z := -z) (w := -w) hd hd' hs1 ht1 h1 p q r s hc1
  rw [uD_neg' hd hs0, uD_neg' hd ht0, uD_neg' hd' hs0, uD_neg' hd' ht0] at n3 n4
  generalize uD a b x y = p at *
  generalize uD a b z w = q at *
  generalize uD c d x y = p' at *
  generalize uD c d z w = q' at *
  cases p <;> cases p' <;> cases q <;> cases q' <;> first | decide | exact (n1 rfl rfl rfl rfl).elim | exact (n2 rfl rfl rfl rfl).elim | exact (n3 rfl rfl rfl rfl).elim | exact (n4 rfl rfl rfl rfl).elim
/-- The count does not depend on the direction. -/
theorem count_same {X Y : Nat → Sd} {n : Nat} {a b c d : Sd} (hd : SG (a * a + b * b) = 1) (hd' : SG (c * c + d * d) = 1) (hz : ∀ i, i < n → SG (X i * X i + Y i * Y i) = 1) (hc : ∀ i, i < n → SG (X ((i + n - 1) % n) * Y i - Y ((i + n - 1) % n) * X i) = 1) :
    sumZ (fun i => b2i (!uD a b (X ((i + n - 1) % n)) (Y ((i + n - 1) % n)) && uD a b (X i) (Y i))) n = sumZ (fun i => b2i (!uD c d (X ((i + n - 1) % n)) (Y ((i + n - 1) % n)) && uD c d (X i) (Y i))) n := by
  have key : ∀ {c d : Sd}, SG (c * c + d * d) = 1 → uD a b c d = true → sumZ (fun i => b2i (!uD a b (X ((i + n - 1) % n)) (Y ((i + n - 1) % n)) && uD a b (X i) (Y i))) n = sumZ (fun i => b2i (!uD c d (X ((i + n - 1) % n)) (Y ((i + n - 1) % n)) && uD c d (X i) (Y i))) n := by
    intro c d hd' h1
    have e : sumZ (fun i => b2i (!uD a b (X ((i + n - 1) % n)) (Y ((i + n - 1) % n)) && uD a b (X i) (Y i)) + -b2i (!uD c d (X ((i + n - 1) % n)) (Y ((i + n - 1) % n)) && uD c d (X i) (Y i))) n = 0 := by
      refine Eq.trans (sumZ_congr fun i hi => ?_) (round_zero (fun i => uD a b (X i) (Y i) && !uD c d (X i) (Y i)) n)
      exact count_one hd hd' (hz _ (Nat.mod_lt _ (by omega))) (hz i hi) h1 (hc i hi)
    rw [sumZ_add, sumZ_neg] at e
    omega
  cases h1 : uD a b c d with
  | true => exact key hd' h1
  | false =>
    have hn : SG (-c * -c + -d * -d) = 1 := by rw [show -c * -c + -d * -d = c * c + d * d by grind]; exact hd'
    rw [key hn (by rw [uD_neg' hd hd', h1]; rfl)]
    have e : sumZ (fun i => b2i (!uD (-c) (-d) (X ((i + n - 1) % n)) (Y ((i + n - 1) % n)) && uD (-c) (-d) (X i) (Y i))) n = sumZ (fun i => b2i (!uD c d (X i) (Y i) && uD c d (X ((i + n - 1) % n)) (Y ((i + n - 1) % n)))) n := sumZ_congr fun i hi => by
      rw [uD_neg hd' (hz _ (Nat.mod_lt _ (by omega))), uD_neg hd' (hz i hi), Bool.not_not, Bool.and_comm]
    rw [e, ← pass_same (fun i => uD c d (X i) (Y i)) n]
    exact sumZ_congr fun i _ => by rw [Bool.and_comm]

end Go.Proofs.Ytoligfhcogligaa

/- Plain geometry: a way that always bends to the left and turns once goes round an area to its left. No program, no conditions. -/
namespace Go.Proofs.Ytoligfhcogligaa
open Go.RowKit

theorem sumZ_cut (g : Nat → Int) (k : Nat) : ∀ n : Nat, k < n → sumZ (fun i => if i = k then 0 else g i) n = sumZ g n - g k
  | 0, h => absurd h (Nat.not_lt_zero _)
  | n + 1, h => by
    show sumZ (fun i => if i = k then 0 else g i) n + (if n = k then 0 else g n) = sumZ g n + g n - g k
    by_cases hk : n = k
    · subst hk
      rw [if_pos rfl, sumZ_congr (h := g) fun i hi => if_neg (by omega)]
      omega
    · rw [if_neg hk, sumZ_cut g k n (by omega)]
      omega
theorem sumZ_only {g : Nat → Int} {n k : Nat} (h : ∀ i, i < n → 0 ≤ g i) (hk : k < n) (e : sumZ g n = g k) : ∀ i, i < n → i ≠ k → g i = 0 := fun i hi hne => by
  have z := sumZ_zero (g := fun i => if i = k then 0 else g i) (n := n) (fun i hi => by
    show 0 ≤ if i = k then 0 else g i
    split
    · omega
    · exact h i hi) (by rw [sumZ_cut g k n hk]; omega) i hi
  rw [if_neg hne] at z
  exact z
/-- Up first and then down, and back: never below. -/
theorem hill {U : Nat → Bool} {H D : Nat → Sd} {n : Nat} (hU : ∀ t, t + 1 < n → U t = false → U (t + 1) = false) (hs : ∀ t, t < n → H (t + 1) = H t + D t) (hu : ∀ t, t < n → U t = true → NN (D t)) (hd : ∀ t, t < n → U t = false → NN (-D t)) (h0 : H 0 = 0) (hn : H n = 0) : ∀ t, t ≤ n → NN (H t) := fun t ht => by
  by_cases hall : ∀ s, s < t → U s = true
  · have : ∀ s, s ≤ t → NN (H s) := by
      intro s
      induction s with
      | zero => intro _; rw [h0]; exact NN.zero
      | succ s ih =>
        intro hst
        rw [hs s (by omega)]
        exact (ih (by omega)).add (hu s (by omega) (hall s (by omega)))
    exact this t (Nat.le_refl _)
  · obtain ⟨s, hs1⟩ := Classical.not_forall.1 hall
    have hst : s < t := Classical.byContradiction fun h => hs1 fun h' => (h h').elim
    have hUs : U s = false := by
      cases e : U s with
      | false => rfl
      | true => exact (hs1 fun _ => e).elim
    have down : ∀ r, s ≤ r → r < n → U r = false := by
      intro r
      induction r with
      | zero =>
        intro h1 _
        have : s = 0 := by omega
        subst this
        exact hUs
      | succ r ih =>
        intro h1 h2
        by_cases e : s = r + 1
        · rw [← e]; exact hUs
        · exact hU r h2 (ih (by omega) (by omega))
    have back : ∀ r, s ≤ n - r → r ≤ n → NN (H (n - r)) := by
      intro r
      induction r with
      | zero => intro _ _; rw [Nat.sub_zero, hn]; exact NN.zero
      | succ r ih =>
        intro h1 h2
        have e := hs (n - (r + 1)) (by omega)
        rw [show n - (r + 1) + 1 = n - r by omega] at e
        rw [show H (n - (r + 1)) = H (n - r) + -D (n - (r + 1)) by rw [e]; grind]
        exact (ih (by omega) (by omega)).add (hd _ (by omega) (down _ h1 (by omega)))
    have := back (n - t) (by omega) (by omega)
    rwa [show n - (n - t) = t by omega] at this
/-- All corners lie to the left of each side. -/
theorem all_left {vx vy X Y : Nat → Sd} {n : Nat} (hX : ∀ i, i < n → X i = vx ((i + 1) % n) + -vx i) (hY : ∀ i, i < n → Y i = vy ((i + 1) % n) + -vy i) (hz : ∀ i, i < n → SG (X i * X i + Y i * Y i) = 1) (hc : ∀ i, i < n → SG (X ((i + n - 1) % n) * Y i - Y ((i + n - 1) % n) * X i) = 1)
    (h1 : sumZ (fun i => b2i (!upB (X ((i + n - 1) % n)) (Y ((i + n - 1) % n)) && upB (X i) (Y i))) n = 1) {k j : Nat} (hk : k < n) (hj : j < n) : NN (X k * (vy j - vy k) - Y k * (vx j - vx k)) := by
  have one : SG ((1 : Sd) * 1 + 0 * 0) = 1 := by
    rw [show ((1 : Sd) * 1 + 0 * 0) = ⟨1, 0, 0, 0⟩ from rfl, SG_int]
    rfl
  have ereal : ∀ x y : Sd, uD 1 0 x y = upB x y := fun x y => by
    unfold uD
    rw [show (1 : Sd) * x + 0 * y = x by grind, show (1 : Sd) * y - 0 * x = y by grind]
  have cnt : sumZ (fun i => b2i (!uD (X k) (Y k) (X ((i + n - 1) % n)) (Y ((i + n - 1) % n)) && uD (X k) (Y k) (X i) (Y i))) n = 1 := by
    rw [← count_same one (hz k hk) hz hc, ← h1]
    exact sumZ_congr fun i _ => by rw [ereal, ereal]
  have uk : uD (X k) (Y k) (X k) (Y k) = true := by
    unfold uD
    rw [upB_no (by rw [show X k * Y k - Y k * X k = 0 by grind, SG_zero]), hz k hk]
    rfl
  have uk1 : uD (X k) (Y k) (X ((k + n - 1) % n)) (Y ((k + n - 1) % n)) = false := by
    cases e : uD (X k) (Y k) (X ((k + n - 1) % n)) (Y ((k + n - 1) % n)) with
    | false => rfl
    | true =>
      have := up_nn e
      have c := hc k hk
      rw [show X k * Y ((k + n - 1) % n) - Y k * X ((k + n - 1) % n) = -(X ((k + n - 1) % n) * Y k - Y ((k + n - 1) % n) * X k) by grind, SG_neg, c] at this
      omega
  have gk : b2i (!uD (X k) (Y k) (X ((k + n - 1) % n)) (Y ((k + n - 1) % n)) && uD (X k) (Y k) (X k) (Y k)) = 1 := by rw [uk, uk1]; rfl
  have only := sumZ_only (g := fun i => b2i (!uD (X k) (Y k) (X ((i + n - 1) % n)) (Y ((i + n - 1) % n)) && uD (X k) (Y k) (X i) (Y i))) (n := n) (k := k) (fun i _ => by
    show 0 ≤ b2i _
    unfold b2i
    cases (!uD (X k) (Y k) (X ((i + n - 1) % n)) (Y ((i + n - 1) % n)) && uD (X k) (Y k) (X i) (Y i)) <;> decide) hk (by rw [cnt]; exact gk.symm)
  have res := hill (U := fun t => uD (X k) (Y k) (X ((k + t) % n)) (Y ((k + t) % n))) (H := fun t => X k * (vy ((k + t) % n) - vy k) - Y k * (vx ((k + t) % n) - vx k)) (D := fun t => X k * Y ((k + t) % n) - Y k * X ((k + t) % n)) (n := n) ?_ ?_ ?_ ?_ ?_ ?_ ((j + n - k) % n) (Nat.le_of_lt (Nat.mod_lt _ (by omega)))
  · have e : (k + (j + n - k) % n) % n = j := by
      rw [Nat.add_mod_mod, show k + (j + n - k) = j + n by omega, Nat.add_mod_right, Nat.mod_eq_of_lt hj]
    simp only [e] at res
    exact res
  · intro t ht hf
    have hf : uD (X k) (Y k) (X ((k + t) % n)) (Y ((k + t) % n)) = false := hf
    have ep : ((k + (t + 1)) % n + n - 1) % n = (k + t) % n := by
      have h1 := Nat.div_add_mod (k + (t + 1)) n
      by_cases hm0 : (k + (t + 1)) % n = 0
      · rw [hm0, show 0 + n - 1 = n - 1 by omega, Nat.mod_eq_of_lt (show n - 1 < n by omega)]
        have e1 : k + (t + 1) = n := by
          have hd : n ∣ k + (t + 1) := Nat.dvd_of_mod_eq_zero hm0
          obtain ⟨q, hq⟩ := hd
          rcases Nat.lt_or_ge q 2 with h | h
          · rcases (by omega : q = 0 ∨ q = 1) with rfl | rfl <;> omega
          · have := Nat.mul_le_mul_left n h
            omega
        rw [show k + t = n - 1 by omega, Nat.mod_eq_of_lt (show n - 1 < n by omega)]
      · have hlt := Nat.mod_lt (k + (t + 1)) (show 0 < n by omega)
        rw [show (k + (t + 1)) % n + n - 1 = (k + (t + 1)) % n - 1 + n by omega, Nat.add_mod_right, Nat.mod_eq_of_lt (show (k + (t + 1)) % n - 1 < n by omega)]
        rcases Nat.lt_or_ge (k + (t + 1)) n with h | h
        · rw [Nat.mod_eq_of_lt h, Nat.mod_eq_of_lt (show k + t < n by omega)]
          omega
        · rw [Nat.mod_eq_sub_mod h, Nat.mod_eq_of_lt (show k + (t + 1) - n < n by omega)]
          rw [Nat.mod_eq_sub_mod h, Nat.mod_eq_of_lt (show k + (t + 1) - n < n by omega)] at hm0
          rw [Nat.mod_eq_sub_mod (show k + t ≥ n by omega), Nat.mod_eq_of_lt (show k + t - n < n by omega)]
          omega
    have hne : (k + (t + 1)) % n ≠ k := by
      rcases Nat.lt_or_ge (k + (t + 1)) n with h | h
      · rw [Nat.mod_eq_of_lt h]; omega
      · rw [Nat.mod_eq_sub_mod h, Nat.mod_eq_of_lt (show k + (t + 1) - n < n by omega)]
        omega
    have o := only ((k + (t + 1)) % n) (Nat.mod_lt _ (by omega)) hne
    simp only [ep, hf, Bool.not_false, Bool.true_and] at o
    show uD (X k) (Y k) (X ((k + (t + 1)) % n)) (Y ((k + (t + 1)) % n)) = false
    cases e : uD (X k) (Y k) (X ((k + (t + 1)) % n)) (Y ((k + (t + 1)) % n)) with
    | false => rfl
    | true => rw [e] at o; cases o
  · intro t ht
    have e : ((k + t) % n + 1) % n = (k + (t + 1)) % n := by rw [Nat.mod_add_mod]; rfl
    have ex := hX ((k + t) % n) (Nat.mod_lt _ (by omega))
    have ey := hY ((k + t) % n) (Nat.mod_lt _ (by omega))
    rw [e] at ex ey
    show X k * (vy ((k + (t + 1)) % n) - vy k) - Y k * (vx ((k + (t + 1)) % n) - vx k) = X k * (vy ((k + t) % n) - vy k) - Y k * (vx ((k + t) % n) - vx k) + (X k * Y ((k + t) % n) - Y k * X ((k + t) % n))
    generalize X k = p at *
    generalize Y k = q at *
    rw [ex, ey]
    grind
  · intro t _ h
    exact SG_nn.1 (up_nn h)
  · intro t _ h
    have := up_no h
    refine SG_nn.1 ?_
    rw [SG_neg]
    omega
  · show X k * (vy ((k + 0) % n) - vy k) - Y k * (vx ((k + 0) % n) - vx k) = 0
    rw [Nat.add_zero, Nat.mod_eq_of_lt hk]
    grind
  · show X k * (vy ((k + n) % n) - vy k) - Y k * (vx ((k + n) % n) - vx k) = 0
    rw [Nat.add_mod_right, Nat.mod_eq_of_lt hk]
    grind

end Go.Proofs.Ytoligfhcogligaa

/- Plain geometry: the area of a way that always bends to the left and turns once is above nothing. No program, no conditions. -/
namespace Go.Proofs.Ytoligfhcogligaa
open Go.RowKit

theorem sumS_mul (c : Sd) (g : Nat → Sd) : ∀ n : Nat, sumS (fun i => c * g i) n = c * sumS g n
  | 0 => by show (0 : Sd) = c * 0; grind
  | n + 1 => by
    show sumS (fun i => c * g i) n + c * g n = c * (sumS g n + g n)
    rw [sumS_mul c g n]
    grind
theorem area_left {vx vy X Y : Nat → Sd} {n : Nat} (hn : 2 ≤ n) (hX : ∀ i, i < n → X i = vx ((i + 1) % n) + -vx i) (hY : ∀ i, i < n → Y i = vy ((i + 1) % n) + -vy i) (hz : ∀ i, i < n → SG (X i * X i + Y i * Y i) = 1) (hc : ∀ i, i < n → SG (X ((i + n - 1) % n) * Y i - Y ((i + n - 1) % n) * X i) = 1)
    (h1 : sumZ (fun i => b2i (!upB (X ((i + n - 1) % n)) (Y ((i + n - 1) % n)) && upB (X i) (Y i))) n = 1) : SG (sumS (fun i => vx i * vy ((i + 1) % n) - vy i * vx ((i + 1) % n)) n) = 1 := by
  have zx : sumS X n = 0 := by
    rw [sumS_congr hX, sumS_add, sumS_neg, sumS_next vx]
    grind
  have zy : sumS Y n = 0 := by
    rw [sumS_congr hY, sumS_add, sumS_neg, sumS_next vy]
    grind
  have e : sumS (fun i => vx i * vy ((i + 1) % n) - vy i * vx ((i + 1) % n)) n = sumS (fun i => X i * (vy 0 - vy i) - Y i * (vx 0 - vx i)) n := by
    have e1 : sumS (fun i => X i * (vy 0 - vy i) - Y i * (vx 0 - vx i)) n = sumS (fun i => (vx i * vy ((i + 1) % n) - vy i * vx ((i + 1) % n)) + (vy 0 * X i + -vx 0 * Y i)) n := sumS_congr fun i hi => by
      have a := hX i hi
      have b := hY i hi
      rw [a, b]
      grind
    rw [e1, sumS_add, sumS_add, sumS_mul, sumS_mul, zx, zy]
    grind
  rw [e]
  have nn : ∀ i, i < n → NN (X i * (vy 0 - vy i) - Y i * (vx 0 - vx i)) := fun i hi => all_left hX hY hz hc h1 hi (by omega)
  refine SG_pos (fun h0 => ?_) (sumS_nn nn)
  have t1 := sumS_zero nn h0 1 (by omega)
  have c1 := hc 1 (by omega)
  have a := hX 0 (by omega)
  have b := hY 0 (by omega)
  rw [show 1 + n - 1 = n by omega, Nat.mod_self] at c1
  rw [show (0 + 1) % n = 1 from Nat.mod_eq_of_lt (by omega)] at a b
  rw [show X 0 * Y 1 - Y 0 * X 1 = X 1 * (vy 0 - vy 1) - Y 1 * (vx 0 - vx 1) by rw [a, b]; grind, t1, SG_zero] at c1
  omega

end Go.Proofs.Ytoligfhcogligaa

/- Plain laws of polygons: areas of convex ones have the sign of their bends. No program, no conditions. -/
namespace Go.Proofs.Ytoligfhcogligaa
open Go.RowKit
set_option maxRecDepth 100000

/-- No bits are lost, for larger surds too. -/
theorem xq_exactL {s : Nat → Int} (h : bd4 800000000 s) : xq s = s 0 * s 0 + 2 * (s 1 * s 1) - 3 * (s 2 * s 2) - 6 * (s 3 * s 3) ∧ yq s = 2 * (s 0 * s 1) - 6 * (s 2 * s 3) := by
  have h0 := h 0 (by omega); have h1 := h 1 (by omega); have h2 := h 2 (by omega); have h3 := h 3 (by omega)
  have q0 := sq_le h0.1 h0.2; have q1 := sq_le h1.1 h1.2; have q2 := sq_le h2.1 h2.2; have q3 := sq_le h3.1 h3.2
  have p01 := mul_bd h0.1 h0.2 h1.1 h1.2
  have p23 := mul_bd h2.1 h2.2 h3.1 h3.2
  have e1 : W (2 * s 1) = 2 * s 1 := w64_in (by omega) (by omega)
  have e2 : W (3 * s 2) = 3 * s 2 := w64_in (by omega) (by omega)
  have e3 : W (6 * s 3) = 6 * s 3 := w64_in (by omega) (by omega)
  have e4 : W (2 * s 0) = 2 * s 0 := w64_in (by omega) (by omega)
  have e5 : W (6 * s 2) = 6 * s 2 := w64_in (by omega) (by omega)
  have g1 : 2 * s 1 * s 1 = 2 * (s 1 * s 1) := by grind
  have g2 : 3 * s 2 * s 2 = 3 * (s 2 * s 2) := by grind
  have g3 : 6 * s 3 * s 3 = 6 * (s 3 * s 3) := by grind
  have g4 : 2 * s 0 * s 1 = 2 * (s 0 * s 1) := by grind
  have g5 : 6 * s 2 * s 3 = 6 * (s 2 * s 3) := by grind
  constructor
  · show W (W (W (W (s 0 * s 0) + W (W (2 * s 1) * s 1)) - W (W (3 * s 2) * s 2)) - W (W (6 * s 3) * s 3)) = _
    rw [e1, e2, e3, g1, g2, g3, w64_in (x := s 0 * s 0) (by omega) (by omega), w64_in (x := 2 * (s 1 * s 1)) (by omega) (by omega), w64_in (x := 3 * (s 2 * s 2)) (by omega) (by omega), w64_in (x := 6 * (s 3 * s 3)) (by omega) (by omega),
      w64_in (x := s 0 * s 0 + 2 * (s 1 * s 1)) (by omega) (by omega), w64_in (x := s 0 * s 0 + 2 * (s 1 * s 1) - 3 * (s 2 * s 2)) (by omega) (by omega), w64_in (by omega) (by omega)]
  · show W (W (W (2 * s 0) * s 1) - W (W (6 * s 2) * s 3)) = _
    rw [e4, e5, g4, g5, w64_in (x := 2 * (s 0 * s 1)) (by omega) (by omega), w64_in (x := 6 * (s 2 * s 3)) (by omega) (by omega), w64_in (by omega) (by omega)]
/-- The program's sign is the sign. -/
theorem sgn4_SGL {s : Nat → Int} (h : bd4 800000000 s) : sgn4 s = SG (sdOf s) := by
  obtain ⟨ex, ey⟩ := xq_exactL h
  unfold sgn4
  rw [sg2_SG, sg2_SG, sg2_SG, ex, ey]
  have hq : (⟨0, 0, s 2, s 3⟩ : Sd) = ⟨s 2, s 3, 0, 0⟩ * ⟨0, 0, 1, 0⟩ := Sd.ext (by show 0 = s 2 * 0 + 2 * (s 3 * 0) + 3 * (0 * 1) + 6 * (0 * 0); omega) (by show 0 = s 2 * 0 + s 3 * 0 + 3 * (0 * 0 + 0 * 1); omega) (by show s 2 = s 2 * 1 + 0 * 0 + 2 * (s 3 * 0 + 0 * 0); omega) (by show s 3 = s 2 * 0 + 0 * 0 + s 3 * 1 + 0 * 0; omega)
  have hQ : SG (⟨s 2, s 3, 0, 0⟩ : Sd) = SG ⟨0, 0, s 2, s 3⟩ := by rw [hq, SG_mul, SG_root3, Int.mul_one]
  have hs : sdOf s = ⟨s 0, s 1, 0, 0⟩ + ⟨0, 0, s 2, s 3⟩ := Sd.ext (by show s 0 = s 0 + 0; omega) (by show s 1 = s 1 + 0; omega) (by show s 2 = 0 + s 2; omega) (by show s 3 = 0 + s 3; omega)
  have hc : ((⟨s 0, s 1, 0, 0⟩ + ⟨0, 0, s 2, s 3⟩) * (⟨s 0, s 1, 0, 0⟩ - ⟨0, 0, s 2, s 3⟩) : Sd) = ⟨s 0 * s 0 + 2 * (s 1 * s 1) - 3 * (s 2 * s 2) - 6 * (s 3 * s 3), 2 * (s 0 * s 1) - 6 * (s 2 * s 3), 0, 0⟩ := by
    generalize s 0 = a
    generalize s 1 = b
    generalize s 2 = c
    generalize s 3 = d
    exact Sd.ext (by show (a + 0) * (a - 0) + 2 * ((b + 0) * (b - 0)) + 3 * ((0 + c) * (0 - c)) + 6 * ((0 + d) * (0 - d)) = _; grind) (by show (a + 0) * (b - 0) + (b + 0) * (a - 0) + 3 * ((0 + c) * (0 - d) + (0 + d) * (0 - c)) = _; grind) (by show (a + 0) * (0 - c) + (0 + c) * (a - 0) + 2 * ((b + 0) * (0 - d) + (0 + d) * (b - 0)) = 0; grind) (by show (a + 0) * (0 - d) + (0 + d) * (a - 0) + (b + 0) * (0 - c) + (0 + c) * (b - 0) = 0; grind)
  rw [← hc, hQ, hs]
  generalize (⟨s 0, s 1, 0, 0⟩ : Sd) = p
  generalize (⟨0, 0, s 2, s 3⟩ : Sd) = q
  by_cases c1 : SG p = SG q ∨ SG q = 0
  · rw [if_pos c1]
    rcases SG_cases q with ⟨k, e2⟩ | ⟨_, _, _, e2⟩ | ⟨_, _, _, e2⟩
    · rw [k, show p + (0 : Sd) = p by grind]
    · have e1 : SG p = 1 := by omega
      rw [e1, SG_add (by omega) (by omega)]
    · have e1 : SG p = -1 := by omega
      rw [show p + q = -(-p + -q) by grind, SG_neg, SG_add (by rw [SG_neg, e1]; decide) (by rw [SG_neg, e2]; decide), e1]
  · rw [if_neg c1]
    by_cases c2 : SG p = 0
    · rw [if_pos c2]
      rcases SG_cases p with ⟨k, _⟩ | ⟨_, _, _, e⟩ | ⟨_, _, _, e⟩
      · rw [k, show (0 : Sd) + q = q by grind]
      · omega
      · omega
    · rw [if_neg c2]
      have h1 := SG_cases p
      have h2 := SG_cases q
      exact (SG_conj (by omega) (by omega)).symm
theorem sumS_rev (g : Nat → Sd) : ∀ n : Nat, sumS (fun i => g (n - 1 - i)) n = sumS g n
  | 0 => rfl
  | n + 1 => by
    rw [sumS_first]
    have e : sumS (fun i => g (n + 1 - 1 - (i + 1))) n = sumS (fun i => g (n - 1 - i)) n := sumS_congr fun i _ => by rw [show n + 1 - 1 - (i + 1) = n - 1 - i by omega]
    rw [e, sumS_rev g n]
    show g (n + 1 - 1 - 0) + sumS g n = sumS g n + g n
    rw [show n + 1 - 1 - 0 = n by omega]
    grind
theorem sumS_prev (g : Nat → Sd) : ∀ n : Nat, sumS (fun i => g ((i + n - 1) % n)) n = sumS g n
  | 0 => rfl
  | n + 1 => by
    rw [sumS_first]
    have e : sumS (fun i => g ((i + 1 + (n + 1) - 1) % (n + 1))) n = sumS g n := sumS_congr fun i hi => by
      rw [show i + 1 + (n + 1) - 1 = i + (n + 1) by omega, Nat.add_mod_right, Nat.mod_eq_of_lt (by omega)]
    rw [e, show (0 + (n + 1) - 1) % (n + 1) = n by rw [show 0 + (n + 1) - 1 = n by omega]; exact Nat.mod_eq_of_lt (by omega)]
    show g n + sumS g n = sumS g n + g n
    grind
/-- The area, four times over. -/
def area4 (a : Nat → Nat → Int) (m : Nat) : Sd := sumS (fun i => RE (a i) * IM (a ((i + 1) % m)) - IM (a i) * RE (a ((i + 1) % m))) m
theorem area_crosses (a : Nat → Nat → Int) (m : Nat) : area4 a m = 4 * sumS (fun i => IM (mulZ (mirZ (a i)) (a ((i + 1) % m)))) m := by
  unfold area4
  rw [← sumS_mul]
  exact sumS_congr fun i _ => im_cross _ _
theorem area_bk (a : Nat → Nat → Int) (m : Nat) : area4 (bkC a m) m = -area4 a m := by
  unfold area4
  rw [← sumS_neg, ← sumS_prev (fun i => -(RE (a i) * IM (a ((i + 1) % m)) - IM (a i) * RE (a ((i + 1) % m)))) m]
  rw [← sumS_rev (fun i => -(RE (a ((i + m - 1) % m)) * IM (a (((i + m - 1) % m + 1) % m)) - IM (a ((i + m - 1) % m)) * RE (a (((i + m - 1) % m + 1) % m)))) m]
  refine sumS_congr fun j hj => ?_
  have e1 : ((m - 1 - j + m - 1) % m + 1) % m = m - 1 - j := by
    by_cases h0 : m - 1 - j = 0
    · rw [h0, show 0 + m - 1 = m - 1 by omega, Nat.mod_eq_of_lt (show m - 1 < m by omega), show m - 1 + 1 = m by omega, Nat.mod_self]
    · rw [show m - 1 - j + m - 1 = m - 1 - j - 1 + m by omega, Nat.add_mod_right, Nat.mod_eq_of_lt (show m - 1 - j - 1 < m by omega), show m - 1 - j - 1 + 1 = m - 1 - j by omega, Nat.mod_eq_of_lt (by omega)]
  have e2 : m - 1 - (j + 1) % m = (m - 1 - j + m - 1) % m := by
    by_cases hl : j + 1 = m
    · rw [hl, Nat.mod_self, show m - 1 - j = 0 by omega, show 0 + m - 1 = m - 1 by omega, Nat.mod_eq_of_lt (show m - 1 < m by omega)]
      omega
    · rw [Nat.mod_eq_of_lt (show j + 1 < m by omega), show m - 1 - j + m - 1 = m - 2 - j + m by omega, Nat.add_mod_right, Nat.mod_eq_of_lt (by omega)]
      omega
  rw [e1]
  show RE (a (m - 1 - j)) * IM (a (m - 1 - (j + 1) % m)) - IM (a (m - 1 - j)) * RE (a (m - 1 - (j + 1) % m)) = _
  rw [e2]
  grind
theorem area_one {a : Nat → Nat → Int} {m : Nat} (h : f_valid a m = true) (hm : 2 ≤ m) (ht : turnsOk a m = true) (h1 : turnsN a m = 1) (hb : ∀ i, i < m → bendsF (stepsF a m) m i = 1) : SG (area4 a m) = 1 := by
  refine area_left (vx := fun i => RE (a i)) (vy := fun i => IM (a i)) (X := fun i => RE (stepsF a m i)) (Y := fun i => IM (stepsF a m i)) hm (fun i hi => (sub_pt (step_at h hi)).1) (fun i hi => (sub_pt (step_at h hi)).2) (fun i hi => norm_pos (good_step h ht hi).1) (fun i hi => ?_) ?_
  · have := bend_SG h hi
    rw [hb i hi] at this
    exact this.symm
  · exact one_up h ht (.inl h1) fun i hi => by rw [h1]; exact hb i hi
/-- The area has the sign of the bends. -/
theorem law_convex {a : Nat → Nat → Int} {m : Nat} (h : f_valid a m = true) (hm : 2 ≤ m) (ht : turnsOk a m = true) (h1 : turnsN a m = 1 ∨ turnsN a m = -1) (hb : ∀ i, i < m → bendsF (stepsF a m) m i = turnsN a m) : SG (area4 a m) = turnsN a m := by
  rcases h1 with h1 | h1
  · rw [h1] at hb ⊢
    exact area_one h hm ht h1 hb
  · obtain ⟨k1, k2⟩ := law_turns h ht
    have := area_one (valid_bk h) hm k1 (by rw [k2, h1]; rfl) fun i hi => by
      rw [law_bends h hi, hb _ (by omega), h1]
      rfl
    rw [area_bk, SG_neg] at this
    rw [h1]
    omega

end Go.Proofs.Ytoligfhcogligaa

/- Plain laws of rows and polygons: squares are not below nothing; sums the other way round and further on. No program, no conditions. -/
namespace Go.Proofs.Ytoligfhcogligaa
open Go.RowKit
set_option maxRecDepth 100000

/-- A point times its mirror: what is real in it, four times over, is a sum of squares. -/
theorem norm_SG (a : Nat → Int) : NN (RE (mulZ (mirZ a) a)) := by
  have e := re_cross a a
  have h : NN (4 * RE (mulZ (mirZ a) a)) := by
    rw [← e]
    exact (NN.sq _).add (NN.sq _)
  refine SG_nn.1 ?_
  have := SG_nn.2 h
  rw [SG_mul, show (4 : Sd) = ⟨4, 0, 0, 0⟩ from rfl, SG_int] at this
  have e4 : (if (4 : Int) = 0 then (0 : Int) else if (0 : Int) ≤ 4 then 1 else -1) = 1 := rfl
  rw [e4] at this
  omega
/-- Sums of norms are not below nothing. -/
theorem norms_SG (a : Nat → Nat → Int) (m : Nat) : 0 ≤ SG (sumS (fun i => RE (mulZ (mirZ (a i)) (a i))) m) := SG_nn.2 (sumS_nn fun i _ => norm_SG (a i))
/-- Further on by one, round the list: the same sum. -/
theorem norms_next (a : Nat → Nat → Int) (m : Nat) : sumS (fun i => RE (mulZ (mirZ (a ((i + 1) % m))) (a ((i + 1) % m)))) m = sumS (fun i => RE (mulZ (mirZ (a i)) (a i))) m := sumS_next (fun i => RE (mulZ (mirZ (a i)) (a i))) m
theorem area_next (a : Nat → Nat → Int) (m : Nat) : area4 (fun i => a ((i + 1) % m)) m = area4 a m := by
  unfold area4
  rw [← sumS_next (fun i => RE (a i) * IM (a ((i + 1) % m)) - IM (a i) * RE (a ((i + 1) % m))) m]
/-- Crosses of small corners are small. -/
theorem sumZ_abs {g : Nat → Int} {B : Int} : ∀ {n : Nat}, (∀ i, i < n → -B ≤ g i ∧ g i ≤ B) → -((n : Int) * B) ≤ sumZ g n ∧ sumZ g n ≤ (n : Int) * B
  | 0, _ => by
    show -(((0 : Nat) : Int) * B) ≤ (0 : Int) ∧ (0 : Int) ≤ ((0 : Nat) : Int) * B
    simp
  | n + 1, h => by
    have ih := sumZ_abs (n := n) fun i hi => h i (by omega)
    have := h n (by omega)
    rw [sumZ, show ((n + 1 : Nat) : Int) * B = (n : Int) * B + B by grind]
    omega
/-- A point that lies on a side lies on it the other way round too; a corner lies on its side. -/
theorem on_back (x y u v : Sd) : SG (x * v - y * u) = 0 ↔ SG (u * y - v * x) = 0 := by
  rw [show u * y - v * x = -(x * v - y * u) by grind, SG_neg]
  omega
theorem along_back (x y u v : Sd) : SG (x * u + y * v) = SG (u * x + v * y) := by congr 1; grind
theorem on_corner (u v : Sd) : SG ((0 : Sd) * v - 0 * u) = 0 ∧ SG ((0 : Sd) * u + 0 * v) = 0 := by
  constructor
  · refine SG_none.2 ?_; grind
  · refine SG_none.2 ?_; grind

end Go.Proofs.Ytoligfhcogligaa

/- Sums of squares: not below nothing, the same further on. No program, no conditions. -/
namespace Go.Proofs.Ytoligfhcogligaa
open Go.RowKit
set_option maxRecDepth 100000

theorem w4_at4 (f : Nat → Int) : ∀ k, k < 4 → w4 f k = f k := fun k hk => by
  rcases (by omega : k = 0 ∨ k = 1 ∨ k = 2 ∨ k = 3) with rfl | rfl | rfl | rfl <;> rfl
theorem re_norm (a : Nat → Int) : RE (mulZ a (mirZ a)) = RE (mulZ (mirZ a) a) := by
  apply Sd.ext <;> simp [RE] <;> simp only [reZ, mulZ, mirZ, convF] <;> grind
theorem cyf_at (a : Nat → Int) : ∀ j, j < 8 → (cyOf a).f j = a j := fun j hj => by
  rcases (by omega : j = 0 ∨ j = 1 ∨ j = 2 ∨ j = 3 ∨ j = 4 ∨ j = 5 ∨ j = 6 ∨ j = 7) with rfl | rfl | rfl | rfl | rfl | rfl | rfl | rfl <;> rfl
theorem cyf_bd {a : Nat → Int} (h : cyOk (cyOf a) = true) : bd8 1000000 a := fun j hj => by
  have := smallF_iff.1 h j hj
  rw [cyf_at a j hj] at this
  exact this
/-- A norm that is told is exact. -/
theorem nm_exact {a : Nat → Int} (h : nmK a = true) : ∀ k, k < 4 → nmV a k = reZ (mulZ a (mirZ a)) k := by
  intro k hk
  unfold nmK at h
  cases h1 : okMi a with
  | false => rw [h1] at h; cases h
  | true =>
    rw [h1, cond_true] at h
    cases h2 : okM a (w8 (vMi a)) with
    | false => rw [h2] at h; cases h
    | true =>
      rw [h2, cond_true] at h
      have hm := h1
      rw [okMi, Bool.and_eq_true] at hm
      have b1 : bd8 1000000 a := cyf_bd hm.1
      have b2 : bd8 1000000 (mirF a) := cyf_bd hm.2
      have ev : ∀ j, j < 8 → w8 (vMi a) j = mirZ a j := fun j hj => by
        rw [w8_at _ j hj]
        unfold vMi
        rw [h1, cond_true]
        show W (mirZ a j) = _
        exact W8 (mir_bd b1) (by omega) j hj
      have hp := h2
      rw [okM, Bool.and_eq_true] at hp
      have b3 : bd8 1000000 (mulF a (w8 (vMi a))) := cyf_bd hp.2
      have b4 : bd8 1000000 (mirZ a) := fun j hj => by
        have := b2 j hj
        have e : mirF a j = mirZ a j := by
          show W (mirZ a j) = _
          exact W8 (mir_bd b1) (by omega) j hj
        rw [e] at this
        exact this
      have ep : ∀ j, j < 8 → w8 (prF a (w8 (vMi a))) j = mulZ a (mirZ a) j := fun j hj => by
        rw [w8_at _ j hj]
        unfold prF
        rw [h2, cond_true]
        show W (mulZ a (w8 (vMi a)) j) = _
        rw [mul_congr (fun _ _ => rfl) ev]
        exact W8 (mul_bd8 b1 b4) (by omega) j hj
      have bp : bd8 1000000 (mulZ a (mirZ a)) := fun j hj => by
        have := b3 j hj
        rw [← ep j hj, w8_at _ j hj]
        unfold prF
        rw [h2, cond_true]
        exact this
      have hr := re_bd bp
      unfold nmV
      rw [h1, h2, cond_true, cond_true]
      unfold mdV
      rw [h, cond_true]
      unfold nmW
      rw [w4_at4 _ k hk]
      show W (reZ (w8 (prF a (w8 (vMi a)))) k) = _
      rw [re_congr ep]
      exact W4 hr (by omega) k hk
theorem nm_sv {a : Nat → Int} (h : nmK a = true) : svV (w4 (nmV a)) = true := by
  unfold nmK at h
  cases h1 : okMi a with
  | false => rw [h1] at h; cases h
  | true =>
    rw [h1, cond_true] at h
    cases h2 : okM a (w8 (vMi a)) with
    | false => rw [h2] at h; cases h
    | true =>
      rw [h2, cond_true] at h
      refine svV_iff.2 fun k hk => ?_
      have := svV_iff.1 h k hk
      rw [w4_at4 _ k hk]
      unfold nmV
      rw [h1, h2, cond_true, cond_true]
      unfold mdV
      rw [h, cond_true]
      exact this
/-- The sum of the norms. -/
def rqZ (a : Nat → Nat → Int) (i : Nat) : Sd := sumS (fun j => RE (mulZ (mirZ (a j)) (a j))) i
theorem rqS_Z {a : Nat → Nat → Int} : ∀ i, noneTo (rqB a) i = true → sdOf (rqS a i) = rqZ a i ∧ bd4 10000000 (rqS a i)
  | 0, _ => by
    rw [rqS_0]
    exact ⟨rfl, fun k _ => by show -10000000 ≤ (0 : Int) ∧ (0 : Int) ≤ 10000000; omega⟩
  | i + 1, h => by
    obtain ⟨e, hb⟩ := rqS_Z i (noneTo_iff.2 fun j hj => noneTo_iff.1 h j (by omega))
    have hi := noneTo_iff.1 h i (by omega)
    unfold rqB at hi
    rw [Bool.or_eq_false_iff, Bool.not_eq_false', Bool.not_eq_false'] at hi
    obtain ⟨hn, hs⟩ := hi
    have ex := nm_exact hn
    have bn := svV_iff.1 (nm_sv hn)
    have s1 : svV (w4 (rqS a i)) = true := svV_iff.2 fun k hk => by rw [w4_at4 _ k hk]; exact hb k hk
    unfold saK at hs
    rw [s1, nm_sv hn, cond_true, cond_true] at hs
    have bs := svV_iff.1 hs
    have at' : ∀ k, k < 4 → rqS a (i + 1) k = rqS a i k + reZ (mulZ (w8 (a i)) (mirZ (w8 (a i)))) k := fun k hk => by
      rw [rqS_succ]
      show saV (w4 (rqS a i)) (w4 (nmV (w8 (a i)))) k = _
      unfold saV
      rw [s1, nm_sv hn, cond_true, cond_true]
      unfold mdV
      rw [hs, cond_true, w4_at4 _ k hk]
      show W (w4 (rqS a i) k + w4 (nmV (w8 (a i))) k) = _
      have h1 := hb k hk
      have h2 := bn k hk
      rw [w4_at4 _ k hk] at h2 ⊢
      rw [w4_at4 _ k hk, ex k hk] at *
      exact w64_in (by omega) (by omega)
    have rz : ∀ k, k < 4 → reZ (mulZ (w8 (a i)) (mirZ (w8 (a i)))) k = reZ (mulZ (a i) (mirZ (a i))) k := fun k _ => re_congr (fun j _ => mul_congr (w8_at _) (fun l _ => mir_congr (w8_at _) l) j) k
    refine ⟨?_, fun k hk => ?_⟩
    · show sdOf (rqS a (i + 1)) = rqZ a i + RE (mulZ (mirZ (a i)) (a i))
      rw [← e, ← re_norm]
      exact Sd.ext ((at' 0 (by omega)).trans (by rw [rz 0 (by omega)]; rfl)) ((at' 1 (by omega)).trans (by rw [rz 1 (by omega)]; rfl)) ((at' 2 (by omega)).trans (by rw [rz 2 (by omega)]; rfl)) ((at' 3 (by omega)).trans (by rw [rz 3 (by omega)]; rfl))
    · have h1 := bs k hk
      have h2 := hb k hk
      have h3 := bn k hk
      rw [w4_at4 _ k hk] at h1 h3
      have h4 : plQ (w4 (rqS a i)) (w4 (nmV (w8 (a i)))) k = rqS a (i + 1) k := by
        rw [at' k hk]
        show W (w4 (rqS a i) k + w4 (nmV (w8 (a i))) k) = _
        rw [w4_at4 _ k hk, w4_at4 _ k hk, ← ex k hk]
        exact w64_in (by omega) (by omega)
      rw [h4] at h1
      exact h1
theorem rk_parts {a : Nat → Nat → Int} {m : Nat} (h : rkV a m = true) : rvB a m = true ∧ noneTo (rqB a) m = true := by
  rw [rkV, Bool.and_eq_true] at h
  exact h
theorem rq_at {a : Nat → Nat → Int} {m : Nat} (h : rkV a m = true) : rqV a m = rqS a m := by
  funext k
  unfold rqV
  rw [h]
  rfl
/-- What is told is not below nothing. -/
theorem law_sq {a : Nat → Nat → Int} {m : Nat} (h : rkV a m = true) : svV (w4 (rqV a m)) = true ∧ 0 ≤ ssV (w4 (rqV a m)) := by
  obtain ⟨e, hb⟩ := rqS_Z m (rk_parts h).2
  have hs : svV (w4 (rqV a m)) = true := svV_iff.2 fun k hk => by
    rw [rq_at h, w4_at4 _ k hk]
    exact hb k hk
  refine ⟨hs, ?_⟩
  unfold ssV
  rw [hs, cond_true, rq_at h, sgn4_w4, sgn4_SG fun k hk => by have := hb k hk; omega, e]
  exact norms_SG a m
theorem rqZ_next {a b : Nat → Nat → Int} {m : Nat} (h : ∀ j, j < m → b j = a ((j + 1) % m)) : rqZ b m = rqZ a m := by
  unfold rqZ
  rw [sumS_congr (h := fun j => RE (mulZ (mirZ (a ((j + 1) % m))) (a ((j + 1) % m)))) fun j hj => by rw [h j hj]]
  exact sumS_next (fun j => RE (mulZ (mirZ (a j)) (a j))) m
/-- Where both are told, they are the same. -/
theorem law_shift {a b : Nat → Nat → Int} {m : Nat} (h : ∀ j, j < m → b j = a ((j + 1) % m)) (ha : rkV a m = true) (hb : rkV b m = true) : ∀ k, k < 4 → rqV b m k = rqV a m k := by
  have e1 := (rqS_Z m (rk_parts ha).2).1
  have e2 := (rqS_Z m (rk_parts hb).2).1
  rw [rq_at ha, rq_at hb]
  have e : sdOf (rqS b m) = sdOf (rqS a m) := (e2.trans (rqZ_next h)).trans e1.symm
  intro k hk
  have h0 : rqS b m 0 = rqS a m 0 := congrArg Sd.a e
  have h1 : rqS b m 1 = rqS a m 1 := congrArg Sd.b e
  have h2 : rqS b m 2 = rqS a m 2 := congrArg Sd.c e
  have h3 : rqS b m 3 = rqS a m 3 := congrArg Sd.d e
  rcases (by omega : k = 0 ∨ k = 1 ∨ k = 2 ∨ k = 3) with rfl | rfl | rfl | rfl <;> assumption

end Go.Proofs.Ytoligfhcogligaa

/- FnSquares returns true, whatever the bytes are. Conditions: bytes. -/
namespace Go.Proofs.Ytoligfhcogligaa
open Go.RowKit
set_option maxRecDepth 100000

theorem sayQ {c : Bool} {H : List AB} (h : c = true) : GoodQ (.out .ret [.v (.bool c)] H) SaysYes := by
  subst h
  exact good_out rfl
theorem bleQ (n : Nat) : Nat.ble n n = true := by simp
theorem gmSl_ok : GamOk Try.prog (gmSl bRdN bRdF rqV rkV rvB rhF ssV svV) := ext_ok (ext_ok (ext_ok (ext_ok (ext_ok g0_ok ok_drSq) ok_rqI) ok_rqS) ok_ss) ok_rhY
theorem eq4Q {f g : Nat → Int} (h : ∀ k, k < 4 → f k = g k) : (f 0 == g 0 && (f 1 == g 1 && (f 2 == g 2 && (f 3 == g 3 && true)))) = true := by
  rw [h 0 (by omega), h 1 (by omega), h 2 (by omega), h 3 (by omega)]
  simp only [beq_self_eq_true, Bool.and_self]
theorem rh_1 (a : Nat → Nat → Int) (k : Nat) : ∀ j, j < k → rhF a k 1 j = a ((j + 1) % k) := fun j _ => by
  unfold rhF
  rw [show ((j : Int) + 1) = ((j + 1 : Nat) : Int) by omega, ← Int.ofNat_tmod]
  rfl
theorem it8_eta (h : Nat → Nat → Int) : (it8 fun q => row8 h q) = it8 (row8 h) := rfl
theorem yes_psq (m : Nat) (b : Nat → Int) (_ : m ≤ 9223372036854775807) (hb : okB m (rowB b) = true) : ∃ Γ n Λ, GamOk Try.prog Γ ∧ (∀ cc, fSqL.body = some cc → LamOk Try.prog 1 Λ cc) ∧ GoodQ (execF Try.prog Γ Λ n fSqL [.sl 0 1 0 0 m none] [.row false m 1 (rowB b) 5] (packK 1)) SaysYes := by
  have hl := bRd_len m b
  refine ⟨_, 100, _, gmSl_ok, noLam' _, ?_⟩
  rw [lawSl]
  refine good_cond (fun _ => good_out rfl) fun c => ?_
  have c := of_decide_eq_false c
  have b21 : decide (m ≤ 2097152) = true := decide_eq_true (by omega)
  have b38 : decide (bRdN m b ≤ 274877906944) = true := decide_eq_true (by omega)
  simp only [Nat.zero_add, itB_row]
  generalize bRdN m b = k at *
  generalize bRdF m b = a at *
  have e1 : rkV (it8 (row8 a)) k = rkV a k := rfl
  have e2 : rqV (it8 (row8 a)) k = rqV a k := rfl
  have e3 : rkV (it8 (row8 (rhF (it8 (row8 a)) k 1))) k = rkV (rhF a k 1) k := rfl
  have e4 : rqV (it8 (row8 (rhF (it8 (row8 a)) k 1))) k = rqV (rhF a k 1) k := rfl
  have e5 : rvB (it8 (row8 a)) k = rvB a k := rfl
  simp only [hb, b21, b38, bleQ, all8_row, it8_eta, e1, e2, e3, e4, e5, needs_t, needs_nil, beq_self_eq_true, Bool.and_self, Bool.not_true, cond_true, cond_false]
  try rw [show (!rkV a k == rkV a k) = false by cases rkV a k <;> rfl, cond_false]
  cases hk : rkV a k with
  | false => exact good_out rfl
  | true =>
    obtain ⟨s1, s2⟩ := law_sq hk
    refine good_false rfl (good_needs ?_ (good_true s1 (good_true (decide_eq_true s2) (good_cond (fun _ => good_out rfl) fun q => sayQ ?_))))
    · simp only [ob_cons, ob_nil, and_true]
      exact (rk_parts hk).1
    · rw [Bool.not_eq_false'] at q
      exact eq4Q (law_shift (rh_1 a k) hk q)

end Go.Proofs.Ytoligfhcogligaa

/- Squares are kept by shifts: FnSquares returns true, whatever the bytes are, and they read as before. No conditions. -/
namespace Go.Proofs.Ytoligfhcogligaa
open Go.ChangeShapes Go.WideShapes Go.ChangeAt Go.RowKit

set_option maxRecDepth 100000 in
theorem psq_lifted (os : Os) (started : os.Started) (H : Type) (enc : TypeId × Value → H) :
    ReturnsInHanded {} Try.checked os 9 .any (Rows.fnSquaresSpec.pre6 enc Try.prog Try.f9 Rows.fnSquaresRow.domain false) (Rows.fnSquaresSpec.post enc Try.prog Try.f9 false true false false) := by
  refine returnsInHanded_of_change (C := Try.checked) own started (by kernel_rfl) Try.func9
    (ChangeSpec.witness6 (enc := enc) (C := Try.checked) false ⟨#[], #[.slice none 0 0], []⟩ 8 (by kernel_rfl) (by kernel_rfl) (by kernel_rfl) (by kernel_rfl)) ?_
  intro W base args ds gs before hval hW _ _
  exact contractB (spec := Rows.fnSquaresSpec) Try.func9 rfl rfl rfl (fun _ _ => rfl) (fun m b hm hb => yes_psq m b hm hb) H enc W base args ds gs before hval hW

set_option maxRecDepth 100000 in
theorem psq_f1 : Rows.fnSquaresRow.wf (OpenSpec.ofChange Rows.fnSquaresSpec) = true := by kernel_rfl
set_option maxRecDepth 100000 in
theorem psq_f2 : (Rows.fnSquaresRow.inPlace == Try.prog.inPlace 9) = true := by kernel_rfl
set_option maxRecDepth 100000 in
theorem psq_f3 : (Rows.fnSquaresRow.unfollowed == Try.prog.unfollowed 9) = true := by kernel_rfl
set_option maxRecDepth 100000 in
theorem psq_f4 : (Rows.fnSquaresRow.recurses == Try.prog.recurses 9) = true := by kernel_rfl
set_option maxRecDepth 100000 in
theorem psq_f5 : (Rows.fnSquaresRow.named == Try.prog.varsNamed 9) = true := by kernel_rfl
set_option maxRecDepth 100000 in
theorem psq_f6 : Try.prog.funcNamed Rows.fnSquaresRow.func = some 9 := by kernel_rfl
theorem psq_f7 : (Rows.fnSquaresRow.lifted == Try.prog.liftsFinal) = true := jfG
theorem psq_f8 : (Try.prog.make == some Rows.fnSquaresRow.make) = true := jfH
theorem psq_f9 : (Rows.fnSquaresRow.plainKeys == Try.prog.plainKeys) = true := jfI
set_option maxRecDepth 100000 in
theorem psq_joined : joinedFacts Try.prog 9 Try.f9 Rows.fnSquaresSpec Rows.fnSquaresRow = true := by
  unfold joinedFacts
  rw [jfA, jfB, jfC, jfD, jfE, jfF, psq_f1, psq_f2, psq_f3, psq_f4, psq_f5, psq_f7, psq_f8, psq_f9]
  kernel_rfl

theorem psq_holds : Rows.FnSquaresSaid :=
  OpenClaim.holds_of_wide 9 Try.f9 rfl rfl rfl rfl rfl rfl rfl ⟨rfl, rfl, rfl, rfl, rfl⟩ rfl rfl rfl rfl rfl psq_f6 Try.func9 psq_joined
    (of_decide_eq_true (by kernel_rfl)) (by unfold Func.isWrapper; first | (rw [if_pos (by decide +kernel)]; kernel_rfl) | (rw [if_neg (by decide +kernel)]; exact ⟨rfl, rfl⟩))
    (fun os started H enc _ => psq_lifted os started H enc)
#print axioms psq_holds
end Go.Proofs.Ytoligfhcogligaa
