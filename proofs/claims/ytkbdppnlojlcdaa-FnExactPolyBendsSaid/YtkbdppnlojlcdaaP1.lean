/- The abstract machine at the small functions on exact points and surds. No conditions. -/
import Derived.Test.YtkbdppnlojlcdaaV13
import Derived.Test.YtkbdppnlojlcdaaMath2
namespace Go.Proofs.Ytkbdppnlojlcdaa
open Go.RowKit
set_option maxRecDepth 100000

def f_within : List Value → Option (Value × List Bool)
  | [.int .i64 n, .int .i64 l, .int .i64 h] => some (.bool (inR n l h), [])
  | _ => none

theorem ok_within : SpecOk Try.prog 72 (specV f_within) := by
  refine mkV (n := 100) g0_ok Try.func72 rfl fun vs x ob hF ho => ?_
  unfold f_within at hF
  split at hF
  · rename_i n l h
    simp only [Option.some.injEq, Prod.mk.injEq] at hF
    obtain ⟨rfl, rfl⟩ := hF
    have e : execF Try.prog g0 noLam 100 Try.f72 ([.int .i64 n, .int .i64 l, .int .i64 h].map .v) [] valK = cond (decide (n ≥ l)) (rv (.bool (decide (n ≤ h)))) (rv (.bool false)) := by kernel_rfl
    rw [e]
    exact gives_of (by simp only [outV_cond, outV_rv, inR]; cases decide (l ≤ n) <;> rfl)
  · cases hF

def gm_within : Gam := ext g0 72 (specV f_within)
theorem gm_within_ok : GamOk Try.prog gm_within := ext_ok g0_ok ok_within

theorem ok_l6In : SpecOk Try.prog 77 (specV f_within) := by
  refine mkV (n := 100) gm_within_ok Try.func77 rfl fun vs x ob hF ho => ?_
  unfold f_within at hF
  split at hF
  · rename_i n l h
    simp only [Option.some.injEq, Prod.mk.injEq] at hF
    obtain ⟨rfl, rfl⟩ := hF
    have e : execF Try.prog gm_within noLam 100 Try.f77 ([.int .i64 n, .int .i64 l, .int .i64 h].map .v) [] valK = cond (decide (n ≥ l)) (rv (.bool (decide (n ≤ h)))) (rv (.bool false)) := by kernel_rfl
    rw [e]
    exact gives_of (by simp only [outV_cond, outV_rv, inR]; cases decide (l ≤ n) <;> rfl)
  · cases hF

def gm_l6In : Gam := ext gm_within 77 (specV f_within)
theorem gm_l6In_ok : GamOk Try.prog gm_l6In := ext_ok gm_within_ok ok_l6In

def f_small : List Value → Option (Value × List Bool)
  | [.agg ⟨[.int .i64 a0, .int .i64 a1, .int .i64 a2, .int .i64 a3, .int .i64 a4, .int .i64 a5, .int .i64 a6, .int .i64 a7]⟩, .int .i64 m] => some (.bool (smallF (v8 a0 a1 a2 a3 a4 a5 a6 a7) (W (0 - m)) m), [])
  | _ => none

theorem ok_small : SpecOk Try.prog 75 (specV f_small) := by
  refine mkV (n := 100) gm_l6In_ok Try.func75 rfl fun vs x ob hF ho => ?_
  unfold f_small at hF
  split at hF
  · rename_i a0 a1 a2 a3 a4 a5 a6 a7 m
    simp only [Option.some.injEq, Prod.mk.injEq] at hF
    obtain ⟨rfl, rfl⟩ := hF
    have e : execF Try.prog gm_l6In noLam 100 Try.f75 ([.agg ⟨[.int .i64 a0, .int .i64 a1, .int .i64 a2, .int .i64 a3, .int .i64 a4, .int .i64 a5, .int .i64 a6, .int .i64 a7]⟩, .int .i64 m].map .v) [] valK = cond (!inR ((v8 a0 a1 a2 a3 a4 a5 a6 a7) 0) (W (0 - m)) m) (rv (.bool false)) (cond (!inR ((v8 a0 a1 a2 a3 a4 a5 a6 a7) 1) (W (0 - m)) m) (rv (.bool false)) (cond (!inR ((v8 a0 a1 a2 a3 a4 a5 a6 a7) 2) (W (0 - m)) m) (rv (.bool false)) (cond (!inR ((v8 a0 a1 a2 a3 a4 a5 a6 a7) 3) (W (0 - m)) m) (rv (.bool false)) (cond (!inR ((v8 a0 a1 a2 a3 a4 a5 a6 a7) 4) (W (0 - m)) m) (rv (.bool false)) (cond (!inR ((v8 a0 a1 a2 a3 a4 a5 a6 a7) 5) (W (0 - m)) m) (rv (.bool false)) (cond (!inR ((v8 a0 a1 a2 a3 a4 a5 a6 a7) 6) (W (0 - m)) m) (rv (.bool false)) (cond (!inR ((v8 a0 a1 a2 a3 a4 a5 a6 a7) 7) (W (0 - m)) m) (rv (.bool false)) (rv (.bool true))))))))) := by kernel_rfl
    rw [e]
    exact gives_of (by simp only [outV_cond, outV_rv, smallF, v8, cond_some, cond_bool])
  · cases hF

def gm_small : Gam := ext gm_l6In 75 (specV f_small)
theorem gm_small_ok : GamOk Try.prog gm_small := ext_ok gm_l6In_ok ok_small

theorem ok_l8Small : SpecOk Try.prog 76 (specV f_small) := by
  refine mkV (n := 100) gm_small_ok Try.func76 rfl fun vs x ob hF ho => ?_
  unfold f_small at hF
  split at hF
  · rename_i a0 a1 a2 a3 a4 a5 a6 a7 m
    simp only [Option.some.injEq, Prod.mk.injEq] at hF
    obtain ⟨rfl, rfl⟩ := hF
    have e : execF Try.prog gm_small noLam 100 Try.f76 ([.agg ⟨[.int .i64 a0, .int .i64 a1, .int .i64 a2, .int .i64 a3, .int .i64 a4, .int .i64 a5, .int .i64 a6, .int .i64 a7]⟩, .int .i64 m].map .v) [] valK = cond (!inR ((v8 a0 a1 a2 a3 a4 a5 a6 a7) 0) (W (0 - m)) m) (rv (.bool false)) (cond (!inR ((v8 a0 a1 a2 a3 a4 a5 a6 a7) 1) (W (0 - m)) m) (rv (.bool false)) (cond (!inR ((v8 a0 a1 a2 a3 a4 a5 a6 a7) 2) (W (0 - m)) m) (rv (.bool false)) (cond (!inR ((v8 a0 a1 a2 a3 a4 a5 a6 a7) 3) (W (0 - m)) m) (rv (.bool false)) (cond (!inR ((v8 a0 a1 a2 a3 a4 a5 a6 a7) 4) (W (0 - m)) m) (rv (.bool false)) (cond (!inR ((v8 a0 a1 a2 a3 a4 a5 a6 a7) 5) (W (0 - m)) m) (rv (.bool false)) (cond (!inR ((v8 a0 a1 a2 a3 a4 a5 a6 a7) 6) (W (0 - m)) m) (rv (.bool false)) (cond (!inR ((v8 a0 a1 a2 a3 a4 a5 a6 a7) 7) (W (0 - m)) m) (rv (.bool false)) (rv (.bool true))))))))) := by kernel_rfl
    rw [e]
    exact gives_of (by simp only [outV_cond, outV_rv, smallF, v8, cond_some, cond_bool])
  · cases hF

def gm_l8Small : Gam := ext gm_small 76 (specV f_small)
theorem gm_l8Small_ok : GamOk Try.prog gm_l8Small := ext_ok gm_small_ok ok_l8Small

def f_plus : List Value → Option (Value × List Bool)
  | [.agg ⟨[.int .i64 a0, .int .i64 a1, .int .i64 a2, .int .i64 a3, .int .i64 a4, .int .i64 a5, .int .i64 a6, .int .i64 a7]⟩, .agg ⟨[.int .i64 b0, .int .i64 b1, .int .i64 b2, .int .i64 b3, .int .i64 b4, .int .i64 b5, .int .i64 b6, .int .i64 b7]⟩] => some (cyv (plusF (v8 a0 a1 a2 a3 a4 a5 a6 a7) (v8 b0 b1 b2 b3 b4 b5 b6 b7)), [])
  | _ => none

theorem ok_plus : SpecOk Try.prog 105 (specV f_plus) := by
  refine mkV (n := 100) gm_l8Small_ok Try.func105 rfl fun vs x ob hF ho => ?_
  unfold f_plus at hF
  split at hF
  · rename_i a0 a1 a2 a3 a4 a5 a6 a7 b0 b1 b2 b3 b4 b5 b6 b7
    simp only [Option.some.injEq, Prod.mk.injEq] at hF
    obtain ⟨rfl, rfl⟩ := hF
    exact one (by kernel_rfl)
  · cases hF

def gm_plus : Gam := ext gm_l8Small 105 (specV f_plus)
theorem gm_plus_ok : GamOk Try.prog gm_plus := ext_ok gm_l8Small_ok ok_plus

def f_scaled : List Value → Option (Value × List Bool)
  | [.agg ⟨[.int .i64 a0, .int .i64 a1, .int .i64 a2, .int .i64 a3, .int .i64 a4, .int .i64 a5, .int .i64 a6, .int .i64 a7]⟩, .int .i64 n] => some (cyv (scaledF (v8 a0 a1 a2 a3 a4 a5 a6 a7) n), [])
  | _ => none

theorem ok_scaled : SpecOk Try.prog 106 (specV f_scaled) := by
  refine mkV (n := 100) gm_plus_ok Try.func106 rfl fun vs x ob hF ho => ?_
  unfold f_scaled at hF
  split at hF
  · rename_i a0 a1 a2 a3 a4 a5 a6 a7 n
    simp only [Option.some.injEq, Prod.mk.injEq] at hF
    obtain ⟨rfl, rfl⟩ := hF
    exact one (by kernel_rfl)
  · cases hF

def gm_scaled : Gam := ext gm_plus 106 (specV f_scaled)
theorem gm_scaled_ok : GamOk Try.prog gm_scaled := ext_ok gm_plus_ok ok_scaled

def f_minus : List Value → Option (Value × List Bool)
  | [.agg ⟨[.int .i64 a0, .int .i64 a1, .int .i64 a2, .int .i64 a3, .int .i64 a4, .int .i64 a5, .int .i64 a6, .int .i64 a7]⟩, .agg ⟨[.int .i64 b0, .int .i64 b1, .int .i64 b2, .int .i64 b3, .int .i64 b4, .int .i64 b5, .int .i64 b6, .int .i64 b7]⟩] => some (cyv (plusF (v8 a0 a1 a2 a3 a4 a5 a6 a7) (scaledF (v8 b0 b1 b2 b3 b4 b5 b6 b7) (-1))), [])
  | _ => none

theorem ok_minus : SpecOk Try.prog 81 (specV f_minus) := by
  refine mkV (n := 100) gm_scaled_ok Try.func81 rfl fun vs x ob hF ho => ?_
  unfold f_minus at hF
  split at hF
  · rename_i a0 a1 a2 a3 a4 a5 a6 a7 b0 b1 b2 b3 b4 b5 b6 b7
    simp only [Option.some.injEq, Prod.mk.injEq] at hF
    obtain ⟨rfl, rfl⟩ := hF
    exact one (by kernel_rfl)
  · cases hF

def gm_minus : Gam := ext gm_scaled 81 (specV f_minus)
theorem gm_minus_ok : GamOk Try.prog gm_minus := ext_ok gm_scaled_ok ok_minus

def f_turnOf : List Value → Option (Value × List Bool)
  | [.int .i64 n] => some (.int .i64 (n % 24), [inR n (-9223372036854775808) 9223372036854775807])
  | _ => none

theorem ok_turnOf : SpecOk Try.prog 108 (specV f_turnOf) := by
  refine mkV (n := 100) gm_minus_ok Try.func108 rfl fun vs x ob hF ho => ?_
  unfold f_turnOf at hF
  split at hF
  · rename_i n
    simp only [Option.some.injEq, Prod.mk.injEq] at hF
    obtain ⟨rfl, rfl⟩ := hF
    have hb := inR_iff.1 (show inR n (-9223372036854775808) 9223372036854775807 = true by simpa [obls] using ho)
    have e : getV (execF Try.prog gm_minus noLam 100 Try.f108 ([.int .i64 n].map .v) [] valK) = some (.int .i64 ((W (n.tmod 24 + 24)).tmod 24)) := by kernel_rfl
    rw [emod_tmod hb.1 hb.2] at e
    exact one e
  · cases hF

def gm_turnOf : Gam := ext gm_minus 108 (specV f_turnOf)
theorem gm_turnOf_ok : GamOk Try.prog gm_turnOf := ext_ok gm_minus_ok ok_turnOf

def f_l1Mod : List Value → Option (Value × List Bool)
  | [.int .i64 n] => some (.int .i64 (n % 24), [])
  | _ => none

theorem ok_l1Mod : SpecOk Try.prog 91 (specV f_l1Mod) := by
  refine mkV (n := 100) gm_turnOf_ok Try.func91 rfl fun vs x ob hF ho => ?_
  unfold f_l1Mod at hF
  split at hF
  · rename_i n
    simp only [Option.some.injEq, Prod.mk.injEq] at hF
    obtain ⟨rfl, rfl⟩ := hF
    have e : execF Try.prog gm_turnOf noLam 100 Try.f91 ([.int .i64 n].map .v) [] valK = cond (decide (n.tmod 24 < 0)) (rv (.int .i64 (W (n.tmod 24 + 24)))) (rv (.int .i64 (n.tmod 24))) := by kernel_rfl
    rw [e]
    exact gives_of (by rw [outV_cond, outV_rv, outV_rv, cond_some, cond_int, modZ_eq])
  · cases hF

def gm_l1Mod : Gam := ext gm_turnOf 91 (specV f_l1Mod)
theorem gm_l1Mod_ok : GamOk Try.prog gm_l1Mod := ext_ok gm_turnOf_ok ok_l1Mod

def f_l1Is : List Value → Option (Value × List Bool)
  | [.int .i64 n] => some (.bool (inR n 0 23), [])
  | _ => none

theorem ok_l1Is : SpecOk Try.prog 112 (specV f_l1Is) := by
  refine mkV (n := 100) gm_l1Mod_ok Try.func112 rfl fun vs x ob hF ho => ?_
  unfold f_l1Is at hF
  split at hF
  · rename_i n
    simp only [Option.some.injEq, Prod.mk.injEq] at hF
    obtain ⟨rfl, rfl⟩ := hF
    exact one (by kernel_rfl)
  · cases hF

def gm_l1Is : Gam := ext gm_l1Mod 112 (specV f_l1Is)
theorem gm_l1Is_ok : GamOk Try.prog gm_l1Is := ext_ok gm_l1Mod_ok ok_l1Is

def f_splus : List Value → Option (Value × List Bool)
  | [.agg ⟨[.int .i64 s0, .int .i64 s1, .int .i64 s2, .int .i64 s3]⟩, .agg ⟨[.int .i64 t0, .int .i64 t1, .int .i64 t2, .int .i64 t3]⟩] => some (sdv (fun k => W ((v4 s0 s1 s2 s3) k + (v4 t0 t1 t2 t3) k)), [])
  | _ => none

theorem ok_splus : SpecOk Try.prog 62 (specV f_splus) := by
  refine mkV (n := 100) gm_l1Is_ok Try.func62 rfl fun vs x ob hF ho => ?_
  unfold f_splus at hF
  split at hF
  · rename_i s0 s1 s2 s3 t0 t1 t2 t3
    simp only [Option.some.injEq, Prod.mk.injEq] at hF
    obtain ⟨rfl, rfl⟩ := hF
    exact one (by kernel_rfl)
  · cases hF

def gm_splus : Gam := ext gm_l1Is 62 (specV f_splus)
theorem gm_splus_ok : GamOk Try.prog gm_splus := ext_ok gm_l1Is_ok ok_splus

def f_sscaled : List Value → Option (Value × List Bool)
  | [.agg ⟨[.int .i64 s0, .int .i64 s1, .int .i64 s2, .int .i64 s3]⟩, .int .i64 n] => some (sdv (fun k => W (n * (v4 s0 s1 s2 s3) k)), [])
  | _ => none

theorem ok_sscaled : SpecOk Try.prog 109 (specV f_sscaled) := by
  refine mkV (n := 100) gm_splus_ok Try.func109 rfl fun vs x ob hF ho => ?_
  unfold f_sscaled at hF
  split at hF
  · rename_i s0 s1 s2 s3 n
    simp only [Option.some.injEq, Prod.mk.injEq] at hF
    obtain ⟨rfl, rfl⟩ := hF
    exact one (by kernel_rfl)
  · cases hF

def gm_sscaled : Gam := ext gm_splus 109 (specV f_sscaled)
theorem gm_sscaled_ok : GamOk Try.prog gm_sscaled := ext_ok gm_splus_ok ok_sscaled

def f_coslo : List Value → Option (Value × List Bool)
  | [.int .i64 n] => some (sdv (cosT n.toNat), [decide (0 ≤ n), decide (n ≤ (12 : Nat))])
  | _ => none

theorem ok_coslo : SpecOk Try.prog 107 (specV f_coslo) := by
  refine mkV (n := 100) gm_sscaled_ok Try.func107 rfl fun vs x ob hF ho => ?_
  unfold f_coslo at hF
  split at hF
  · rename_i n
    simp only [Option.some.injEq, Prod.mk.injEq] at hF
    obtain ⟨rfl, rfl⟩ := hF
    obtain ⟨h0, h1⟩ := obl2 ho
    have h0 := of_decide_eq_true h0
    have h1 := of_decide_eq_true h1
    obtain ⟨k, rfl⟩ := Int.eq_ofNat_of_zero_le h0
    have hc : k = 0 ∨ k = 1 ∨ k = 2 ∨ k = 3 ∨ k = 4 ∨ k = 5 ∨ k = 6 ∨ k = 7 ∨ k = 8 ∨ k = 9 ∨ k = 10 ∨ k = 11 ∨ k = 12 := by omega
    clear ho h0 h1
    rcases hc with rfl | rfl | rfl | rfl | rfl | rfl | rfl | rfl | rfl | rfl | rfl | rfl | rfl
    · exact one (by kernel_rfl)
    · exact one (by kernel_rfl)
    · exact one (by kernel_rfl)
    · exact one (by kernel_rfl)
    · exact one (by kernel_rfl)
    · exact one (by kernel_rfl)
    · exact one (by kernel_rfl)
    · exact one (by kernel_rfl)
    · exact one (by kernel_rfl)
    · exact one (by kernel_rfl)
    · exact one (by kernel_rfl)
    · exact one (by kernel_rfl)
    · exact one (by kernel_rfl)
  · cases hF

def gm_coslo : Gam := ext gm_sscaled 107 (specV f_coslo)
theorem gm_coslo_ok : GamOk Try.prog gm_coslo := ext_ok gm_sscaled_ok ok_coslo

def f_cosine : List Value → Option (Value × List Bool)
  | [.int .i64 n] => some (sdv (cosT n.toNat), [decide (0 ≤ n), decide (n ≤ (23 : Nat))])
  | _ => none

theorem ok_cosine : SpecOk Try.prog 107 (specV f_cosine) := by
  refine mkV (n := 100) gm_coslo_ok Try.func107 rfl fun vs x ob hF ho => ?_
  unfold f_cosine at hF
  split at hF
  · rename_i n
    simp only [Option.some.injEq, Prod.mk.injEq] at hF
    obtain ⟨rfl, rfl⟩ := hF
    obtain ⟨h0, h1⟩ := obl2 ho
    have h0 := of_decide_eq_true h0
    have h1 := of_decide_eq_true h1
    obtain ⟨k, rfl⟩ := Int.eq_ofNat_of_zero_le h0
    have hc : k = 0 ∨ k = 1 ∨ k = 2 ∨ k = 3 ∨ k = 4 ∨ k = 5 ∨ k = 6 ∨ k = 7 ∨ k = 8 ∨ k = 9 ∨ k = 10 ∨ k = 11 ∨ k = 12 ∨ k = 13 ∨ k = 14 ∨ k = 15 ∨ k = 16 ∨ k = 17 ∨ k = 18 ∨ k = 19 ∨ k = 20 ∨ k = 21 ∨ k = 22 ∨ k = 23 := by omega
    clear ho h0 h1
    rcases hc with rfl | rfl | rfl | rfl | rfl | rfl | rfl | rfl | rfl | rfl | rfl | rfl | rfl | rfl | rfl | rfl | rfl | rfl | rfl | rfl | rfl | rfl | rfl | rfl
    · exact one (by kernel_rfl)
    · exact one (by kernel_rfl)
    · exact one (by kernel_rfl)
    · exact one (by kernel_rfl)
    · exact one (by kernel_rfl)
    · exact one (by kernel_rfl)
    · exact one (by kernel_rfl)
    · exact one (by kernel_rfl)
    · exact one (by kernel_rfl)
    · exact one (by kernel_rfl)
    · exact one (by kernel_rfl)
    · exact one (by kernel_rfl)
    · exact one (by kernel_rfl)
    · exact one (by kernel_rfl)
    · exact one (by kernel_rfl)
    · exact one (by kernel_rfl)
    · exact one (by kernel_rfl)
    · exact one (by kernel_rfl)
    · exact one (by kernel_rfl)
    · exact one (by kernel_rfl)
    · exact one (by kernel_rfl)
    · exact one (by kernel_rfl)
    · exact one (by kernel_rfl)
    · exact one (by kernel_rfl)
  · cases hF

def gm_cosine : Gam := ext gm_coslo 107 (specV f_cosine)
theorem gm_cosine_ok : GamOk Try.prog gm_cosine := ext_ok gm_coslo_ok ok_cosine

def f_mirror : List Value → Option (Value × List Bool)
  | [.agg ⟨[.int .i64 a0, .int .i64 a1, .int .i64 a2, .int .i64 a3, .int .i64 a4, .int .i64 a5, .int .i64 a6, .int .i64 a7]⟩] => some (cyv (mirF (v8 a0 a1 a2 a3 a4 a5 a6 a7)), [])
  | _ => none

theorem ok_mirror : SpecOk Try.prog 92 (specV f_mirror) := by
  refine mkV (n := 100) gm_cosine_ok Try.func92 rfl fun vs x ob hF ho => ?_
  unfold f_mirror at hF
  split at hF
  · rename_i a0 a1 a2 a3 a4 a5 a6 a7
    simp only [Option.some.injEq, Prod.mk.injEq] at hF
    obtain ⟨rfl, rfl⟩ := hF
    have e : getV (execF Try.prog gm_cosine noLam 100 Try.f92 ([.agg ⟨[.int .i64 a0, .int .i64 a1, .int .i64 a2, .int .i64 a3, .int .i64 a4, .int .i64 a5, .int .i64 a6, .int .i64 a7]⟩].map .v) [] valK) = some (cyv (redD (mirP (v8 a0 a1 a2 a3 a4 a5 a6 a7)) 25 17)) := by kernel_rfl
    rw [cyv_congr (mir_eq (v8 a0 a1 a2 a3 a4 a5 a6 a7))] at e
    exact one e
  · cases hF

def gm_mirror : Gam := ext gm_cosine 92 (specV f_mirror)
theorem gm_mirror_ok : GamOk Try.prog gm_mirror := ext_ok gm_cosine_ok ok_mirror

def f_times : List Value → Option (Value × List Bool)
  | [.agg ⟨[.int .i64 a0, .int .i64 a1, .int .i64 a2, .int .i64 a3, .int .i64 a4, .int .i64 a5, .int .i64 a6, .int .i64 a7]⟩, .agg ⟨[.int .i64 b0, .int .i64 b1, .int .i64 b2, .int .i64 b3, .int .i64 b4, .int .i64 b5, .int .i64 b6, .int .i64 b7]⟩] => some (cyv (mulF (v8 a0 a1 a2 a3 a4 a5 a6 a7) (v8 b0 b1 b2 b3 b4 b5 b6 b7)), [])
  | _ => none

theorem ok_times : SpecOk Try.prog 93 (specV f_times) := by
  refine mkV (n := 100) gm_mirror_ok Try.func93 rfl fun vs x ob hF ho => ?_
  unfold f_times at hF
  split at hF
  · rename_i a0 a1 a2 a3 a4 a5 a6 a7 b0 b1 b2 b3 b4 b5 b6 b7
    simp only [Option.some.injEq, Prod.mk.injEq] at hF
    obtain ⟨rfl, rfl⟩ := hF
    have e : getV (execF Try.prog gm_mirror noLam 100 Try.f93 ([.agg ⟨[.int .i64 a0, .int .i64 a1, .int .i64 a2, .int .i64 a3, .int .i64 a4, .int .i64 a5, .int .i64 a6, .int .i64 a7]⟩, .agg ⟨[.int .i64 b0, .int .i64 b1, .int .i64 b2, .int .i64 b3, .int .i64 b4, .int .i64 b5, .int .i64 b6, .int .i64 b7]⟩].map .v) [] valK) = some (cyv (redD (tP (v8 a0 a1 a2 a3 a4 a5 a6 a7) (v8 b0 b1 b2 b3 b4 b5 b6 b7) 64) 15 7)) := by kernel_rfl
    rw [cyv_congr (times_eq (v8 a0 a1 a2 a3 a4 a5 a6 a7) (v8 b0 b1 b2 b3 b4 b5 b6 b7))] at e
    exact one e
  · cases hF

def gm_times : Gam := ext gm_mirror 93 (specV f_times)
theorem gm_times_ok : GamOk Try.prog gm_times := ext_ok gm_mirror_ok ok_times

def f_im : List Value → Option (Value × List Bool)
  | [.agg ⟨[.int .i64 a0, .int .i64 a1, .int .i64 a2, .int .i64 a3, .int .i64 a4, .int .i64 a5, .int .i64 a6, .int .i64 a7]⟩] => some (sdv (imF (v8 a0 a1 a2 a3 a4 a5 a6 a7)), [])
  | _ => none

theorem ok_im : SpecOk Try.prog 82 (specV f_im) := by
  refine mkV (n := 100) gm_times_ok Try.func82 rfl fun vs x ob hF ho => ?_
  unfold f_im at hF
  split at hF
  · rename_i a0 a1 a2 a3 a4 a5 a6 a7
    simp only [Option.some.injEq, Prod.mk.injEq] at hF
    obtain ⟨rfl, rfl⟩ := hF
    have e : getV (execF Try.prog gm_times noLam 100 Try.f82 ([.agg ⟨[.int .i64 a0, .int .i64 a1, .int .i64 a2, .int .i64 a3, .int .i64 a4, .int .i64 a5, .int .i64 a6, .int .i64 a7]⟩].map .v) [] valK) = some (sdv (imO (v8 a0 a1 a2 a3 a4 a5 a6 a7) 8)) := by kernel_rfl
    rw [sdv_congr (imO_eq (v8 a0 a1 a2 a3 a4 a5 a6 a7))] at e
    exact one e
  · cases hF

def gm_im : Gam := ext gm_times 82 (specV f_im)
theorem gm_im_ok : GamOk Try.prog gm_im := ext_ok gm_times_ok ok_im

def f_re : List Value → Option (Value × List Bool)
  | [.agg ⟨[.int .i64 a0, .int .i64 a1, .int .i64 a2, .int .i64 a3, .int .i64 a4, .int .i64 a5, .int .i64 a6, .int .i64 a7]⟩] => some (sdv (reF (v8 a0 a1 a2 a3 a4 a5 a6 a7)), [])
  | _ => none

theorem ok_re : SpecOk Try.prog 94 (specV f_re) := by
  refine mkV (n := 100) gm_im_ok Try.func94 rfl fun vs x ob hF ho => ?_
  unfold f_re at hF
  split at hF
  · rename_i a0 a1 a2 a3 a4 a5 a6 a7
    simp only [Option.some.injEq, Prod.mk.injEq] at hF
    obtain ⟨rfl, rfl⟩ := hF
    have e : getV (execF Try.prog gm_im noLam 100 Try.f94 ([.agg ⟨[.int .i64 a0, .int .i64 a1, .int .i64 a2, .int .i64 a3, .int .i64 a4, .int .i64 a5, .int .i64 a6, .int .i64 a7]⟩].map .v) [] valK) = some (sdv (reO (v8 a0 a1 a2 a3 a4 a5 a6 a7) 8)) := by kernel_rfl
    rw [sdv_congr (reO_eq (v8 a0 a1 a2 a3 a4 a5 a6 a7))] at e
    exact one e
  · cases hF

def gm_re : Gam := ext gm_im 94 (specV f_re)
theorem gm_re_ok : GamOk Try.prog gm_re := ext_ok gm_im_ok ok_re

def f_cross : List Value → Option (Value × List Bool)
  | [.agg ⟨[.int .i64 a0, .int .i64 a1, .int .i64 a2, .int .i64 a3, .int .i64 a4, .int .i64 a5, .int .i64 a6, .int .i64 a7]⟩, .agg ⟨[.int .i64 b0, .int .i64 b1, .int .i64 b2, .int .i64 b3, .int .i64 b4, .int .i64 b5, .int .i64 b6, .int .i64 b7]⟩] => some (sdv (imF (mulF (mirF (v8 a0 a1 a2 a3 a4 a5 a6 a7)) (v8 b0 b1 b2 b3 b4 b5 b6 b7))), [])
  | _ => none

theorem ok_cross : SpecOk Try.prog 63 (specV f_cross) := by
  refine mkV (n := 100) gm_re_ok Try.func63 rfl fun vs x ob hF ho => ?_
  unfold f_cross at hF
  split at hF
  · rename_i a0 a1 a2 a3 a4 a5 a6 a7 b0 b1 b2 b3 b4 b5 b6 b7
    simp only [Option.some.injEq, Prod.mk.injEq] at hF
    obtain ⟨rfl, rfl⟩ := hF
    exact one (by kernel_rfl)
  · cases hF

def gm_cross : Gam := ext gm_re 63 (specV f_cross)
theorem gm_cross_ok : GamOk Try.prog gm_cross := ext_ok gm_re_ok ok_cross

def f_along : List Value → Option (Value × List Bool)
  | [.agg ⟨[.int .i64 a0, .int .i64 a1, .int .i64 a2, .int .i64 a3, .int .i64 a4, .int .i64 a5, .int .i64 a6, .int .i64 a7]⟩, .agg ⟨[.int .i64 b0, .int .i64 b1, .int .i64 b2, .int .i64 b3, .int .i64 b4, .int .i64 b5, .int .i64 b6, .int .i64 b7]⟩] => some (sdv (reF (mulF (mirF (v8 a0 a1 a2 a3 a4 a5 a6 a7)) (v8 b0 b1 b2 b3 b4 b5 b6 b7))), [])
  | _ => none

theorem ok_along : SpecOk Try.prog 56 (specV f_along) := by
  refine mkV (n := 100) gm_cross_ok Try.func56 rfl fun vs x ob hF ho => ?_
  unfold f_along at hF
  split at hF
  · rename_i a0 a1 a2 a3 a4 a5 a6 a7 b0 b1 b2 b3 b4 b5 b6 b7
    simp only [Option.some.injEq, Prod.mk.injEq] at hF
    obtain ⟨rfl, rfl⟩ := hF
    exact one (by kernel_rfl)
  · cases hF

def gm_along : Gam := ext gm_cross 56 (specV f_along)
theorem gm_along_ok : GamOk Try.prog gm_along := ext_ok gm_cross_ok ok_along

def f_l2Sum : List Value → Option (Value × List Bool)
  | [.agg ⟨[.int .i64 a0, .int .i64 a1, .int .i64 a2, .int .i64 a3, .int .i64 a4, .int .i64 a5, .int .i64 a6, .int .i64 a7]⟩, .int .i64 n, .agg ⟨[.int .i64 b0, .int .i64 b1, .int .i64 b2, .int .i64 b3, .int .i64 b4, .int .i64 b5, .int .i64 b6, .int .i64 b7]⟩] => some (cyv (sumF (v8 a0 a1 a2 a3 a4 a5 a6 a7) n (v8 b0 b1 b2 b3 b4 b5 b6 b7)), [])
  | _ => none

theorem ok_l2Sum : SpecOk Try.prog 83 (specV f_l2Sum) := by
  refine mkV (n := 100) gm_along_ok Try.func83 rfl fun vs x ob hF ho => ?_
  unfold f_l2Sum at hF
  split at hF
  · rename_i a0 a1 a2 a3 a4 a5 a6 a7 n b0 b1 b2 b3 b4 b5 b6 b7
    simp only [Option.some.injEq, Prod.mk.injEq] at hF
    obtain ⟨rfl, rfl⟩ := hF
    have e : getV (execF Try.prog gm_along noLam 100 Try.f83 ([.agg ⟨[.int .i64 a0, .int .i64 a1, .int .i64 a2, .int .i64 a3, .int .i64 a4, .int .i64 a5, .int .i64 a6, .int .i64 a7]⟩, .int .i64 n, .agg ⟨[.int .i64 b0, .int .i64 b1, .int .i64 b2, .int .i64 b3, .int .i64 b4, .int .i64 b5, .int .i64 b6, .int .i64 b7]⟩].map .v) [] valK) = some (cyv (fun k => W ((v8 a0 a1 a2 a3 a4 a5 a6 a7) k + W (n * (v8 b0 b1 b2 b3 b4 b5 b6 b7) k)))) := by kernel_rfl
    rw [cyv_congr (g := sumF (v8 a0 a1 a2 a3 a4 a5 a6 a7) n (v8 b0 b1 b2 b3 b4 b5 b6 b7)) fun k _ => w64_add_r _ _] at e
    exact one e
  · cases hF

def gm_l2Sum : Gam := ext gm_along 83 (specV f_l2Sum)
theorem gm_l2Sum_ok : GamOk Try.prog gm_l2Sum := ext_ok gm_along_ok ok_l2Sum

def f_l2Step : List Value → Option (Value × List Bool)
  | [.agg ⟨[.int .i64 a0, .int .i64 a1, .int .i64 a2, .int .i64 a3, .int .i64 a4, .int .i64 a5, .int .i64 a6, .int .i64 a7]⟩] => some (cyv (stepF (v8 a0 a1 a2 a3 a4 a5 a6 a7)), [])
  | _ => none

theorem ok_l2Step : SpecOk Try.prog 89 (specV f_l2Step) := by
  refine mkV (n := 100) gm_l2Sum_ok Try.func89 rfl fun vs x ob hF ho => ?_
  unfold f_l2Step at hF
  split at hF
  · rename_i a0 a1 a2 a3 a4 a5 a6 a7
    simp only [Option.some.injEq, Prod.mk.injEq] at hF
    obtain ⟨rfl, rfl⟩ := hF
    exact one (by kernel_rfl)
  · cases hF

def gm_l2Step : Gam := ext gm_l2Sum 89 (specV f_l2Step)
theorem gm_l2Step_ok : GamOk Try.prog gm_l2Step := ext_ok gm_l2Sum_ok ok_l2Step

def f_l2Turned : List Value → Option (Value × List Bool)
  | [.agg ⟨[.int .i64 a0, .int .i64 a1, .int .i64 a2, .int .i64 a3, .int .i64 a4, .int .i64 a5, .int .i64 a6, .int .i64 a7]⟩, .int .i64 n] => some (cyv (turnedF (v8 a0 a1 a2 a3 a4 a5 a6 a7) n.toNat), [decide (0 ≤ n), decide (n ≤ (23 : Nat))])
  | _ => none

theorem ok_l2Turned : SpecOk Try.prog 113 (specV f_l2Turned) := by
  refine mkV (n := 100) gm_l2Step_ok Try.func113 rfl fun vs x ob hF ho => ?_
  unfold f_l2Turned at hF
  split at hF
  · rename_i a0 a1 a2 a3 a4 a5 a6 a7 n
    simp only [Option.some.injEq, Prod.mk.injEq] at hF
    obtain ⟨rfl, rfl⟩ := hF
    obtain ⟨h0, h1⟩ := obl2 ho
    have h0 := of_decide_eq_true h0
    have h1 := of_decide_eq_true h1
    obtain ⟨k, rfl⟩ := Int.eq_ofNat_of_zero_le h0
    have hc : k = 0 ∨ k = 1 ∨ k = 2 ∨ k = 3 ∨ k = 4 ∨ k = 5 ∨ k = 6 ∨ k = 7 ∨ k = 8 ∨ k = 9 ∨ k = 10 ∨ k = 11 ∨ k = 12 ∨ k = 13 ∨ k = 14 ∨ k = 15 ∨ k = 16 ∨ k = 17 ∨ k = 18 ∨ k = 19 ∨ k = 20 ∨ k = 21 ∨ k = 22 ∨ k = 23 := by omega
    clear ho h0 h1
    rcases hc with rfl | rfl | rfl | rfl | rfl | rfl | rfl | rfl | rfl | rfl | rfl | rfl | rfl | rfl | rfl | rfl | rfl | rfl | rfl | rfl | rfl | rfl | rfl | rfl
    · exact one (by kernel_rfl)
    · exact one (by kernel_rfl)
    · exact one (by kernel_rfl)
    · exact one (by kernel_rfl)
    · exact one (by kernel_rfl)
    · exact one (by kernel_rfl)
    · exact one (by kernel_rfl)
    · exact one (by kernel_rfl)
    · exact one (by kernel_rfl)
    · exact one (by kernel_rfl)
    · exact one (by kernel_rfl)
    · exact one (by kernel_rfl)
    · exact one (by kernel_rfl)
    · exact one (by kernel_rfl)
    · exact one (by kernel_rfl)
    · exact one (by kernel_rfl)
    · exact one (by kernel_rfl)
    · exact one (by kernel_rfl)
    · exact one (by kernel_rfl)
    · exact one (by kernel_rfl)
    · exact one (by kernel_rfl)
    · exact one (by kernel_rfl)
    · exact one (by kernel_rfl)
    · exact one (by kernel_rfl)
  · cases hF

def gm_l2Turned : Gam := ext gm_l2Step 113 (specV f_l2Turned)
theorem gm_l2Turned_ok : GamOk Try.prog gm_l2Turned := ext_ok gm_l2Step_ok ok_l2Turned

def f_l2Times : List Value → Option (Value × List Bool)
  | [.agg ⟨[.int .i64 a0, .int .i64 a1, .int .i64 a2, .int .i64 a3, .int .i64 a4, .int .i64 a5, .int .i64 a6, .int .i64 a7]⟩, .agg ⟨[.int .i64 b0, .int .i64 b1, .int .i64 b2, .int .i64 b3, .int .i64 b4, .int .i64 b5, .int .i64 b6, .int .i64 b7]⟩] => some (cyv (mulF (v8 a0 a1 a2 a3 a4 a5 a6 a7) (v8 b0 b1 b2 b3 b4 b5 b6 b7)), [])
  | _ => none

theorem ok_l2Times : SpecOk Try.prog 52 (specV f_l2Times) := by
  refine mkV (n := 100) gm_l2Turned_ok Try.func52 rfl fun vs x ob hF ho => ?_
  unfold f_l2Times at hF
  split at hF
  · rename_i a0 a1 a2 a3 a4 a5 a6 a7 b0 b1 b2 b3 b4 b5 b6 b7
    simp only [Option.some.injEq, Prod.mk.injEq] at hF
    obtain ⟨rfl, rfl⟩ := hF
    have e : getV (execF Try.prog gm_l2Turned noLam 100 Try.f52 ([.agg ⟨[.int .i64 a0, .int .i64 a1, .int .i64 a2, .int .i64 a3, .int .i64 a4, .int .i64 a5, .int .i64 a6, .int .i64 a7]⟩, .agg ⟨[.int .i64 b0, .int .i64 b1, .int .i64 b2, .int .i64 b3, .int .i64 b4, .int .i64 b5, .int .i64 b6, .int .i64 b7]⟩].map .v) [] valK) = some (cyv (timesS (v8 a0 a1 a2 a3 a4 a5 a6 a7) (v8 b0 b1 b2 b3 b4 b5 b6 b7))) := by kernel_rfl
    rw [cyv_congr (timesS_eq (v8 a0 a1 a2 a3 a4 a5 a6 a7) (v8 b0 b1 b2 b3 b4 b5 b6 b7))] at e
    exact one e
  · cases hF

def gm_l2Times : Gam := ext gm_l2Turned 52 (specV f_l2Times)
theorem gm_l2Times_ok : GamOk Try.prog gm_l2Times := ext_ok gm_l2Turned_ok ok_l2Times

def f_l2Mirror : List Value → Option (Value × List Bool)
  | [.agg ⟨[.int .i64 a0, .int .i64 a1, .int .i64 a2, .int .i64 a3, .int .i64 a4, .int .i64 a5, .int .i64 a6, .int .i64 a7]⟩] => some (cyv (mirF (v8 a0 a1 a2 a3 a4 a5 a6 a7)), [])
  | _ => none

theorem ok_l2Mirror : SpecOk Try.prog 53 (specV f_l2Mirror) := by
  refine mkV (n := 100) gm_l2Times_ok Try.func53 rfl fun vs x ob hF ho => ?_
  unfold f_l2Mirror at hF
  split at hF
  · rename_i a0 a1 a2 a3 a4 a5 a6 a7
    simp only [Option.some.injEq, Prod.mk.injEq] at hF
    obtain ⟨rfl, rfl⟩ := hF
    have e : getV (execF Try.prog gm_l2Times noLam 100 Try.f53 ([.agg ⟨[.int .i64 a0, .int .i64 a1, .int .i64 a2, .int .i64 a3, .int .i64 a4, .int .i64 a5, .int .i64 a6, .int .i64 a7]⟩].map .v) [] valK) = some (cyv (mirrorS (v8 a0 a1 a2 a3 a4 a5 a6 a7))) := by kernel_rfl
    rw [cyv_congr (mirrorS_eq (v8 a0 a1 a2 a3 a4 a5 a6 a7))] at e
    exact one e
  · cases hF

def gm_l2Mirror : Gam := ext gm_l2Times 53 (specV f_l2Mirror)
theorem gm_l2Mirror_ok : GamOk Try.prog gm_l2Mirror := ext_ok gm_l2Times_ok ok_l2Mirror

def f_l3Im : List Value → Option (Value × List Bool)
  | [.agg ⟨[.int .i64 a0, .int .i64 a1, .int .i64 a2, .int .i64 a3, .int .i64 a4, .int .i64 a5, .int .i64 a6, .int .i64 a7]⟩] => some (sdv (imF (v8 a0 a1 a2 a3 a4 a5 a6 a7)), [])
  | _ => none

theorem ok_l3Im : SpecOk Try.prog 84 (specV f_l3Im) := by
  refine mkV (n := 100) gm_l2Mirror_ok Try.func84 rfl fun vs x ob hF ho => ?_
  unfold f_l3Im at hF
  split at hF
  · rename_i a0 a1 a2 a3 a4 a5 a6 a7
    simp only [Option.some.injEq, Prod.mk.injEq] at hF
    obtain ⟨rfl, rfl⟩ := hF
    have e : getV (execF Try.prog gm_l2Mirror noLam 100 Try.f84 ([.agg ⟨[.int .i64 a0, .int .i64 a1, .int .i64 a2, .int .i64 a3, .int .i64 a4, .int .i64 a5, .int .i64 a6, .int .i64 a7]⟩].map .v) [] valK) = some (sdv (v4 (W (W (2 * (v8 a0 a1 a2 a3 a4 a5 a6 a7) 2) + W (4 * (v8 a0 a1 a2 a3 a4 a5 a6 a7) 6))) (W (W (W (W (0 - (v8 a0 a1 a2 a3 a4 a5 a6 a7) 1) + W (2 * (v8 a0 a1 a2 a3 a4 a5 a6 a7) 3)) + (v8 a0 a1 a2 a3 a4 a5 a6 a7) 5) + (v8 a0 a1 a2 a3 a4 a5 a6 a7) 7)) (W (2 * (v8 a0 a1 a2 a3 a4 a5 a6 a7) 4)) (W (W ((v8 a0 a1 a2 a3 a4 a5 a6 a7) 1 + (v8 a0 a1 a2 a3 a4 a5 a6 a7) 5) + (v8 a0 a1 a2 a3 a4 a5 a6 a7) 7)))) := by kernel_rfl
    rw [sdv_congr (g := imF (v8 a0 a1 a2 a3 a4 a5 a6 a7)) (forall4 ?_ ?_ ?_ ?_)] at e
    · exact one e
    all_goals (simp only [v4, imF, imZ, w64_add_l, w64_add_r, Int.zero_sub])
  · cases hF

def gm_l3Im : Gam := ext gm_l2Mirror 84 (specV f_l3Im)
theorem gm_l3Im_ok : GamOk Try.prog gm_l3Im := ext_ok gm_l2Mirror_ok ok_l3Im

def f_l3Re : List Value → Option (Value × List Bool)
  | [.agg ⟨[.int .i64 a0, .int .i64 a1, .int .i64 a2, .int .i64 a3, .int .i64 a4, .int .i64 a5, .int .i64 a6, .int .i64 a7]⟩] => some (sdv (reF (v8 a0 a1 a2 a3 a4 a5 a6 a7)), [])
  | _ => none

theorem ok_l3Re : SpecOk Try.prog 51 (specV f_l3Re) := by
  refine mkV (n := 100) gm_l3Im_ok Try.func51 rfl fun vs x ob hF ho => ?_
  unfold f_l3Re at hF
  split at hF
  · rename_i a0 a1 a2 a3 a4 a5 a6 a7
    simp only [Option.some.injEq, Prod.mk.injEq] at hF
    obtain ⟨rfl, rfl⟩ := hF
    have e : getV (execF Try.prog gm_l3Im noLam 100 Try.f51 ([.agg ⟨[.int .i64 a0, .int .i64 a1, .int .i64 a2, .int .i64 a3, .int .i64 a4, .int .i64 a5, .int .i64 a6, .int .i64 a7]⟩].map .v) [] valK) = some (sdv (v4 (W (W (4 * (v8 a0 a1 a2 a3 a4 a5 a6 a7) 0) + W (2 * (v8 a0 a1 a2 a3 a4 a5 a6 a7) 4))) (W (W (W ((v8 a0 a1 a2 a3 a4 a5 a6 a7) 1 + W (2 * (v8 a0 a1 a2 a3 a4 a5 a6 a7) 3)) - (v8 a0 a1 a2 a3 a4 a5 a6 a7) 5) + (v8 a0 a1 a2 a3 a4 a5 a6 a7) 7)) (W (2 * (v8 a0 a1 a2 a3 a4 a5 a6 a7) 2)) (W (W ((v8 a0 a1 a2 a3 a4 a5 a6 a7) 1 + (v8 a0 a1 a2 a3 a4 a5 a6 a7) 5) - (v8 a0 a1 a2 a3 a4 a5 a6 a7) 7)))) := by kernel_rfl
    rw [sdv_congr (g := reF (v8 a0 a1 a2 a3 a4 a5 a6 a7)) (forall4 ?_ ?_ ?_ ?_)] at e
    · exact one e
    all_goals (simp only [v4, reF, reZ, w64_add_l, w64_add_r, w64_sub_l])
  · cases hF

def gm_l3Re : Gam := ext gm_l3Im 51 (specV f_l3Re)
theorem gm_l3Re_ok : GamOk Try.prog gm_l3Re := ext_ok gm_l3Im_ok ok_l3Re

def f_l8Cross : List Value → Option (Value × List Bool)
  | [.agg ⟨[.int .i64 a0, .int .i64 a1, .int .i64 a2, .int .i64 a3, .int .i64 a4, .int .i64 a5, .int .i64 a6, .int .i64 a7]⟩, .agg ⟨[.int .i64 b0, .int .i64 b1, .int .i64 b2, .int .i64 b3, .int .i64 b4, .int .i64 b5, .int .i64 b6, .int .i64 b7]⟩] => some (sdv (imF (mulF (mirF (v8 a0 a1 a2 a3 a4 a5 a6 a7)) (v8 b0 b1 b2 b3 b4 b5 b6 b7))), [])
  | _ => none

theorem ok_l8Cross : SpecOk Try.prog 47 (specV f_l8Cross) := by
  refine mkV (n := 100) gm_l3Re_ok Try.func47 rfl fun vs x ob hF ho => ?_
  unfold f_l8Cross at hF
  split at hF
  · rename_i a0 a1 a2 a3 a4 a5 a6 a7 b0 b1 b2 b3 b4 b5 b6 b7
    simp only [Option.some.injEq, Prod.mk.injEq] at hF
    obtain ⟨rfl, rfl⟩ := hF
    exact one (by kernel_rfl)
  · cases hF

def gm_l8Cross : Gam := ext gm_l3Re 47 (specV f_l8Cross)
theorem gm_l8Cross_ok : GamOk Try.prog gm_l8Cross := ext_ok gm_l3Re_ok ok_l8Cross

def f_l3Sum : List Value → Option (Value × List Bool)
  | [.agg ⟨[.int .i64 s0, .int .i64 s1, .int .i64 s2, .int .i64 s3]⟩, .int .i64 n, .agg ⟨[.int .i64 t0, .int .i64 t1, .int .i64 t2, .int .i64 t3]⟩] => some (sdv (fun k => W ((v4 s0 s1 s2 s3) k + W (n * (v4 t0 t1 t2 t3) k))), [])
  | _ => none

theorem ok_l3Sum : SpecOk Try.prog 65 (specV f_l3Sum) := by
  refine mkV (n := 100) gm_l8Cross_ok Try.func65 rfl fun vs x ob hF ho => ?_
  unfold f_l3Sum at hF
  split at hF
  · rename_i s0 s1 s2 s3 n t0 t1 t2 t3
    simp only [Option.some.injEq, Prod.mk.injEq] at hF
    obtain ⟨rfl, rfl⟩ := hF
    exact one (by kernel_rfl)
  · cases hF

def gm_l3Sum : Gam := ext gm_l8Cross 65 (specV f_l3Sum)
theorem gm_l3Sum_ok : GamOk Try.prog gm_l3Sum := ext_ok gm_l8Cross_ok ok_l3Sum

end Go.Proofs.Ytkbdppnlojlcdaa
