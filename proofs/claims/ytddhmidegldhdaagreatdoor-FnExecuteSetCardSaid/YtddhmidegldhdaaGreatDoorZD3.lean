/- DeleteFunc on wheels: those whose radius is nothing are left out. Conditions: a list of wheels. -/
import Derived.Test.YtddhmidegldhdaaGreatDoorZD0
import Derived.Test.YtddhmidegldhdaaGreatDoorZD1
import Derived.Test.YtddhmidegldhdaaGreatDoorZD2
import Derived.Test.YtddhmidegldhdaaGreatDoorProg
/- The abstract machine over this seat's program; what its small functions on numbers, exact points and surds return. No conditions beyond those that each contract names. -/
namespace Go.Proofs.YtddhmidegldhdaaGreatDoor
open Go.RowKit

theorem mixed : Tryz.prog.follows .mixedOrders = true := by kernel_rfl

theorem names_ok : Tryz.prog.funcs.toList.all (fun fn => !(fn.name == "runtime.NumGoroutine")) = true := by kernel_rfl

theorem enters : Enters Tryz.prog := by
  intro g fn hg hb args w
  have hn : (fn.name == "runtime.NumGoroutine") = false := by
    have := List.all_eq_true.1 names_ok fn (by
      have := (Array.getElem?_eq_some_iff.1 hg)
      obtain ⟨hlt, e⟩ := this
      rw [← e]
      simp)
    simpa using this
  obtain ⟨c, hc⟩ := Option.isSome_iff_exists.1 hb
  have hn' : ¬ fn.name = "runtime.NumGoroutine" := by simpa using hn
  simp [callFunc, hg, hn', hc]

def g0 : Gam := fun _ => none
theorem g0_ok : GamOk Tryz.prog g0 := fun _ _ h => by cases h

structure Good (r : Res) (x : Value) : Prop where
  out : r.ok (Gives x)

theorem mkV {Γ : Gam} (hΓ : GamOk Tryz.prog Γ) {n : Nat} {f : FuncId} {fn : Func} (hf : Tryz.prog.funcs[f]? = some fn) (hb : fn.body.isSome = true) {F : List Value → Option (Value × List Bool)}
    (h : ∀ vs x ob, F vs = some (x, ob) → obls ob = true → Good (execF Tryz.prog Γ noLam n fn (vs.map .v) [] valK) x) : SpecOk Tryz.prog f (specV F) :=
  specV_ok (fun args w => enters f fn hf hb args w) fun vs x ob hF ho w ht => calls_val hΓ mixed enters hf (h vs x ob hF ho).out w ht

abbrev i64 (n : Int) : Value := .int .i64 n
abbrev cyv (a : Nat → Int) : Value := .agg #[.int .i64 (a 0), .int .i64 (a 1), .int .i64 (a 2), .int .i64 (a 3), .int .i64 (a 4), .int .i64 (a 5), .int .i64 (a 6), .int .i64 (a 7)]
def getV (r : Res) : Option Value := match r with | .out _ [v] _ => v.toV | _ => none
theorem one {r : Res} {x : Value} (h : getV r = some x) : Good r x := by
  constructor
  unfold getV at h
  split at h
  · exact ⟨_, rfl, h⟩
  · cases h

def outV (r : Res) : Option Value := getV r
theorem gives_of {r : Res} {x : Value} (h : outV r = some x) : Good r x := one h
theorem outV_cond (b : Bool) (r s : Res) : outV (cond b r s) = cond b (outV r) (outV s) := by cases b <;> rfl
theorem outV_rv (x : Value) : outV (rv x) = some x := rfl
theorem cond_some {α : Type} (b : Bool) (x y : α) : cond b (some x) (some y) = some (cond b x y) := by cases b <;> rfl
theorem cond_bool (b x y : Bool) : cond b (Value.bool x) (Value.bool y) = Value.bool (cond b x y) := by cases b <;> rfl
theorem cond_int (b : Bool) (k : IntKind) (x y : Int) : cond b (Value.int k x) (Value.int k y) = Value.int k (cond b x y) := by cases b <;> rfl

theorem cyv_congr {f g : Nat → Int} (h : ∀ k, k < 8 → f k = g k) : cyv f = cyv g := by
  rw [cyv, h 0 (by decide), h 1 (by decide), h 2 (by decide), h 3 (by decide), h 4 (by decide), h 5 (by decide), h 6 (by decide), h 7 (by decide)]
theorem obl2 {a b : Bool} (h : obls [a, b] = true) : a = true ∧ b = true := by simpa [obls] using h
end Go.Proofs.YtddhmidegldhdaaGreatDoor

/- Plain algebra: the program's own ways to the product, the mirrored point, and the signs. No program, no conditions. -/
namespace Go.Proofs.YtddhmidegldhdaaGreatDoor
open Go.RowKit

def redStep (p : Nat → Int) (k : Nat) : Nat → Int := fun m => if m = k then 0 else if m + 4 = k then W (p m + p k) else if m + 8 = k then W (p m - p k) else p m
def redD (p : Nat → Int) (n : Nat) : Nat → Nat → Int
  | 0 => p
  | d + 1 => redStep (redD p n d) (n - 1 - d)

def mirP (a : Nat → Int) (m : Nat) : Int := if m = 0 then W (0 + a 0) else if 17 ≤ m ∧ m ≤ 23 then W (0 + a (24 - m)) else 0

set_option maxRecDepth 100000 in
set_option maxHeartbeats 4000000 in
theorem mir_eq (a : Nat → Int) : ∀ k, k < 8 → redD (mirP a) 25 17 k = mirF a k := by
  refine forall8 ?_ ?_ ?_ ?_ ?_ ?_ ?_ ?_ <;>
    simp [redD, redStep, mirP, mirF, mirZ, w64_w64, w64_neg, w64_add_l, w64_add_r, w64_sub_l, w64_sub_r] <;> (congr 1; omega)

def tP (a b : Nat → Int) : Nat → Nat → Int
  | 0 => zeroF
  | s + 1 => fun m => if m = s / 8 + s % 8 then W (tP a b s m + W (a (s / 8) * b (s % 8))) else tP a b s m

set_option maxRecDepth 100000 in
set_option maxHeartbeats 8000000 in
theorem tP_eq (a b : Nat → Int) : ∀ m, m < 15 → tP a b 64 m = W (convF a b m) := by
  iterate 15 refine forall_succ ?_ ?_
  · exact forall_zero
  all_goals
    simp [tP, convF, w64_w64, w64_add_l, w64_add_r]

set_option maxRecDepth 100000 in
set_option maxHeartbeats 4000000 in
theorem red15_eq (p q : Nat → Int) (h : ∀ m, m < 15 → p m = W (q m)) : redD p 15 7 0 = W (q 0 - q 8 - q 12) ∧ redD p 15 7 1 = W (q 1 - q 9 - q 13) ∧ redD p 15 7 2 = W (q 2 - q 10 - q 14) ∧
    redD p 15 7 3 = W (q 3 - q 11) ∧ redD p 15 7 4 = W (q 4 + q 8) ∧ redD p 15 7 5 = W (q 5 + q 9) ∧ redD p 15 7 6 = W (q 6 + q 10) ∧ redD p 15 7 7 = W (q 7 + q 11) := by
  refine ⟨?_, ?_, ?_, ?_, ?_, ?_, ?_, ?_⟩ <;>
    simp [redD, redStep, h, w64_add_l, w64_add_r, w64_sub_l, w64_sub_r] <;> (congr 1; omega)

theorem times_eq (a b : Nat → Int) : ∀ k, k < 8 → redD (tP a b 64) 15 7 k = mulF a b k := by
  obtain ⟨h0, h1, h2, h3, h4, h5, h6, h7⟩ := red15_eq _ _ (tP_eq a b)
  exact forall8 h0 h1 h2 h3 h4 h5 h6 h7


end Go.Proofs.YtddhmidegldhdaaGreatDoor

/- The abstract machine at the small functions on exact points. No conditions. -/
namespace Go.Proofs.YtddhmidegldhdaaGreatDoor
open Go.RowKit
set_option maxRecDepth 100000

def f_within : List Value → Option (Value × List Bool)
  | [.int .i64 n, .int .i64 l, .int .i64 h] => some (.bool (inR n l h), [])
  | _ => none

theorem ok_within : SpecOk Tryz.prog 35 (specV f_within) := by
  refine mkV (n := 100) g0_ok Tryz.func35 rfl fun vs x ob hF ho => ?_
  unfold f_within at hF
  split at hF
  · rename_i n l h
    simp only [Option.some.injEq, Prod.mk.injEq] at hF
    obtain ⟨rfl, rfl⟩ := hF
    have e : execF Tryz.prog g0 noLam 100 Tryz.f35 ([.int .i64 n, .int .i64 l, .int .i64 h].map .v) [] valK = cond (decide (n ≥ l)) (rv (.bool (decide (n ≤ h)))) (rv (.bool false)) := by kernel_rfl
    rw [e]
    exact gives_of (by simp only [outV_cond, outV_rv, inR]; cases decide (l ≤ n) <;> rfl)
  · cases hF

def gm_within : Gam := ext g0 35 (specV f_within)
theorem gm_within_ok : GamOk Tryz.prog gm_within := ext_ok g0_ok ok_within

theorem ok_l6In : SpecOk Tryz.prog 39 (specV f_within) := by
  refine mkV (n := 100) gm_within_ok Tryz.func39 rfl fun vs x ob hF ho => ?_
  unfold f_within at hF
  split at hF
  · rename_i n l h
    simp only [Option.some.injEq, Prod.mk.injEq] at hF
    obtain ⟨rfl, rfl⟩ := hF
    have e : execF Tryz.prog gm_within noLam 100 Tryz.f39 ([.int .i64 n, .int .i64 l, .int .i64 h].map .v) [] valK = cond (decide (n ≥ l)) (rv (.bool (decide (n ≤ h)))) (rv (.bool false)) := by kernel_rfl
    rw [e]
    exact gives_of (by simp only [outV_cond, outV_rv, inR]; cases decide (l ≤ n) <;> rfl)
  · cases hF

def gm_l6In : Gam := ext gm_within 39 (specV f_within)
theorem gm_l6In_ok : GamOk Tryz.prog gm_l6In := ext_ok gm_within_ok ok_l6In

def f_small : List Value → Option (Value × List Bool)
  | [.agg ⟨[.int .i64 a0, .int .i64 a1, .int .i64 a2, .int .i64 a3, .int .i64 a4, .int .i64 a5, .int .i64 a6, .int .i64 a7]⟩, .int .i64 m] => some (.bool (smallF (v8 a0 a1 a2 a3 a4 a5 a6 a7) (W (0 - m)) m), [])
  | _ => none

theorem ok_small : SpecOk Tryz.prog 132 (specV f_small) := by
  refine mkV (n := 100) gm_l6In_ok Tryz.func132 rfl fun vs x ob hF ho => ?_
  unfold f_small at hF
  split at hF
  · rename_i a0 a1 a2 a3 a4 a5 a6 a7 m
    simp only [Option.some.injEq, Prod.mk.injEq] at hF
    obtain ⟨rfl, rfl⟩ := hF
    have e : execF Tryz.prog gm_l6In noLam 100 Tryz.f132 ([.agg ⟨[.int .i64 a0, .int .i64 a1, .int .i64 a2, .int .i64 a3, .int .i64 a4, .int .i64 a5, .int .i64 a6, .int .i64 a7]⟩, .int .i64 m].map .v) [] valK = cond (!inR ((v8 a0 a1 a2 a3 a4 a5 a6 a7) 0) (W (0 - m)) m) (rv (.bool false)) (cond (!inR ((v8 a0 a1 a2 a3 a4 a5 a6 a7) 1) (W (0 - m)) m) (rv (.bool false)) (cond (!inR ((v8 a0 a1 a2 a3 a4 a5 a6 a7) 2) (W (0 - m)) m) (rv (.bool false)) (cond (!inR ((v8 a0 a1 a2 a3 a4 a5 a6 a7) 3) (W (0 - m)) m) (rv (.bool false)) (cond (!inR ((v8 a0 a1 a2 a3 a4 a5 a6 a7) 4) (W (0 - m)) m) (rv (.bool false)) (cond (!inR ((v8 a0 a1 a2 a3 a4 a5 a6 a7) 5) (W (0 - m)) m) (rv (.bool false)) (cond (!inR ((v8 a0 a1 a2 a3 a4 a5 a6 a7) 6) (W (0 - m)) m) (rv (.bool false)) (cond (!inR ((v8 a0 a1 a2 a3 a4 a5 a6 a7) 7) (W (0 - m)) m) (rv (.bool false)) (rv (.bool true))))))))) := by kernel_rfl
    rw [e]
    exact gives_of (by simp only [outV_cond, outV_rv, smallF, v8, cond_some, cond_bool])
  · cases hF

def gm_small : Gam := ext gm_l6In 132 (specV f_small)
theorem gm_small_ok : GamOk Tryz.prog gm_small := ext_ok gm_l6In_ok ok_small

def f_plus : List Value → Option (Value × List Bool)
  | [.agg ⟨[.int .i64 a0, .int .i64 a1, .int .i64 a2, .int .i64 a3, .int .i64 a4, .int .i64 a5, .int .i64 a6, .int .i64 a7]⟩, .agg ⟨[.int .i64 b0, .int .i64 b1, .int .i64 b2, .int .i64 b3, .int .i64 b4, .int .i64 b5, .int .i64 b6, .int .i64 b7]⟩] => some (cyv (plusF (v8 a0 a1 a2 a3 a4 a5 a6 a7) (v8 b0 b1 b2 b3 b4 b5 b6 b7)), [])
  | _ => none

theorem ok_plus : SpecOk Tryz.prog 71 (specV f_plus) := by
  refine mkV (n := 100) gm_small_ok Tryz.func71 rfl fun vs x ob hF ho => ?_
  unfold f_plus at hF
  split at hF
  · rename_i a0 a1 a2 a3 a4 a5 a6 a7 b0 b1 b2 b3 b4 b5 b6 b7
    simp only [Option.some.injEq, Prod.mk.injEq] at hF
    obtain ⟨rfl, rfl⟩ := hF
    exact one (by kernel_rfl)
  · cases hF

def gm_plus : Gam := ext gm_small 71 (specV f_plus)
theorem gm_plus_ok : GamOk Tryz.prog gm_plus := ext_ok gm_small_ok ok_plus

def f_turnOf : List Value → Option (Value × List Bool)
  | [.int .i64 n] => some (.int .i64 (n % 24), [inR n (-9223372036854775808) 9223372036854775807])
  | _ => none

theorem ok_turnOf : SpecOk Tryz.prog 283 (specV f_turnOf) := by
  refine mkV (n := 100) gm_plus_ok Tryz.func283 rfl fun vs x ob hF ho => ?_
  unfold f_turnOf at hF
  split at hF
  · rename_i n
    simp only [Option.some.injEq, Prod.mk.injEq] at hF
    obtain ⟨rfl, rfl⟩ := hF
    have hb := inR_iff.1 (show inR n (-9223372036854775808) 9223372036854775807 = true by simpa [obls] using ho)
    have e : getV (execF Tryz.prog gm_plus noLam 100 Tryz.f283 ([.int .i64 n].map .v) [] valK) = some (.int .i64 ((W (n.tmod 24 + 24)).tmod 24)) := by kernel_rfl
    rw [emod_tmod hb.1 hb.2] at e
    exact one e
  · cases hF

def gm_turnOf : Gam := ext gm_plus 283 (specV f_turnOf)
theorem gm_turnOf_ok : GamOk Tryz.prog gm_turnOf := ext_ok gm_plus_ok ok_turnOf

def f_l1Mod : List Value → Option (Value × List Bool)
  | [.int .i64 n] => some (.int .i64 (n % 24), [])
  | _ => none

theorem ok_l1Mod : SpecOk Tryz.prog 308 (specV f_l1Mod) := by
  refine mkV (n := 100) gm_turnOf_ok Tryz.func308 rfl fun vs x ob hF ho => ?_
  unfold f_l1Mod at hF
  split at hF
  · rename_i n
    simp only [Option.some.injEq, Prod.mk.injEq] at hF
    obtain ⟨rfl, rfl⟩ := hF
    have e : execF Tryz.prog gm_turnOf noLam 100 Tryz.f308 ([.int .i64 n].map .v) [] valK = cond (decide (n.tmod 24 < 0)) (rv (.int .i64 (W (n.tmod 24 + 24)))) (rv (.int .i64 (n.tmod 24))) := by kernel_rfl
    rw [e]
    exact gives_of (by rw [outV_cond, outV_rv, outV_rv, cond_some, cond_int, modZ_eq])
  · cases hF

def gm_l1Mod : Gam := ext gm_turnOf 308 (specV f_l1Mod)
theorem gm_l1Mod_ok : GamOk Tryz.prog gm_l1Mod := ext_ok gm_turnOf_ok ok_l1Mod

def f_l1Is : List Value → Option (Value × List Bool)
  | [.int .i64 n] => some (.bool (inR n 0 23), [])
  | _ => none

theorem ok_l1Is : SpecOk Tryz.prog 260 (specV f_l1Is) := by
  refine mkV (n := 100) gm_l1Mod_ok Tryz.func260 rfl fun vs x ob hF ho => ?_
  unfold f_l1Is at hF
  split at hF
  · rename_i n
    simp only [Option.some.injEq, Prod.mk.injEq] at hF
    obtain ⟨rfl, rfl⟩ := hF
    exact one (by kernel_rfl)
  · cases hF

def gm_l1Is : Gam := ext gm_l1Mod 260 (specV f_l1Is)
theorem gm_l1Is_ok : GamOk Tryz.prog gm_l1Is := ext_ok gm_l1Mod_ok ok_l1Is

def f_mirror : List Value → Option (Value × List Bool)
  | [.agg ⟨[.int .i64 a0, .int .i64 a1, .int .i64 a2, .int .i64 a3, .int .i64 a4, .int .i64 a5, .int .i64 a6, .int .i64 a7]⟩] => some (cyv (mirF (v8 a0 a1 a2 a3 a4 a5 a6 a7)), [])
  | _ => none

theorem ok_mirror : SpecOk Tryz.prog 224 (specV f_mirror) := by
  refine mkV (n := 100) gm_l1Is_ok Tryz.func224 rfl fun vs x ob hF ho => ?_
  unfold f_mirror at hF
  split at hF
  · rename_i a0 a1 a2 a3 a4 a5 a6 a7
    simp only [Option.some.injEq, Prod.mk.injEq] at hF
    obtain ⟨rfl, rfl⟩ := hF
    have e : getV (execF Tryz.prog gm_l1Is noLam 100 Tryz.f224 ([.agg ⟨[.int .i64 a0, .int .i64 a1, .int .i64 a2, .int .i64 a3, .int .i64 a4, .int .i64 a5, .int .i64 a6, .int .i64 a7]⟩].map .v) [] valK) = some (cyv (redD (mirP (v8 a0 a1 a2 a3 a4 a5 a6 a7)) 25 17)) := by kernel_rfl
    rw [cyv_congr (mir_eq (v8 a0 a1 a2 a3 a4 a5 a6 a7))] at e
    exact one e
  · cases hF

def gm_mirror : Gam := ext gm_l1Is 224 (specV f_mirror)
theorem gm_mirror_ok : GamOk Tryz.prog gm_mirror := ext_ok gm_l1Is_ok ok_mirror

def f_times : List Value → Option (Value × List Bool)
  | [.agg ⟨[.int .i64 a0, .int .i64 a1, .int .i64 a2, .int .i64 a3, .int .i64 a4, .int .i64 a5, .int .i64 a6, .int .i64 a7]⟩, .agg ⟨[.int .i64 b0, .int .i64 b1, .int .i64 b2, .int .i64 b3, .int .i64 b4, .int .i64 b5, .int .i64 b6, .int .i64 b7]⟩] => some (cyv (mulF (v8 a0 a1 a2 a3 a4 a5 a6 a7) (v8 b0 b1 b2 b3 b4 b5 b6 b7)), [])
  | _ => none

theorem ok_times : SpecOk Tryz.prog 281 (specV f_times) := by
  refine mkV (n := 100) gm_mirror_ok Tryz.func281 rfl fun vs x ob hF ho => ?_
  unfold f_times at hF
  split at hF
  · rename_i a0 a1 a2 a3 a4 a5 a6 a7 b0 b1 b2 b3 b4 b5 b6 b7
    simp only [Option.some.injEq, Prod.mk.injEq] at hF
    obtain ⟨rfl, rfl⟩ := hF
    have e : getV (execF Tryz.prog gm_mirror noLam 100 Tryz.f281 ([.agg ⟨[.int .i64 a0, .int .i64 a1, .int .i64 a2, .int .i64 a3, .int .i64 a4, .int .i64 a5, .int .i64 a6, .int .i64 a7]⟩, .agg ⟨[.int .i64 b0, .int .i64 b1, .int .i64 b2, .int .i64 b3, .int .i64 b4, .int .i64 b5, .int .i64 b6, .int .i64 b7]⟩].map .v) [] valK) = some (cyv (redD (tP (v8 a0 a1 a2 a3 a4 a5 a6 a7) (v8 b0 b1 b2 b3 b4 b5 b6 b7) 64) 15 7)) := by kernel_rfl
    rw [cyv_congr (times_eq (v8 a0 a1 a2 a3 a4 a5 a6 a7) (v8 b0 b1 b2 b3 b4 b5 b6 b7))] at e
    exact one e
  · cases hF

def gm_times : Gam := ext gm_mirror 281 (specV f_times)
theorem gm_times_ok : GamOk Tryz.prog gm_times := ext_ok gm_mirror_ok ok_times

def f_l2Sum : List Value → Option (Value × List Bool)
  | [.agg ⟨[.int .i64 a0, .int .i64 a1, .int .i64 a2, .int .i64 a3, .int .i64 a4, .int .i64 a5, .int .i64 a6, .int .i64 a7]⟩, .int .i64 n, .agg ⟨[.int .i64 b0, .int .i64 b1, .int .i64 b2, .int .i64 b3, .int .i64 b4, .int .i64 b5, .int .i64 b6, .int .i64 b7]⟩] => some (cyv (sumF (v8 a0 a1 a2 a3 a4 a5 a6 a7) n (v8 b0 b1 b2 b3 b4 b5 b6 b7)), [])
  | _ => none

theorem ok_l2Sum : SpecOk Tryz.prog 138 (specV f_l2Sum) := by
  refine mkV (n := 100) gm_times_ok Tryz.func138 rfl fun vs x ob hF ho => ?_
  unfold f_l2Sum at hF
  split at hF
  · rename_i a0 a1 a2 a3 a4 a5 a6 a7 n b0 b1 b2 b3 b4 b5 b6 b7
    simp only [Option.some.injEq, Prod.mk.injEq] at hF
    obtain ⟨rfl, rfl⟩ := hF
    have e : getV (execF Tryz.prog gm_times noLam 100 Tryz.f138 ([.agg ⟨[.int .i64 a0, .int .i64 a1, .int .i64 a2, .int .i64 a3, .int .i64 a4, .int .i64 a5, .int .i64 a6, .int .i64 a7]⟩, .int .i64 n, .agg ⟨[.int .i64 b0, .int .i64 b1, .int .i64 b2, .int .i64 b3, .int .i64 b4, .int .i64 b5, .int .i64 b6, .int .i64 b7]⟩].map .v) [] valK) = some (cyv (fun k => W ((v8 a0 a1 a2 a3 a4 a5 a6 a7) k + W (n * (v8 b0 b1 b2 b3 b4 b5 b6 b7) k)))) := by kernel_rfl
    rw [cyv_congr (g := sumF (v8 a0 a1 a2 a3 a4 a5 a6 a7) n (v8 b0 b1 b2 b3 b4 b5 b6 b7)) fun k _ => w64_add_r _ _] at e
    exact one e
  · cases hF

def gm_l2Sum : Gam := ext gm_times 138 (specV f_l2Sum)
theorem gm_l2Sum_ok : GamOk Tryz.prog gm_l2Sum := ext_ok gm_times_ok ok_l2Sum

def f_l2Step : List Value → Option (Value × List Bool)
  | [.agg ⟨[.int .i64 a0, .int .i64 a1, .int .i64 a2, .int .i64 a3, .int .i64 a4, .int .i64 a5, .int .i64 a6, .int .i64 a7]⟩] => some (cyv (stepF (v8 a0 a1 a2 a3 a4 a5 a6 a7)), [])
  | _ => none

theorem ok_l2Step : SpecOk Tryz.prog 323 (specV f_l2Step) := by
  refine mkV (n := 100) gm_l2Sum_ok Tryz.func323 rfl fun vs x ob hF ho => ?_
  unfold f_l2Step at hF
  split at hF
  · rename_i a0 a1 a2 a3 a4 a5 a6 a7
    simp only [Option.some.injEq, Prod.mk.injEq] at hF
    obtain ⟨rfl, rfl⟩ := hF
    exact one (by kernel_rfl)
  · cases hF

end Go.Proofs.YtddhmidegldhdaaGreatDoor

/- The abstract machine, 16: small words for contracts with loops. No conditions. -/
namespace Go.Proofs.YtddhmidegldhdaaGreatDoor
open Go.RowKit

def lv3 (a b c : List Nat) : Ex → List Nat
  | .normal => a
  | .exit _ => b
  | .ret => c

def oneL (id : Nat) (S : Sum) : Nat → Option Sum := fun j => bif Nat.beq j id then some S else none
def loopAt (id : Nat) (fn : Func) : Code := match codeAt id (fn.body.getD .skip) with
  | .block _ (.loop c) :: _ => c
  | _ => .skip

theorem lam1 {P : Program} {m0 id : Nat} {fn : Func} {S : Sum} {c : Code} (h : codeAt id (fn.body.getD .skip) = [.block id (.loop c)]) (hS : SumOk P m0 (.block id (.loop c)) S) : ∀ cc, fn.body = some cc → LamOk P m0 (oneL id S) cc := by
  intro cc hcc j S' hj b hb
  unfold oneL at hj
  cases hjb : Nat.beq j id with
  | false => rw [hjb] at hj; cases hj
  | true =>
    rw [hjb] at hj
    cases hj
    rw [Nat.eq_of_beq_eq_true hjb] at hb
    rw [hcc] at h
    simp only [Option.getD_some] at h
    rw [h] at hb
    simp at hb
    subst hb
    exact hS

structure GoodQ (r : Res) (Q : Ex → List AV → List AB → Prop) : Prop where
  out : r.ok Q

theorem good_cond {Q : Ex → List AV → List AB → Prop} {b : Bool} {r s : Res} (h1 : b = true → GoodQ r Q) (h2 : b = false → GoodQ s Q) : GoodQ (cond b r s) Q := by
  cases b
  · exact h2 rfl
  · exact h1 rfl
theorem good_true {Q : Ex → List AV → List AB → Prop} {b : Bool} {r s : Res} (hb : b = true) (h : GoodQ r Q) : GoodQ (cond b r s) Q := by
  subst hb; exact h
theorem good_false {Q : Ex → List AV → List AB → Prop} {b : Bool} {r s : Res} (hb : b = false) (h : GoodQ s Q) : GoodQ (cond b r s) Q := by
  subst hb; exact h
theorem good_out {Q : Ex → List AV → List AB → Prop} {e : Ex} {T : List AV} {H : List AB} (h : Q e T H) : GoodQ (.out e T H) Q := ⟨h⟩

theorem noLam' (m0 : Nat) {fn : Func} : ∀ c, fn.body = some c → LamOk Tryz.prog m0 noLam c := fun c _ => noLam_ok _ _ c

theorem zip_self {α : Type} (f : Nat → α) : ∀ l : List Nat, l.zip (l.map f) = l.map fun i => (i, f i)
  | [] => rfl
  | a :: l => by simp [zip_self f l]

theorem res_mono {Q Q' : Ex → List AV → List AB → Prop} (h : ∀ e T H, Q e T H → Q' e T H) : ∀ {r : Res}, r.ok Q → r.ok Q'
  | .err, hq => hq
  | .out e T H, hq => h e T H hq

theorem ob_cons {b : Bool} {bs : List Bool} : obls (b :: bs) = true ↔ b = true ∧ obls bs = true := by simp [obls]
theorem beq_me (n : Nat) : Nat.beq n n = true := Nat.beq_refl n
theorem ob_nil : obls [] = true := rfl
theorem good_needs {Q : Ex → List AV → List AB → Prop} {bs : List Bool} {r : Res} (h : obls bs = true) (k : GoodQ r Q) : GoodQ (needs bs r) Q := by
  induction bs with
  | nil => exact k
  | cons b bs ih => rw [ob_cons] at h; rw [h.1] at *; exact ⟨(ih h.2).out⟩

def intOf : Value → Int
  | .int .i64 x => x
  | _ => 0
end Go.Proofs.YtddhmidegldhdaaGreatDoor

/- The abstract machine, 23: loops by what is known at their head: only the slots that live are told. Conditions: those of the table of callees. -/
namespace Go.Proofs.YtddhmidegldhdaaGreatDoor
open Go.RowKit

noncomputable def chk (p : Prop) : Bool := @decide p (Classical.propDecidable p)
theorem chk_of {p : Prop} (h : p) : chk p = true := by
  unfold chk
  exact @decide_eq_true p (Classical.propDecidable p) h
theorem of_chk {p : Prop} (h : chk p = true) : p := by
  unfold chk at h
  exact @of_decide_eq_true p (Classical.propDecidable p) h

def weakL (live : List Nat) (m : Nat) (T : List AV) (H : List AB) : Option (List AV × List AB) :=
  match weak live m T H with
  | some p => some (live.map fun i => p.1.getD i .dead, p.2)
  | none => none
theorem weakL_some {live : List Nat} {m : Nat} {T : List AV} {H : List AB} {p : List AV × List AB} (h : weakL live m T H = some p) (hr : risB live = true) :
    weak live m T H = some (mkT 0 T.length (live.zip p.1), p.2) := by
  unfold weakL at h
  split at h
  · rename_i q hq
    cases h
    rw [hq]
    obtain ⟨T', H'⟩ := q
    simp only [Option.some.injEq, Prod.mk.injEq, and_true]
    unfold weak at hq
    split at hq
    · rename_i T1 H1 h1 h2
      cases hn : (nodupB (keepOf m (maskT live 0 T) H) && (keepOf m (maskT live 0 T) H).take m == upN 0 m) with
      | false => rw [hn] at hq; cases hq
      | true =>
        rw [hn] at hq
        simp only [cond_true, Option.some.injEq, Prod.mk.injEq] at hq
        obtain ⟨rfl, rfl⟩ := hq
        have hl : T1.length = T.length := by rw [renAs_length h1, maskT_length]
        have hd : ∀ t, live.elem t = false → T1.getD t .dead = .dead := by
          intro t ht
          have := renAs_get h1 t
          rw [maskT_get, Nat.zero_add, ht] at this
          simp only [Bool.false_eq_true, if_false, renA, Option.some.injEq] at this
          exact this.symm
        have hm : maskT live 0 T1 = T1 := by
          apply List.ext_getElem?
          intro t
          by_cases ht : t < T1.length
          · have e1 := maskT_get live T1 0 t
            rw [Nat.zero_add] at e1
            have e2 : (maskT live 0 T1).getD t .dead = T1.getD t .dead := by
              rw [e1]
              split
              · rfl
              · rename_i hne
                exact (hd t (by simpa using hne)).symm
            have ht' : t < (maskT live 0 T1).length := by rw [maskT_length]; exact ht
            simp only [List.getD_eq_getElem?_getD, List.getElem?_eq_getElem ht, List.getElem?_eq_getElem ht', Option.getD_some] at e2
            rw [List.getElem?_eq_getElem ht, List.getElem?_eq_getElem ht', e2]
          · rw [List.getElem?_eq_none (by rw [maskT_length]; omega), List.getElem?_eq_none (by omega)]
        have := mask_mk T1 0 live hr fun _ _ => Nat.zero_le _
        rw [hm, hl] at this
        simp only [Nat.sub_zero] at this
        rw [zip_self]
        exact this
    · cases hq
  · cases h

def leafV (N : Nat) (lv : Ex → List Nat) (m : Nat) : Kont := fun e T H => cond (Nat.beq T.length N) (match weakL (lv e) m T H with
  | some p => .out e p.1 p.2
  | none => .err) .err

noncomputable def atS (N : Nat) (live : List Nat) (m : Nat) (vals : List AV) (H0 : List AB) (out : Kont → Res) : Sum := fun T H K =>
  cond (Nat.beq T.length N) (match weakL live m T H with
    | some p => cond (chk (p.1 = vals ∧ Hsim p.2 H0)) (out K) .err
    | none => .err) .err

def RoundV {σ : Type} (N id : Nat) (lv : Ex → List Nat) (st : σ → List AV) (hp : σ → List AB) (nxt : σ → Prop) (K : Kont) (Q : Ex → List AV → List AB → Prop) : Ex → List AV → List AB → Prop := fun e vs H' => match e with
  | .normal => ∃ s', nxt s' ∧ vs = st s' ∧ Hsim H' (hp s')
  | .exit j => ∃ H'', Hsim H' H'' ∧ if j = id then (K .normal (mkT 0 N ((lv (.exit j)).zip vs)) H'').ok Q else (K (.exit j) (mkT 0 N ((lv (.exit j)).zip vs)) H'').ok Q
  | .ret => ∃ H'', Hsim H' H'' ∧ (K .ret (mkT 0 N ((lv .ret).zip vs)) H'').ok Q

theorem loop_at {Γ : Gam} (hΓ : GamOk Tryz.prog Γ) {id n m m0 N : Nat} {c : Code} {lv : Ex → List Nat} {out : Kont → Res} {σ : Type} (st : σ → List AV) (hp : σ → List AB) (Inv : σ → Prop) (μ : σ → Nat) (s0 : σ) (Λ : σ → Nat → Option Sum)
    (hr : ∀ e, risB (lv e) = true) (hm : m0 ≤ m) (h0 : Inv s0)
    (h : ∀ K Q, (out K).ok Q → ∀ s, Inv s → LamOk Tryz.prog m0 (Λ s) c ∧ GoodQ (execC Tryz.prog Γ n (Λ s) c (mkT 0 N ((lv .normal).zip (st s))) (hp s) (leafV N lv m)) (RoundV N id lv st hp (fun s' => Inv s' ∧ μ s' < μ s) K Q)) :
    SumOk Tryz.prog m0 (.block id (.loop c)) (atS N (lv .normal) m (st s0) (hp s0) out) := by
  intro M w0 ν0 hM hm0 T H K Q a w ν hS hR hd
  unfold atS at hS
  cases hN : Nat.beq T.length N with
  | false => rw [hN] at hS; exact hS.elim
  | true =>
    rw [hN, cond_true] at hS
    have hN := Nat.eq_of_beq_eq_true hN
    split at hS
    · rename_i p hw
      rcases cond_ok hS with ⟨hc, hk⟩ | ⟨_, hk⟩
      · obtain ⟨hv, hsim⟩ := of_chk hc
        have hw' := weakL_some hw (hr .normal)
        rw [hN, hv] at hw'
        have hν : ∀ i b, ν0 i = some b → i < m := fun i b hb => Nat.lt_of_lt_of_le (hm0 i b hb) hm
        have key : ∀ (r : Nat) (s : σ) (a : Act) (w : World) (ν : Nu), Inv s → μ s < r → SR M w0 ν0 (mkT 0 N ((lv .normal).zip (st s))) (hp s) a w ν → a.defers = [] → Code.rounds Tryz.prog c (Exit.inBlock id (post M w0 ν0 K Q)) r a w := by
          intro r
          induction r with
          | zero => intro s a w ν _ hlt; omega
          | succ r ih =>
            intro s a w ν hi hlt hR hd
            rw [rounds_succ]
            obtain ⟨hL, hG⟩ := h K Q hk s hi
            refine wp_mono (execC_sound hΓ mixed enters n m0 (Λ s) c hL M w0 ν0 hM hm0 _ _ _ _ a w ν hG.out hR hd) fun e a' w' hpp => ?_
            obtain ⟨e', T', H', ν', rfl, hk', hS', hd'⟩ := hpp
            unfold leafV at hk'
            cases hN' : Nat.beq T'.length N with
            | false => rw [hN'] at hk'; exact hk'.elim
            | true =>
              rw [hN', cond_true] at hk'
              have hN' := Nat.eq_of_beq_eq_true hN'
              split at hk'
              · rename_i q hwk
                have hwk' := weakL_some hwk (hr e')
                rw [hN'] at hwk'
                have hR' := weak_sound hwk' hS' hν
                cases e' with
                | normal =>
                  obtain ⟨s', ⟨i', hmu⟩, he, hs'⟩ := hk'
                  rw [he] at hR'
                  exact ih s' a' w' _ i' (by omega) (hR'.sim hs') hd'
                | exit j =>
                  simp only [Ex.to, Exit.then, Exit.inBlock]
                  obtain ⟨H'', hs', hkk⟩ := hk'
                  split
                  · rename_i hj
                    rw [if_pos hj] at hkk
                    exact ⟨.normal, _, _, _, rfl, hkk, hR'.sim hs', hd'⟩
                  · rename_i hj
                    rw [if_neg hj] at hkk
                    exact ⟨.exit j, _, _, _, rfl, hkk, hR'.sim hs', hd'⟩
                | ret =>
                  obtain ⟨H'', hs', hkk⟩ := hk'
                  exact ⟨.ret, _, _, _, rfl, hkk, hR'.sim hs', hd'⟩
              · exact hk'.elim
        have hR0 := (weak_sound hw' hR hν).sim hsim
        exact wp_block (wp_loop_rounds (μ s0 + 1) (key _ s0 a w _ h0 (Nat.lt_succ_self _) hR0 hd))
      · exact hk.elim
    · exact hS.elim

theorem for_at {Γ : Gam} (hΓ : GamOk Tryz.prog Γ) {id n m m0 N : Nat} {c : Code} {lv : Ex → List Nat} {out : Kont → Res} (st : Nat → List AV) (hp : Nat → List AB) (okI : Nat → Prop) (len : Nat) (Λ : Nat → Nat → Option Sum)
    (hr : ∀ e, risB (lv e) = true) (hm : m0 ≤ m) (h0 : okI 0)
    (h : ∀ K Q, (out K).ok Q → ∀ i, okI i → i ≤ len → LamOk Tryz.prog m0 (Λ i) c ∧ GoodQ (execC Tryz.prog Γ n (Λ i) c (mkT 0 N ((lv .normal).zip (st i))) (hp i) (leafV N lv m)) (RoundV N id lv st hp (fun s' => s' = i + 1 ∧ i < len ∧ okI (i + 1)) K Q)) :
    SumOk Tryz.prog m0 (.block id (.loop c)) (atS N (lv .normal) m (st 0) (hp 0) out) := by
  refine loop_at hΓ (n := n) st hp (fun i => okI i ∧ i ≤ len) (fun i => len - i) 0 Λ hr hm ⟨h0, Nat.zero_le _⟩ fun K Q hk i hi => ?_
  obtain ⟨h1, h2⟩ := h K Q hk i hi.1 hi.2
  refine ⟨h1, ⟨res_mono (fun e vs H' hq => ?_) h2.out⟩⟩
  cases e with
  | normal =>
    obtain ⟨s', ⟨rfl, hlt, hok⟩, h3, h4⟩ := hq
    exact ⟨_, ⟨⟨hok, hlt⟩, by omega⟩, h3, h4⟩
  | exit j => exact hq
  | ret => exact hq

theorem lv3_ris {a b c : List Nat} (h1 : risB a = true) (h2 : risB b = true) (h3 : risB c = true) : ∀ e, risB (lv3 a b c e) = true
  | .normal => h1
  | .exit _ => h2
  | .ret => h3

theorem specR_hr {Γ : Gam} (hΓ : GamOk Tryz.prog Γ) {f : FuncId} {fn : Func} {mds : List Md} {F : List SA → Option FR} (hf : Tryz.prog.funcs[f]? = some fn) (hb : fn.body.isSome = true)
    (h : ∀ sas fr, F sas = some fr → obls fr.obl = true → ∃ (H0 : List AB) (Λ : Nat → Option Sum) (n : Nat), Hsim (abC mds sas) H0 ∧ (∀ c, fn.body = some c → LamOk Tryz.prog H0.length Λ c) ∧ GoodQ (execF Tryz.prog Γ Λ n fn (avC 0 mds sas) H0 (packK H0.length)) (GivR (abP mds sas fr.put) fr)) : SpecOk Tryz.prog f (specR mds F) :=
  specR_calls enters hf hb fun sas fr hF ho => by
    obtain ⟨H0, Λ, n, h1, h2, h3⟩ := h sas fr hF ho
    exact ⟨H0, h1, fun M vals w ν hM hv hH hdom => calls_pack hΓ mixed enters hf h2 hM h3.out hv hH hdom⟩

end Go.Proofs.YtddhmidegldhdaaGreatDoor

/- Plain lists of wheels: to tidy by the program's way and by the reference's. No program, no conditions. -/
namespace Go.Proofs.YtddhmidegldhdaaGreatDoor
open Go.RowKit

structure Cy where
  c0 : Int
  c1 : Int
  c2 : Int
  c3 : Int
  c4 : Int
  c5 : Int
  c6 : Int
  c7 : Int
  deriving DecidableEq
structure Wh where
  s : Int
  r : Cy
  deriving DecidableEq
def Cy.f (a : Cy) : Nat → Int := v8 a.c0 a.c1 a.c2 a.c3 a.c4 a.c5 a.c6 a.c7
def cyOf (f : Nat → Int) : Cy := ⟨f 0, f 1, f 2, f 3, f 4, f 5, f 6, f 7⟩
theorem cyOf_f (a : Cy) : cyOf a.f = a := rfl
theorem cyOf_congr {f g : Nat → Int} (h : ∀ k, k < 8 → f k = g k) : cyOf f = cyOf g := by
  simp only [cyOf, h 0 (by omega), h 1 (by omega), h 2 (by omega), h 3 (by omega), h 4 (by omega), h 5 (by omega), h 6 (by omega), h 7 (by omega)]
def cyAdd (a b : Cy) : Cy := cyOf (plusF a.f b.f)
def cyZ : Cy := ⟨0, 0, 0, 0, 0, 0, 0, 0⟩
def cyOk (a : Cy) : Bool := smallF a.f (-1000000) 1000000
def cyIn (a : Cy) : Prop := ∀ k, k < 8 → -9223372036854775808 ≤ a.f k ∧ a.f k ≤ 9223372036854775807
theorem cyAdd_zero {b : Cy} (h : cyIn b) : cyAdd cyZ b = b := by
  rw [← cyOf_f b]
  refine cyOf_congr fun k hk => ?_
  have := h k hk
  have e : plusF cyZ.f (cyOf b.f).f k = W (0 + b.f k) := by
    rcases (by omega : k = 0 ∨ k = 1 ∨ k = 2 ∨ k = 3 ∨ k = 4 ∨ k = 5 ∨ k = 6 ∨ k = 7) with rfl | rfl | rfl | rfl | rfl | rfl | rfl | rfl <;> rfl
  rw [e, w64_in (by omega) (by omega), Int.zero_add]

def insA : List Wh → Wh → List Wh
  | [], w => [⟨w.s, cyAdd cyZ w.r⟩]
  | x :: l, w => if x.s = w.s then ⟨x.s, cyAdd x.r w.r⟩ :: l else x :: insA l w
def insS : List Wh → Wh → List Wh
  | [], w => [w]
  | x :: l, w => if x.s < w.s then x :: insS l w else if x.s = w.s then ⟨x.s, cyAdd x.r w.r⟩ :: l else w :: x :: l
def radAt (l : List Wh) (s : Int) : Option Cy := (l.find? fun x => decide (x.s = s)).map (·.r)
def sumR (l : List Wh) (w : Wh) : Cy := match radAt l w.s with
  | some r => cyAdd r w.r
  | none => w.r

def runT (ins : List Wh → Wh → List Wh) : List Wh → List Wh → Option (List Wh)
  | acc, [] => some acc
  | acc, w :: ws => if cyOk (sumR acc w) = true then runT ins (ins acc w) ws else none

def distinct (l : List Wh) : Prop := l.Pairwise fun x y => x.s ≠ y.s
def rising (l : List Wh) : Prop := l.Pairwise fun x y => x.s < y.s

theorem rising.distinct {l : List Wh} (h : rising l) : distinct l := List.Pairwise.imp (fun h => by omega) h

theorem radAt_perm {l l' : List Wh} (h : l.Perm l') (hd : distinct l) (s : Int) : radAt l s = radAt l' s := by
  induction h with
  | nil => rfl
  | cons x _ ih =>
    have hd := List.pairwise_cons.1 hd
    simp only [radAt, List.find?_cons]
    by_cases hx : x.s = s
    · simp [hx]
    · simp only [hx, decide_false]
      exact ih hd.2
  | swap x y l =>
    have h1 := List.pairwise_cons.1 hd
    have hxy : y.s ≠ x.s := h1.1 x (by simp)
    simp only [radAt, List.find?_cons]
    by_cases hx : x.s = s <;> by_cases hy : y.s = s <;> simp [hx, hy]
    exact (hxy (hy.trans hx.symm)).elim
  | trans h1 h2 ih1 ih2 =>
    exact (ih1 hd).trans (ih2 (h1.pairwise hd (fun h => h.symm)))

theorem insA_new {l : List Wh} {w : Wh} (h : ∀ x ∈ l, x.s ≠ w.s) : insA l w = l ++ [⟨w.s, cyAdd cyZ w.r⟩] := by
  induction l with
  | nil => rfl
  | cons y l ih =>
    unfold insA
    rw [if_neg (h y (by simp)), ih fun x hx => h x (by simp [hx])]
    rfl
theorem insA_s {l : List Wh} {w : Wh} : ∀ x ∈ insA l w, x.s = w.s ∨ x ∈ l := by
  induction l with
  | nil => intro x hx; simp [insA] at hx; subst hx; exact .inl rfl
  | cons y l ih =>
    intro x hx
    unfold insA at hx
    split at hx
    · rename_i e
      rcases List.mem_cons.1 hx with rfl | hx
      · exact .inl e
      · exact .inr (by simp [hx])
    · rcases List.mem_cons.1 hx with rfl | hx
      · exact .inr (by simp)
      · rcases ih x hx with h | h
        · exact .inl h
        · exact .inr (by simp [h])
theorem insS_s {l : List Wh} {w : Wh} : ∀ x ∈ insS l w, x.s = w.s ∨ x ∈ l := by
  induction l with
  | nil => intro x hx; simp [insS] at hx; subst hx; exact .inl rfl
  | cons y l ih =>
    intro x hx
    unfold insS at hx
    split at hx
    · rcases List.mem_cons.1 hx with rfl | hx
      · exact .inr (by simp)
      · rcases ih x hx with h | h
        · exact .inl h
        · exact .inr (by simp [h])
    · split at hx
      · rename_i e
        rcases List.mem_cons.1 hx with rfl | hx
        · exact .inl e
        · exact .inr (by simp [hx])
      · rcases List.mem_cons.1 hx with rfl | hx
        · exact .inl rfl
        · exact .inr hx
theorem insA_distinct {l : List Wh} (w : Wh) (h : distinct l) : distinct (insA l w) := by
  induction l with
  | nil => simp [insA, distinct]
  | cons y l ih =>
    have h' := List.pairwise_cons.1 h
    unfold insA
    split
    · exact List.pairwise_cons.2 ⟨fun x hx => h'.1 x hx, h'.2⟩
    · rename_i hne
      refine List.pairwise_cons.2 ⟨fun x hx => ?_, ih h'.2⟩
      rcases insA_s x hx with e | hx
      · rw [e]; exact hne
      · exact h'.1 x hx
theorem insS_rising {l : List Wh} (w : Wh) (h : rising l) : rising (insS l w) := by
  induction l with
  | nil => simp [insS, rising]
  | cons y l ih =>
    have h' := List.pairwise_cons.1 h
    unfold insS
    split
    · rename_i hlt
      refine List.pairwise_cons.2 ⟨fun x hx => ?_, ih h'.2⟩
      rcases insS_s x hx with e | hx
      · rw [e]; exact hlt
      · exact h'.1 x hx
    · split
      · exact List.pairwise_cons.2 ⟨fun x hx => h'.1 x hx, h'.2⟩
      · rename_i h1 h2
        refine List.pairwise_cons.2 ⟨fun x hx => ?_, h⟩
        rcases List.mem_cons.1 hx with rfl | hx
        · omega
        · have := h'.1 x hx
          omega

theorem insA_perm {l : List Wh} {w : Wh} (h : distinct l) (hr : cyIn w.r) : (insA l w).Perm (⟨w.s, sumR l w⟩ :: l.filter fun x => decide (x.s ≠ w.s)) := by
  induction l with
  | nil => simp [insA, sumR, radAt, cyAdd_zero hr]
  | cons y l ih =>
    have h' := List.pairwise_cons.1 h
    unfold insA
    by_cases e : y.s = w.s
    · rw [if_pos e]
      have hf : (l.filter fun x => decide (x.s ≠ w.s)) = l := List.filter_eq_self.2 fun x hx => by
        have := h'.1 x hx
        simp only [decide_eq_true_eq]
        omega
      have hs : sumR (y :: l) w = cyAdd y.r w.r := by simp [sumR, radAt, e]
      rw [List.filter_cons_of_neg (by simp [e]), hf, hs, e]
    · rw [if_neg e]
      have hs : sumR (y :: l) w = sumR l w := by simp [sumR, radAt, e]
      rw [List.filter_cons_of_pos (by simp [e]), hs]
      exact ((ih h'.2).cons y).trans (List.Perm.swap _ _ _)
theorem insS_perm {l : List Wh} {w : Wh} (h : rising l) : (insS l w).Perm (⟨w.s, sumR l w⟩ :: l.filter fun x => decide (x.s ≠ w.s)) := by
  induction l with
  | nil => simp [insS, sumR, radAt]
  | cons y l ih =>
    have h' := List.pairwise_cons.1 h
    unfold insS
    by_cases e : y.s = w.s
    · rw [if_neg (by omega), if_pos e]
      have hf : (l.filter fun x => decide (x.s ≠ w.s)) = l := List.filter_eq_self.2 fun x hx => by
        have := h'.1 x hx
        simp only [decide_eq_true_eq]
        omega
      have hs : sumR (y :: l) w = cyAdd y.r w.r := by simp [sumR, radAt, e]
      rw [List.filter_cons_of_neg (by simp [e]), hf, hs, e]
    · have hs : sumR (y :: l) w = sumR l w := by simp [sumR, radAt, e]
      rw [List.filter_cons_of_pos (by simp [e]), hs]
      by_cases hlt : y.s < w.s
      · rw [if_pos hlt]
        exact ((ih h'.2).cons y).trans (List.Perm.swap _ _ _)
      · rw [if_neg hlt, if_neg e]
        have hn : ∀ x ∈ l, x.s ≠ w.s := fun x hx => by
          have := h'.1 x hx
          omega
        have hf : (l.filter fun x => decide (x.s ≠ w.s)) = l := List.filter_eq_self.2 fun x hx => by simpa using hn x hx
        have hz : sumR l w = w.r := by
          have : (l.find? fun x => decide (x.s = w.s)) = none := List.find?_eq_none.2 fun x hx => by simpa using hn x hx
          simp [sumR, radAt, this]
        rw [hf, hz]

theorem fold_same : ∀ (ws A B : List Wh), (∀ w ∈ ws, cyIn w.r) → A.Perm B → distinct A → rising B → match runT insA A ws, runT insS B ws with
    | some A', some B' => A'.Perm B' ∧ distinct A' ∧ rising B'
    | none, none => True
    | _, _ => False
  | [], A, B, _, h1, h2, h3 => ⟨h1, h2, h3⟩
  | w :: ws, A, B, hw, h1, h2, h3 => by
    have hs : sumR A w = sumR B w := by simp only [sumR, radAt_perm h1 h2]
    unfold runT
    rw [hs]
    by_cases ho : cyOk (sumR B w) = true
    · simp only [if_pos ho]
      refine fold_same ws _ _ (fun x hx => hw x (by simp [hx])) ?_ (insA_distinct w h2) (insS_rising w h3)
      refine (insA_perm h2 (hw w (by simp))).trans (List.Perm.trans ?_ (insS_perm h3).symm)
      rw [hs]
      exact (h1.filter _).cons _
    · simp only [if_neg ho]

theorem rising_eq : ∀ {l l' : List Wh}, l.Perm l' → rising l → rising l' → l = l'
  | [], l', h, _, _ => (List.Perm.nil_eq h)
  | x :: l, [], h, _, _ => by have := h.length_eq; simp at this
  | x :: l, y :: l', h, h1, h2 => by
    have g1 := List.pairwise_cons.1 h1
    have g2 := List.pairwise_cons.1 h2
    have hxy : x = y := by
      have m1 : x ∈ y :: l' := h.subset (by simp)
      have m2 : y ∈ x :: l := h.symm.subset (by simp)
      rcases List.mem_cons.1 m1 with e | m1
      · exact e
      · rcases List.mem_cons.1 m2 with e | m2
        · exact e.symm
        · have := g1.1 y m2
          have := g2.1 x m1
          omega
    subst hxy
    rw [rising_eq (List.Perm.cons_inv h) g1.2 g2.2]

def nonZ (l : List Wh) : List Wh := l.filter fun w => decide (w.r ≠ cyZ)
def dValid (l : List Wh) : Bool := decide (l.length ≤ 12) && l.all fun w => inR w.s (-1000) 1000 && cyOk w.r
theorem dValid_perm {l l' : List Wh} (h : l.Perm l') : dValid l = dValid l' := by
  unfold dValid
  rw [h.length_eq]
  congr 1
  rw [Bool.eq_iff_iff, List.all_eq_true, List.all_eq_true]
  exact ⟨fun hh x hx => hh x (h.symm.subset hx), fun hh x hx => hh x (h.subset hx)⟩
def tidyS (ws : List Wh) : Option (List Wh) := match runT insS [] ws with
  | some l => if dValid (nonZ l) = true then some (nonZ l) else none
  | none => none

theorem tidy_of {ws A L : List Wh} (hw : ∀ w ∈ ws, cyIn w.r) (hA : runT insA [] ws = some A) (hv : dValid (nonZ A) = true) (hL : L.Perm (nonZ A)) (hr : L.Pairwise fun x y => x.s ≤ y.s) : tidyS ws = some L := by
  have := fold_same ws [] [] hw (List.Perm.refl _) List.Pairwise.nil List.Pairwise.nil
  rw [hA] at this
  unfold tidyS
  cases hB : runT insS [] ws with
  | none => rw [hB] at this; exact this.elim
  | some B =>
    rw [hB] at this
    obtain ⟨h1, h2, h3⟩ := this
    have hf : (nonZ A).Perm (nonZ B) := h1.filter _
    simp only
    rw [if_pos (by rw [← dValid_perm hf]; exact hv)]
    congr 1
    have hd : distinct L := List.Perm.pairwise hL.symm (List.Pairwise.filter _ h2) (fun h => h.symm)
    have hrl : rising L := by
      refine List.Pairwise.imp₂ (fun x y h1 h2 => ?_) hr hd
      omega
    exact (rising_eq (hL.trans hf) hrl (List.Pairwise.filter _ h3)).symm
theorem tidy_no {ws : List Wh} (hw : ∀ w ∈ ws, cyIn w.r) (h : runT insA [] ws = none ∨ ∃ A, runT insA [] ws = some A ∧ dValid (nonZ A) = false) : tidyS ws = none := by
  have := fold_same ws [] [] hw (List.Perm.refl _) List.Pairwise.nil List.Pairwise.nil
  unfold tidyS
  rcases h with h | ⟨A, hA, hv⟩
  · rw [h] at this
    cases hB : runT insS [] ws with
    | none => rfl
    | some B => rw [hB] at this; exact this.elim
  · rw [hA] at this
    cases hB : runT insS [] ws with
    | none => rfl
    | some B =>
      rw [hB] at this
      obtain ⟨h1, _, _⟩ := this
      have hf : (nonZ A).Perm (nonZ B) := h1.filter _
      simp only
      rw [if_neg (by rw [← dValid_perm hf, hv]; simp)]

end Go.Proofs.YtddhmidegldhdaaGreatDoor

/- Plain lists of wheels: sorted by insertion. No program, no conditions. -/
namespace Go.Proofs.YtddhmidegldhdaaGreatDoor
open Go.RowKit

def spd (L : List Wh) (k : Nat) : Int := match L[k]? with
  | some w => w.s
  | none => 0
def swpL : List Wh → Nat → List Wh
  | x :: y :: l, 0 => y :: x :: l
  | x :: l, j + 1 => x :: swpL l j
  | l, _ => l
theorem swpL_perm : ∀ (L : List Wh) (j : Nat), (swpL L j).Perm L
  | [], _ => by simp [swpL]
  | [_], 0 => by simp [swpL]
  | [_], j + 1 => by simp [swpL]
  | x :: y :: l, 0 => List.Perm.swap _ _ _
  | x :: y :: l, j + 1 => by
    simp only [swpL]
    exact (swpL_perm (y :: l) j).cons x
theorem swpL_length (L : List Wh) (j : Nat) : (swpL L j).length = L.length := (swpL_perm L j).length_eq
theorem swpL_get : ∀ (L : List Wh) (j k : Nat), j + 1 < L.length → (swpL L j)[k]? = if k = j then L[j + 1]? else if k = j + 1 then L[j]? else L[k]?
  | [], j, k, h => by simp at h
  | [_], j, k, h => by simp at h
  | x :: y :: l, 0, k, _ => by
    simp only [swpL]
    match k with
    | 0 => simp
    | 1 => simp
    | k + 2 => simp
  | x :: y :: l, j + 1, k, h => by
    simp only [swpL]
    have ih := swpL_get (y :: l) j
    cases k with
    | zero => simp
    | succ k => simpa using ih k (by simpa using h)
theorem spd_swp {L : List Wh} {j : Nat} (h : j + 1 < L.length) (k : Nat) : spd (swpL L j) k = if k = j then spd L (j + 1) else if k = j + 1 then spd L j else spd L k := by
  unfold spd
  rw [swpL_get L j k h]
  by_cases h1 : k = j
  · simp only [if_pos h1]
  · simp only [if_neg h1]
    by_cases h2 : k = j + 1
    · simp only [if_pos h2]
    · simp only [if_neg h2]

def sinkL : Nat → List Wh → List Wh
  | 0, L => L
  | j + 1, L => if spd L (j + 1) < spd L j then sinkL j (swpL L j) else L
theorem sinkL_perm : ∀ (j : Nat) (L : List Wh), (sinkL j L).Perm L
  | 0, L => List.Perm.refl _
  | j + 1, L => by
    unfold sinkL
    split
    · exact (sinkL_perm j _).trans (swpL_perm L j)
    · exact List.Perm.refl _
def ordBut (L : List Wh) (i j : Nat) : Prop := ∀ a b, a < b → b ≤ i → b ≠ j → spd L a ≤ spd L b
def ordTo (L : List Wh) (n : Nat) : Prop := ∀ a b, a < b → b < n → spd L a ≤ spd L b
theorem ordBut_step {L : List Wh} {i j : Nat} (hi : i < L.length) (hj : j + 1 ≤ i) (h : ordBut L i (j + 1)) (hlt : spd L (j + 1) < spd L j) : ordBut (swpL L j) i j := by
  intro a b hab hbi hbj
  rw [spd_swp (by omega), spd_swp (by omega)]
  have k1 : a < j → spd L a ≤ spd L j := fun _ => h a j (by omega) (by omega) (by omega)
  have k2 : j + 1 < b → spd L j ≤ spd L b := fun _ => h j b (by omega) hbi (by omega)
  have k3 : j + 1 < b → spd L (j + 1) ≤ spd L b := fun _ => h (j + 1) b (by omega) hbi (by omega)
  have k4 : b ≠ j + 1 → spd L a ≤ spd L b := fun hb => h a b hab hbi hb
  rw [if_neg hbj]
  by_cases hb1 : b = j + 1
  · rw [if_pos hb1]
    by_cases ha : a = j
    · rw [if_pos ha]; omega
    · rw [if_neg ha, if_neg (by omega)]
      exact k1 (by omega)
  · rw [if_neg hb1]
    by_cases ha : a = j
    · rw [if_pos ha]
      exact k3 (by omega)
    · rw [if_neg ha]
      by_cases ha1 : a = j + 1
      · rw [if_pos ha1]
        exact k2 (by omega)
      · rw [if_neg ha1]
        exact k4 hb1
theorem ordBut_end {L : List Wh} {i j : Nat} (hj : j ≤ i) (h : ordBut L i j) (hle : j = 0 ∨ spd L (j - 1) ≤ spd L j) : ordTo L (i + 1) := by
  intro a b hab hb
  by_cases hbj : b = j
  · subst hbj
    rcases hle with h0 | hle
    · omega
    · by_cases ha : a = b - 1
      · subst ha
        exact hle
      · exact Int.le_trans (h a (b - 1) (by omega) (by omega) (by omega)) hle
  · exact h a b hab (by omega) hbj
theorem sinkL_ord : ∀ (j : Nat) (L : List Wh) (i : Nat), i < L.length → j ≤ i → ordBut L i j → ordTo (sinkL j L) (i + 1)
  | 0, L, i, hi, hj, h => ordBut_end hj h (.inl rfl)
  | j + 1, L, i, hi, hj, h => by
    unfold sinkL
    split
    · rename_i hlt
      exact sinkL_ord j _ i (by rw [swpL_length]; exact hi) (by omega) (ordBut_step hi hj h hlt)
    · rename_i hge
      exact ordBut_end hj h (.inr (by simp only [Nat.add_sub_cancel]; omega))
def sortTo (L : List Wh) : Nat → List Wh
  | 0 => L
  | n + 1 => sinkL n (sortTo L n)
theorem sortTo_perm (L : List Wh) : ∀ n, (sortTo L n).Perm L
  | 0 => List.Perm.refl _
  | n + 1 => (sinkL_perm n _).trans (sortTo_perm L n)
theorem sortTo_ord (L : List Wh) : ∀ n, n ≤ L.length → ordTo (sortTo L n) n
  | 0, _ => fun a b _ h => by omega
  | n + 1, h => by
    refine sinkL_ord n _ n (by rw [(sortTo_perm L n).length_eq]; omega) (Nat.le_refl _) fun a b hab hb hne => ?_
    exact sortTo_ord L n (by omega) a b hab (by omega)
theorem pairwise_of_ord {L : List Wh} (h : ordTo L L.length) : L.Pairwise fun x y => x.s ≤ y.s := by
  rw [List.pairwise_iff_getElem]
  intro i j hi hj hij
  have := h i j hij hj
  simpa [spd, hi, hj] using this
def sortL (L : List Wh) : List Wh := sortTo L L.length
theorem sortL_perm (L : List Wh) : (sortL L).Perm L := sortTo_perm L _
theorem sortL_ord (L : List Wh) : (sortL L).Pairwise fun x y => x.s ≤ y.s := pairwise_of_ord (by
  have := sortTo_ord L L.length (Nat.le_refl _)
  rw [show (sortL L).length = L.length from (sortL_perm L).length_eq]
  exact this)
theorem tidy_eq {ws : List Wh} (hw : ∀ w ∈ ws, cyIn w.r) : (match runT insA [] ws with
    | some A => if dValid (nonZ A) = true then some (sortL (nonZ A)) else none
    | none => none) = tidyS ws := by
  cases hA : runT insA [] ws with
  | none => exact (tidy_no hw (.inl hA)).symm
  | some A =>
    simp only
    by_cases hv : dValid (nonZ A) = true
    · rw [if_pos hv]
      exact (tidy_of hw hA hv (sortL_perm _) (sortL_ord _)).symm
    · rw [if_neg hv]
      exact (tidy_no hw (.inr ⟨A, hA, by simpa using hv⟩)).symm

end Go.Proofs.YtddhmidegldhdaaGreatDoor

/- Rows of wheels. No conditions. -/
namespace Go.Proofs.YtddhmidegldhdaaGreatDoor
open Go.RowKit
set_option maxRecDepth 100000

abbrev row9 (f : Nat → Nat → Int) : Nat → List Value := fun j => [i64 (f j 0), i64 (f j 1), i64 (f j 2), i64 (f j 3), i64 (f j 4), i64 (f j 5), i64 (f j 6), i64 (f j 7), i64 (f j 8)]
def isW : List Value → Bool
  | [.int .i64 _, .int .i64 _, .int .i64 _, .int .i64 _, .int .i64 _, .int .i64 _, .int .i64 _, .int .i64 _, .int .i64 _] => true
  | _ => false
def itW (g : Nat → List Value) : Nat → Nat → Int := fun j k => intOf ((g j).getD k undef)
def allW (m : Nat) (g : Nat → List Value) : Bool := (List.range m).all fun j => isW (g j)
theorem allW_get {m : Nat} {g : Nat → List Value} (h : allW m g = true) (j : Nat) (hj : j < m) : g j = row9 (itW g) j := by
  have := List.all_eq_true.1 h j (by simpa using hj)
  simp only [row9, itW, i64]
  unfold isW at this
  split at this
  · rename_i e; rw [e]; rfl
  · cases this
theorem allW_of {m : Nat} {f : Nat → Nat → Int} {g : Nat → List Value} (h : ∀ j, j < m → g j = row9 f j) : allW m g = true := List.all_eq_true.2 fun j hj => by
  rw [h j (by simpa using hj)]; rfl
theorem allW_row (m : Nat) (f : Nat → Nat → Int) : allW m (row9 f) = true := allW_of (f := f) fun _ _ => rfl
def whOf (f : Nat → Int) : Wh := ⟨f 0, ⟨f 1, f 2, f 3, f 4, f 5, f 6, f 7, f 8⟩⟩
def whN (w : Wh) : Nat → Int
  | 0 => w.s
  | 1 => w.r.c0
  | 2 => w.r.c1
  | 3 => w.r.c2
  | 4 => w.r.c3
  | 5 => w.r.c4
  | 6 => w.r.c5
  | 7 => w.r.c6
  | 8 => w.r.c7
  | _ => 0
def listW (f : Nat → Nat → Int) (m : Nat) : List Wh := (List.range m).map fun j => whOf (f j)
def wfun (L : List Wh) : Nat → Nat → Int := fun j k => match L[j]? with
  | some w => whN w k
  | none => 0
theorem listW_length (f : Nat → Nat → Int) (m : Nat) : (listW f m).length = m := by simp [listW]
theorem listW_get (f : Nat → Nat → Int) {m j : Nat} (hj : j < m) : (listW f m)[j]? = some (whOf (f j)) := by simp [listW, hj]
theorem row9_congr {f g : Nat → Nat → Int} {j : Nat} (h : ∀ k, k < 9 → f j k = g j k) : row9 f j = row9 g j := by
  simp only [row9, h 0 (by omega), h 1 (by omega), h 2 (by omega), h 3 (by omega), h 4 (by omega), h 5 (by omega), h 6 (by omega), h 7 (by omega), h 8 (by omega)]
theorem row9_list (f : Nat → Nat → Int) {m j : Nat} (hj : j < m) : row9 (wfun (listW f m)) j = row9 f j := by
  refine row9_congr fun k hk => ?_
  simp only [wfun, listW_get f hj]
  rcases (by omega : k = 0 ∨ k = 1 ∨ k = 2 ∨ k = 3 ∨ k = 4 ∨ k = 5 ∨ k = 6 ∨ k = 7 ∨ k = 8) with rfl | rfl | rfl | rfl | rfl | rfl | rfl | rfl | rfl <;> rfl
theorem whOf_N (w : Wh) : whOf (whN w) = w := rfl
theorem listW_fun (L : List Wh) : listW (wfun L) L.length = L := by
  apply List.ext_getElem?
  intro j
  by_cases hj : j < L.length
  · rw [listW_get _ hj, List.getElem?_eq_getElem hj]
    have : wfun L j = whN L[j] := by
      funext k
      simp only [wfun, List.getElem?_eq_getElem hj]
    rw [this, whOf_N]
  · rw [List.getElem?_eq_none (by rw [listW_length]; omega), List.getElem?_eq_none (by omega)]
theorem listW_itW (f : Nat → Nat → Int) (m : Nat) : listW (itW (row9 f)) m = listW f m := rfl
theorem listW_succ (f : Nat → Nat → Int) (m : Nat) : listW f (m + 1) = listW f m ++ [whOf (f m)] := by simp [listW, List.range_succ]
end Go.Proofs.YtddhmidegldhdaaGreatDoor

/- Small functions on exact points: valid, done, turned by the root. No conditions. -/
namespace Go.Proofs.YtddhmidegldhdaaGreatDoor
open Go.RowKit
set_option maxRecDepth 100000

theorem treeCV_h (a : Nat → Int) (u0 : _) (hu0 : [AV.v (.bool false)] = u0) (u1 : _) (hu1 : (-1000000 : Int) = u1) (u2 : _) (hu2 : (1000000 : Int) = u2) : execF Tryz.prog gm_l6In noLam 100 Tryz.f139 ([cyv a].map .v) [] valK
    = bif !inR (a (0 : Nat)) u1 u2 then Res.out .ret u0 [] else bif !inR (a (1 : Nat)) u1 u2 then Res.out .ret u0 [] else bif !inR (a (2 : Nat)) u1 u2 then Res.out .ret u0 [] else bif !inR (a (3 : Nat)) u1 u2 then Res.out .ret u0 [] else bif !inR (a (4 : Nat)) u1 u2 then Res.out .ret u0 [] else bif !inR (a (5 : Nat)) u1 u2 then Res.out .ret u0 [] else bif !inR (a (6 : Nat)) u1 u2 then Res.out .ret u0 [] else bif !inR (a (7 : Nat)) u1 u2 then Res.out .ret u0 [] else Res.out .ret [AV.v (.bool true)] [] := by
  subst hu2 hu1 hu0
  kernel_rfl
theorem treeCV (a : Nat → Int) : type_of% (treeCV_h a _ rfl _ rfl _ rfl) := treeCV_h a _ rfl _ rfl _ rfl

def f_cv : List Value → Option (Value × List Bool)
  | [.agg ⟨[.int .i64 a0, .int .i64 a1, .int .i64 a2, .int .i64 a3, .int .i64 a4, .int .i64 a5, .int .i64 a6, .int .i64 a7]⟩] => some (.bool (cyOk ⟨a0, a1, a2, a3, a4, a5, a6, a7⟩), [])
  | _ => none
theorem ok_cv : SpecOk Tryz.prog 139 (specV f_cv) := by
  refine mkV (n := 100) gm_l6In_ok Tryz.func139 rfl fun vs v ob hF ho => ?_
  unfold f_cv at hF
  split at hF
  · rename_i a0 a1 a2 a3 a4 a5 a6 a7
    cases hF
    show Good (execF Tryz.prog gm_l6In noLam 100 Tryz.f139 ([cyv (v8 a0 a1 a2 a3 a4 a5 a6 a7)].map .v) [] valK) _
    rw [treeCV]
    exact gives_of (by simp only [outV_cond, outV_rv, cond_some, cond_bool, cyOk, Cy.f, smallF])
  · cases hF

end Go.Proofs.YtddhmidegldhdaaGreatDoor

/- l5Add: its runs. Conditions: a list of wheels. -/
namespace Go.Proofs.YtddhmidegldhdaaGreatDoor
open Go.RowKit
set_option maxRecDepth 100000

def fOkc (ok : (Nat → Int) → Bool) : List Value → Option (Value × List Bool)
  | [.agg ⟨[.int .i64 a0, .int .i64 a1, .int .i64 a2, .int .i64 a3, .int .i64 a4, .int .i64 a5, .int .i64 a6, .int .i64 a7]⟩] => some (.bool (ok (v8 a0 a1 a2 a3 a4 a5 a6 a7)), [])
  | _ => none
def fAdd3 (ad : (Nat → Int) → Int → (Nat → Int) → Nat → Int) : List Value → Option (Value × List Bool)
  | [.agg ⟨[.int .i64 a0, .int .i64 a1, .int .i64 a2, .int .i64 a3, .int .i64 a4, .int .i64 a5, .int .i64 a6, .int .i64 a7]⟩, .int .i64 n, .agg ⟨[.int .i64 b0, .int .i64 b1, .int .i64 b2, .int .i64 b3, .int .i64 b4, .int .i64 b5, .int .i64 b6, .int .i64 b7]⟩] => some (cyv (ad (v8 a0 a1 a2 a3 a4 a5 a6 a7) n (v8 b0 b1 b2 b3 b4 b5 b6 b7)), [])
  | _ => none
def gmAd (ok : (Nat → Int) → Bool) (ad : (Nat → Int) → Int → (Nat → Int) → Nat → Int) : Gam := ext (ext g0 139 (specV (fOkc ok))) 138 (specV (fAdd3 ad))

abbrev whV (w : Nat → Int) : Value := .agg #[.int .i64 (w 0), .int .i64 (w 1), .int .i64 (w 2), .int .i64 (w 3), .int .i64 (w 4), .int .i64 (w 5), .int .i64 (w 6), .int .i64 (w 7), .int .i64 (w 8)]
abbrev whC (w : Nat → Int) : List AV := [.v (i64 (w 0)), .v (i64 (w 1)), .v (i64 (w 2)), .v (i64 (w 3)), .v (i64 (w 4)), .v (i64 (w 5)), .v (i64 (w 6)), .v (i64 (w 7)), .v (i64 (w 8))]
abbrev lvAd : Ex → List Nat := lv3 [0, 3, 6] [0, 3, 6] [4, 5]
abbrev hpAd (m : Nat) (f : Nat → Nat → Int) (w : Nat → Int) (t : TypeId) : List AB := [.row false m 9 (row9 f) t, .cells (whC w) 60]
abbrev stAd (m i : Nat) : List AV := [.sl 0 9 0 0 m none, .ptr 1 0 0 0, .v (i64 i)]
theorem rndAd_h (m : Nat) (f : Nat → Nat → Int) (w : Nat → Int) (t : TypeId) (i : Nat) (u1 : _) (hu1 : (0 : Nat) = u1) (u3 : _) (hu3 : (↑i : Int) = u3) (u0 : _) (hu0 : [AB.row false m 9 (row9 f) t, AB.cells [AV.v (.int .i64 (w u1)), AV.v (.int .i64 (w (1 : Nat))), AV.v (.int .i64 (w (2 : Nat))), AV.v (.int .i64 (w (3 : Nat))), AV.v (.int .i64 (w (4 : Nat))), AV.v (.int .i64 (w (5 : Nat))), AV.v (.int .i64 (w (6 : Nat))), AV.v (.int .i64 (w (7 : Nat))), AV.v (.int .i64 (w (8 : Nat)))] 60] = u0) (u2 : _) (hu2 : [AV.sl u1 (9 : Nat) u1 u1 m none, AV.ptr (1 : Nat) u1 u1 u1, AV.v (.int .i64 u3)] = u2) : execC Tryz.prog g0 100 noLam (loopAt 0 Tryz.f81) (mkT 0 75 ((lvAd .normal).zip (stAd m i))) (hpAd m f w t) (leafV 75 lvAd 1)
    = bif decide (u3 < (m : Int)) then needs [decide (u3 < (m : Int)), decide (u1 + Int.toNat u3 < m)] (bif decide (f (u1 + Int.toNat u3) u1 < w u1) then Res.out .normal [AV.sl u1 (9 : Nat) u1 u1 m none, AV.ptr (1 : Nat) u1 u1 u1, AV.v (.int .i64 (IntKind.wrap .i64 (u3 + (1 : Int))))] u0 else Res.out (Ex.exit u1) u2 u0) else Res.out (Ex.exit u1) u2 u0 := by
  subst hu2 hu0 hu3 hu1
  kernel_rfl
theorem rndAd (m : Nat) (f : Nat → Nat → Int) (w : Nat → Int) (t : TypeId) (i : Nat) : type_of% (rndAd_h m f w t i _ rfl _ rfl _ rfl _ rfl) := rndAd_h m f w t i _ rfl _ rfl _ rfl _ rfl

noncomputable abbrev lamAd (m : Nat) (f : Nat → Nat → Int) (w : Nat → Int) (t : TypeId) (k : Nat) : Nat → Option Sum := oneL 0 (atS 75 (lvAd .normal) 1 (stAd m 0) (hpAd m f w t) (fun K => K .normal (mkT 0 75 [(0, .sl 0 9 0 0 m none), (3, .ptr 1 0 0 0), (6, .v (i64 k))]) (hpAd m f w t)))
theorem treeAd_h (ok : (Nat → Int) → Bool) (ad : (Nat → Int) → Int → (Nat → Int) → Nat → Int) (m : Nat) (f : Nat → Nat → Int) (w : Nat → Int) (t : TypeId) (k : Nat) (u4 : _) (hu4 : (↑k : Int) = u4) (u5 : _) (hu5 : (0 : Nat) = u5) (u7 : _) (hu7 : (u5 + Int.toNat (u4 - (0 : Int))) = u7) (u8 : _) (hu8 : (Int.toNat u4) = u8) (u9 : _) (hu9 : (u5 + (Int.toNat u4 - u5)) = u9) (u11 : _) (hu11 : (u5 + Int.toNat u4) = u11) (u12 : _) (hu12 : (m : Int) = u12) (u13 : _) (hu13 : (1 : Int) = u13) (u14 : _) (hu14 : (1 : Nat) = u14) (u15 : _) (hu15 : (AB.row false m 9 (row9 f) t) = u15) (u16 : _) (hu16 : (6 : Nat) = u16) (u17 : _) (hu17 : (2 : Nat) = u17) (u18 : _) (hu18 : (7 : Nat) = u18) (u19 : _) (hu19 : (4 : Nat) = u19) (u20 : _) (hu20 : (3 : Nat) = u20) (u21 : _) (hu21 : (5 : Nat) = u21) (u22 : _) (hu22 : (549755813888 : Nat) = u22) (u23 : _) (hu23 : (8 : Nat) = u23) (u0 : _) (hu0 : (v8 (f u11 u14) (f u11 u17) (f u11 u20) (f u11 u19) (f u11 u21) (f u11 u16) (f u11 u18) (f u11 u23)) = u0) (u2 : _) (hu2 : (v8 (w u14) (w u17) (w u20) (w u19) (w u21) (w u16) (w u18) (w u23)) = u2) (u3 : _) (hu3 : (u5 + Int.toNat (u4 - (0 : Int)) + u14) = u3) (u10 : _) (hu10 : (u5 + Int.toNat (u4 - (0 : Int)) + u14 + Int.toNat (u12 - u4)) = u10) (u1 : _) (hu1 : (Res.out .ret [AV.tup [AV.own u14 u10, AV.v (.bool (ok u2))]] [u15, AB.row true u10 9 (fun q ↦ [Value.int .i64 (bif Nat.blt q u3 then bif Nat.blt q u7 then f (u5 + (q - u5)) u5 else w u5 else f (u5 + Int.toNat u4 + (q - u3)) u5), Value.int .i64 (bif Nat.blt q u3 then bif Nat.blt q u7 then f (u5 + (q - u5)) u14 else w u14 else f (u5 + Int.toNat u4 + (q - u3)) u14), Value.int .i64 (bif Nat.blt q u3 then bif Nat.blt q u7 then f (u5 + (q - u5)) u17 else w u17 else f (u5 + Int.toNat u4 + (q - u3)) u17), Value.int .i64 (bif Nat.blt q u3 then bif Nat.blt q u7 then f (u5 + (q - u5)) u20 else w u20 else f (u5 + Int.toNat u4 + (q - u3)) u20), Value.int .i64 (bif Nat.blt q u3 then bif Nat.blt q u7 then f (u5 + (q - u5)) u19 else w u19 else f (u5 + Int.toNat u4 + (q - u3)) u19), Value.int .i64 (bif Nat.blt q u3 then bif Nat.blt q u7 then f (u5 + (q - u5)) u21 else w u21 else f (u5 + Int.toNat u4 + (q - u3)) u21), Value.int .i64 (bif Nat.blt q u3 then bif Nat.blt q u7 then f (u5 + (q - u5)) u16 else w u16 else f (u5 + Int.toNat u4 + (q - u3)) u16), Value.int .i64 (bif Nat.blt q u3 then bif Nat.blt q u7 then f (u5 + (q - u5)) u18 else w u18 else f (u5 + Int.toNat u4 + (q - u3)) u18), Value.int .i64 (bif Nat.blt q u3 then bif Nat.blt q u7 then f (u5 + (q - u5)) u23 else w u23 else f (u5 + Int.toNat u4 + (q - u3)) u23)]) (60 : Nat)]) = u1) (u6 : _) (hu6 : [decide (u4 ≤ u12), decide (u12 ≤ u12), Nat.ble u7 u22, Nat.ble u7 m, Nat.ble u7 u7, Nat.ble u3 u22, decide (u4 ≤ u12), decide (u12 ≤ u12), decide (u12 ≤ u12), Nat.ble u3 u3, Nat.ble u10 u22, Nat.ble (u5 + Int.toNat u4 + Int.toNat (u12 - u4)) m] = u6) : execF Tryz.prog (gmAd ok ad) (lamAd m f w t k) 100 Tryz.f81 [.sl 0 9 0 0 m none, .v (whV w)] [.row false m 9 (row9 f) t] (packK 1)
    = needs [chk ([AV.sl u5 (9 : Nat) u5 u5 m none, AV.ptr u14 u5 u5 u5, AV.v (.int .i64 0)] = stAd m u5 ∧ Hsim [u15, AB.cells [AV.v (.int .i64 (w u5)), AV.v (.int .i64 (w u14)), AV.v (.int .i64 (w u17)), AV.v (.int .i64 (w u20)), AV.v (.int .i64 (w u19)), AV.v (.int .i64 (w u21)), AV.v (.int .i64 (w u16)), AV.v (.int .i64 (w u18)), AV.v (.int .i64 (w u23))] (60 : Nat)] (hpAd m f w t))] (bif decide (u4 < u12) then needs [decide (u4 < u12), decide (u5 + Int.toNat u4 < m)] (bif f u11 u5 == w u5 then needs [Nat.ble (u5 + m) u22, Nat.ble (u5 + m) m, decide (u4 < u12), decide (u5 + Int.toNat u4 < m), decide (u4 < (↑(u5 + m) : Int)), decide (Int.toNat u4 < u5 + m), decide (u4 < (↑(u5 + m) : Int)), decide (Int.toNat u4 < u5 + m)] (Res.out .ret [AV.tup [AV.own u14 (u5 + m), AV.v (.bool (ok (v8 (bif Nat.beq u8 u8 then ad u0 u13 u2 u5 else f u9 u14) (bif Nat.beq u8 u8 then ad u0 u13 u2 u14 else f u9 u17) (bif Nat.beq u8 u8 then ad u0 u13 u2 u17 else f u9 u20) (bif Nat.beq u8 u8 then ad u0 u13 u2 u20 else f u9 u19) (bif Nat.beq u8 u8 then ad u0 u13 u2 u19 else f u9 u21) (bif Nat.beq u8 u8 then ad u0 u13 u2 u21 else f u9 u16) (bif Nat.beq u8 u8 then ad u0 u13 u2 u16 else f u9 u18) (bif Nat.beq u8 u8 then ad u0 u13 u2 u18 else f u9 u23))))]] [u15, AB.row true (u5 + m) (9 : Nat) (fun q ↦ [Value.int .i64 (bif Nat.beq q u8 then f u9 u5 else f (u5 + (q - u5)) u5), Value.int .i64 (bif Nat.beq q u8 then ad u0 u13 u2 u5 else f (u5 + (q - u5)) u14), Value.int .i64 (bif Nat.beq q u8 then ad u0 u13 u2 u14 else f (u5 + (q - u5)) u17), Value.int .i64 (bif Nat.beq q u8 then ad u0 u13 u2 u17 else f (u5 + (q - u5)) u20), Value.int .i64 (bif Nat.beq q u8 then ad u0 u13 u2 u20 else f (u5 + (q - u5)) u19), Value.int .i64 (bif Nat.beq q u8 then ad u0 u13 u2 u19 else f (u5 + (q - u5)) u21), Value.int .i64 (bif Nat.beq q u8 then ad u0 u13 u2 u21 else f (u5 + (q - u5)) u16), Value.int .i64 (bif Nat.beq q u8 then ad u0 u13 u2 u16 else f (u5 + (q - u5)) u18), Value.int .i64 (bif Nat.beq q u8 then ad u0 u13 u2 u18 else f (u5 + (q - u5)) u23)]) (60 : Nat)]) else needs u6 u1) else needs u6 u1) := by
  subst hu6 hu1 hu10 hu3 hu2 hu0 hu23 hu22 hu21 hu20 hu19 hu18 hu17 hu16 hu15 hu14 hu13 hu12 hu11 hu9 hu8 hu7 hu5 hu4
  kernel_rfl
theorem treeAd (ok : (Nat → Int) → Bool) (ad : (Nat → Int) → Int → (Nat → Int) → Nat → Int) (m : Nat) (f : Nat → Nat → Int) (w : Nat → Int) (t : TypeId) (k : Nat) : type_of% (treeAd_h ok ad m f w t k _ rfl _ rfl _ rfl _ rfl _ rfl _ rfl _ rfl _ rfl _ rfl _ rfl _ rfl _ rfl _ rfl _ rfl _ rfl _ rfl _ rfl _ rfl _ rfl _ rfl _ rfl _ rfl _ rfl _ rfl) := treeAd_h ok ad m f w t k _ rfl _ rfl _ rfl _ rfl _ rfl _ rfl _ rfl _ rfl _ rfl _ rfl _ rfl _ rfl _ rfl _ rfl _ rfl _ rfl _ rfl _ rfl _ rfl _ rfl _ rfl _ rfl _ rfl _ rfl

end Go.Proofs.YtddhmidegldhdaaGreatDoor

/- To put a wheel in its place: where that is. Plain lists, no program. -/
namespace Go.Proofs.YtddhmidegldhdaaGreatDoor
open Go.RowKit

def kAt : List Wh → Int → Nat
  | [], _ => 0
  | x :: l, s => if x.s < s then kAt l s + 1 else 0
def okS : List Wh → Wh → Bool
  | [], w => cyOk w.r
  | x :: l, w => if x.s < w.s then okS l w else if x.s = w.s then cyOk (cyAdd x.r w.r) else cyOk w.r

theorem kAt_le (l : List Wh) (s : Int) : kAt l s ≤ l.length := by
  induction l with
  | nil => simp [kAt]
  | cons x l ih =>
    unfold kAt
    split <;> simp only [List.length_cons] <;> omega
theorem kAt_lt {l : List Wh} {s : Int} {j : Nat} (h : j < kAt l s) {x : Wh} (hx : l[j]? = some x) : x.s < s := by
  induction l generalizing j with
  | nil => simp at hx
  | cons y l ih =>
    unfold kAt at h
    split at h
    · rename_i hy
      cases j with
      | zero => simp at hx; subst hx; exact hy
      | succ j => exact ih (j := j) (by omega) (by simpa using hx)
    · omega
theorem kAt_not {l : List Wh} {s : Int} {x : Wh} (hx : l[kAt l s]? = some x) : ¬ x.s < s := by
  induction l with
  | nil => simp at hx
  | cons y l ih =>
    unfold kAt at hx
    split at hx
    · exact ih (by simpa using hx)
    · rename_i hy
      simp at hx
      subst hx
      exact hy

theorem insS_same {l : List Wh} {w x : Wh} (hx : l[kAt l w.s]? = some x) (he : x.s = w.s) : (insS l w).length = l.length ∧ (∀ j, (insS l w)[j]? = if j = kAt l w.s then some ⟨x.s, cyAdd x.r w.r⟩ else l[j]?) ∧ okS l w = cyOk (cyAdd x.r w.r) := by
  induction l with
  | nil => simp at hx
  | cons y l ih =>
    by_cases hy : y.s < w.s
    · simp only [kAt, insS, okS, if_pos hy] at hx ⊢
      obtain ⟨h1, h2, h3⟩ := ih (by simpa using hx)
      refine ⟨by simp [h1], fun j => ?_, h3⟩
      cases j with
      | zero => simp
      | succ j => simpa using h2 j
    · simp only [kAt, if_neg hy] at hx
      simp at hx
      subst hx
      simp only [kAt, insS, okS, if_neg hy, if_pos he]
      refine ⟨by simp, fun j => ?_, trivial⟩
      cases j <;> simp
theorem insS_new {l : List Wh} {w : Wh} (h : ∀ x, l[kAt l w.s]? = some x → x.s ≠ w.s) : (insS l w).length = l.length + 1 ∧ (∀ j, (insS l w)[j]? = if j < kAt l w.s then l[j]? else if j = kAt l w.s then some w else l[j - 1]?) ∧ okS l w = cyOk w.r := by
  induction l with
  | nil =>
    refine ⟨rfl, fun j => ?_, rfl⟩
    cases j <;> simp [kAt, insS]
  | cons y l ih =>
    by_cases hy : y.s < w.s
    · simp only [kAt, insS, okS, if_pos hy] at h ⊢
      obtain ⟨h1, h2, h3⟩ := ih (fun x hx => h x (by simpa using hx))
      refine ⟨by simp [h1], fun j => ?_, h3⟩
      cases j with
      | zero => simp
      | succ j =>
        have := h2 j
        simp only [List.getElem?_cons_succ, this, Nat.add_lt_add_iff_right, Nat.add_right_cancel_iff, Nat.add_sub_cancel]
        by_cases h1 : j < kAt l w.s
        · simp [h1]
        · by_cases h2 : j = kAt l w.s
          · simp [h2]
          · have : j ≠ 0 := by omega
            obtain ⟨j', rfl⟩ := Nat.exists_eq_succ_of_ne_zero this
            simp [h1, h2]
    · have hne : y.s ≠ w.s := h y (by simp [kAt, hy])
      simp only [kAt, insS, okS, if_neg hy, if_neg hne]
      refine ⟨by simp, fun j => ?_, trivial⟩
      cases j <;> simp
theorem okS_eq {l : List Wh} (h : rising l) (w : Wh) : okS l w = cyOk (sumR l w) := by
  induction l with
  | nil => rfl
  | cons y l ih =>
    have h' := List.pairwise_cons.1 h
    by_cases hy : y.s < w.s
    · have : sumR (y :: l) w = sumR l w := by
        have hne : y.s ≠ w.s := by omega
        simp [sumR, radAt, hne]
      rw [this, okS, if_pos hy, ih h'.2]
    · by_cases he : y.s = w.s
      · simp [okS, sumR, radAt, he]
      · have : sumR (y :: l) w = w.r := by
          have hn : (l.find? fun x => decide (x.s = w.s)) = none := by
            rw [List.find?_eq_none]
            intro x hx
            have := h'.1 x hx
            simp only [decide_eq_true_eq]
            omega
          simp [sumR, radAt, he, hn]
        rw [this]
        simp [okS, hy, he]

end Go.Proofs.YtddhmidegldhdaaGreatDoor

/- Small words: no index is bad; numbers that fit. No conditions. -/
namespace Go.Proofs.YtddhmidegldhdaaGreatDoor
open Go.RowKit

def noneTo (bad : Nat → Bool) (n : Nat) : Bool := (List.range n).all fun j => !bad j
theorem noneTo_succ {bad : Nat → Bool} {n : Nat} (h : noneTo bad n = true) (h1 : bad n = false) : noneTo bad (n + 1) = true := by
  unfold noneTo at *
  rw [List.range_succ, List.all_append, h]
  simp [h1]
theorem noneTo_get {bad : Nat → Bool} {n j : Nat} (h : noneTo bad n = true) (hj : j < n) : bad j = false := by
  have := List.all_eq_true.1 h j (by simpa using hj)
  simpa using this
theorem noneTo_no {bad : Nat → Bool} {n j : Nat} (hj : j < n) (h1 : bad j = true) : noneTo bad n = false := by
  cases h : noneTo bad n with
  | false => rfl
  | true => rw [noneTo_get h hj] at h1; cases h1
theorem noneTo_iff {bad : Nat → Bool} {m : Nat} : noneTo bad m = true ↔ ∀ i, i < m → bad i = false := by
  simp [noneTo]
theorem wr_in {x : Int} (h : -9223372036854775808 ≤ x ∧ x ≤ 9223372036854775807) : IntKind.wrap IntKind.i64 x = x := w64_in h.1 h.2

end Go.Proofs.YtddhmidegldhdaaGreatDoor

/- l5Add: its word. Conditions: a list of wheels. -/
namespace Go.Proofs.YtddhmidegldhdaaGreatDoor
open Go.RowKit
set_option maxRecDepth 100000

theorem sumAd (m : Nat) (f : Nat → Nat → Int) (w : Nat → Int) (t : TypeId) (k : Nat) (hm : m ≤ 2 ^ 40) (h0 : k ≤ m) (h1 : ∀ j, j < k → f j 0 < w 0) (h2 : k < m → ¬ f k 0 < w 0) :
    SumOk Tryz.prog 1 (.block 0 (.loop (loopAt 0 Tryz.f81))) (atS 75 (lvAd .normal) 1 (stAd m 0) (hpAd m f w t) (fun K => K .normal (mkT 0 75 [(0, .sl 0 9 0 0 m none), (3, .ptr 1 0 0 0), (6, .v (i64 k))]) (hpAd m f w t))) := by
  refine for_at g0_ok (n := 100) (m := 1) (lv := lvAd) (fun i => stAd m i) (fun _ => hpAd m f w t) (fun i => i ≤ k) m (fun _ => noLam) (lv3_ris rfl rfl rfl) (Nat.le_refl _) (Nat.zero_le _) fun K Q hk i hi him => ⟨noLam_ok _ _ _, ?_⟩
  rw [rndAd]
  refine good_cond (fun c1 => ?_) fun c1 => ?_
  · have c1 := of_decide_eq_true c1
    have c1' : i < m := by omega
    rw [Int.toNat_natCast, Nat.zero_add, show IntKind.wrap IntKind.i64 ((i : Int) + 1) = (i : Int) + 1 from w64_in (by omega) (by omega)]
    refine good_needs (by simp only [ob_cons, ob_nil, and_true, decide_eq_true_eq]; omega) (good_cond (fun c2 => ?_) fun c2 => ?_)
    · have c2 := of_decide_eq_true c2
      have hne : i ≠ k := fun e => h2 (by omega) (e ▸ c2)
      exact good_out ⟨i + 1, ⟨rfl, c1', by omega⟩, rfl, Hsim.refl _⟩
    · have c2 := of_decide_eq_false c2
      have : i = k := by
        rcases Nat.lt_or_ge i k with h | h
        · exact (c2 (h1 i h)).elim
        · omega
      subst this
      exact good_out ⟨_, Hsim.refl _, by rw [if_pos rfl]; exact hk⟩
  · have c1 := of_decide_eq_false c1
    have : i = k := by omega
    subst this
    exact good_out ⟨_, Hsim.refl _, by rw [if_pos rfl]; exact hk⟩

theorem fOkc_eq : fOkc (fun v => cyOk (cyOf v)) = f_cv := by
  funext l
  rfl
theorem fAdd3_eq : fAdd3 sumF = f_l2Sum := by
  funext l
  rfl
theorem gmAd_ok : GamOk Tryz.prog (gmAd (fun v => cyOk (cyOf v)) sumF) := by
  unfold gmAd
  rw [fOkc_eq, fAdd3_eq]
  exact ext_ok (ext_ok g0_ok ok_cv) ok_l2Sum
theorem cyOf_sum (a b : Nat → Int) : cyOf (sumF a 1 b) = cyOf (plusF a b) := cyOf_congr fun k _ => by simp only [sumF, plusF, Int.one_mul]

def md_wv : List Md := [.rd 9 60, .val]
def F_l5Add : List SA → Option FR
  | [.row m g, .v (.agg ⟨[.int .i64 w0, .int .i64 w1, .int .i64 w2, .int .i64 w3, .int .i64 w4, .int .i64 w5, .int .i64 w6, .int .i64 w7, .int .i64 w8]⟩)] =>
    some { val := .tup [.own 0 (insS (listW (itW g) m) ⟨w0, ⟨w1, w2, w3, w4, w5, w6, w7, w8⟩⟩).length, .v (.bool (okS (listW (itW g) m) ⟨w0, ⟨w1, w2, w3, w4, w5, w6, w7, w8⟩⟩))],
           new := [.row true (insS (listW (itW g) m) ⟨w0, ⟨w1, w2, w3, w4, w5, w6, w7, w8⟩⟩).length 9 (row9 (wfun (insS (listW (itW g) m) ⟨w0, ⟨w1, w2, w3, w4, w5, w6, w7, w8⟩⟩))) 60], obl := [allW m g, decide (m ≤ 2 ^ 38)] }
  | _ => none

theorem ok_l5Add : SpecOk Tryz.prog 81 (specR md_wv F_l5Add) := by
  refine specR_hr gmAd_ok Tryz.func81 rfl fun sas fr hF ho => ?_
  unfold F_l5Add at hF
  split at hF
  · rename_i m g w0 w1 w2 w3 w4 w5 w6 w7 w8
    cases hF
    simp only [ob_cons] at ho
    obtain ⟨h1, h2, _⟩ := ho
    have hm := of_decide_eq_true h2
    generalize hW : (⟨w0, ⟨w1, w2, w3, w4, w5, w6, w7, w8⟩⟩ : Wh) = W
    generalize hL : listW (itW g) m = L
    have hLl : L.length = m := by rw [← hL, listW_length]
    have hk0 : kAt L W.s ≤ m := by rw [← hLl]; exact kAt_le _ _
    have hLj : ∀ j, j < m → L[j]? = some (whOf (itW g j)) := fun j hj => by rw [← hL, listW_get _ hj]
    have hk1 : ∀ j, j < kAt L W.s → itW g j 0 < whN W 0 := fun j hj => kAt_lt hj (hLj j (by omega))
    have hk2 : kAt L W.s < m → ¬ itW g (kAt L W.s) 0 < whN W 0 := fun h => kAt_not (hLj _ h)
    refine ⟨[.row false m 9 (row9 (itW g)) 60], lamAd m (itW g) (whN W) 60 (kAt L W.s), 100, .cons (ABeq.row fun j hj => allW_get h1 j hj) .nil, lam1 (by kernel_rfl) (sumAd m (itW g) (whN W) 60 _ (by omega) hk0 hk1 hk2), ?_⟩
    have hv : ([.sl 0 9 0 0 m none, .v (whV (whN W))] : List AV) = avC 0 md_wv [.row m g, .v (.agg ⟨[.int .i64 w0, .int .i64 w1, .int .i64 w2, .int .i64 w3, .int .i64 w4, .int .i64 w5, .int .i64 w6, .int .i64 w7, .int .i64 w8]⟩)] := by rw [← hW]; rfl
    rw [← hv]
    show GoodQ (execF Tryz.prog (gmAd (fun v => cyOk (cyOf v)) sumF) (lamAd m (itW g) (whN W) 60 (kAt L W.s)) 100 Tryz.f81 [.sl 0 9 0 0 m none, .v (whV (whN W))] [.row false m 9 (row9 (itW g)) 60] (packK 1)) _
    rw [treeAd]
    simp only [Int.toNat_natCast, Nat.zero_add, Nat.sub_zero, Int.sub_zero, beq_me, cond_true]
    have fin : ∀ (n : Nat) (b : Bool) (G : Nat → List Value), n = (insS L W).length → b = okS L W → (∀ j, j < n → G j = row9 (wfun (insS L W)) j) → GoodQ (.out .ret [.tup [.own 1 n, .v (.bool b)]] [.row false m 9 (row9 (itW g)) 60, .row true n 9 G 60])
        (GivR (abP md_wv [.row m g, .v (.agg ⟨[.int .i64 w0, .int .i64 w1, .int .i64 w2, .int .i64 w3, .int .i64 w4, .int .i64 w5, .int .i64 w6, .int .i64 w7, .int .i64 w8]⟩)] []) { val := .tup [.own 0 (insS L W).length, .v (.bool (okS L W))], new := [.row true (insS L W).length 9 (row9 (wfun (insS L W))) 60], obl := [allW m g, decide (m ≤ 2 ^ 38)] }) := by
      rintro n b G rfl rfl hG
      exact good_out ⟨_, rfl, rfl, .cons (ABeq.row fun j hj => (allW_get h1 j hj).symm) (.cons (ABeq.row hG) .nil)⟩
    have new : (∀ x, L[kAt L W.s]? = some x → x.s ≠ W.s) → (insS L W).length = m + 1 ∧ okS L W = cyOk W.r ∧ ∀ j, j < m + 1 → ∀ i, i < 9 → (bif Nat.blt j (kAt L W.s + 1) then bif Nat.blt j (kAt L W.s) then itW g j i else whN W i else itW g (kAt L W.s + (j - (kAt L W.s + 1))) i) = wfun (insS L W) j i := by
      intro hn
      obtain ⟨e1, e2, e3⟩ := insS_new hn
      refine ⟨by rw [e1, hLl], e3, fun j hj i hi => ?_⟩
      have hwf : ∀ q : Nat, q < m → whN (whOf (itW g q)) i = itW g q i := fun q _ => by
        rcases (by omega : i = 0 ∨ i = 1 ∨ i = 2 ∨ i = 3 ∨ i = 4 ∨ i = 5 ∨ i = 6 ∨ i = 7 ∨ i = 8) with rfl | rfl | rfl | rfl | rfl | rfl | rfl | rfl | rfl <;> rfl
      rcases Nat.lt_trichotomy j (kAt L W.s) with h | h | h
      · have b1 : Nat.blt j (kAt L W.s + 1) = true := by rw [Nat.blt_eq]; omega
        have b2 : Nat.blt j (kAt L W.s) = true := by rw [Nat.blt_eq]; omega
        simp only [wfun, e2 j, if_pos h, b1, b2, cond_true, hLj j (by omega), hwf j (by omega)]
      · have b1 : Nat.blt j (kAt L W.s + 1) = true := by rw [Nat.blt_eq]; omega
        have b2 : Nat.blt j (kAt L W.s) = false := by
          rw [← Bool.not_eq_true, Nat.blt_eq]
          omega
        simp only [wfun, e2 j, if_neg (show ¬ j < kAt L W.s by omega), if_pos h, b1, b2, cond_true, cond_false]
      · have b1 : Nat.blt j (kAt L W.s + 1) = false := by
          rw [← Bool.not_eq_true, Nat.blt_eq]
          omega
        have e : kAt L W.s + (j - (kAt L W.s + 1)) = j - 1 := by omega
        simp only [wfun, e2 j, if_neg (show ¬ j < kAt L W.s by omega), if_neg (show ¬ j = kAt L W.s by omega), b1, cond_false, e, hLj (j - 1) (by omega), hwf (j - 1) (by omega)]
    refine good_needs (by rw [ob_cons]; exact ⟨chk_of ⟨rfl, Hsim.refl _⟩, rfl⟩) (good_cond (fun c1 => ?_) fun c1 => ?_)
    · have c1 := of_decide_eq_true c1
      have c1' : kAt L W.s < m := by omega
      refine good_needs (by simp only [ob_cons, ob_nil, and_true, decide_eq_true_eq]; omega) (good_cond (fun c2 => ?_) fun c2 => ?_)
      · have c2 : itW g (kAt L W.s) 0 = W.s := by simpa [whN] using c2
        obtain ⟨e1, e2, e3⟩ := insS_same (hLj _ c1') c2
        refine good_needs (by simp only [ob_cons, ob_nil, and_true, decide_eq_true_eq, Nat.ble_eq]; omega) (fin _ _ _ (by rw [e1, hLl]) ?_ fun j hj => ?_)
        · rw [e3]
          show cyOk (cyOf (sumF _ 1 _)) = cyOk (cyOf (plusF _ _))
          rw [cyOf_sum]
          rfl
        · by_cases hjk : j = kAt L W.s
          · have e4 := e2 j
            rw [if_pos hjk, hjk] at e4
            simp only [row9, wfun, hjk, e4, beq_me, cond_true, sumF, Int.one_mul]
            rfl
          · have b1 : Nat.beq j (kAt L W.s) = false := by
              cases hb : Nat.beq j (kAt L W.s) with
              | false => rfl
              | true => exact (hjk (Nat.eq_of_beq_eq_true hb)).elim
            simp only [row9, wfun, e2 j, if_neg hjk, b1, cond_false, hLj j hj]
            rfl
      · have c2 : itW g (kAt L W.s) 0 ≠ W.s := by simpa [whN] using c2
        obtain ⟨e1, e3, e2⟩ := new fun x hx => by
          rw [hLj _ c1'] at hx
          cases hx
          exact c2
        refine good_needs (by simp only [ob_cons, ob_nil, and_true, decide_eq_true_eq, Nat.ble_eq]; omega) (fin _ _ _ (by rw [e1]; omega) (by rw [e3, ← hW]; rfl) fun j hj => ?_)
        have hj : j < m + 1 := by omega
        simp only [row9, e2 j hj 0 (by omega), e2 j hj 1 (by omega), e2 j hj 2 (by omega), e2 j hj 3 (by omega), e2 j hj 4 (by omega), e2 j hj 5 (by omega), e2 j hj 6 (by omega), e2 j hj 7 (by omega), e2 j hj 8 (by omega), i64]
    · have c1 := of_decide_eq_false c1
      have c1' : ¬ kAt L W.s < m := by omega
      obtain ⟨e1, e3, e2⟩ := new fun x hx => by
        have := (List.getElem?_eq_some_iff.1 hx).1
        omega
      refine good_needs (by simp only [ob_cons, ob_nil, and_true, decide_eq_true_eq, Nat.ble_eq]; omega) (fin _ _ _ (by rw [e1]; omega) (by rw [e3, ← hW]; rfl) fun j hj => ?_)
      have hj : j < m + 1 := by omega
      simp only [row9, e2 j hj 0 (by omega), e2 j hj 1 (by omega), e2 j hj 2 (by omega), e2 j hj 3 (by omega), e2 j hj 4 (by omega), e2 j hj 5 (by omega), e2 j hj 6 (by omega), e2 j hj 7 (by omega), e2 j hj 8 (by omega), i64]
  · cases hF

end Go.Proofs.YtddhmidegldhdaaGreatDoor

/- DesignValid, the reference's: its word. Conditions: a list of wheels. -/
namespace Go.Proofs.YtddhmidegldhdaaGreatDoor
open Go.RowKit
set_option maxRecDepth 100000

def gmDV (ok : (Nat → Int) → Bool) : Gam := ext gm_l6In 139 (specV (fOkc ok))
abbrev lvDV : Ex → List Nat := lv3 [0, 3] [] [2]
abbrev hpDV (m : Nat) (f : Nat → Nat → Int) (t : TypeId) : List AB := [.row false m 9 (row9 f) t]
abbrev stDV (m i : Nat) : List AV := [.sl 0 9 0 0 m none, .v (i64 i)]
theorem rndDV_h (ok : (Nat → Int) → Bool) (m : Nat) (f : Nat → Nat → Int) (t : TypeId) (i : Nat) (u0 : _) (hu0 : ((0 : Nat) + Int.toNat (↑i : Int)) = u0) (u1 : _) (hu1 : [AB.row false m 9 (row9 f) t] = u1) (u2 : _) (hu2 : [decide ((↑i : Int) < (m : Int)), decide ((0 : Nat) + Int.toNat (↑i : Int) < m)] = u2) : execC Tryz.prog (gmDV ok) 100 noLam (loopAt 0 Tryz.f140) (mkT 0 29 ((lvDV .normal).zip (stDV m i))) (hpDV m f t) (leafV 29 lvDV 1)
    = bif decide ((↑i : Int) < (m : Int)) then needs u2 (bif !inR (f u0 (0 : Nat)) (-1000 : Int) (1000 : Int) then Res.out .ret [AV.v (.bool false)] u1 else needs u2 (bif !ok (v8 (f u0 (1 : Nat)) (f u0 (2 : Nat)) (f u0 (3 : Nat)) (f u0 (4 : Nat)) (f u0 (5 : Nat)) (f u0 (6 : Nat)) (f u0 (7 : Nat)) (f u0 (8 : Nat))) then Res.out .ret [AV.v (.bool false)] u1 else Res.out .normal [AV.sl 0 (9 : Nat) (0 : Nat) (0 : Nat) m none, AV.v (.int .i64 (IntKind.wrap .i64 ((↑i : Int) + (1 : Int))))] u1)) else Res.out (Ex.exit (0 : Nat)) [] u1 := by
  subst hu2 hu1 hu0
  kernel_rfl
theorem rndDV (ok : (Nat → Int) → Bool) (m : Nat) (f : Nat → Nat → Int) (t : TypeId) (i : Nat) : type_of% (rndDV_h ok m f t i _ rfl _ rfl _ rfl) := rndDV_h ok m f t i _ rfl _ rfl _ rfl

noncomputable abbrev lamDV (m : Nat) (f : Nat → Nat → Int) (t : TypeId) (bad : Nat → Bool) : Nat → Option Sum := oneL 0 (atS 29 (lvDV .normal) 1 (stDV m 0) (hpDV m f t) (fun K => cond (noneTo bad m) (K .normal (mkT 0 29 []) (hpDV m f t)) (K .ret (mkT 0 29 [(2, .v (.bool false))]) (hpDV m f t))))
theorem treeDV (ok : (Nat → Int) → Bool) (m : Nat) (f : Nat → Nat → Int) (t : TypeId) (bad : Nat → Bool) : execF Tryz.prog (gmDV ok) (lamDV m f t bad) 100 Tryz.f140 [.sl 0 9 0 0 m none] (hpDV m f t) (packK 1)
    = bif decide ((m : Int) > (12 : Int)) then Res.out .ret [AV.v (.bool false)] [AB.row false m 9 (row9 f) t] else needs [chk ([AV.sl 0 (9 : Nat) (0 : Nat) (0 : Nat) m none, AV.v (.int .i64 0)] = stDV m (0 : Nat) ∧ Hsim [AB.row false m 9 (row9 f) t] (hpDV m f t))] (bif noneTo bad m then Res.out .ret [AV.v (.bool true)] [AB.row false m 9 (row9 f) t] else Res.out .ret [AV.v (.bool false)] [AB.row false m 9 (row9 f) t]) := by kernel_rfl

def badDV (ok : (Nat → Int) → Bool) (f : Nat → Nat → Int) (i : Nat) : Bool := !(inR (f i 0) (-1000) 1000 && ok (v8 (f i 1) (f i 2) (f i 3) (f i 4) (f i 5) (f i 6) (f i 7) (f i 8)))
theorem sumDV {ok : (Nat → Int) → Bool} (hΓ : GamOk Tryz.prog (gmDV ok)) (m : Nat) (f : Nat → Nat → Int) (t : TypeId) (hm : m ≤ 2 ^ 40) :
    SumOk Tryz.prog 1 (.block 0 (.loop (loopAt 0 Tryz.f140))) (atS 29 (lvDV .normal) 1 (stDV m 0) (hpDV m f t) (fun K => cond (noneTo (badDV ok f) m) (K .normal (mkT 0 29 []) (hpDV m f t)) (K .ret (mkT 0 29 [(2, .v (.bool false))]) (hpDV m f t)))) := by
  refine for_at hΓ (n := 100) (m := 1) (lv := lvDV) (fun i => stDV m i) (fun _ => hpDV m f t) (fun i => noneTo (badDV ok f) i = true) m (fun _ => noLam) (lv3_ris rfl rfl rfl) (Nat.le_refl _) rfl fun K Q hk i hi him => ⟨noLam_ok _ _ _, ?_⟩
  rw [rndDV]
  refine good_cond (fun c1 => ?_) fun c1 => ?_
  · have c1 := of_decide_eq_true c1
    have c1' : i < m := by omega
    have bad : badDV ok f i = true → GoodQ (.out .ret [.v (.bool false)] [.row false m 9 (row9 f) t]) (RoundV 29 0 lvDV (fun i => stDV m i) (fun _ => hpDV m f t) (fun s' => s' = i + 1 ∧ i < m ∧ noneTo (badDV ok f) (i + 1) = true) K Q) := fun hb => by
      refine good_out ⟨_, Hsim.refl _, ?_⟩
      rw [noneTo_no c1' hb] at hk
      exact hk
    rw [Int.toNat_natCast, Nat.zero_add, wr_in (x := (i : Int) + 1) (by omega)]
    have ob : obls [decide ((i : Int) < m), decide (i < m)] = true := by simp only [ob_cons, ob_nil, and_true, decide_eq_true_eq]; omega
    refine good_needs ob ?_
    cases q1 : inR (f i 0) (-1000) 1000 with
    | false => exact bad (by simp only [badDV, q1]; rfl)
    | true =>
      refine good_needs ob ?_
      cases q2 : ok (v8 (f i 1) (f i 2) (f i 3) (f i 4) (f i 5) (f i 6) (f i 7) (f i 8)) with
      | false => exact bad (by simp only [badDV, q1, q2]; rfl)
      | true => exact good_out ⟨i + 1, ⟨rfl, c1', noneTo_succ hi (by simp only [badDV, q1, q2]; rfl)⟩, rfl, Hsim.refl _⟩
  · have c1 := of_decide_eq_false c1
    have : i = m := by omega
    subst this
    refine good_out ⟨_, Hsim.refl _, ?_⟩
    rw [if_pos rfl]
    rw [hi] at hk
    exact hk

theorem gmDV_ok : GamOk Tryz.prog (gmDV (fun v => cyOk (cyOf v))) := by
  unfold gmDV
  rw [fOkc_eq]
  exact ext_ok gm_l6In_ok ok_cv
def okD (L : List Wh) : Bool := decide (L.length ≤ 12) && L.all fun w => inR w.s (-1000) 1000 && cyOk w.r
theorem okD_list (f : Nat → Nat → Int) (m : Nat) : okD (listW f m) = (decide (m ≤ 12) && noneTo (badDV (fun v => cyOk (cyOf v)) f) m) := by
  simp only [okD, listW_length]
  congr 1
  simp only [listW, noneTo, List.all_map]
  congr 1
  funext j
  simp only [Function.comp, badDV, Bool.not_not]
  rfl
def md_ws : List Md := [.rd 9 60]
def F_dv : List SA → Option FR
  | [.row m g] => some { val := .v (.bool (okD (listW (itW g) m))), obl := [allW m g, decide (m ≤ 2 ^ 39)] }
  | _ => none
theorem ok_dv : SpecOk Tryz.prog 140 (specR md_ws F_dv) := by
  refine specR_hr gmDV_ok Tryz.func140 rfl fun sas fr hF ho => ?_
  unfold F_dv at hF
  split at hF
  · rename_i m g
    cases hF
    simp only [ob_cons] at ho
    obtain ⟨h1, h2, _⟩ := ho
    have hm := of_decide_eq_true h2
    refine ⟨hpDV m (itW g) 60, lamDV m (itW g) 60 (badDV (fun v => cyOk (cyOf v)) (itW g)), 100, .cons (ABeq.row fun j hj => allW_get h1 j hj) .nil, lam1 (by kernel_rfl) (sumDV gmDV_ok m (itW g) 60 (by omega)), ?_⟩
    show GoodQ (execF Tryz.prog (gmDV (fun v => cyOk (cyOf v))) (lamDV m (itW g) 60 (badDV (fun v => cyOk (cyOf v)) (itW g))) 100 Tryz.f140 [.sl 0 9 0 0 m none] (hpDV m (itW g) 60) (packK 1)) _
    rw [treeDV]
    have fin : ∀ b, okD (listW (itW g) m) = b → GoodQ (.out .ret [.v (.bool b)] [.row false m 9 (row9 (itW g)) 60]) (GivR (abP md_ws [.row m g] []) { val := .v (.bool (okD (listW (itW g) m))), obl := [allW m g, decide (m ≤ 2 ^ 39)] }) := fun b hb =>
      good_out ⟨_, rfl, by rw [hb], .cons (ABeq.row fun j hj => (allW_get h1 j hj).symm) .nil⟩
    have e := okD_list (itW g) m
    refine good_cond (fun c => ?_) fun c => ?_
    · have c := of_decide_eq_true c
      have : decide (m ≤ 12) = false := decide_eq_false (by omega)
      exact fin false (e.trans (by rw [this]; rfl))
    · have c := of_decide_eq_false c
      have : decide (m ≤ 12) = true := decide_eq_true (by omega)
      refine good_needs (by rw [ob_cons]; exact ⟨chk_of ⟨rfl, Hsim.refl _⟩, rfl⟩) (good_cond (fun q => ?_) fun q => ?_)
      · exact fin true (e.trans (by rw [this]; exact q))
      · exact fin false (e.trans (by rw [this]; exact q))
  · cases hF

end Go.Proofs.YtddhmidegldhdaaGreatDoor

/- l5Done and l5Tidy, the reference's: their words. Conditions: a list of wheels. -/
namespace Go.Proofs.YtddhmidegldhdaaGreatDoor
open Go.RowKit
set_option maxRecDepth 100000

abbrev lvDn : Ex → List Nat := lv3 [0, 1, 6, 7] [1, 6] [4, 5]
abbrev hpDn (m : Nat) (f : Nat → Nat → Int) (t : TypeId) (n : Nat) (h : Nat → Nat → Int) : List AB := [.row false m 9 (row9 f) t, .row true n 9 (row9 h) 60]
abbrev stDn (m : Nat) (b : Bool) (n i : Nat) : List AV := [.sl 0 9 0 0 m none, .v (.bool b), .own 1 n, .v (i64 i)]
theorem rndDn_h (m : Nat) (b : Bool) (f : Nat → Nat → Int) (t : TypeId) (n : Nat) (h : Nat → Nat → Int) (i : Nat) (u1 : _) (hu1 : [AB.row false m 9 (row9 f) t, AB.row true n 9 (row9 h) 60] = u1) (u3 : _) (hu3 : (0 : Nat) = u3) (u4 : _) (hu4 : (↑i : Int) = u4) (u5 : _) (hu5 : (1 : Nat) = u5) (u6 : _) (hu6 : (0 : Int) = u6) (u0 : _) (hu0 : (u3 + Int.toNat u4) = u0) (u2 : _) (hu2 : (AV.v (.int .i64 (IntKind.wrap .i64 (u4 + (1 : Int))))) = u2) : execC Tryz.prog g0 100 noLam (loopAt 0 Tryz.f82) (mkT 0 38 ((lvDn .normal).zip (stDn m b n i))) (hpDn m f t n h) (leafV 38 lvDn 1)
    = bif decide (u4 < (m : Int)) then needs [decide (u4 < (m : Int)), decide (u3 + Int.toNat u4 < m)] (bif !(f u0 u5 == u6 && (f u0 (2 : Nat) == u6 && (f u0 (3 : Nat) == u6 && (f u0 (4 : Nat) == u6 && (f u0 (5 : Nat) == u6 && (f u0 (6 : Nat) == u6 && (f u0 (7 : Nat) == u6 && (f u0 (8 : Nat) == u6 && true))))))) && true) then needs [decide (u4 < (m : Int)), decide (u3 + Int.toNat u4 < m), Nat.ble n n, Nat.ble (n + u5) (549755813888 : Nat)] (Res.out .normal [AV.sl u3 (9 : Nat) u3 u3 m none, AV.v (.bool b), AV.own u5 (n + u5), u2] [AB.row false m 9 (row9 f) t, AB.row true (n + u5) (9 : Nat) (fun q ↦ [Value.int .i64 (bif Nat.blt q n then h q u3 else f u0 u3), Value.int .i64 (bif Nat.blt q n then h q u5 else f u0 u5), Value.int .i64 (bif Nat.blt q n then h q (2 : Nat) else f u0 (2 : Nat)), Value.int .i64 (bif Nat.blt q n then h q (3 : Nat) else f u0 (3 : Nat)), Value.int .i64 (bif Nat.blt q n then h q (4 : Nat) else f u0 (4 : Nat)), Value.int .i64 (bif Nat.blt q n then h q (5 : Nat) else f u0 (5 : Nat)), Value.int .i64 (bif Nat.blt q n then h q (6 : Nat) else f u0 (6 : Nat)), Value.int .i64 (bif Nat.blt q n then h q (7 : Nat) else f u0 (7 : Nat)), Value.int .i64 (bif Nat.blt q n then h q (8 : Nat) else f u0 (8 : Nat))]) (60 : Nat)]) else Res.out .normal [AV.sl u3 (9 : Nat) u3 u3 m none, AV.v (.bool b), AV.own u5 n, u2] u1) else Res.out (Ex.exit u3) [AV.v (.bool b), AV.own u5 n] u1 := by
  subst hu2 hu0 hu6 hu5 hu4 hu3 hu1
  kernel_rfl
theorem rndDn (m : Nat) (b : Bool) (f : Nat → Nat → Int) (t : TypeId) (n : Nat) (h : Nat → Nat → Int) (i : Nat) : type_of% (rndDn_h m b f t n h i _ rfl _ rfl _ rfl _ rfl _ rfl _ rfl _ rfl) := rndDn_h m b f t n h i _ rfl _ rfl _ rfl _ rfl _ rfl _ rfl _ rfl

def gmDn : Gam := ext g0 140 (specR md_ws F_dv)
noncomputable abbrev lamDn (m : Nat) (b : Bool) (f : Nat → Nat → Int) (t : TypeId) (n : Nat) (h : Nat → Nat → Int) : Nat → Option Sum := oneL 0 (atS 38 (lvDn .normal) 1 (stDn m b 0 0) (hpDn m f t 0 (wfun [])) (fun K => K .normal (mkT 0 38 [(1, .v (.bool b)), (6, .own 1 n)]) (hpDn m f t n h)))
theorem treeDn (m : Nat) (b : Bool) (f : Nat → Nat → Int) (t : TypeId) (n : Nat) (h : Nat → Nat → Int) : execF Tryz.prog gmDn (lamDn m b f t n h) 100 Tryz.f82 [.sl 0 9 0 0 m none, .v (.bool b)] [.row false m 9 (row9 f) t] (packK 1)
    = needs [chk ([AV.sl 0 (9 : Nat) (0 : Nat) (0 : Nat) m none, AV.v (.bool b), AV.own 1 (0 : Nat), AV.v (.int .i64 0)] = stDn m b (0 : Nat) (0 : Nat) ∧ Hsim [AB.row false m 9 (row9 f) t, AB.row true (0 : Nat) (9 : Nat) (fun _ ↦ []) (60 : Nat)] (hpDn m f t (0 : Nat) (wfun [])))] (bif !b then Res.out .ret [AV.tup [AV.own 1 (0 : Nat), AV.v (.bool false)]] [AB.row false m 9 (row9 f) t, AB.row true (0 : Nat) (9 : Nat) (fun _ ↦ []) (60 : Nat)] else needs [Nat.ble n n, allW n (row9 h), decide (n ≤ (549755813888 : Nat))] (bif !okD (listW (itW (row9 h)) n) then Res.out .ret [AV.tup [AV.own 1 (0 : Nat), AV.v (.bool false)]] [AB.row false m 9 (row9 f) t, AB.row true (0 : Nat) (9 : Nat) (fun _ ↦ []) (60 : Nat)] else Res.out .ret [AV.tup [AV.own 1 n, AV.v (.bool true)]] [AB.row false m 9 (row9 f) t, AB.row true n 9 (row9 h) 60])) := by kernel_rfl

theorem wfun_snoc (L : List Wh) (f : Nat → Int) (j : Nat) (hj : j < L.length + 1) (k : Nat) (hk : k < 9) : (bif Nat.blt j L.length then wfun L j k else f k) = wfun (L ++ [whOf f]) j k := by
  rcases Nat.lt_or_ge j L.length with h | h
  · have b : Nat.blt j L.length = true := by rw [Nat.blt_eq]; exact h
    rw [b, cond_true]
    simp only [wfun, List.getElem?_append_left h]
  · have : j = L.length := by omega
    subst this
    have b : Nat.blt L.length L.length = false := by
      rw [← Bool.not_eq_true, Nat.blt_eq]
      omega
    rw [b, cond_false]
    simp only [wfun, List.getElem?_append_right (Nat.le_refl _), Nat.sub_self, List.getElem?_cons_zero]
    rcases (by omega : k = 0 ∨ k = 1 ∨ k = 2 ∨ k = 3 ∨ k = 4 ∨ k = 5 ∨ k = 6 ∨ k = 7 ∨ k = 8) with rfl | rfl | rfl | rfl | rfl | rfl | rfl | rfl | rfl <;> rfl
theorem row9_snoc (L : List Wh) (f : Nat → Int) (j : Nat) (hj : j < L.length + 1) : [i64 (bif Nat.blt j L.length then wfun L j 0 else f 0), i64 (bif Nat.blt j L.length then wfun L j 1 else f 1), i64 (bif Nat.blt j L.length then wfun L j 2 else f 2), i64 (bif Nat.blt j L.length then wfun L j 3 else f 3), i64 (bif Nat.blt j L.length then wfun L j 4 else f 4), i64 (bif Nat.blt j L.length then wfun L j 5 else f 5), i64 (bif Nat.blt j L.length then wfun L j 6 else f 6), i64 (bif Nat.blt j L.length then wfun L j 7 else f 7), i64 (bif Nat.blt j L.length then wfun L j 8 else f 8)] = row9 (wfun (L ++ [whOf f])) j := by
  simp only [row9, wfun_snoc L f j hj 0 (by omega), wfun_snoc L f j hj 1 (by omega), wfun_snoc L f j hj 2 (by omega), wfun_snoc L f j hj 3 (by omega), wfun_snoc L f j hj 4 (by omega), wfun_snoc L f j hj 5 (by omega), wfun_snoc L f j hj 6 (by omega), wfun_snoc L f j hj 7 (by omega), wfun_snoc L f j hj 8 (by omega)]

def isZ8 (f : Nat → Int) : Bool := (f 1 == 0 && (f 2 == 0 && (f 3 == 0 && (f 4 == 0 && (f 5 == 0 && (f 6 == 0 && (f 7 == 0 && (f 8 == 0 && true)))))))) && true
theorem isZ8_eq (f : Nat → Int) : isZ8 f = decide ((whOf f).r = cyZ) := by
  rw [Bool.eq_iff_iff]
  simp [isZ8, whOf, cyZ]
theorem nonZ_yes {f : Nat → Nat → Int} {i : Nat} (h : isZ8 (f i) = true) : nonZ (listW f (i + 1)) = nonZ (listW f i) := by
  rw [isZ8_eq, decide_eq_true_eq] at h
  rw [listW_succ, nonZ, List.filter_append, List.filter_cons_of_neg (by simp [h])]
  simp [nonZ]
theorem nonZ_no {f : Nat → Nat → Int} {i : Nat} (h : isZ8 (f i) = false) : nonZ (listW f (i + 1)) = nonZ (listW f i) ++ [whOf (f i)] := by
  rw [isZ8_eq, decide_eq_false_iff_not] at h
  rw [listW_succ, nonZ, List.filter_append, List.filter_cons_of_pos (by simp [h])]
  simp [nonZ]
theorem nonZ_le (f : Nat → Nat → Int) (i : Nat) : (nonZ (listW f i)).length ≤ i := by
  have := List.length_filter_le (fun w : Wh => decide (w.r ≠ cyZ)) (listW f i)
  rwa [listW_length] at this

theorem sumDn (m : Nat) (b : Bool) (f : Nat → Nat → Int) (t : TypeId) (hm : m ≤ 2 ^ 38) :
    SumOk Tryz.prog 1 (.block 0 (.loop (loopAt 0 Tryz.f82))) (atS 38 (lvDn .normal) 1 (stDn m b 0 0) (hpDn m f t 0 (wfun [])) (fun K => K .normal (mkT 0 38 [(1, .v (.bool b)), (6, .own 1 (nonZ (listW f m)).length)]) (hpDn m f t (nonZ (listW f m)).length (wfun (nonZ (listW f m)))))) := by
  refine for_at g0_ok (n := 100) (m := 1) (lv := lvDn) (fun i => stDn m b (nonZ (listW f i)).length i) (fun i => hpDn m f t (nonZ (listW f i)).length (wfun (nonZ (listW f i)))) (fun _ => True) m (fun _ => noLam) (lv3_ris rfl rfl rfl) (Nat.le_refl _) trivial fun K Q hk i hi him => ⟨noLam_ok _ _ _, ?_⟩
  have hn := nonZ_le f i
  rw [rndDn]
  refine good_cond (fun c1 => ?_) fun c1 => ?_
  · have c1 := of_decide_eq_true c1
    have c1' : i < m := by omega
    rw [Int.toNat_natCast, Nat.zero_add, wr_in (x := (i : Int) + 1) (by omega)]
    refine good_needs (by simp only [ob_cons, ob_nil, and_true, decide_eq_true_eq]; omega) ?_
    show GoodQ (cond (!(isZ8 (f i))) _ _) _
    cases q : isZ8 (f i) with
    | true =>
      refine good_out ⟨i + 1, ⟨rfl, c1', trivial⟩, ?_, ?_⟩
      · show _ = stDn m b (nonZ (listW f (i + 1))).length (i + 1)
        rw [nonZ_yes q]
        rfl
      · show Hsim _ (hpDn m f t (nonZ (listW f (i + 1))).length (wfun (nonZ (listW f (i + 1)))))
        rw [nonZ_yes q]
        exact Hsim.refl _
    | false =>
      refine good_needs (by simp only [ob_cons, ob_nil, and_true, decide_eq_true_eq, Nat.ble_eq]; omega) (good_out ⟨i + 1, ⟨rfl, c1', trivial⟩, ?_, ?_⟩)
      · show _ = stDn m b (nonZ (listW f (i + 1))).length (i + 1)
        rw [nonZ_no q, List.length_append]
        rfl
      · show Hsim _ (hpDn m f t (nonZ (listW f (i + 1))).length (wfun (nonZ (listW f (i + 1)))))
        rw [nonZ_no q, List.length_append]
        exact .cons (ABeq.refl _) (.cons (ABeq.row fun j hj => row9_snoc _ _ j hj) .nil)
  · have c1 := of_decide_eq_false c1
    have : i = m := by omega
    subst this
    refine good_out ⟨_, Hsim.refl _, ?_⟩
    rw [if_pos rfl]
    exact hk

theorem gmDn_ok : GamOk Tryz.prog gmDn := ext_ok g0_ok ok_dv
theorem okD_valid (L : List Wh) : okD L = dValid L := rfl
def doneL (b : Bool) (L : List Wh) : List Wh := bif b && dValid (nonZ L) then nonZ L else []
def F_done : List SA → Option FR
  | [.row m g, .v (.bool b)] => some { val := .tup [.own 0 (doneL b (listW (itW g) m)).length, .v (.bool (b && dValid (nonZ (listW (itW g) m))))], new := [.row true (doneL b (listW (itW g) m)).length 9 (row9 (wfun (doneL b (listW (itW g) m)))) 60], obl := [allW m g, decide (m ≤ 2 ^ 38)] }
  | _ => none
theorem ok_done : SpecOk Tryz.prog 82 (specR md_wv F_done) := by
  refine specR_hr gmDn_ok Tryz.func82 rfl fun sas fr hF ho => ?_
  unfold F_done at hF
  split at hF
  · rename_i m g b
    cases hF
    simp only [ob_cons] at ho
    obtain ⟨h1, h2, _⟩ := ho
    have hm := of_decide_eq_true h2
    have hn := nonZ_le (itW g) m
    refine ⟨[.row false m 9 (row9 (itW g)) 60], lamDn m b (itW g) 60 (nonZ (listW (itW g) m)).length (wfun (nonZ (listW (itW g) m))), 100, .cons (ABeq.row fun j hj => allW_get h1 j hj) .nil, lam1 (by kernel_rfl) (sumDn m b (itW g) 60 hm), ?_⟩
    show GoodQ (execF Tryz.prog gmDn (lamDn m b (itW g) 60 (nonZ (listW (itW g) m)).length (wfun (nonZ (listW (itW g) m)))) 100 Tryz.f82 [.sl 0 9 0 0 m none, .v (.bool b)] [.row false m 9 (row9 (itW g)) 60] (packK 1)) _
    rw [treeDn, listW_itW, listW_fun, okD_valid]
    generalize listW (itW g) m = L at *
    have fin : ∀ (D : List Wh) (c : Bool) (G : Nat → List Value), (b && dValid (nonZ L)) = c → doneL b L = D → (∀ j, j < D.length → G j = row9 (wfun D) j) → GoodQ (.out .ret [.tup [.own 1 D.length, .v (.bool c)]] [.row false m 9 (row9 (itW g)) 60, .row true D.length 9 G 60])
        (GivR (abP md_wv [.row m g, .v (.bool b)] []) { val := .tup [.own 0 (doneL b L).length, .v (.bool (b && dValid (nonZ L)))], new := [.row true (doneL b L).length 9 (row9 (wfun (doneL b L))) 60], obl := [allW m g, decide (m ≤ 2 ^ 38)] }) := by
      rintro D c G rfl rfl hG
      exact good_out ⟨_, rfl, rfl, .cons (ABeq.row fun j hj => (allW_get h1 j hj).symm) (.cons (ABeq.row hG) .nil)⟩
    refine good_needs (by rw [ob_cons]; exact ⟨chk_of ⟨rfl, .cons (ABeq.refl _) (.cons (ABeq.row fun j hj => by omega) .nil)⟩, rfl⟩) ?_
    cases b with
    | false => exact fin [] false _ rfl rfl fun j hj => absurd hj (Nat.not_lt_zero _)
    | true =>
      refine good_needs (by simp only [ob_cons, ob_nil, and_true, decide_eq_true_eq, Nat.ble_eq, allW_row, true_and, Nat.le_refl]; omega) ?_
      refine good_cond (fun q => ?_) fun q => ?_
      · have q : dValid (nonZ L) = false := by simpa using q
        exact fin [] false _ (by rw [q]; rfl) (by rw [doneL, q]; rfl) fun j hj => absurd hj (Nat.not_lt_zero _)
      · have q : dValid (nonZ L) = true := by simpa using q
        exact fin (nonZ L) true _ (by rw [q]; rfl) (by rw [doneL, q]; rfl) fun j hj => rfl
  · cases hF

end Go.Proofs.YtddhmidegldhdaaGreatDoor

/- l5Tidy, the reference's: its word. Conditions: a list of wheels. -/
namespace Go.Proofs.YtddhmidegldhdaaGreatDoor
open Go.RowKit
set_option maxRecDepth 100000

def gmTa : Gam := ext g0 81 (specR md_wv F_l5Add)
def gmTd : Gam := ext gmTa 82 (specR md_wv F_done)
abbrev lvTd : Ex → List Nat := lv3 [0, 4, 5] [4] [2, 3]
abbrev stTd (m n i : Nat) : List AV := [.sl 0 9 0 0 m none, .own 1 n, .v (i64 i)]
theorem rndTd_h (m : Nat) (f : Nat → Nat → Int) (t : TypeId) (n : Nat) (h : Nat → Nat → Int) (i : Nat) (u2 : _) (hu2 : (AB.row false m 9 (row9 f) t) = u2) (u3 : _) (hu3 : (listW (itW (row9 h)) n) = u3) (u4 : _) (hu4 : (0 : Nat) = u4) (u1 : _) (hu1 : (u4 + Int.toNat (↑i : Int)) = u1) (u0 : _) (hu0 : (Wh.mk (f u1 u4) (Cy.mk (f u1 (1 : Nat)) (f u1 (2 : Nat)) (f u1 (3 : Nat)) (f u1 (4 : Nat)) (f u1 (5 : Nat)) (f u1 (6 : Nat)) (f u1 (7 : Nat)) (f u1 (8 : Nat)))) = u0) : execC Tryz.prog gmTa 100 noLam (loopAt 0 Tryz.f41) (mkT 0 32 ((lvTd .normal).zip (stTd m n i))) (hpDn m f t n h) (leafV 32 lvTd 1)
    = bif decide ((↑i : Int) < (m : Int)) then needs [decide ((↑i : Int) < (m : Int)), decide (u4 + Int.toNat (↑i : Int) < m), Nat.ble n n, allW n (row9 h), decide (n ≤ (274877906944 : Nat))] (bif !okS u3 u0 then Res.out .ret [AV.own 1 u4, AV.v (.bool false)] [u2, AB.row true u4 9 (fun _ ↦ []) (60 : Nat)] else Res.out .normal [AV.sl u4 (9 : Nat) u4 u4 m none, AV.own 1 (List.length (insS u3 u0)), AV.v (.int .i64 (IntKind.wrap .i64 ((↑i : Int) + (1 : Int))))] [u2, AB.row true (List.length (insS u3 u0)) (9 : Nat) (row9 (wfun (insS u3 u0))) 60]) else Res.out (Ex.exit u4) [AV.own 1 n] [u2, AB.row true n 9 (row9 h) 60] := by
  subst hu0 hu1 hu4 hu3 hu2
  kernel_rfl
theorem rndTd (m : Nat) (f : Nat → Nat → Int) (t : TypeId) (n : Nat) (h : Nat → Nat → Int) (i : Nat) : type_of% (rndTd_h m f t n h i _ rfl _ rfl _ rfl _ rfl _ rfl) := rndTd_h m f t n h i _ rfl _ rfl _ rfl _ rfl _ rfl

noncomputable abbrev lamTd (m : Nat) (f : Nat → Nat → Int) (t : TypeId) (c : Bool) (n : Nat) (h : Nat → Nat → Int) : Nat → Option Sum := oneL 0 (atS 32 (lvTd .normal) 1 (stTd m 0 0) (hpDn m f t 0 (wfun [])) (fun K => cond c (K .normal (mkT 0 32 [(4, .own 1 n)]) (hpDn m f t n h)) (K .ret (mkT 0 32 [(2, .own 1 0), (3, .v (.bool false))]) (hpDn m f t 0 (wfun [])))))
theorem treeTd (m : Nat) (f : Nat → Nat → Int) (t : TypeId) (c : Bool) (n : Nat) (h : Nat → Nat → Int) : execF Tryz.prog gmTd (lamTd m f t c n h) 100 Tryz.f41 [.sl 0 9 0 0 m none] [.row false m 9 (row9 f) t] (packK 1)
    = needs [chk ([AV.sl 0 (9 : Nat) (0 : Nat) (0 : Nat) m none, AV.own 1 (0 : Nat), AV.v (.int .i64 0)] = stTd m (0 : Nat) (0 : Nat) ∧ Hsim [AB.row false m 9 (row9 f) t, AB.row true (0 : Nat) (9 : Nat) (fun _ ↦ []) (60 : Nat)] (hpDn m f t (0 : Nat) (wfun [])))] (bif c then needs [Nat.ble n n, allW n (row9 h), decide (n ≤ (274877906944 : Nat))] (Res.out .ret [AV.tup [AV.own 1 (List.length (doneL true (listW (itW (row9 h)) n))), AV.v (.bool (dValid (nonZ (listW (itW (row9 h)) n))))]] [AB.row false m 9 (row9 f) t, AB.row true (List.length (doneL true (listW (itW (row9 h)) n))) (9 : Nat) (row9 (wfun (doneL true (listW (itW (row9 h)) n)))) 60]) else Res.out .ret [AV.tup [AV.own 1 (0 : Nat), AV.v (.bool false)]] [AB.row false m 9 (row9 f) t, AB.row true (0 : Nat) (9 : Nat) (row9 (wfun [])) 60]) := by kernel_rfl

theorem runT_snoc (ins : List Wh → Wh → List Wh) : ∀ (xs acc : List Wh) (w : Wh), runT ins acc (xs ++ [w]) = match runT ins acc xs with
    | some A => if cyOk (sumR A w) = true then some (ins A w) else none
    | none => none
  | [], acc, w => by simp only [List.nil_append, runT]
  | x :: xs, acc, w => by
    simp only [List.cons_append, runT]
    split
    · exact runT_snoc ins xs _ w
    · rfl
theorem runT_none (ins : List Wh → Wh → List Wh) : ∀ (xs ys acc : List Wh), runT ins acc xs = none → runT ins acc (xs ++ ys) = none
  | [], ys, acc, h => by simp [runT] at h
  | x :: xs, ys, acc, h => by
    simp only [List.cons_append, runT] at h ⊢
    split
    · rename_i hc
      rw [if_pos hc] at h
      exact runT_none ins xs ys _ h
    · rfl
theorem runT_rising : ∀ {xs acc A : List Wh}, rising acc → runT insS acc xs = some A → rising A
  | [], acc, A, hr, h => by
    simp only [runT, Option.some.injEq] at h
    subst h
    exact hr
  | x :: xs, acc, A, hr, h => by
    simp only [runT] at h
    split at h
    · exact runT_rising (insS_rising x hr) h
    · cases h
theorem insS_le (acc : List Wh) (x : Wh) : (insS acc x).length ≤ acc.length + 1 := by
  induction acc with
  | nil => simp [insS]
  | cons y l ih =>
    unfold insS
    split
    · simp only [List.length_cons]
      omega
    · split <;> simp
theorem runT_len : ∀ {xs acc A : List Wh}, runT insS acc xs = some A → A.length ≤ acc.length + xs.length
  | [], acc, A, h => by
    simp only [runT, Option.some.injEq] at h
    subst h
    simp
  | x :: xs, acc, A, h => by
    simp only [runT] at h
    split at h
    · have := runT_len h
      have h2 := insS_le acc x
      simp only [List.length_cons]
      omega
    · cases h
theorem listW_split (f : Nat → Nat → Int) {i m : Nat} (h : i ≤ m) : ∃ ys, listW f m = listW f i ++ ys := by
  induction m with
  | zero => exact ⟨[], by rw [show i = 0 by omega]; simp⟩
  | succ m ih =>
    rcases Nat.lt_or_ge m i with h1 | h1
    · exact ⟨[], by rw [show i = m + 1 by omega]; simp⟩
    · obtain ⟨ys, e⟩ := ih h1
      exact ⟨ys ++ [whOf (f m)], by rw [listW_succ, e, List.append_assoc]⟩

def accT (f : Nat → Nat → Int) (i : Nat) : List Wh := (runT insS [] (listW f i)).getD []
theorem accT_of {f : Nat → Nat → Int} {i : Nat} {A : List Wh} (h : runT insS [] (listW f i) = some A) : accT f i = A := by
  rw [accT, h]
  rfl
theorem sumTd (m : Nat) (f : Nat → Nat → Int) (t : TypeId) (hm : m ≤ 2 ^ 38) (hΓ : GamOk Tryz.prog gmTa) :
    SumOk Tryz.prog 1 (.block 0 (.loop (loopAt 0 Tryz.f41))) (atS 32 (lvTd .normal) 1 (stTd m 0 0) (hpDn m f t 0 (wfun [])) (fun K => cond (runT insS [] (listW f m)).isSome (K .normal (mkT 0 32 [(4, .own 1 (accT f m).length)]) (hpDn m f t (accT f m).length (wfun (accT f m)))) (K .ret (mkT 0 32 [(2, .own 1 0), (3, .v (.bool false))]) (hpDn m f t 0 (wfun []))))) := by
  refine for_at hΓ (n := 100) (m := 1) (lv := lvTd) (fun i => stTd m (accT f i).length i) (fun i => hpDn m f t (accT f i).length (wfun (accT f i))) (fun i => (runT insS [] (listW f i)).isSome = true) m (fun _ => noLam) (lv3_ris rfl rfl rfl) (Nat.le_refl _) rfl fun K Q hk i hi him => ⟨noLam_ok _ _ _, ?_⟩
  obtain ⟨A, hA⟩ := Option.isSome_iff_exists.1 hi
  have eA := accT_of hA
  have hl : A.length ≤ i := by
    have := runT_len hA
    rw [listW_length] at this
    simpa using this
  have hrise : rising A := runT_rising List.Pairwise.nil hA
  have hs : runT insS [] (listW f (i + 1)) = if cyOk (sumR A (whOf (f i))) = true then some (insS A (whOf (f i))) else none := by
    rw [listW_succ, runT_snoc, hA]
  rw [rndTd, listW_itW, listW_fun, eA]
  refine good_cond (fun c1 => ?_) fun c1 => ?_
  · have c1 := of_decide_eq_true c1
    have c1' : i < m := by omega
    rw [Int.toNat_natCast, Nat.zero_add, wr_in (x := (i : Int) + 1) (by omega)]
    rw [show Wh.mk (f i 0) (Cy.mk (f i 1) (f i 2) (f i 3) (f i 4) (f i 5) (f i 6) (f i 7) (f i 8)) = whOf (f i) from rfl, okS_eq hrise]
    refine good_needs (by simp only [ob_cons, ob_nil, and_true, decide_eq_true_eq, Nat.ble_eq, allW_row, Nat.le_refl, true_and]; omega) (good_cond (fun q => ?_) fun q => ?_)
    · have q : ¬ cyOk (sumR A (whOf (f i))) = true := by simpa using q
      rw [if_neg q] at hs
      obtain ⟨ys, e⟩ := listW_split f (show i + 1 ≤ m by omega)
      have hn : runT insS [] (listW f m) = none := by rw [e]; exact runT_none _ _ _ _ hs
      rw [hn] at hk
      exact good_out ⟨_, .cons (ABeq.refl _) (.cons (ABeq.row fun j hj => absurd hj (Nat.not_lt_zero _)) .nil), hk⟩
    · have q : cyOk (sumR A (whOf (f i))) = true := by simpa using q
      rw [if_pos q] at hs
      refine good_out ⟨i + 1, ⟨rfl, c1', by rw [hs]; rfl⟩, ?_, ?_⟩
      · show _ = stTd m (accT f (i + 1)).length (i + 1)
        rw [accT_of hs]
        rfl
      · show Hsim _ (hpDn m f t (accT f (i + 1)).length (wfun (accT f (i + 1))))
        rw [accT_of hs]
        exact Hsim.refl _
  · have c1 := of_decide_eq_false c1
    have : i = m := by omega
    subst this
    refine good_out ⟨_, Hsim.refl _, ?_⟩
    rw [if_pos rfl]
    rw [hA, eA] at hk
    exact hk

theorem gmTa_ok : GamOk Tryz.prog gmTa := ext_ok g0_ok ok_l5Add
theorem gmTd_ok : GamOk Tryz.prog gmTd := ext_ok gmTa_ok ok_done
def tidyL (L : List Wh) : List Wh := (tidyS L).getD []
def F_tidy : List SA → Option FR
  | [.row m g] => some { val := .tup [.own 0 (tidyL (listW (itW g) m)).length, .v (.bool (tidyS (listW (itW g) m)).isSome)], new := [.row true (tidyL (listW (itW g) m)).length 9 (row9 (wfun (tidyL (listW (itW g) m)))) 60], obl := [allW m g, decide (m ≤ 2 ^ 38)] }
  | _ => none
theorem ok_tidyS : SpecOk Tryz.prog 41 (specR md_ws F_tidy) := by
  refine specR_hr gmTd_ok Tryz.func41 rfl fun sas fr hF ho => ?_
  unfold F_tidy at hF
  split at hF
  · rename_i m g
    cases hF
    simp only [ob_cons] at ho
    obtain ⟨h1, h2, _⟩ := ho
    have hm := of_decide_eq_true h2
    refine ⟨[.row false m 9 (row9 (itW g)) 60], lamTd m (itW g) 60 (runT insS [] (listW (itW g) m)).isSome (accT (itW g) m).length (wfun (accT (itW g) m)), 100, .cons (ABeq.row fun j hj => allW_get h1 j hj) .nil, lam1 (by kernel_rfl) (sumTd m (itW g) 60 hm gmTa_ok), ?_⟩
    show GoodQ (execF Tryz.prog gmTd (lamTd m (itW g) 60 (runT insS [] (listW (itW g) m)).isSome (accT (itW g) m).length (wfun (accT (itW g) m))) 100 Tryz.f41 [.sl 0 9 0 0 m none] [.row false m 9 (row9 (itW g)) 60] (packK 1)) _
    rw [treeTd, listW_itW, listW_fun]
    have fin : ∀ (D : List Wh) (c : Bool) (G : Nat → List Value), (tidyS (listW (itW g) m)).isSome = c → tidyL (listW (itW g) m) = D → (∀ j, j < D.length → G j = row9 (wfun D) j) → GoodQ (.out .ret [.tup [.own 1 D.length, .v (.bool c)]] [.row false m 9 (row9 (itW g)) 60, .row true D.length 9 G 60])
        (GivR (abP md_ws [.row m g] []) { val := .tup [.own 0 (tidyL (listW (itW g) m)).length, .v (.bool (tidyS (listW (itW g) m)).isSome)], new := [.row true (tidyL (listW (itW g) m)).length 9 (row9 (wfun (tidyL (listW (itW g) m)))) 60], obl := [allW m g, decide (m ≤ 2 ^ 38)] }) := by
      rintro D c G rfl rfl hG
      exact good_out ⟨_, rfl, rfl, .cons (ABeq.row fun j hj => (allW_get h1 j hj).symm) (.cons (ABeq.row hG) .nil)⟩
    refine good_needs (by rw [ob_cons]; exact ⟨chk_of ⟨rfl, .cons (ABeq.refl _) (.cons (ABeq.row fun j hj => by omega) .nil)⟩, rfl⟩) ?_
    refine good_cond (fun q => ?_) fun q => ?_
    · obtain ⟨A, hA⟩ := Option.isSome_iff_exists.1 q
      have eA := accT_of hA
      have hl : A.length ≤ m := by
        have := runT_len hA
        rw [listW_length] at this
        simpa using this
      have e1 : (tidyS (listW (itW g) m)).isSome = dValid (nonZ A) := by
        unfold tidyS
        rw [hA]
        cases h : dValid (nonZ A) <;> simp [h]
      have e2 : tidyL (listW (itW g) m) = doneL true A := by
        unfold tidyL tidyS doneL
        rw [hA]
        cases h : dValid (nonZ A) <;> simp [h]
      rw [eA]
      exact good_needs (by simp only [ob_cons, ob_nil, and_true, decide_eq_true_eq, Nat.ble_eq, allW_row, true_and, Nat.le_refl]; omega) (fin _ _ _ e1 e2 fun j hj => rfl)
    · have hA : runT insS [] (listW (itW g) m) = none := by
        cases h : runT insS [] (listW (itW g) m) with
        | none => rfl
        | some A => rw [h] at q; cases q
      exact fin [] false _ (by unfold tidyS; rw [hA]; rfl) (by unfold tidyL tidyS; rw [hA]; rfl) fun j hj => absurd hj (Nat.not_lt_zero _)
  · cases hF

end Go.Proofs.YtddhmidegldhdaaGreatDoor

/- Plain algebra: the product by a power of the root is the point turned step by step. No program, no conditions. -/
namespace Go.Proofs.YtddhmidegldhdaaGreatDoor
open Go.RowKit

theorem mulF_step (a b : Nat → Int) : ∀ k, k < 8 → mulF a (stepF b) k = stepF (mulF a b) k := by
  obtain ⟨q0, e0⟩ := w64_ex (0 - b 7)
  obtain ⟨q4, e4⟩ := w64_ex (b 3 + b 7)
  have s0 : stepF b 0 = 0 - b 7 + 18446744073709551616 * q0 := e0
  have s4 : stepF b 4 = b 3 + b 7 + 18446744073709551616 * q4 := e4
  have s1 : stepF b 1 = b 0 := rfl
  have s2 : stepF b 2 = b 1 := rfl
  have s3 : stepF b 3 = b 2 := rfl
  have s5 : stepF b 5 = b 4 := rfl
  have s6 : stepF b 6 = b 5 := rfl
  have s7 : stepF b 7 = b 6 := rfl
  refine forall8 ?_ ?_ ?_ ?_ ?_ ?_ ?_ ?_
  · show W _ = W (0 - W (mulZ a b 7))
    rw [w64_sub_r, show mulZ a (stepF b) 0 = 0 - mulZ a b 7 + 18446744073709551616 * (q0 * a 0 - q4 * a 4) by simp only [mulZ, convF, s0, s1, s2, s3, s4, s5, s6, s7]; grind, w64_add_mul]
  · show W _ = W (mulZ a b 0)
    rw [show mulZ a (stepF b) 1 = mulZ a b 0 + 18446744073709551616 * (q0 * a 1 - q4 * a 5) by simp only [mulZ, convF, s0, s1, s2, s3, s4, s5, s6, s7]; grind, w64_add_mul]
  · show W _ = W (mulZ a b 1)
    rw [show mulZ a (stepF b) 2 = mulZ a b 1 + 18446744073709551616 * (q0 * a 2 - q4 * a 6) by simp only [mulZ, convF, s0, s1, s2, s3, s4, s5, s6, s7]; grind, w64_add_mul]
  · show W _ = W (mulZ a b 2)
    rw [show mulZ a (stepF b) 3 = mulZ a b 2 + 18446744073709551616 * (q0 * a 3 - q4 * a 7) by simp only [mulZ, convF, s0, s1, s2, s3, s4, s5, s6, s7]; grind, w64_add_mul]
  · show W _ = W (W (mulZ a b 3) + W (mulZ a b 7))
    rw [w64_add_l, w64_add_r, show mulZ a (stepF b) 4 = mulZ a b 3 + mulZ a b 7 + 18446744073709551616 * (q0 * a 4 + q4 * (a 0 + a 4)) by simp only [mulZ, convF, s0, s1, s2, s3, s4, s5, s6, s7]; grind, w64_add_mul]
  · show W _ = W (mulZ a b 4)
    rw [show mulZ a (stepF b) 5 = mulZ a b 4 + 18446744073709551616 * (q0 * a 5 + q4 * (a 1 + a 5)) by simp only [mulZ, convF, s0, s1, s2, s3, s4, s5, s6, s7]; grind, w64_add_mul]
  · show W _ = W (mulZ a b 5)
    rw [show mulZ a (stepF b) 6 = mulZ a b 5 + 18446744073709551616 * (q0 * a 6 + q4 * (a 2 + a 6)) by simp only [mulZ, convF, s0, s1, s2, s3, s4, s5, s6, s7]; grind, w64_add_mul]
  · show W _ = W (mulZ a b 6)
    rw [show mulZ a (stepF b) 7 = mulZ a b 6 + 18446744073709551616 * (q0 * a 7 + q4 * (a 3 + a 7)) by simp only [mulZ, convF, s0, s1, s2, s3, s4, s5, s6, s7]; grind, w64_add_mul]
theorem stepF_congr {f g : Nat → Int} (h : ∀ k, k < 8 → f k = g k) : ∀ k, k < 8 → stepF f k = stepF g k := by
  refine forall8 ?_ ?_ ?_ ?_ ?_ ?_ ?_ ?_
  · show W _ = W _; rw [h 7 (by omega)]
  · exact h 0 (by omega)
  · exact h 1 (by omega)
  · exact h 2 (by omega)
  · show W _ = W _; rw [h 3 (by omega), h 7 (by omega)]
  · exact h 4 (by omega)
  · exact h 5 (by omega)
  · exact h 6 (by omega)
theorem mulF_one {a : Nat → Int} (ha : ∀ k, k < 8 → -9223372036854775808 ≤ a k ∧ a k ≤ 9223372036854775807) : ∀ k, k < 8 → mulF a oneF k = a k := by
  have e : ∀ k, k < 8 → mulZ a oneF k = a k := by
    refine forall8 ?_ ?_ ?_ ?_ ?_ ?_ ?_ ?_ <;> simp [mulZ, convF, oneF]
  intro k hk
  have := ha k hk
  show W (mulZ a oneF k) = a k
  rw [e k hk, w64_in this.1 this.2]
theorem mul_root {a : Nat → Int} (ha : ∀ k, k < 8 → -9223372036854775808 ≤ a k ∧ a k ≤ 9223372036854775807) : ∀ (t k : Nat), k < 8 → mulF a (rootF t) k = turnedF a t k
  | 0 => mulF_one ha
  | t + 1 => fun k hk => by
    show mulF a (stepF (rootF t)) k = stepF (turnedF a t) k
    rw [mulF_step a (rootF t) k hk]
    exact stepF_congr (mul_root ha t) k hk

end Go.Proofs.YtddhmidegldhdaaGreatDoor

/- Plain lists of wheels, by their places: added, left out, changed over. No program, no conditions. -/
namespace Go.Proofs.YtddhmidegldhdaaGreatDoor
open Go.RowKit

def fstAt (bad : Nat → Bool) (m : Nat) : Int := match (List.range m).find? bad with
  | some j => (j : Int)
  | none => -1
theorem fstAt_at {bad : Nat → Bool} {m i : Nat} (h : noneTo bad i = true) (hi : i < m) (h1 : bad i = true) : fstAt bad m = i := by
  have : (List.range m).find? bad = some i := by
    rw [List.find?_range_eq_some]
    exact ⟨h1, by simpa using hi, fun j hj => by simp [noneTo_get h hj]⟩
  rw [fstAt, this]
theorem fstAt_no {bad : Nat → Bool} {m : Nat} (h : noneTo bad m = true) : fstAt bad m = -1 := by
  have : (List.range m).find? bad = none := by
    rw [List.find?_eq_none]
    intro j hj
    simp [noneTo_get h (by simpa using hj)]
  rw [fstAt, this]
theorem fstAt_cases (bad : Nat → Bool) (m : Nat) : (noneTo bad m = true ∧ fstAt bad m = -1) ∨ (∃ i : Nat, i < m ∧ noneTo bad i = true ∧ bad i = true ∧ noneTo bad m = false ∧ fstAt bad m = i) := by
  cases h : (List.range m).find? bad with
  | none =>
    have : noneTo bad m = true := List.all_eq_true.2 fun j hj => by
      have := List.find?_eq_none.1 h j hj
      simpa using this
    exact .inl ⟨this, fstAt_no this⟩
  | some j =>
    obtain ⟨h1, h2, h3⟩ := List.find?_range_eq_some.1 h
    have h2 : j < m := by simpa using h2
    have hn : noneTo bad j = true := List.all_eq_true.2 fun k hk => by
      have := h3 k (by simpa using hk)
      simpa using this
    exact .inr ⟨j, h2, hn, h1, noneTo_no h2 h1, fstAt_at hn h2 h1⟩
theorem fstAt_ge (bad : Nat → Bool) (m : Nat) : decide (fstAt bad m ≥ 0) = !noneTo bad m := by
  rcases fstAt_cases bad m with ⟨h1, h2⟩ | ⟨i, _, _, _, h1, h2⟩
  · rw [h1, h2]; rfl
  · rw [h1, h2]; simp
theorem noneTo_congr {f g : Nat → Bool} {m : Nat} (h : ∀ j, j < m → f j = g j) : noneTo f m = noneTo g m := by
  rw [Bool.eq_iff_iff, noneTo_iff, noneTo_iff]
  exact ⟨fun hh j hj => by rw [← h j hj]; exact hh j hj, fun hh j hj => by rw [h j hj]; exact hh j hj⟩
theorem fstAt_congr {f g : Nat → Bool} {m : Nat} (h : ∀ j, j < m → f j = g j) : fstAt f m = fstAt g m := by
  rcases fstAt_cases f m with ⟨h1, h2⟩ | ⟨i, h0, h1, h2, _, h4⟩
  · rw [h2, fstAt_no (by rw [← noneTo_congr h]; exact h1)]
  · rw [h4, fstAt_at (by rw [← noneTo_congr fun j hj => h j (by omega)]; exact h1) h0 (by rw [← h i h0]; exact h2)]

theorem wfun_get {L : List Wh} {j : Nat} (hj : j < L.length) : wfun L j = whN L[j] := by
  funext k
  simp only [wfun, List.getElem?_eq_getElem hj]
theorem wfun_out {L : List Wh} {j : Nat} (hj : L.length ≤ j) : wfun L j = fun _ => 0 := by
  funext k
  simp only [wfun, List.getElem?_eq_none hj]
theorem wfun_set (A : List Wh) (i : Nat) (x : Wh) (j : Nat) (hi : i < A.length) : wfun (A.set i x) j = if j = i then whN x else wfun A j := by
  funext k
  by_cases e : j = i
  · subst e
    simp [wfun, hi]
  · have e' : i ≠ j := fun h => e h.symm
    simp [wfun, e, List.getElem?_set_ne e']
theorem wfun_swp (L : List Wh) (j q : Nat) (h : j + 1 < L.length) : wfun (swpL L j) q = if q = j then wfun L (j + 1) else if q = j + 1 then wfun L j else wfun L q := by
  funext k
  simp only [wfun, swpL_get L j q h]
  by_cases h1 : q = j
  · simp only [if_pos h1]; rfl
  · simp only [if_neg h1]
    by_cases h2 : q = j + 1
    · simp only [if_pos h2]; rfl
    · simp only [if_neg h2]; rfl
theorem whN_of (f : Nat → Int) : ∀ k, k < 9 → whN (whOf f) k = f k := by
  intro k hk
  rcases (by omega : k = 0 ∨ k = 1 ∨ k = 2 ∨ k = 3 ∨ k = 4 ∨ k = 5 ∨ k = 6 ∨ k = 7 ∨ k = 8) with rfl | rfl | rfl | rfl | rfl | rfl | rfl | rfl | rfl <;> rfl

theorem insA_at : ∀ {A : List Wh} {w : Wh} {i : Nat} (hi : i < A.length), A[i].s = w.s → (∀ j (hj : j < i), (A[j]'(by omega)).s ≠ w.s) → insA A w = A.set i ⟨w.s, cyAdd A[i].r w.r⟩
  | [], _, _, hi, _, _ => by simp at hi
  | x :: l, w, 0, _, h, _ => by
    simp only [List.getElem_cons_zero] at h ⊢
    rw [insA, if_pos h, h]
    rfl
  | x :: l, w, i + 1, hi, h, hno => by
    have h0 := hno 0 (by omega)
    simp only [List.getElem_cons_zero, List.getElem_cons_succ] at h h0 ⊢
    rw [insA, if_neg h0, insA_at (i := i) (by simpa using hi) h fun j hj => by simpa using hno (j + 1) (by omega)]
    rfl
theorem sumR_at : ∀ {A : List Wh} {w : Wh} {i : Nat} (hi : i < A.length), A[i].s = w.s → (∀ j (hj : j < i), (A[j]'(by omega)).s ≠ w.s) → sumR A w = cyAdd A[i].r w.r
  | [], _, _, hi, _, _ => by simp at hi
  | x :: l, w, 0, _, h, _ => by
    simp only [List.getElem_cons_zero] at h ⊢
    simp [sumR, radAt, h]
  | x :: l, w, i + 1, hi, h, hno => by
    have h0 := hno 0 (by omega)
    simp only [List.getElem_cons_zero, List.getElem_cons_succ] at h h0 ⊢
    have := sumR_at (A := l) (i := i) (by simpa using hi) h fun j hj => by simpa using hno (j + 1) (by omega)
    rw [← this]
    simp [sumR, radAt, h0]
theorem sumR_new {A : List Wh} {w : Wh} (h : ∀ x ∈ A, x.s ≠ w.s) : sumR A w = w.r := by
  have : (A.find? fun x => decide (x.s = w.s)) = none := List.find?_eq_none.2 fun x hx => by simpa using h x hx
  simp [sumR, radAt, this]

def delR (f : Nat → Nat → Int) (m j : Nat) : List Wh := nonZ (listW f j) ++ (listW f m).drop (nonZ (listW f j)).length
theorem delR_length (f : Nat → Nat → Int) {m j : Nat} (h : j ≤ m) : (delR f m j).length = m := by
  have := nonZ_le f j
  simp only [delR, List.length_append, List.length_drop, listW_length]
  omega
theorem delR_get (f : Nat → Nat → Int) {m j q : Nat} (h : j ≤ q) (hq : q < m) : ∀ k, k < 9 → wfun (delR f m j) q k = f q k := by
  intro k hk
  have := nonZ_le f j
  have e : (delR f m j)[q]? = some (whOf (f q)) := by
    rw [delR, List.getElem?_append_right (by omega), List.getElem?_drop, show (nonZ (listW f j)).length + (q - (nonZ (listW f j)).length) = q by omega, listW_get f hq]
  simp only [wfun, e]
  exact whN_of (f q) k hk
theorem delR_yes {f : Nat → Nat → Int} {m j : Nat} (h : isZ8 (f j) = true) : delR f m (j + 1) = delR f m j := by
  rw [delR, delR, nonZ_yes h]
theorem delR_no {f : Nat → Nat → Int} {m j : Nat} (hj : j < m) (h : isZ8 (f j) = false) : delR f m (j + 1) = (delR f m j).set (nonZ (listW f j)).length (whOf (f j)) := by
  have hl := nonZ_le f j
  rw [delR, delR, nonZ_no h, List.set_append_right _ _ (Nat.le_refl _), Nat.sub_self, List.length_append, List.length_cons, List.length_nil, List.append_assoc]
  congr 1
  have hd : (nonZ (listW f j)).length < (listW f m).length := by rw [listW_length]; omega
  rw [List.drop_eq_getElem_cons hd]
  rfl
theorem nonZ_none {f : Nat → Nat → Int} : ∀ {i : Nat}, noneTo (fun j => isZ8 (f j)) i = true → nonZ (listW f i) = listW f i
  | 0, _ => rfl
  | i + 1, h => by
    have h1 : isZ8 (f i) = false := noneTo_get (bad := fun j => isZ8 (f j)) h (Nat.lt_succ_self i)
    have h2 : noneTo (fun j => isZ8 (f j)) i = true := noneTo_iff.2 fun j hj => noneTo_get (bad := fun j => isZ8 (f j)) h (by omega)
    rw [nonZ_no h1, nonZ_none h2, listW_succ]
theorem delR_start {f : Nat → Nat → Int} {m i : Nat} (hi : i < m) (h : noneTo (fun j => isZ8 (f j)) i = true) (h1 : isZ8 (f i) = true) : delR f m (i + 1) = listW f m ∧ (nonZ (listW f (i + 1))).length = i := by
  have e : nonZ (listW f (i + 1)) = listW f i := by rw [nonZ_yes h1, nonZ_none h]
  refine ⟨?_, by rw [e, listW_length]⟩
  obtain ⟨ys, hy⟩ := listW_split f (show i ≤ m by omega)
  rw [delR, e, hy, listW_length]
  have : (listW f i ++ ys).drop i = ys := by
    rw [List.drop_append_of_le_length (by rw [listW_length]; omega), List.drop_eq_nil_of_le (by rw [listW_length]; omega), List.nil_append]
  rw [this]

end Go.Proofs.YtddhmidegldhdaaGreatDoor

/- The abstract machine, 24: words for callees by their view of memory: whatever their arguments reach, under numbers of its own. Conditions: those of the table of callees. -/
namespace Go.Proofs.YtddhmidegldhdaaGreatDoor
open Go.RowKit

mutual
def mapA (f : Nat → Option Nat) : AV → Option AV
  | .v x => some (.v x)
  | .ptr i w j k => (f i).map fun i => .ptr i w j k
  | .sl i w j k l c => (f i).map fun i => .sl i w j k l c
  | .own i l => (f i).map fun i => .own i l
  | .agg cs => (mapAs f cs).map .agg
  | .tup cs => (mapAs f cs).map .tup
  | .fn g cs => (mapAs f cs).map (.fn g)
  | .err q => some (.err q)
  | .dead => some .dead
def mapAs (f : Nat → Option Nat) : List AV → Option (List AV)
  | [] => some []
  | a :: al => match mapA f a, mapAs f al with
    | some x, some xs => some (x :: xs)
    | _, _ => none
end
mutual
theorem VR.map {f : Nat → Option Nat} {ν ν' : Nu} (h : ∀ i i' b, f i = some i' → ν i = some b → ν' i' = some b) : ∀ {a a' : AV} {y : Value}, mapA f a = some a' → VR ν a y → VR ν' a' y
  | .v _, a', _, hs, hv => by
    simp only [mapA, Option.some.injEq] at hs
    subst hs
    simpa only [VR] using hv
  | .ptr .., a', _, hs, hv => by
    simp only [mapA, Option.map_eq_some_iff] at hs
    obtain ⟨q, hq, rfl⟩ := hs
    simp only [VR] at hv ⊢
    obtain ⟨b, h1, h2⟩ := hv
    exact ⟨b, h _ _ _ hq h1, h2⟩
  | .sl .., a', _, hs, hv => by
    simp only [mapA, Option.map_eq_some_iff] at hs
    obtain ⟨q, hq, rfl⟩ := hs
    simp only [VR] at hv ⊢
    obtain ⟨p, c, h1, h2, h3, h4⟩ := hv
    exact ⟨p, c, h1, h2, h3, fun hc => let ⟨b, h5, h6⟩ := h4 hc; ⟨b, h _ _ _ hq h5, h6⟩⟩
  | .own .., a', _, hs, hv => by
    simp only [mapA, Option.map_eq_some_iff] at hs
    obtain ⟨q, hq, rfl⟩ := hs
    simp only [VR] at hv ⊢
    obtain ⟨b, h1, h2⟩ := hv
    exact ⟨b, h _ _ _ hq h1, h2⟩
  | .agg cs, a', _, hs, hv => by
    simp only [mapA, Option.map_eq_some_iff] at hs
    obtain ⟨q, hq, rfl⟩ := hs
    simp only [VR] at hv ⊢
    obtain ⟨l, h1, h2⟩ := hv
    exact ⟨l, h1, VRs.map h hq h2⟩
  | .tup cs, a', _, hs, hv => by
    simp only [mapA, Option.map_eq_some_iff] at hs
    obtain ⟨q, hq, rfl⟩ := hs
    simp only [VR] at hv ⊢
    obtain ⟨l, h1, h2⟩ := hv
    exact ⟨l, h1, VRs.map h hq h2⟩
  | .fn _ cs, a', _, hs, hv => by
    simp only [mapA, Option.map_eq_some_iff] at hs
    obtain ⟨q, hq, rfl⟩ := hs
    simp only [VR] at hv ⊢
    obtain ⟨l, h1, h2⟩ := hv
    exact ⟨l, h1, VRs.map h hq h2⟩
  | .err _, a', _, hs, hv => by
    simp only [mapA, Option.some.injEq] at hs
    subst hs
    simpa only [VR] using hv
  | .dead, a', _, hs, _ => by
    simp only [mapA, Option.some.injEq] at hs
    subst hs
    simp only [VR]
theorem VRs.map {f : Nat → Option Nat} {ν ν' : Nu} (h : ∀ i i' b, f i = some i' → ν i = some b → ν' i' = some b) : ∀ {al al' : List AV} {ys : List Value}, mapAs f al = some al' → VRs ν al ys → VRs ν' al' ys
  | [], al', ys, hs, hv => by
    simp only [mapAs, Option.some.injEq] at hs
    subst hs
    cases ys with
    | nil => simp only [VRs]
    | cons => simp only [VRs] at hv
  | a :: al, al', ys, hs, hv => by
    cases ys with
    | nil => simp only [VRs] at hv
    | cons y ys =>
      simp only [VRs] at hv
      simp only [mapAs] at hs
      split at hs
      · rename_i x xs h1 h2
        cases hs
        simp only [VRs]
        exact ⟨VR.map h h1 hv.1, VRs.map h h2 hv.2⟩
      · cases hs
end
def mapB (f : Nat → Option Nat) : AB → Option AB
  | .cells cs t => (mapAs f cs).map fun cs => .cells cs t
  | b => some b
def mapBs (f : Nat → Option Nat) : List AB → Option (List AB)
  | [] => some []
  | b :: bs => match mapB f b, mapBs f bs with
    | some x, some xs => some (x :: xs)
    | _, _ => none
theorem mapBs_get {f : Nat → Option Nat} : ∀ {bs bs' : List AB}, mapBs f bs = some bs' → bs'.length = bs.length ∧ ∀ (j : Nat) b, bs[j]? = some b → ∃ b', bs'[j]? = some b' ∧ mapB f b = some b'
  | [], bs', h => by
    simp only [mapBs, Option.some.injEq] at h
    subst h
    exact ⟨rfl, fun j b hb => by simp at hb⟩
  | b :: bs, bs', h => by
    simp only [mapBs] at h
    split at h
    · rename_i x xs h1 h2
      cases h
      obtain ⟨e1, e2⟩ := mapBs_get h2
      refine ⟨by simp [e1], fun j b' hb => ?_⟩
      cases j with
      | zero => simp at hb; subst hb; exact ⟨x, rfl, h1⟩
      | succ j => simpa using e2 j b' (by simpa using hb)
    · cases h
theorem BR.map {f : Nat → Option Nat} {ν ν' : Nu} {i i' : Nat} {b b' : AB} {w : World} (h : ∀ i i' b, f i = some i' → ν i = some b → ν' i' = some b) (hi : ν' i' = ν i) (hm : mapB f b = some b') (hb : BR ν i b w) : BR ν' i' b' w := by
  cases b with
  | cells cs t =>
    simp only [mapB, Option.map_eq_some_iff] at hm
    obtain ⟨cs', h1, rfl⟩ := hm
    obtain ⟨b, l, e1, e2, e3, e4⟩ := hb
    exact ⟨b, l, by rw [hi]; exact e1, e2, e3, e4.map h h1⟩
  | row rw' n wd g t =>
    simp only [mapB, Option.some.injEq] at hm
    subst hm
    rcases hb with ⟨e1, e2, e3⟩ | ⟨b, l, t', fz, e1, e2⟩
    · exact .inl ⟨e1, e2, by rw [hi]; exact e3⟩
    · exact .inr ⟨b, l, t', fz, by rw [hi]; exact e1, e2⟩
  | gone =>
    simp only [mapB, Option.some.injEq] at hm
    subst hm
    trivial
theorem mapB_marks {f : Nat → Option Nat} {b b' : AB} (h : mapB f b = some b') : b'.wr = b.wr ∧ b'.live = b.live ∧ (b = .gone → b' = .gone) := by
  cases b with
  | cells cs t => simp only [mapB, Option.map_eq_some_iff] at h; obtain ⟨q, _, rfl⟩ := h; exact ⟨rfl, rfl, fun h => by cases h⟩
  | row => simp only [mapB, Option.some.injEq] at h; subst h; exact ⟨rfl, rfl, fun h => by cases h⟩
  | gone => simp only [mapB, Option.some.injEq] at h; subst h; exact ⟨rfl, rfl, fun _ => rfl⟩

def roB (r : Bool) : AB → AB
  | .row rw n w g t => .row (rw && !r) n w g t
  | b => b
def roL : List Bool → List AB → List AB
  | _, [] => []
  | [], b :: bs => b :: roL [] bs
  | r :: rs, b :: bs => roB r b :: roL rs bs
theorem roL_length : ∀ (rs : List Bool) (bs : List AB), (roL rs bs).length = bs.length
  | _, [] => by simp [roL]
  | [], b :: bs => by simp [roL, roL_length [] bs]
  | r :: rs, b :: bs => by simp [roL, roL_length rs bs]
theorem roL_get : ∀ (rs : List Bool) (bs : List AB) (j : Nat), (roL rs bs)[j]? = (bs[j]?).map (roB (rs.getD j false))
  | _, [], j => by simp [roL]
  | [], b :: bs, 0 => by cases b <;> simp [roL, roB]
  | [], b :: bs, j + 1 => by simpa [roL] using roL_get [] bs j
  | r :: rs, b :: bs, 0 => by simp [roL]
  | r :: rs, b :: bs, j + 1 => by simpa [roL] using roL_get rs bs j
theorem roB_wr {r : Bool} {b : AB} (h : (roB r b).wr = true) : b.wr = true := by
  cases b with
  | row rw => simp only [roB, AB.wr, Bool.and_eq_true] at h ⊢; exact h.1
  | cells => rfl
  | gone => simp [roB, AB.wr] at h
theorem roB_live {r : Bool} {b : AB} : (roB r b).live = b.live := by cases b <;> rfl
theorem roB_br {ν : Nu} {i : Nat} {r : Bool} {b : AB} {w : World} (h : BR ν i b w) : BR ν i (roB r b) w := by
  cases b with
  | row rw n wd g t =>
    rcases h with ⟨e1, e2, e3⟩ | ⟨b, l, t', fz, e1, e2, e3, e4⟩
    · exact .inl ⟨by simp [e1], e2, e3⟩
    · exact .inr ⟨b, l, t', fz, e1, e2, fun hr => by
        simp only [Bool.and_eq_true] at hr
        exact e3 hr.1, e4⟩
  | cells => exact h
  | gone => exact h

structure HR where
  val : AV
  out : List AB
  new : List AB := []
  obl : List Bool := []

def putH : List Nat → List AB → List AB → List (Nat × AB)
  | i :: is, h :: hs, o :: os => bif h.wr then (i, o) :: putH is hs os else putH is hs os
  | _, _, _ => []
theorem putH_mem : ∀ {is : List Nat} {hs os : List AB} {i : Nat} {o : AB}, (i, o) ∈ putH is hs os → ∃ (j : Nat) (h : AB), is[j]? = some i ∧ hs[j]? = some h ∧ os[j]? = some o ∧ h.wr = true
  | i0 :: is, h0 :: hs, o0 :: os, i, o, hm => by
    simp only [putH] at hm
    have tail : (i, o) ∈ putH is hs os → ∃ (j : Nat) (h : AB), (i0 :: is)[j]? = some i ∧ (h0 :: hs)[j]? = some h ∧ (o0 :: os)[j]? = some o ∧ h.wr = true := fun hm => by
      obtain ⟨j, h, e1, e2, e3, e4⟩ := putH_mem hm
      exact ⟨j + 1, h, by simpa using e1, by simpa using e2, by simpa using e3, e4⟩
    cases hw : h0.wr with
    | true =>
      rw [hw, cond_true] at hm
      rcases List.mem_cons.1 hm with e | hm
      · cases e
        exact ⟨0, h0, rfl, rfl, rfl, hw⟩
      · exact tail hm
    | false => rw [hw, cond_false] at hm; exact tail hm
  | [], _, _, _, _, hm => by simp [putH] at hm
  | _ :: _, [], _, _, _, hm => by simp [putH] at hm
  | _ :: _, _ :: _, [], _, _, hm => by simp [putH] at hm
theorem putH_of : ∀ {is : List Nat} {hs os : List AB} {j i : Nat} {h o : AB}, is[j]? = some i → hs[j]? = some h → os[j]? = some o → h.wr = true → (i, o) ∈ putH is hs os
  | i0 :: is, h0 :: hs, o0 :: os, j, i, h, o, e1, e2, e3, hw => by
    cases j with
    | zero =>
      simp at e1 e2 e3
      subst e1 e2 e3
      simp [putH, hw]
    | succ j =>
      have := putH_of (is := is) (hs := hs) (os := os) (j := j) (by simpa using e1) (by simpa using e2) (by simpa using e3) hw
      simp only [putH]
      cases h0.wr with
      | true => exact List.mem_cons_of_mem _ this
      | false => exact this
  | [], _, _, _, _, _, _, e1, _, _, _ => by simp at e1
  | _ :: _, [], _, _, _, _, _, _, e2, _, _ => by simp at e2
  | _ :: _, _ :: _, [], _, _, _, _, _, _, e3, _ => by simp at e3
theorem lookB_of {i : Nat} {b : AB} : ∀ {l : List (Nat × AB)}, (i, b) ∈ l → ∃ b', lookB i l = some b'
  | p :: l, h => by
    simp only [lookB]
    split
    · exact ⟨_, rfl⟩
    · rename_i hne
      rcases List.mem_cons.1 h with e | h
      · subst e; exact absurd rfl hne
      · exact lookB_of h

def bkF (keep : List Nat) (Hc : List AB) (base : Nat) : Nat → Option Nat := fun i => bif Nat.blt i keep.length then (bif (Hc.getD i .gone).wr then keep[i]? else none) else some (base + (i - keep.length))

def viewH (ros : List Bool) (avs : List AV) (H : List AB) : Option (List Nat × List AV × List AB) :=
  match renAs (reach H 400 [] (idxAs avs)) avs, renBs (reach H 400 [] (idxAs avs)) H (reach H 400 [] (idxAs avs)) with
  | some a, some h => cond (nodupB (reach H 400 [] (idxAs avs))) (some (reach H 400 [] (idxAs avs), a, roL ros h)) none
  | _, _ => none

def specH (ros : List Bool) (F : List AV → List AB → Option HR) : Spec := fun avs H base =>
  match viewH ros avs H with
  | some q => match F q.2.1 q.2.2 with
    | some hr => match mapA (bkF q.1 q.2.2 base) hr.val, mapBs (bkF q.1 q.2.2 base) hr.out, mapBs (bkF q.1 q.2.2 base) hr.new with
      | some v, some ou, some nw => cond (Nat.beq hr.out.length q.2.2.length && hr.new.all AB.wr)
          (some { val := v, rd := q.1, put := putH q.1 q.2.2 ou, new := nw, obl := hr.obl }) none
      | _, _, _ => none
    | none => none
  | none => none

def GivH (hr : HR) : Ex → List AV → List AB → Prop := fun _ l He => l = [hr.val] ∧ Hsim He (hr.out ++ hr.new)

def GivW (hr : HR) : Ex → List AV → List AB → Prop := fun _ l He => ∃ a, l = [a] ∧ (∀ M ν w v, RH M ν (fun b => He.getD b .gone) w → VR ν a v → VR ν hr.val v) ∧ Hsim He (hr.out ++ hr.new)
structure Himp (H H0 : List AB) : Prop where
  len : H.length = H0.length
  rh : ∀ {M ν w}, RH M ν (fun b => H.getD b .gone) w → RH M ν (fun b => H0.getD b .gone) w
theorem Hsim.imp {H H0 : List AB} (h : Hsim H H0) : Himp H H0 := ⟨h.length, fun k => k.sim h⟩
def GivI (hr : HR) : Ex → List AV → List AB → Prop := fun _ l He => ∃ a, l = [a] ∧ (∀ M ν w v, RH M ν (fun b => He.getD b .gone) w → VR ν a v → VR ν hr.val v) ∧ Himp He (hr.out ++ hr.new)
theorem own_sl {M : Nat → Prop} {ν : Nu} {H : List AB} {w : World} {i len n wd : Nat} {rw : Bool} {g : Nat → List Value} {t : TypeId} {v : Value} (hH : H.getD i .gone = .row rw n wd g t) (hn : len ≤ n) (hR : RH M ν (fun b => H.getD b .gone) w) (hv : VR ν (.own i len) v) : VR ν (.sl i wd 0 0 len none) v := by
  simp only [VR] at hv ⊢
  obtain ⟨b, hb, rfl⟩ := hv
  have := hR.br i
  simp only [hH] at this
  rcases this with ⟨_, _, e⟩ | ⟨b', l, t', fz, e1, _, _, e4, _⟩
  · rw [hb] at e; cases e
  · rw [hb] at e1; cases e1
    exact ⟨_, _, rfl, by simp, by omega, fun _ => ⟨b, hb, by simp⟩⟩

theorem specH_im {Γ : Gam} (hΓ : GamOk Tryz.prog Γ) {f : FuncId} {fn : Func} {ros : List Bool} {F : List AV → List AB → Option HR} (hf : Tryz.prog.funcs[f]? = some fn) (hb : fn.body.isSome = true)
    (h : ∀ avs H hr, F avs H = some hr → obls hr.obl = true → ∃ (H0 : List AB) (Λ : Nat → Option Sum) (n : Nat), Himp H H0 ∧ (∀ c, fn.body = some c → LamOk Tryz.prog H0.length Λ c) ∧ GoodQ (execF Tryz.prog Γ Λ n fn avs H0 (packK H0.length)) (GivI hr)) : SpecOk Tryz.prog f (specH ros F) := by
  refine ⟨fun args w => enters f fn hf hb args w, fun avs H base δ ν vals w hS ho hv hbr hlt hfree hsep htab => ?_⟩
  unfold specH at hS
  split at hS
  case h_2 => cases hS
  rename_i q hq
  split at hS
  case h_2 => cases hS
  rename_i hr hF
  split at hS
  case h_2 => cases hS
  rename_i v ou nw hval hou hnw
  cases hck : (Nat.beq hr.out.length q.2.2.length && hr.new.all AB.wr) with
  | false => rw [hck] at hS; cases hS
  | true =>
  rw [hck] at hS
  simp only [cond_true, Option.some.injEq] at hS
  subst hS
  rw [Bool.and_eq_true] at hck
  have hlen := Nat.eq_of_beq_eq_true hck.1
  have hnewwr := List.all_eq_true.1 hck.2
  unfold viewH at hq
  generalize reach H 400 [] (idxAs avs) = keep at *
  split at hq
  case h_2 => cases hq
  rename_i avs' H1 hra hrb
  cases hnd : nodupB keep with
  | false => rw [hnd] at hq; cases hq
  | true =>
  rw [hnd] at hq
  simp only [cond_true, Option.some.injEq] at hq
  subst hq
  simp only at hval hou hnw hF hlen hbr hsep ho hfree ⊢
  obtain ⟨hl1, hg1⟩ := renBs_get hrb
  have hlHc : (roL ros H1).length = keep.length := by rw [roL_length, hl1]
  have nuAt : ∀ {j i}, keep[j]? = some i → keepNu keep ν j = ν i := fun hj => by simp [keepNu, hj]
  have ofNu : ∀ {j b}, keepNu keep ν j = some b → ∃ i, keep[j]? = some i ∧ ν i = some b := by
    intro j b hb
    unfold keepNu at hb
    split at hb
    · rename_i i hi; exact ⟨i, hi, hb⟩
    · cases hb
  have ren_marks : ∀ {b b' : AB}, renB keep b = some b' → b'.wr = b.wr ∧ b'.live = b.live := by
    intro b b' hb
    cases b with
    | cells cs t => simp only [renB, Option.map_eq_some_iff] at hb; obtain ⟨q, _, rfl⟩ := hb; exact ⟨rfl, rfl⟩
    | row => simp only [renB, Option.some.injEq] at hb; subst hb; exact ⟨rfl, rfl⟩
    | gone => simp only [renB, Option.some.injEq] at hb; subst hb; exact ⟨rfl, rfl⟩
  -- the callee's block j is the caller's block keep j
  have view : ∀ {j i}, keep[j]? = some i → ∃ b1, H1[j]? = some b1 ∧ renB keep (H.getD i .gone) = some b1 ∧ (roL ros H1)[j]? = some (roB (ros.getD j false) b1) := by
    intro j i hj
    obtain ⟨b1, e1, e2⟩ := hg1 j i hj
    exact ⟨b1, e1, e2, by rw [roL_get, e1]; rfl⟩
  have wrOf : ∀ {j i}, keep[j]? = some i → ((roL ros H1).getD j .gone).wr = true → (H.getD i .gone).wr = true := by
    intro j i hj hw
    obtain ⟨b1, _, e2, e3⟩ := view hj
    have : (roL ros H1).getD j .gone = roB (ros.getD j false) b1 := by simp [List.getD_eq_getElem?_getD, e3]
    rw [this] at hw
    rw [← (ren_marks e2).1]
    exact roB_wr hw
  have liveOf : ∀ {j i}, keep[j]? = some i → ((roL ros H1).getD j .gone).live = true → (H.getD i .gone).live = true := by
    intro j i hj hw
    obtain ⟨b1, _, e2, e3⟩ := view hj
    have : (roL ros H1).getD j .gone = roB (ros.getD j false) b1 := by simp [List.getD_eq_getElem?_getD, e3]
    rw [this, roB_live] at hw
    rw [← (ren_marks e2).2]
    exact hw
  obtain ⟨hlo, hgo⟩ := mapBs_get hou
  obtain ⟨hln, hgn⟩ := mapBs_get hnw
  have inPut : ∀ {j i}, keep[j]? = some i → ((roL ros H1).getD j .gone).wr = true → ∃ o o', hr.out[j]? = some o ∧ ou[j]? = some o' ∧ mapB (bkF keep (roL ros H1) base) o = some o' ∧ (i, o') ∈ putH keep (roL ros H1) ou := by
    intro j i hj hw
    have hjl : j < keep.length := (List.getElem?_eq_some_iff.1 hj).1
    have ho : hr.out[j]? = some (hr.out[j]'(by omega)) := List.getElem?_eq_getElem _
    obtain ⟨o', e1, e2⟩ := hgo j _ ho
    have hh : (roL ros H1)[j]? = some ((roL ros H1)[j]'(by omega)) := List.getElem?_eq_getElem _
    refine ⟨_, o', ho, e1, e2, putH_of hj hh e1 ?_⟩
    have : (roL ros H1).getD j .gone = (roL ros H1)[j]'(by omega) := by simp [List.getD_eq_getElem?_getD, hh]
    rw [← this]; exact hw
  let M : Nat → Prop := fun k => w.heap.size ≤ k ∨ ∃ j b, ((roL ros H1).getD j .gone).wr = true ∧ keepNu keep ν j = some b ∧ b.n = k
  have hRH : RH M (keepNu keep ν) (fun b => (roL ros H1).getD b .gone) w := by
    refine ⟨fun j => ?_, fun i j b b' hne hw hlv hb hb' => ?_, fun i b hw hb => .inr ⟨i, b, hw, hb, rfl⟩, fun i b hb => ?_, htab.mono ?_⟩
    · cases hj : keep[j]? with
      | none =>
        have : (roL ros H1).getD j .gone = .gone := by
          rw [List.getD_eq_getElem?_getD, List.getElem?_eq_none]
          · rfl
          · rw [hlHc]
            exact List.getElem?_eq_none_iff.1 hj
        simp only [this]
        trivial
      | some i =>
        obtain ⟨b1, e1, e2, e3⟩ := view hj
        have : (roL ros H1).getD j .gone = roB (ros.getD j false) b1 := by simp [List.getD_eq_getElem?_getD, e3]
        simp only [this]
        refine roB_br ?_
        have hbi := hbr i (List.mem_of_getElem? hj)
        have hν := nuAt hj
        cases hi : H.getD i .gone with
        | cells cs t =>
          rw [hi] at e2 hbi
          simp only [renB, Option.map_eq_some_iff] at e2
          obtain ⟨cs', h1, h2⟩ := e2
          rw [← h2]
          obtain ⟨b, l, g1, g2, g3, g4⟩ := hbi
          exact ⟨b, l, by rw [hν]; exact g1, g2, g3, g4.ren h1⟩
        | row rw' n wd g t =>
          rw [hi] at e2 hbi
          simp only [renB, Option.some.injEq] at e2
          rw [← e2]
          rcases hbi with ⟨g1, g2, g3⟩ | ⟨b, l, t', fz, g1, g2⟩
          · exact .inl ⟨g1, g2, by rw [hν]; exact g3⟩
          · exact .inr ⟨b, l, t', fz, by rw [hν]; exact g1, g2⟩
        | gone =>
          rw [hi] at e2
          simp only [renB, Option.some.injEq] at e2
          rw [← e2]
          trivial
    · obtain ⟨i', hi, e1⟩ := ofNu hb
      obtain ⟨j', hj, e2⟩ := ofNu hb'
      obtain ⟨_, o', _, _, _, hp⟩ := inPut hi hw
      refine hsep i' o' j' b b' hp (List.mem_of_getElem? hj) (fun e => ?_) (liveOf hj hlv) e1 e2
      subst e
      exact hne (nodupB_ne hnd i j i' hi hj)
    · obtain ⟨i', _, e1⟩ := ofNu hb
      exact hlt i' b e1
    · rintro k _ (hk | ⟨j, b, hw, hb, rfl⟩)
      · exact .inl hk
      · obtain ⟨i', hi, e1⟩ := ofNu hb
        obtain ⟨_, o', _, _, _, hp⟩ := inPut hi hw
        exact .inr ⟨i', b, _, hp, e1, rfl⟩
  obtain ⟨H0, Λ, n, hsim, hL, hG⟩ := h avs' (roL ros H1) hr hF ho
  have hl0 : H0.length = keep.length := by rw [← hsim.len, hlHc]
  have hdom0 : ∀ i b, keepNu keep ν i = some b → i < H0.length := by
    intro i b hb
    obtain ⟨i', hi, _⟩ := ofNu hb
    rw [hl0]
    exact (List.getElem?_eq_some_iff.1 hi).1
  refine (calls_pack hΓ mixed enters hf hL (fun k hk => Or.inl hk) hG.out (hv.ren hra) (hsim.rh hRH) hdom0).mono ?_
  rintro e w' ⟨vv, av, He, ν', rfl, ⟨av2, hav, hwk, hHe⟩, hvr, hRH', hfr, hle, hdom'⟩
  simp only [List.cons.injEq, and_true] at hav
  subst hav
  have hvr := hwk _ _ _ _ hRH' hvr
  have hRH2 := hHe.rh hRH'
  have hHl : He.length = keep.length + hr.new.length := by rw [hHe.len, List.length_append, hlen, hlHc]
  -- a block that may be written has a place
  have wrNu : ∀ {j : Nat}, ((roL ros H1).getD j .gone).wr = true → ∃ b, keepNu keep ν j = some b := by
    intro j hw
    have : BR (keepNu keep ν) j ((roL ros H1).getD j .gone) w := hRH.br j
    cases hb : (roL ros H1).getD j .gone with
    | cells cs t => rw [hb] at this; obtain ⟨b, l, e1, _⟩ := this; exact ⟨b, e1⟩
    | row rw' n wd g t =>
      rw [hb] at this hw
      rcases this with ⟨e1, _⟩ | ⟨b, l, t', fz, e1, _⟩
      · simp only [AB.wr] at hw
        rw [e1] at hw
        cases hw
      · exact ⟨b, e1⟩
    | gone => rw [hb] at hw; cases hw
  let ν2 : Nu := fun i => match ν i with
    | some b => some b
    | none => if base ≤ i ∧ i < base + nw.length then ν' (keep.length + (i - base)) else none
  have n2old : ∀ {i b}, ν i = some b → ν2 i = some b := fun {i b} h => by simp only [ν2, h]
  have n2new : ∀ {j : Nat}, j < nw.length → ν2 (base + j) = ν' (keep.length + j) := fun {j} hj => by
    have h0 := hfree j hj
    have h1 : ν2 (base + j) = if base ≤ base + j ∧ base + j < base + nw.length then ν' (keep.length + (base + j - base)) else none := by
      show (match ν (base + j) with | some b => some b | none => if base ≤ base + j ∧ base + j < base + nw.length then ν' (keep.length + (base + j - base)) else none) = _
      rw [h0]
    rw [h1, if_pos ⟨by omega, by omega⟩, Nat.add_sub_cancel_left]
  have mp : ∀ i i' b, bkF keep (roL ros H1) base i = some i' → ν' i = some b → ν2 i' = some b := by
    intro i i' b h1 h2
    unfold bkF at h1
    cases hc : Nat.blt i keep.length with
    | true =>
      rw [hc, cond_true] at h1
      cases hw : ((roL ros H1).getD i .gone).wr with
      | false => rw [hw] at h1; cases h1
      | true =>
        rw [hw, cond_true] at h1
        obtain ⟨b0, hb0⟩ := wrNu hw
        have := hle _ _ hb0
        rw [h2] at this
        cases this
        rw [nuAt h1] at hb0
        exact n2old hb0
    | false =>
      rw [hc, cond_false, Option.some.injEq] at h1
      subst h1
      have hge : ¬ i < keep.length := fun hl => by rw [← Nat.blt_eq] at hl; rw [hl] at hc; cases hc
      have hd := hdom' i b h2
      have e : i = keep.length + (i - keep.length) := by omega
      rw [n2new (by rw [hln]; omega), ← e]
      exact h2
  have outBR : ∀ {j : Nat} {o : AB}, hr.out[j]? = some o → BR ν' j o w' := by
    intro j o hj
    have := hRH2.br j
    have hjl : j < hr.out.length := (List.getElem?_eq_some_iff.1 hj).1
    simp only [List.getD_eq_getElem?_getD, List.getElem?_append_left hjl, hj, Option.getD_some] at this
    exact this
  have newAt : ∀ {j : Nat} {o : AB}, hr.new[j]? = some o → (hr.out ++ hr.new).getD (keep.length + j) .gone = o := by
    intro j o hj
    rw [List.getD_eq_getElem?_getD, List.getElem?_append_right (by omega)]
    have : keep.length + j - hr.out.length = j := by omega
    rw [this, hj]
    rfl
  refine ⟨vv, ν2, rfl, ⟨fun i b hb => n2old hb, fun i h1 h2 => ?_, hvr.map mp hval, fun i b hl => ?_, fun j b hj => ?_, hfr.os, hfr.tape, hfr.output, hfr.size, fun k hk hne => ?_, fun j b hj hb => ?_, fun j j' b b' hne hj hj' hb hb' => ?_⟩⟩
  · simp only [ν2, h1] at h2
    split at h2
    · assumption
    · exact (h2 rfl).elim
  · obtain ⟨j, hh, e1, e2, e3, e4⟩ := putH_mem (lookB_mem hl)
    have hw : ((roL ros H1).getD j .gone).wr = true := by simp only [List.getD_eq_getElem?_getD, e2, Option.getD_some]; exact e4
    obtain ⟨o, o', g1, g2, g3, _⟩ := inPut e1 hw
    rw [e3] at g2
    cases g2
    obtain ⟨b0, hb0⟩ := wrNu hw
    have e5 : ν2 i = ν' j := by
      rw [hle _ _ hb0]
      rw [nuAt e1] at hb0
      exact n2old hb0
    exact (outBR g1).map mp e5 g3
  · have hjl : j < nw.length := (List.getElem?_eq_some_iff.1 hj).1
    have hn : hr.new[j]? = some (hr.new[j]'(by omega)) := List.getElem?_eq_getElem _
    obtain ⟨b', e1, e2⟩ := hgn j _ hn
    rw [hj] at e1
    cases e1
    have : BR ν' (keep.length + j) ((hr.out ++ hr.new).getD (keep.length + j) .gone) w' := hRH2.br (keep.length + j)
    rw [newAt hn] at this
    exact this.map mp (n2new hjl) e2
  · refine hfr.block k hk fun hM => ?_
    rcases hM with hM | ⟨j, b, hw, hb, e⟩
    · omega
    · obtain ⟨i, hi, e1⟩ := ofNu hb
      obtain ⟨_, o', _, _, _, hp⟩ := inPut hi hw
      exact hne _ b hp e1 e
  · have hj : j < nw.length := hj
    rw [n2new hj] at hb
    refine ⟨hRH2.lt _ _ hb, ?_⟩
    have hn : hr.new[j]? = some (hr.new[j]'(by omega)) := List.getElem?_eq_getElem _
    have hwn : ((hr.out ++ hr.new).getD (keep.length + j) .gone).wr = true := by
      rw [newAt hn]
      exact hnewwr _ (List.mem_of_getElem? hn)
    rcases hRH2.own _ b hwn hb with hM | ⟨i, b0, hw, hb0, e⟩
    · exact .inl hM
    · right
      obtain ⟨i', hi, e1⟩ := ofNu hb0
      obtain ⟨o, o', g1, g2, g3, hp⟩ := inPut hi hw
      obtain ⟨o2, hl2⟩ := lookB_of hp
      refine ⟨i', b0, ?_, e1, e⟩
      have hil : i < keep.length := (List.getElem?_eq_some_iff.1 hi).1
      have hgone : o = .gone := by
        cases hlv : o.live with
        | false => cases o <;> first | rfl | cases hlv
        | true =>
          have e3 : (hr.out ++ hr.new).getD i .gone = o := by
            rw [List.getD_eq_getElem?_getD, List.getElem?_append_left (by omega), g1]
            rfl
          exact (hRH2.sep (keep.length + j) i b b0 (by omega) hwn (by rw [e3]; exact hlv) hb (hle _ _ hb0) e.symm).elim
      subst hgone
      have ho' := (mapB_marks g3).2.2 rfl
      subst ho'
      obtain ⟨j2, h2, f1, f2, f3, f4⟩ := putH_mem (lookB_mem hl2)
      have : j2 = i := nodupB_ne hnd j2 i i' f1 hi
      subst this
      rw [g2] at f3
      cases f3
      exact hl2
  · have hj : j < nw.length := hj
    have hj' : j' < nw.length := hj'
    rw [n2new hj] at hb
    rw [n2new hj'] at hb'
    have hn : hr.new[j]? = some (hr.new[j]'(by omega)) := List.getElem?_eq_getElem _
    have hn' : hr.new[j']? = some (hr.new[j']'(by omega)) := List.getElem?_eq_getElem _
    have w1 : ((hr.out ++ hr.new).getD (keep.length + j) .gone).wr = true := by
      rw [newAt hn]
      exact hnewwr _ (List.mem_of_getElem? hn)
    have w2 : ((hr.out ++ hr.new).getD (keep.length + j') .gone).live = true := by
      rw [newAt hn']
      have := hnewwr _ (List.mem_of_getElem? hn')
      revert this
      cases hr.new[j']'(by omega) <;> simp [AB.wr, AB.live]
    exact hRH2.sep (keep.length + j) (keep.length + j') b b' (by omega) w1 w2 hb hb'

theorem specH_wk {Γ : Gam} (hΓ : GamOk Tryz.prog Γ) {f : FuncId} {fn : Func} {ros : List Bool} {F : List AV → List AB → Option HR} (hf : Tryz.prog.funcs[f]? = some fn) (hb : fn.body.isSome = true)
    (h : ∀ avs H hr, F avs H = some hr → obls hr.obl = true → ∃ (H0 : List AB) (Λ : Nat → Option Sum) (n : Nat), Hsim H H0 ∧ (∀ c, fn.body = some c → LamOk Tryz.prog H0.length Λ c) ∧ GoodQ (execF Tryz.prog Γ Λ n fn avs H0 (packK H0.length)) (GivW hr)) : SpecOk Tryz.prog f (specH ros F) :=
  specH_im hΓ hf hb fun avs H hr hF ho => by
    obtain ⟨H0, Λ, n, h1, h2, h3⟩ := h avs H hr hF ho
    exact ⟨H0, Λ, n, h1.imp, h2, ⟨res_mono (fun e l He ⟨a, h4, h5, h6⟩ => ⟨a, h4, h5, h6.imp⟩) h3.out⟩⟩

theorem specH_ok {Γ : Gam} (hΓ : GamOk Tryz.prog Γ) {f : FuncId} {fn : Func} {ros : List Bool} {F : List AV → List AB → Option HR} (hf : Tryz.prog.funcs[f]? = some fn) (hb : fn.body.isSome = true)
    (h : ∀ avs H hr, F avs H = some hr → obls hr.obl = true → ∃ (H0 : List AB) (Λ : Nat → Option Sum) (n : Nat), Hsim H H0 ∧ (∀ c, fn.body = some c → LamOk Tryz.prog H0.length Λ c) ∧ GoodQ (execF Tryz.prog Γ Λ n fn avs H0 (packK H0.length)) (GivH hr)) : SpecOk Tryz.prog f (specH ros F) :=
  specH_wk hΓ hf hb fun avs H hr hF ho => by
    obtain ⟨H0, Λ, n, h1, h2, h3⟩ := h avs H hr hF ho
    exact ⟨H0, Λ, n, h1, h2, ⟨res_mono (fun e l He ⟨h4, h5⟩ => ⟨_, h4, fun _ _ _ _ _ hv => hv, h5⟩) h3.out⟩⟩

end Go.Proofs.YtddhmidegldhdaaGreatDoor

/- IndexFunc on wheels, for the three questions that the program asks, and the program's DesignValid. Conditions: a list of wheels. -/
namespace Go.Proofs.YtddhmidegldhdaaGreatDoor
open Go.RowKit
set_option maxRecDepth 100000

theorem treeCVI (a : Nat → Int) : execF Tryz.prog gm_small noLam 100 Tryz.f72 ([cyv a].map .v) [] valK
    = Res.out .ret [AV.v (.bool (smallF (w8 a) (-1000000 : Int) (1000000 : Int)))] [] := by kernel_rfl

theorem ok_cvI : SpecOk Tryz.prog 72 (specV f_cv) := by
  refine mkV (n := 100) gm_small_ok Tryz.func72 rfl fun vs v ob hF ho => ?_
  unfold f_cv at hF
  split at hF
  · rename_i a0 a1 a2 a3 a4 a5 a6 a7
    cases hF
    show Good (execF Tryz.prog gm_small noLam 100 Tryz.f72 ([cyv (v8 a0 a1 a2 a3 a4 a5 a6 a7)].map .v) [] valK) _
    rw [treeCVI]
    exact gives_of rfl
  · cases hF

noncomputable abbrev fIFW : Func := Tryz.f69
abbrev lvIF : Ex → List Nat := lv3 [0, 1, 7, 8] [] [4]
abbrev fnIa : AV := .fn 70 [.ptr 1 0 0 0]
abbrev hpIa (m : Nat) (f : Nat → Nat → Int) (t t2 : TypeId) (x : Nat → Int) : List AB := [.row false m 9 (row9 f) t, .cells [.v (i64 (x 0)), .v (i64 (x 1)), .v (i64 (x 2)), .v (i64 (x 3)), .v (i64 (x 4)), .v (i64 (x 5)), .v (i64 (x 6)), .v (i64 (x 7)), .v (i64 (x 8))] t2]
theorem rndIa_h (m : Nat) (f : Nat → Nat → Int) (t t2 : TypeId) (x : Nat → Int) (i : Nat) (u1 : _) (hu1 : (↑i : Int) = u1) (u2 : _) (hu2 : (0 : Nat) = u2) (u0 : _) (hu0 : [AB.row false m 9 (row9 f) t, AB.cells [AV.v (.int .i64 (x u2)), AV.v (.int .i64 (x (1 : Nat))), AV.v (.int .i64 (x (2 : Nat))), AV.v (.int .i64 (x (3 : Nat))), AV.v (.int .i64 (x (4 : Nat))), AV.v (.int .i64 (x (5 : Nat))), AV.v (.int .i64 (x (6 : Nat))), AV.v (.int .i64 (x (7 : Nat))), AV.v (.int .i64 (x (8 : Nat)))] t2] = u0) : execC Tryz.prog g0 100 noLam (loopAt 0 fIFW) (mkT 0 19 ((lvIF .normal).zip [.own 0 m, fnIa, .v (i64 m), .v (i64 i)])) (hpIa m f t t2 x) (leafV 19 lvIF 2)
    = bif decide (u1 < (m : Int)) then needs [decide (u1 < (m : Int)), decide (Int.toNat u1 < m)] (bif f (Int.toNat u1) u2 == x u2 then Res.out .ret [AV.v (.int .i64 u1)] u0 else Res.out .normal [AV.own u2 m, AV.fn (70 : FuncId) [AV.ptr (1 : Nat) u2 u2 u2], AV.v (.int .i64 (m : Int)), AV.v (.int .i64 (IntKind.wrap .i64 (u1 + (1 : Int))))] u0) else Res.out (Ex.exit u2) [] u0 := by
  subst hu0 hu2 hu1
  kernel_rfl
theorem rndIa (m : Nat) (f : Nat → Nat → Int) (t t2 : TypeId) (x : Nat → Int) (i : Nat) : type_of% (rndIa_h m f t t2 x i _ rfl _ rfl _ rfl) := rndIa_h m f t t2 x i _ rfl _ rfl _ rfl

noncomputable abbrev lamIa (m : Nat) (f : Nat → Nat → Int) (t t2 : TypeId) (x : Nat → Int) (bad : Nat → Bool) : Nat → Option Sum := oneL 0 (atS 19 (lvIF .normal) 2 [.own 0 m, fnIa, .v (i64 m), .v (i64 (0 : Nat))] (hpIa m f t t2 x) (fun K => cond (noneTo bad m) (K .normal (mkT 0 19 []) (hpIa m f t t2 x)) (K .ret (mkT 0 19 [(4, .v (i64 (fstAt bad m)))]) (hpIa m f t t2 x))))
theorem treeIa_h (m : Nat) (f : Nat → Nat → Int) (t t2 : TypeId) (x : Nat → Int) (bad : Nat → Bool) (u0 : _) (hu0 : [AB.row false m 9 (row9 f) t, AB.cells [AV.v (.int .i64 (x (0 : Nat))), AV.v (.int .i64 (x (1 : Nat))), AV.v (.int .i64 (x (2 : Nat))), AV.v (.int .i64 (x (3 : Nat))), AV.v (.int .i64 (x (4 : Nat))), AV.v (.int .i64 (x (5 : Nat))), AV.v (.int .i64 (x (6 : Nat))), AV.v (.int .i64 (x (7 : Nat))), AV.v (.int .i64 (x (8 : Nat)))] t2] = u0) (u1 : _) (hu1 : (AV.v (.int .i64 (m : Int))) = u1) : execF Tryz.prog g0 (lamIa m f t t2 x bad) 100 fIFW [.own 0 m, fnIa] (hpIa m f t t2 x) (packK 2)
    = needs [chk ([AV.own 0 m, AV.fn (70 : FuncId) [AV.ptr (1 : Nat) (0 : Nat) (0 : Nat) (0 : Nat)], u1, AV.v (.int .i64 0)] = [AV.own 0 m, fnIa, u1, AV.v (.int .i64 0)] ∧ Hsim u0 (hpIa m f t t2 x))] (bif noneTo bad m then Res.out .ret [AV.v (.int .i64 (-1 : Int))] u0 else Res.out .ret [AV.v (.int .i64 (fstAt bad m))] u0) := by
  subst hu1 hu0
  kernel_rfl
theorem treeIa (m : Nat) (f : Nat → Nat → Int) (t t2 : TypeId) (x : Nat → Int) (bad : Nat → Bool) : type_of% (treeIa_h m f t t2 x bad _ rfl _ rfl) := treeIa_h m f t t2 x bad _ rfl _ rfl

abbrev fnIb : AV := .v (.func (.func 134) ⟨[]⟩ ⟨[]⟩)
abbrev fnIc : AV := .v (.func (.func 74) ⟨[]⟩ ⟨[]⟩)
def gmIb (ok : (Nat → Int) → Bool) : Gam := ext gm_within 72 (specV (fOkc ok))
abbrev hpIb (m : Nat) (f : Nat → Nat → Int) (t : TypeId) : List AB := [.row false m 9 (row9 f) t]
theorem rndIb_h (ok : (Nat → Int) → Bool) (m : Nat) (f : Nat → Nat → Int) (t : TypeId) (i : Nat) (u1 : _) (hu1 : [AB.row false m 9 (row9 f) t] = u1) (u2 : _) (hu2 : (↑i : Int) = u2) (u0 : _) (hu0 : ((0 : Nat) + Int.toNat u2) = u0) : execC Tryz.prog (gmIb ok) 100 noLam (loopAt 0 fIFW) (mkT 0 19 ((lvIF .normal).zip [.sl 0 9 0 0 m none, fnIb, .v (i64 m), .v (i64 i)])) (hpIb m f t) (leafV 19 lvIF 1)
    = bif decide (u2 < (m : Int)) then needs [decide (u2 < (m : Int)), decide ((0 : Nat) + Int.toNat u2 < m)] (bif !inR (f u0 (0 : Nat)) (-1000 : Int) (1000 : Int) then Res.out .ret [AV.v (.int .i64 u2)] u1 else bif !ok (v8 (f u0 (1 : Nat)) (f u0 (2 : Nat)) (f u0 (3 : Nat)) (f u0 (4 : Nat)) (f u0 (5 : Nat)) (f u0 (6 : Nat)) (f u0 (7 : Nat)) (f u0 (8 : Nat))) then Res.out .ret [AV.v (.int .i64 u2)] u1 else Res.out .normal [AV.sl 0 (9 : Nat) (0 : Nat) (0 : Nat) m none, AV.v (Value.func (Fn.func (134 : FuncId)) (Array.mk []) (Array.mk [])), AV.v (.int .i64 (m : Int)), AV.v (.int .i64 (IntKind.wrap .i64 (u2 + (1 : Int))))] u1) else Res.out (Ex.exit (0 : Nat)) [] u1 := by
  subst hu0 hu2 hu1
  kernel_rfl
theorem rndIb (ok : (Nat → Int) → Bool) (m : Nat) (f : Nat → Nat → Int) (t : TypeId) (i : Nat) : type_of% (rndIb_h ok m f t i _ rfl _ rfl _ rfl) := rndIb_h ok m f t i _ rfl _ rfl _ rfl

theorem rndIc_h (m : Nat) (f : Nat → Nat → Int) (t : TypeId) (i : Nat) (u1 : _) (hu1 : [AB.row false m 9 (row9 f) t] = u1) (u2 : _) (hu2 : (↑i : Int) = u2) (u3 : _) (hu3 : (0 : Int) = u3) (u0 : _) (hu0 : ((0 : Nat) + Int.toNat u2) = u0) : execC Tryz.prog g0 100 noLam (loopAt 0 fIFW) (mkT 0 19 ((lvIF .normal).zip [.sl 0 9 0 0 m none, fnIc, .v (i64 m), .v (i64 i)])) (hpIb m f t) (leafV 19 lvIF 1)
    = bif decide (u2 < (m : Int)) then needs [decide (u2 < (m : Int)), decide ((0 : Nat) + Int.toNat u2 < m)] (bif f u0 (1 : Nat) == u3 && (f u0 (2 : Nat) == u3 && (f u0 (3 : Nat) == u3 && (f u0 (4 : Nat) == u3 && (f u0 (5 : Nat) == u3 && (f u0 (6 : Nat) == u3 && (f u0 (7 : Nat) == u3 && (f u0 (8 : Nat) == u3 && true))))))) && true then Res.out .ret [AV.v (.int .i64 u2)] u1 else Res.out .normal [AV.sl 0 (9 : Nat) (0 : Nat) (0 : Nat) m none, AV.v (Value.func (Fn.func (74 : FuncId)) (Array.mk []) (Array.mk [])), AV.v (.int .i64 (m : Int)), AV.v (.int .i64 (IntKind.wrap .i64 (u2 + (1 : Int))))] u1) else Res.out (Ex.exit (0 : Nat)) [] u1 := by
  subst hu0 hu3 hu2 hu1
  kernel_rfl
theorem rndIc (m : Nat) (f : Nat → Nat → Int) (t : TypeId) (i : Nat) : type_of% (rndIc_h m f t i _ rfl _ rfl _ rfl _ rfl) := rndIc_h m f t i _ rfl _ rfl _ rfl _ rfl

noncomputable abbrev lamIb (fn : AV) (m : Nat) (f : Nat → Nat → Int) (t : TypeId) (bad : Nat → Bool) : Nat → Option Sum := oneL 0 (atS 19 (lvIF .normal) 1 [.sl 0 9 0 0 m none, fn, .v (i64 m), .v (i64 (0 : Nat))] (hpIb m f t) (fun K => cond (noneTo bad m) (K .normal (mkT 0 19 []) (hpIb m f t)) (K .ret (mkT 0 19 [(4, .v (i64 (fstAt bad m)))]) (hpIb m f t))))
theorem treeIb (ok : (Nat → Int) → Bool) (m : Nat) (f : Nat → Nat → Int) (t : TypeId) (bad : Nat → Bool) : execF Tryz.prog (gmIb ok) (lamIb fnIb m f t bad) 100 fIFW [.sl 0 9 0 0 m none, fnIb] (hpIb m f t) (packK 1)
    = needs [chk ([AV.sl 0 (9 : Nat) (0 : Nat) (0 : Nat) m none, AV.v (Value.func (Fn.func (134 : FuncId)) (Array.mk []) (Array.mk [])), AV.v (.int .i64 (m : Int)), AV.v (.int .i64 0)] = [AV.sl 0 (9 : Nat) (0 : Nat) (0 : Nat) m none, fnIb, AV.v (.int .i64 (m : Int)), AV.v (.int .i64 0)] ∧ Hsim [AB.row false m 9 (row9 f) t] (hpIb m f t))] (bif noneTo bad m then Res.out .ret [AV.v (.int .i64 (-1 : Int))] [AB.row false m 9 (row9 f) t] else Res.out .ret [AV.v (.int .i64 (fstAt bad m))] [AB.row false m 9 (row9 f) t]) := by kernel_rfl

theorem treeIc (m : Nat) (f : Nat → Nat → Int) (t : TypeId) (bad : Nat → Bool) : execF Tryz.prog g0 (lamIb fnIc m f t bad) 100 fIFW [.sl 0 9 0 0 m none, fnIc] (hpIb m f t) (packK 1)
    = needs [chk ([AV.sl 0 (9 : Nat) (0 : Nat) (0 : Nat) m none, AV.v (Value.func (Fn.func (74 : FuncId)) (Array.mk []) (Array.mk [])), AV.v (.int .i64 (m : Int)), AV.v (.int .i64 0)] = [AV.sl 0 (9 : Nat) (0 : Nat) (0 : Nat) m none, fnIc, AV.v (.int .i64 (m : Int)), AV.v (.int .i64 0)] ∧ Hsim [AB.row false m 9 (row9 f) t] (hpIb m f t))] (bif noneTo bad m then Res.out .ret [AV.v (.int .i64 (-1 : Int))] [AB.row false m 9 (row9 f) t] else Res.out .ret [AV.v (.int .i64 (fstAt bad m))] [AB.row false m 9 (row9 f) t]) := by kernel_rfl

def FifO (o : List Wh → Nat → Bool) (id : Nat) : List SA → Option FR
  | [.row m g, .v (.func (.func f) ⟨[]⟩ ⟨[]⟩)] => some { val := .v (i64 (fstAt (o (listW (itW g) m)) m)), obl := [Nat.beq f id, allW m g, decide (m ≤ 2 ^ 38)] }
  | _ => none
def md_if : List Md := [.rd 9 60, .val]
theorem treeDVI (o : List Wh → Nat → Bool) (m : Nat) (f : Nat → Nat → Int) (t : TypeId) : execF Tryz.prog (ext g0 69 (specR md_if (FifO o 134))) noLam 100 Tryz.f75 [.sl 0 9 0 0 m none] [.row false m 9 (row9 f) t] (packK 1)
    = bif decide ((m : Int) ≤ (12 : Int)) then needs [Nat.ble ((0 : Nat) + m) m, allW m fun q ↦ row9 f ((0 : Nat) + q), decide (m ≤ (274877906944 : Nat))] (Res.out .ret [AV.v (.bool !decide (fstAt (o (listW (itW fun q ↦ row9 f ((0 : Nat) + q)) m)) m ≥ (0 : Int)))] [AB.row false m 9 (row9 f) t]) else Res.out .ret [AV.v (.bool false)] [AB.row false m 9 (row9 f) t] := by kernel_rfl

def badIa (f : Nat → Nat → Int) (x : Int) (i : Nat) : Bool := f i 0 == x
theorem sumIa (m : Nat) (f : Nat → Nat → Int) (t t2 : TypeId) (x : Nat → Int) (hm : m ≤ 2 ^ 40) :
    SumOk Tryz.prog 2 (.block 0 (.loop (loopAt 0 fIFW))) (atS 19 (lvIF .normal) 2 [.own 0 m, fnIa, .v (i64 m), .v (i64 (0 : Nat))] (hpIa m f t t2 x) (fun K => cond (noneTo (badIa f (x 0)) m) (K .normal (mkT 0 19 []) (hpIa m f t t2 x)) (K .ret (mkT 0 19 [(4, .v (i64 (fstAt (badIa f (x 0)) m)))]) (hpIa m f t t2 x)))) := by
  refine for_at g0_ok (n := 100) (m := 2) (lv := lvIF) (fun i => [.own 0 m, fnIa, .v (i64 m), .v (i64 (i : Nat))]) (fun _ => hpIa m f t t2 x) (fun i => noneTo (badIa f (x 0)) i = true) m (fun _ => noLam) (lv3_ris rfl rfl rfl) (Nat.le_refl _) rfl fun K Q hk i hi him => ⟨noLam_ok _ _ _, ?_⟩
  rw [rndIa]
  refine good_cond (fun c1 => ?_) fun c1 => ?_
  · have c1 := of_decide_eq_true c1
    have c1' : i < m := by omega
    rw [Int.toNat_natCast, wr_in (x := (i : Int) + 1) (by omega)]
    refine good_needs (by simp only [ob_cons, ob_nil, and_true, decide_eq_true_eq]; omega) ?_
    refine good_cond (fun q => ?_) fun q => ?_
    · refine good_out ⟨_, Hsim.refl _, ?_⟩
      rw [noneTo_no c1' q, fstAt_at hi c1' q] at hk
      exact hk
    · exact good_out ⟨i + 1, ⟨rfl, c1', noneTo_succ hi q⟩, rfl, Hsim.refl _⟩
  · have c1 := of_decide_eq_false c1
    have : i = m := by omega
    subst this
    refine good_out ⟨_, Hsim.refl _, ?_⟩
    rw [if_pos rfl]
    rw [hi] at hk
    exact hk

def badIb (ok : (Nat → Int) → Bool) (f : Nat → Nat → Int) (i : Nat) : Bool := bif !inR (f i 0) (-1000) 1000 then true else !ok (v8 (f i 1) (f i 2) (f i 3) (f i 4) (f i 5) (f i 6) (f i 7) (f i 8))
theorem sumIb {ok : (Nat → Int) → Bool} (hΓ : GamOk Tryz.prog (gmIb ok)) (m : Nat) (f : Nat → Nat → Int) (t : TypeId) (hm : m ≤ 2 ^ 40) :
    SumOk Tryz.prog 1 (.block 0 (.loop (loopAt 0 fIFW))) (atS 19 (lvIF .normal) 1 [.sl 0 9 0 0 m none, fnIb, .v (i64 m), .v (i64 (0 : Nat))] (hpIb m f t) (fun K => cond (noneTo (badIb ok f) m) (K .normal (mkT 0 19 []) (hpIb m f t)) (K .ret (mkT 0 19 [(4, .v (i64 (fstAt (badIb ok f) m)))]) (hpIb m f t)))) := by
  refine for_at hΓ (n := 100) (m := 1) (lv := lvIF) (fun i => [.sl 0 9 0 0 m none, fnIb, .v (i64 m), .v (i64 (i : Nat))]) (fun _ => hpIb m f t) (fun i => noneTo (badIb ok f) i = true) m (fun _ => noLam) (lv3_ris rfl rfl rfl) (Nat.le_refl _) rfl fun K Q hk i hi him => ⟨noLam_ok _ _ _, ?_⟩
  rw [rndIb]
  refine good_cond (fun c1 => ?_) fun c1 => ?_
  · have c1 := of_decide_eq_true c1
    have c1' : i < m := by omega
    rw [Int.toNat_natCast, Nat.zero_add, wr_in (x := (i : Int) + 1) (by omega)]
    refine good_needs (by simp only [ob_cons, ob_nil, and_true, decide_eq_true_eq]; omega) ?_
    refine good_cond (fun q => ?_) fun q => ?_
    · have q' : badIb ok f i = true := by unfold badIb; rw [q]; rfl
      refine good_out ⟨_, Hsim.refl _, ?_⟩
      rw [noneTo_no c1' q', fstAt_at hi c1' q'] at hk
      exact hk
    · refine good_cond (fun q2 => ?_) fun q2 => ?_
      · have q' : badIb ok f i = true := by unfold badIb; rw [q]; exact q2
        refine good_out ⟨_, Hsim.refl _, ?_⟩
        rw [noneTo_no c1' q', fstAt_at hi c1' q'] at hk
        exact hk
      · have q' : badIb ok f i = false := by unfold badIb; rw [q]; exact q2
        exact good_out ⟨i + 1, ⟨rfl, c1', noneTo_succ hi q'⟩, rfl, Hsim.refl _⟩
  · have c1 := of_decide_eq_false c1
    have : i = m := by omega
    subst this
    refine good_out ⟨_, Hsim.refl _, ?_⟩
    rw [if_pos rfl]
    rw [hi] at hk
    exact hk

def badIc (f : Nat → Nat → Int) (i : Nat) : Bool := isZ8 (f i)
theorem sumIc (m : Nat) (f : Nat → Nat → Int) (t : TypeId) (hm : m ≤ 2 ^ 40) :
    SumOk Tryz.prog 1 (.block 0 (.loop (loopAt 0 fIFW))) (atS 19 (lvIF .normal) 1 [.sl 0 9 0 0 m none, fnIc, .v (i64 m), .v (i64 (0 : Nat))] (hpIb m f t) (fun K => cond (noneTo (badIc f) m) (K .normal (mkT 0 19 []) (hpIb m f t)) (K .ret (mkT 0 19 [(4, .v (i64 (fstAt (badIc f) m)))]) (hpIb m f t)))) := by
  refine for_at g0_ok (n := 100) (m := 1) (lv := lvIF) (fun i => [.sl 0 9 0 0 m none, fnIc, .v (i64 m), .v (i64 (i : Nat))]) (fun _ => hpIb m f t) (fun i => noneTo (badIc f) i = true) m (fun _ => noLam) (lv3_ris rfl rfl rfl) (Nat.le_refl _) rfl fun K Q hk i hi him => ⟨noLam_ok _ _ _, ?_⟩
  rw [rndIc]
  refine good_cond (fun c1 => ?_) fun c1 => ?_
  · have c1 := of_decide_eq_true c1
    have c1' : i < m := by omega
    rw [Int.toNat_natCast, Nat.zero_add, wr_in (x := (i : Int) + 1) (by omega)]
    refine good_needs (by simp only [ob_cons, ob_nil, and_true, decide_eq_true_eq]; omega) ?_
    refine good_cond (fun q => ?_) fun q => ?_
    · refine good_out ⟨_, Hsim.refl _, ?_⟩
      rw [noneTo_no c1' q, fstAt_at hi c1' q] at hk
      exact hk
    · exact good_out ⟨i + 1, ⟨rfl, c1', noneTo_succ hi q⟩, rfl, Hsim.refl _⟩
  · have c1 := of_decide_eq_false c1
    have : i = m := by omega
    subst this
    refine good_out ⟨_, Hsim.refl _, ?_⟩
    rw [if_pos rfl]
    rw [hi] at hk
    exact hk

def F_ifa : List AV → List AB → Option HR
  | [.own 0 m, .fn 70 [.ptr 1 0 0 0]], [.row false n 9 g t, .cells [.v (.int .i64 x0), .v (.int .i64 x1), .v (.int .i64 x2), .v (.int .i64 x3), .v (.int .i64 x4), .v (.int .i64 x5), .v (.int .i64 x6), .v (.int .i64 x7), .v (.int .i64 x8)] t2] => some { val := .v (i64 (fstAt (badIa (itW g) x0) m)), out := [.row false n 9 g t, .cells [.v (.int .i64 x0), .v (.int .i64 x1), .v (.int .i64 x2), .v (.int .i64 x3), .v (.int .i64 x4), .v (.int .i64 x5), .v (.int .i64 x6), .v (.int .i64 x7), .v (.int .i64 x8)] t2], obl := [Nat.beq n m, allW m g, decide (m ≤ 2 ^ 38)] }
  | _, _ => none
def v9 (s x1 x2 x3 x4 x5 x6 x7 x8 : Int) : Nat → Int := whN ⟨s, ⟨x1, x2, x3, x4, x5, x6, x7, x8⟩⟩
theorem ok_ifa : SpecOk Tryz.prog 69 (specH [true] F_ifa) := by
  refine specH_ok g0_ok Tryz.func69 rfl fun avs H hr hF ho => ?_
  unfold F_ifa at hF
  split at hF
  · rename_i m n g t x0 x1 x2 x3 x4 x5 x6 x7 x8 t2
    cases hF
    simp only [ob_cons] at ho
    obtain ⟨h0, h1, h2, _⟩ := ho
    have h0 := Nat.eq_of_beq_eq_true h0
    subst h0
    have hm := of_decide_eq_true h2
    refine ⟨hpIa n (itW g) t t2 (v9 x0 x1 x2 x3 x4 x5 x6 x7 x8), lamIa n (itW g) t t2 (v9 x0 x1 x2 x3 x4 x5 x6 x7 x8) (badIa (itW g) x0), 100, .cons (ABeq.row fun j hj => allW_get h1 j hj) (.cons rfl .nil), lam1 (by kernel_rfl) (sumIa n (itW g) t t2 (v9 x0 x1 x2 x3 x4 x5 x6 x7 x8) (by omega)), ?_⟩
    show GoodQ (execF Tryz.prog g0 (lamIa n (itW g) t t2 (v9 x0 x1 x2 x3 x4 x5 x6 x7 x8) (badIa (itW g) x0)) 100 fIFW [.own 0 n, fnIa] (hpIa n (itW g) t t2 (v9 x0 x1 x2 x3 x4 x5 x6 x7 x8)) (packK 2)) _
    rw [treeIa]
    refine good_needs (by rw [ob_cons]; exact ⟨chk_of ⟨rfl, Hsim.refl _⟩, rfl⟩) (good_cond (fun q => ?_) fun q => ?_)
    · exact good_out ⟨by rw [fstAt_no q], .cons (ABeq.row fun j hj => (allW_get h1 j hj).symm) (.cons rfl .nil)⟩
    · exact good_out ⟨rfl, .cons (ABeq.row fun j hj => (allW_get h1 j hj).symm) (.cons rfl .nil)⟩
  · cases hF

def badLb (L : List Wh) : Nat → Bool := badIb (fun v => cyOk (cyOf v)) (wfun L)
def badLc (L : List Wh) : Nat → Bool := badIc (wfun L)
theorem wfun_list (f : Nat → Nat → Int) {m j : Nat} (hj : j < m) : ∀ k, k < 9 → wfun (listW f m) j k = f j k := fun k hk => by
  simp only [wfun, listW_get f hj]
  exact whN_of (f j) k hk
theorem badLb_eq (f : Nat → Nat → Int) {m j : Nat} (hj : j < m) : badIb (fun v => cyOk (cyOf v)) f j = badLb (listW f m) j := by
  simp only [badLb, badIb, wfun_list f hj 0 (by omega), wfun_list f hj 1 (by omega), wfun_list f hj 2 (by omega), wfun_list f hj 3 (by omega), wfun_list f hj 4 (by omega), wfun_list f hj 5 (by omega), wfun_list f hj 6 (by omega), wfun_list f hj 7 (by omega), wfun_list f hj 8 (by omega)]
theorem badLc_eq (f : Nat → Nat → Int) {m j : Nat} (hj : j < m) : badIc f j = badLc (listW f m) j := by
  simp only [badLc, badIc, isZ8, wfun_list f hj 1 (by omega), wfun_list f hj 2 (by omega), wfun_list f hj 3 (by omega), wfun_list f hj 4 (by omega), wfun_list f hj 5 (by omega), wfun_list f hj 6 (by omega), wfun_list f hj 7 (by omega), wfun_list f hj 8 (by omega)]
theorem gmIb_ok : GamOk Tryz.prog (gmIb (fun v => cyOk (cyOf v))) := by
  unfold gmIb
  rw [fOkc_eq]
  exact ext_ok gm_within_ok ok_cvI

theorem ok_ifb : SpecOk Tryz.prog 69 (specR md_if (FifO badLb 134)) := by
  refine specR_hr gmIb_ok Tryz.func69 rfl fun sas fr hF ho => ?_
  unfold FifO at hF
  split at hF
  · rename_i m g fi
    cases hF
    simp only [ob_cons] at ho
    obtain ⟨h0, h1, h2, _⟩ := ho
    have h0 := Nat.eq_of_beq_eq_true h0
    subst h0
    have hm := of_decide_eq_true h2
    have eb : noneTo (badLb (listW (itW g) m)) m = noneTo (badIb (fun v => cyOk (cyOf v)) (itW g)) m := noneTo_congr fun j hj => (badLb_eq (itW g) hj).symm
    have ef : fstAt (badLb (listW (itW g) m)) m = fstAt (badIb (fun v => cyOk (cyOf v)) (itW g)) m := fstAt_congr fun j hj => (badLb_eq (itW g) hj).symm
    refine ⟨hpIb m (itW g) 60, lamIb fnIb m (itW g) 60 (badIb (fun v => cyOk (cyOf v)) (itW g)), 100, .cons (ABeq.row fun j hj => allW_get h1 j hj) .nil, lam1 (by kernel_rfl) (sumIb gmIb_ok m (itW g) 60 (by omega)), ?_⟩
    show GoodQ (execF Tryz.prog (gmIb fun v => cyOk (cyOf v)) (lamIb fnIb m (itW g) 60 (badIb (fun v => cyOk (cyOf v)) (itW g))) 100 fIFW [.sl 0 9 0 0 m none, fnIb] (hpIb m (itW g) 60) (packK 1)) _
    rw [treeIb, ef]
    refine good_needs (by rw [ob_cons]; exact ⟨chk_of ⟨rfl, Hsim.refl _⟩, rfl⟩) (good_cond (fun q => ?_) fun q => ?_)
    · exact good_out ⟨_, rfl, by rw [fstAt_no q], .cons (ABeq.row fun j hj => (allW_get h1 j hj).symm) .nil⟩
    · exact good_out ⟨_, rfl, rfl, .cons (ABeq.row fun j hj => (allW_get h1 j hj).symm) .nil⟩
  · cases hF

theorem ok_ifc : SpecOk Tryz.prog 69 (specR md_if (FifO badLc 74)) := by
  refine specR_hr g0_ok Tryz.func69 rfl fun sas fr hF ho => ?_
  unfold FifO at hF
  split at hF
  · rename_i m g fi
    cases hF
    simp only [ob_cons] at ho
    obtain ⟨h0, h1, h2, _⟩ := ho
    have h0 := Nat.eq_of_beq_eq_true h0
    subst h0
    have hm := of_decide_eq_true h2
    have eb : noneTo (badLc (listW (itW g) m)) m = noneTo (badIc (itW g)) m := noneTo_congr fun j hj => (badLc_eq (itW g) hj).symm
    have ef : fstAt (badLc (listW (itW g) m)) m = fstAt (badIc (itW g)) m := fstAt_congr fun j hj => (badLc_eq (itW g) hj).symm
    refine ⟨hpIb m (itW g) 60, lamIb fnIc m (itW g) 60 (badIc (itW g)), 100, .cons (ABeq.row fun j hj => allW_get h1 j hj) .nil, lam1 (by kernel_rfl) (sumIc m (itW g) 60 (by omega)), ?_⟩
    show GoodQ (execF Tryz.prog g0 (lamIb fnIc m (itW g) 60 (badIc (itW g))) 100 fIFW [.sl 0 9 0 0 m none, fnIc] (hpIb m (itW g) 60) (packK 1)) _
    rw [treeIc, ef]
    refine good_needs (by rw [ob_cons]; exact ⟨chk_of ⟨rfl, Hsim.refl _⟩, rfl⟩) (good_cond (fun q => ?_) fun q => ?_)
    · exact good_out ⟨_, rfl, by rw [fstAt_no q], .cons (ABeq.row fun j hj => (allW_get h1 j hj).symm) .nil⟩
    · exact good_out ⟨_, rfl, rfl, .cons (ABeq.row fun j hj => (allW_get h1 j hj).symm) .nil⟩
  · cases hF

theorem badLb_ok (L : List Wh) : okD L = (decide (L.length ≤ 12) && noneTo (badLb L) L.length) := by
  have := okD_list (wfun L) L.length
  rw [listW_fun] at this
  rw [this]
  congr 1
  refine noneTo_congr fun j _ => ?_
  simp only [badDV, badLb, badIb]
  cases inR (wfun L j 0) (-1000) 1000 <;> simp
theorem ok_dvI : SpecOk Tryz.prog 75 (specR md_ws F_dv) := by
  refine specR_hr (ext_ok g0_ok ok_ifb) Tryz.func75 rfl fun sas fr hF ho => ?_
  unfold F_dv at hF
  split at hF
  · rename_i m g
    cases hF
    simp only [ob_cons] at ho
    obtain ⟨h1, h2, _⟩ := ho
    have hm := of_decide_eq_true h2
    refine ⟨[.row false m 9 (row9 (itW g)) 60], noLam, 100, .cons (ABeq.row fun j hj => allW_get h1 j hj) .nil, noLam' _, ?_⟩
    show GoodQ (execF Tryz.prog (ext g0 69 (specR md_if (FifO badLb 134))) noLam 100 Tryz.f75 [.sl 0 9 0 0 m none] [.row false m 9 (row9 (itW g)) 60] (packK 1)) _
    rw [treeDVI]
    have e := badLb_ok (listW (itW g) m)
    rw [listW_length] at e
    have fin : ∀ b, okD (listW (itW g) m) = b → GoodQ (.out .ret [.v (.bool b)] [.row false m 9 (row9 (itW g)) 60]) (GivR (abP md_ws [.row m g] []) { val := .v (.bool (okD (listW (itW g) m))), obl := [allW m g, decide (m ≤ 2 ^ 39)] }) := fun b hb =>
      good_out ⟨_, rfl, by rw [hb], .cons (ABeq.row fun j hj => (allW_get h1 j hj).symm) .nil⟩
    have z : (fun q => row9 (itW g) (0 + q)) = row9 (itW g) := by funext q; rw [Nat.zero_add]
    rw [z, listW_itW, fstAt_ge, Bool.not_not]
    refine good_cond (fun c => ?_) fun c => ?_
    · have c' := of_decide_eq_true c
      have c2 : m ≤ 12 := by omega
      refine good_needs (by simp only [ob_cons, ob_nil, and_true]; exact ⟨by rw [Nat.zero_add]; simp, allW_row _ _, decide_eq_true (by omega)⟩) (fin _ (e.trans (by rw [decide_eq_true c2]; rfl)))
    · have c' := of_decide_eq_false c
      have c2 : ¬ m ≤ 12 := by omega
      exact fin _ (e.trans (by rw [decide_eq_false c2]; rfl))
  · cases hF

end Go.Proofs.YtddhmidegldhdaaGreatDoor

/- DeleteFunc on wheels: those whose radius is nothing are left out. Conditions: a list of wheels. -/
namespace Go.Proofs.YtddhmidegldhdaaGreatDoor
open Go.RowKit
set_option maxRecDepth 100000

abbrev fnId : AV := .fn 74 []
noncomputable abbrev fDF : Func := Tryz.f73
abbrev lvDF : Ex → List Nat := lv3 [0, 1, 5, 6] [0, 5] [4]
abbrev hpDF (m : Nat) (h : Nat → Nat → Int) (t : TypeId) : List AB := [.row true m 9 (row9 h) t]
abbrev stDF (m k j : Nat) : List AV := [.own 0 m, fnId, .v (i64 k), .v (i64 j)]
theorem rndDF_h (m : Nat) (h : Nat → Nat → Int) (t : TypeId) (k j : Nat) (u0 : _) (hu0 : (Int.toNat (↑j : Int)) = u0) (u2 : _) (hu2 : (AV.v (.int .i64 (IntKind.wrap .i64 ((↑j : Int) + (1 : Int))))) = u2) (u3 : _) (hu3 : (↑k : Int) = u3) (u4 : _) (hu4 : (0 : Int) = u4) (u1 : _) (hu1 : (Int.toNat u3) = u1) : execC Tryz.prog g0 100 noLam (loopAt 0 fDF) (mkT 0 42 ((lvDF .normal).zip (stDF m k j))) (hpDF m h t) (leafV 42 lvDF 1)
    = bif decide ((↑j : Int) < (m : Int)) then needs [decide ((↑j : Int) < (m : Int)), decide (Int.toNat (↑j : Int) < m)] (bif !(h u0 (1 : Nat) == u4 && (h u0 (2 : Nat) == u4 && (h u0 (3 : Nat) == u4 && (h u0 (4 : Nat) == u4 && (h u0 (5 : Nat) == u4 && (h u0 (6 : Nat) == u4 && (h u0 (7 : Nat) == u4 && (h u0 (8 : Nat) == u4 && true))))))) && true) then needs [decide (u3 < (m : Int)), decide (Int.toNat u3 < m)] (Res.out .normal [AV.own 0 m, AV.fn (74 : FuncId) [], AV.v (.int .i64 (IntKind.wrap .i64 (u3 + (1 : Int)))), u2] [AB.row true m 9 (fun q ↦ [Value.int .i64 (bif Nat.beq q u1 then h u0 (0 : Nat) else h q (0 : Nat)), Value.int .i64 (bif Nat.beq q u1 then h u0 (1 : Nat) else h q (1 : Nat)), Value.int .i64 (bif Nat.beq q u1 then h u0 (2 : Nat) else h q (2 : Nat)), Value.int .i64 (bif Nat.beq q u1 then h u0 (3 : Nat) else h q (3 : Nat)), Value.int .i64 (bif Nat.beq q u1 then h u0 (4 : Nat) else h q (4 : Nat)), Value.int .i64 (bif Nat.beq q u1 then h u0 (5 : Nat) else h q (5 : Nat)), Value.int .i64 (bif Nat.beq q u1 then h u0 (6 : Nat) else h q (6 : Nat)), Value.int .i64 (bif Nat.beq q u1 then h u0 (7 : Nat) else h q (7 : Nat)), Value.int .i64 (bif Nat.beq q u1 then h u0 (8 : Nat) else h q (8 : Nat))]) t]) else Res.out .normal [AV.own 0 m, AV.fn (74 : FuncId) [], AV.v (.int .i64 u3), u2] [AB.row true m 9 (row9 h) t]) else Res.out (Ex.exit (0 : Nat)) [AV.own 0 m, AV.v (.int .i64 u3)] [AB.row true m 9 (row9 h) t] := by
  subst hu1 hu4 hu3 hu2 hu0
  kernel_rfl
theorem rndDF (m : Nat) (h : Nat → Nat → Int) (t : TypeId) (k j : Nat) : type_of% (rndDF_h m h t k j _ rfl _ rfl _ rfl _ rfl _ rfl) := rndDF_h m h t k j _ rfl _ rfl _ rfl _ rfl _ rfl

def gmDF (o : List Wh → Nat → Bool) : Gam := ext g0 69 (specR md_if (FifO o 74))
noncomputable abbrev lamDF (m k0 j0 : Nat) (h : Nat → Nat → Int) (t : TypeId) (k : Nat) (h2 : Nat → Nat → Int) : Nat → Option Sum := oneL 0 (atS 42 (lvDF .normal) 1 (stDF m k0 j0) (hpDF m h t) (fun K => K .normal (mkT 0 42 [(0, .own 0 m), (5, .v (i64 k))]) (hpDF m h2 t)))
theorem treeDF_h (o : List Wh → Nat → Bool) (m k0 j0 : Nat) (h : Nat → Nat → Int) (t : TypeId) (k : Nat) (h2 : Nat → Nat → Int) (u2 : _) (hu2 : (m : Int) = u2) (u3 : _) (hu3 : (0 : Int) = u3) (u4 : _) (hu4 : (o (listW (itW (row9 h)) m)) = u4) (u5 : _) (hu5 : (↑k : Int) = u5) (u0 : _) (hu0 : (Int.toNat u5 + Int.toNat (u2 - u5)) = u0) (u1 : _) (hu1 : (Int.toNat u5) = u1) : execF Tryz.prog (gmDF o) (lamDF m k0 j0 h t k h2) 100 fDF [.own 0 m, fnId] (hpDF m h t) (packK 1)
    = needs [Nat.ble m m, allW m (row9 h), decide (m ≤ (274877906944 : Nat))] (bif fstAt u4 m == (-1 : Int) then Res.out .ret [AV.own 0 m] [AB.row true m 9 (row9 h) t] else needs [chk ([AV.own 0 m, AV.fn (74 : FuncId) [], AV.v (.int .i64 (fstAt u4 m)), AV.v (.int .i64 (IntKind.wrap .i64 (fstAt u4 m + (1 : Int))))] = stDF m k0 j0 ∧ Hsim [AB.row true m 9 (row9 h) t] (hpDF m h t)), decide (u5 ≤ u2), decide (u2 ≤ u2), decide (u2 ≤ u2), Nat.ble m m, Nat.ble u0 m, decide (u5 ≤ u2), decide (u2 ≤ u2), Nat.ble m m] (Res.out .ret [AV.sl 0 (9 : Nat) (0 : Nat) (0 : Nat) (Int.toNat (u5 - u3)) none] [AB.row true m 9 (fun q ↦ [Value.int .i64 (bif Nat.ble u1 q && Nat.blt q u0 then u3 else h2 q (0 : Nat)), Value.int .i64 (bif Nat.ble u1 q && Nat.blt q u0 then u3 else h2 q (1 : Nat)), Value.int .i64 (bif Nat.ble u1 q && Nat.blt q u0 then u3 else h2 q (2 : Nat)), Value.int .i64 (bif Nat.ble u1 q && Nat.blt q u0 then u3 else h2 q (3 : Nat)), Value.int .i64 (bif Nat.ble u1 q && Nat.blt q u0 then u3 else h2 q (4 : Nat)), Value.int .i64 (bif Nat.ble u1 q && Nat.blt q u0 then u3 else h2 q (5 : Nat)), Value.int .i64 (bif Nat.ble u1 q && Nat.blt q u0 then u3 else h2 q (6 : Nat)), Value.int .i64 (bif Nat.ble u1 q && Nat.blt q u0 then u3 else h2 q (7 : Nat)), Value.int .i64 (bif Nat.ble u1 q && Nat.blt q u0 then u3 else h2 q (8 : Nat))]) t])) := by
  subst hu1 hu0 hu5 hu4 hu3 hu2
  kernel_rfl
theorem treeDF (o : List Wh → Nat → Bool) (m k0 j0 : Nat) (h : Nat → Nat → Int) (t : TypeId) (k : Nat) (h2 : Nat → Nat → Int) : type_of% (treeDF_h o m k0 j0 h t k h2 _ rfl _ rfl _ rfl _ rfl _ rfl _ rfl) := treeDF_h o m k0 j0 h t k h2 _ rfl _ rfl _ rfl _ rfl _ rfl _ rfl

theorem beq_ne {a b : Nat} (h : a ≠ b) : Nat.beq a b = false := by
  cases hb : Nat.beq a b with
  | false => rfl
  | true => exact (h (Nat.eq_of_beq_eq_true hb)).elim
abbrev kDF (f : Nat → Nat → Int) (j : Nat) : Nat := (nonZ (listW f j)).length
abbrev hDF (f : Nat → Nat → Int) (m j : Nat) : Nat → Nat → Int := wfun (delR f m j)
theorem isZ8_congr {f g : Nat → Int} (h : ∀ k, k < 9 → f k = g k) : isZ8 f = isZ8 g := by
  simp only [isZ8, h 1 (by omega), h 2 (by omega), h 3 (by omega), h 4 (by omega), h 5 (by omega), h 6 (by omega), h 7 (by omega), h 8 (by omega)]
theorem sumDF (m j0 : Nat) (f : Nat → Nat → Int) (t : TypeId) (hm : m ≤ 2 ^ 38) (hj : j0 ≤ m) :
    SumOk Tryz.prog 1 (.block 0 (.loop (loopAt 0 fDF))) (atS 42 (lvDF .normal) 1 (stDF m (kDF f j0) j0) (hpDF m (hDF f m j0) t) (fun K => K .normal (mkT 0 42 [(0, .own 0 m), (5, .v (i64 (kDF f m)))]) (hpDF m (hDF f m m) t))) := by
  refine for_at g0_ok (n := 100) (m := 1) (lv := lvDF) (fun i => stDF m (kDF f (j0 + i)) (j0 + i)) (fun i => hpDF m (hDF f m (j0 + i)) t) (fun _ => True) (m - j0) (fun _ => noLam) (lv3_ris rfl rfl rfl) (Nat.le_refl _) trivial fun K Q hk i hi him => ⟨noLam_ok _ _ _, ?_⟩
  have hl : kDF f (j0 + i) ≤ j0 + i := nonZ_le f (j0 + i)
  rw [rndDF]
  refine good_cond (fun c1 => ?_) fun c1 => ?_
  · have c1 := of_decide_eq_true c1
    have c1' : j0 + i < m := by omega
    have e1 : IntKind.wrap IntKind.i64 (((j0 + i : Nat) : Int) + 1) = ((j0 + (i + 1) : Nat) : Int) := by rw [wr_in (by omega)]; omega
    have e2 : IntKind.wrap IntKind.i64 (((kDF f (j0 + i) : Nat) : Int) + 1) = ((kDF f (j0 + i) + 1 : Nat) : Int) := by rw [wr_in (by omega)]; omega
    have hz : isZ8 (hDF f m (j0 + i) (j0 + i)) = isZ8 (f (j0 + i)) := isZ8_congr (delR_get f (Nat.le_refl _) c1')
    simp only [Int.toNat_natCast]
    rw [e1, e2]
    refine good_needs (by simp only [ob_cons, ob_nil, and_true, decide_eq_true_eq]; omega) ?_
    show GoodQ (cond (!(isZ8 (hDF f m (j0 + i) (j0 + i)))) _ _) _
    rw [hz]
    cases q : isZ8 (f (j0 + i)) with
    | true =>
      have q2 := delR_yes (m := m) q
      have q3 := nonZ_yes q
      refine good_out ⟨i + 1, ⟨rfl, by omega, trivial⟩, ?_, ?_⟩
      · show _ = stDF m (nonZ (listW f (j0 + i + 1))).length (j0 + (i + 1))
        rw [q3]
      · show Hsim _ (hpDF m (wfun (delR f m (j0 + i + 1))) t)
        rw [q2]
        exact Hsim.refl _
    | false =>
      have q2 := delR_no c1' q
      have q3 := nonZ_no q
      refine good_needs (by simp only [ob_cons, ob_nil, and_true, decide_eq_true_eq]; omega) (good_out ⟨i + 1, ⟨rfl, by omega, trivial⟩, ?_, ?_⟩)
      · show _ = stDF m (nonZ (listW f (j0 + i + 1))).length (j0 + (i + 1))
        rw [q3, List.length_append]
        rfl
      · show Hsim _ (hpDF m (wfun (delR f m (j0 + i + 1))) t)
        rw [q2]
        refine .cons (ABeq.row fun q hq => ?_) .nil
        show row9 (fun q k => bif Nat.beq q (kDF f (j0 + i)) then hDF f m (j0 + i) (j0 + i) k else hDF f m (j0 + i) q k) q = _
        refine row9_congr fun k hk => ?_
        rw [wfun_set _ _ _ _ (by rw [delR_length f (by omega)]; show kDF f (j0 + i) < m; omega)]
        by_cases e : q = kDF f (j0 + i)
        · rw [e, if_pos rfl, show Nat.beq (kDF f (j0 + i)) (kDF f (j0 + i)) = true from Nat.beq_refl _, cond_true, whN_of (f (j0 + i)) k hk]
          exact delR_get f (Nat.le_refl _) c1' k hk
        · rw [if_neg e, beq_ne e, cond_false]
  · have c1 := of_decide_eq_false c1
    have : j0 + i = m := by omega
    rw [this]
    have hi' : i = m - j0 := by omega
    refine good_out ⟨_, Hsim.refl _, ?_⟩
    rw [if_pos rfl]
    exact hk

def F_del : List AV → List AB → Option HR
  | [.own 0 m, .fn fi []], [.row true n 9 g t] => some { val := .sl 0 9 0 0 (nonZ (listW (itW g) m)).length none, out := [.row true m 9 (row9 (wfun (nonZ (listW (itW g) m)))) t], obl := [Nat.beq fi 74, Nat.beq n m, allW m g, decide (m ≤ 2 ^ 38)] }
  | _, _ => none
theorem gmDF_ok : GamOk Tryz.prog (gmDF badLc) := ext_ok g0_ok ok_ifc
theorem ok_del : SpecOk Tryz.prog 73 (specH [] F_del) := by
  refine specH_wk gmDF_ok Tryz.func73 rfl fun avs H hr hF ho => ?_
  unfold F_del at hF
  split at hF
  · rename_i m fi n g t
    cases hF
    simp only [ob_cons] at ho
    obtain ⟨h3, h0, h1, h2, _⟩ := ho
    have h0 := Nat.eq_of_beq_eq_true h0
    have h3 := Nat.eq_of_beq_eq_true h3
    subst h0 h3
    have hm := of_decide_eq_true h2
    have hg : ∀ j, j < n → g j = row9 (itW g) j := fun j hj => allW_get h1 j hj
    generalize itW g = f at *
    have hL : listW (itW (row9 (wfun (listW f n)))) n = listW f n := by
      have := listW_fun (listW f n)
      rwa [listW_length] at this
    have eb : fstAt (badLc (listW f n)) n = fstAt (fun j => isZ8 (f j)) n := fstAt_congr fun j hj => (badLc_eq f hj).symm
    have key : ∀ j0, j0 ≤ n → delR f n j0 = listW f n → GoodQ (execF Tryz.prog (gmDF badLc) (lamDF n (kDF f j0) j0 (hDF f n j0) t (kDF f n) (hDF f n n)) 100 fDF [.own 0 n, fnId] (hpDF n (hDF f n j0) t) (packK 1)) (GivW { val := .sl 0 9 0 0 (nonZ (listW f n)).length none, out := [.row true n 9 (row9 (wfun (nonZ (listW f n)))) t], obl := [Nat.beq 74 74, Nat.beq n n, allW n g, decide (n ≤ 2 ^ 38)] }) →
        ∃ (H0 : List AB) (Λ : Nat → Option Sum) (n_1 : Nat), Hsim [.row true n 9 g t] H0 ∧ (∀ c, fDF.body = some c → LamOk Tryz.prog H0.length Λ c) ∧ GoodQ (execF Tryz.prog (gmDF badLc) Λ n_1 fDF [.own 0 n, fnId] H0 (packK H0.length)) (GivW { val := .sl 0 9 0 0 (nonZ (listW f n)).length none, out := [.row true n 9 (row9 (wfun (nonZ (listW f n)))) t], obl := [Nat.beq 74 74, Nat.beq n n, allW n g, decide (n ≤ 2 ^ 38)] }) := by
      intro j0 hj e hG
      refine ⟨_, _, 100, .cons (ABeq.row fun j hj => ?_) .nil, lam1 (by kernel_rfl) (sumDF n j0 f t hm hj), hG⟩
      rw [hg j hj]
      show row9 f j = row9 (wfun (delR f n j0)) j
      rw [e, row9_list f hj]
    have fin : nonZ (listW f n) = listW f n → GoodQ (.out .ret [.own 0 n] [.row true n 9 (row9 (wfun (listW f n))) t]) (GivW { val := .sl 0 9 0 0 (nonZ (listW f n)).length none, out := [.row true n 9 (row9 (wfun (nonZ (listW f n)))) t], obl := [Nat.beq 74 74, Nat.beq n n, allW n g, decide (n ≤ 2 ^ 38)] }) := fun e => by
      rw [e, listW_length]
      exact good_out ⟨_, rfl, fun M ν w v hR hv => own_sl rfl (Nat.le_refl _) hR hv, Hsim.refl _⟩
    rcases fstAt_cases (fun j => isZ8 (f j)) n with ⟨q1, q2⟩ | ⟨i0, q0, q1, q3, q4, q2⟩
    · have e0 : delR f n 0 = listW f n := rfl
      refine key 0 (Nat.zero_le _) e0 ?_
      show GoodQ (execF Tryz.prog (gmDF badLc) (lamDF n (kDF f 0) 0 (wfun (delR f n 0)) t (kDF f n) (hDF f n n)) 100 fDF [.own 0 n, fnId] (hpDF n (wfun (delR f n 0)) t) (packK 1)) _
      rw [e0, treeDF, hL, eb, q2]
      exact good_needs (by simp only [ob_cons, ob_nil, and_true, allW_row, decide_eq_true_eq]; exact ⟨by simp, trivial, hm⟩) (good_true rfl (fin (nonZ_none q1)))
    · obtain ⟨e0, e1⟩ := delR_start q0 q1 q3
      refine key (i0 + 1) (by omega) e0 ?_
      have ek : kDF f (i0 + 1) = i0 := e1
      have hk : kDF f n ≤ n := nonZ_le f n
      show GoodQ (execF Tryz.prog (gmDF badLc) (lamDF n (kDF f (i0 + 1)) (i0 + 1) (wfun (delR f n (i0 + 1))) t (kDF f n) (hDF f n n)) 100 fDF [.own 0 n, fnId] (hpDF n (wfun (delR f n (i0 + 1))) t) (packK 1)) _
      rw [e0, ek, treeDF, hL, eb, q2]
      refine good_needs (by simp only [ob_cons, ob_nil, and_true, allW_row, decide_eq_true_eq]; exact ⟨by simp, trivial, hm⟩) (good_false (by simp) ?_)
      rw [wr_in (x := (i0 : Int) + 1) (by omega)]
      simp only [Int.toNat_natCast, Int.sub_zero]
      rw [show Int.toNat ((n : Int) - (kDF f n : Nat)) = n - kDF f n by omega, show kDF f n + (n - kDF f n) = n by omega]
      refine good_needs ?_ (good_out ⟨_, rfl, fun _ _ _ _ _ hv => hv, .cons (ABeq.row fun q hq => ?_) .nil⟩)
      · simp only [ob_cons, ob_nil, and_true, decide_eq_true_eq, Nat.ble_eq]
        refine ⟨chk_of ⟨rfl, Hsim.refl _⟩, ?_⟩
        omega
      · show row9 (fun q k => bif Nat.ble (kDF f n) q && Nat.blt q n then 0 else hDF f n n q k) q = _
        refine row9_congr fun k hk9 => ?_
        have b1 : Nat.blt q n = true := by rw [Nat.blt_eq]; exact hq
        rw [b1, Bool.and_true]
        by_cases hlt : q < kDF f n
        · have b2 : Nat.ble (kDF f n) q = false := by
            cases hb : Nat.ble (kDF f n) q with
            | false => rfl
            | true => rw [Nat.ble_eq] at hb; omega
          rw [b2, cond_false]
          simp only [wfun, delR, List.getElem?_append_left hlt]
        · have b2 : Nat.ble (kDF f n) q = true := by rw [Nat.ble_eq]; omega
          rw [b2, cond_true, wfun_out (show (nonZ (listW f n)).length ≤ q from Nat.le_of_not_lt hlt)]
  · cases hF

end Go.Proofs.YtddhmidegldhdaaGreatDoor
