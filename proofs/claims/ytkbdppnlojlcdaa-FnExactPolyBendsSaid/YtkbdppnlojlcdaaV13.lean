/- The abstract machine over this seat's program; what its small functions on numbers, exact points and surds return. No conditions beyond those that each contract names. -/
import Derived.Test.YtkbdppnlojlcdaaV12
import Derived.Test.YtkbdppnlojlcdaaProg
import Derived.Test.YtkbdppnlojlcdaaMath
namespace Go.Proofs.Ytkbdppnlojlcdaa
open Go.RowKit

theorem mixed : Try.prog.follows .mixedOrders = true := by kernel_rfl

theorem names_ok : Try.prog.funcs.toList.all (fun fn => !(fn.name == "runtime.NumGoroutine")) = true := by kernel_rfl

theorem enters : Enters Try.prog := by
  intro g fn hg hb args w
  have hn : (fn.name == "runtime.NumGoroutine") = false := by
    have := List.all_eq_true.1 names_ok fn (by
      have := (Array.getElem?_eq_some_iff.1 hg)
      obtain ⟨hlt, e⟩ := this
      rw [← e]
      simp)
    simpa using this
  obtain ⟨c, hc⟩ := Option.isSome_iff_exists.1 hb
  have hn' : ¬ fn.name = "runtime.NumGoroutine" := by simpa using hn
  simp [callFunc, hg, hn', hc]

def g0 : Gam := fun _ => none
theorem g0_ok : GamOk Try.prog g0 := fun _ _ h => by cases h

/-- The result is x. (A word that nothing opens by itself.) -/
structure Good (r : Res) (x : Value) : Prop where
  out : r.ok (Gives x)

/-- A contract for a callee on plain values. -/
theorem mkV {Γ : Gam} (hΓ : GamOk Try.prog Γ) {n : Nat} {f : FuncId} {fn : Func} (hf : Try.prog.funcs[f]? = some fn) (hb : fn.body.isSome = true) {F : List Value → Option (Value × List Bool)}
    (h : ∀ vs x ob, F vs = some (x, ob) → obls ob = true → Good (execF Try.prog Γ noLam n fn (vs.map .v) [] valK) x) : SpecOk Try.prog f (specV F) :=
  specV_ok (fun args w => enters f fn hf hb args w) fun vs x ob hF ho w => calls_val hΓ mixed enters hf (h vs x ob hF ho).out w

abbrev i64 (n : Int) : Value := .int .i64 n
abbrev cyv (a : Nat → Int) : Value := .agg #[.int .i64 (a 0), .int .i64 (a 1), .int .i64 (a 2), .int .i64 (a 3), .int .i64 (a 4), .int .i64 (a 5), .int .i64 (a 6), .int .i64 (a 7)]
abbrev sdv (s : Nat → Int) : Value := .agg #[.int .i64 (s 0), .int .i64 (s 1), .int .i64 (s 2), .int .i64 (s 3)]

def getV (r : Res) : Option Value := match r with | .out _ [v] _ => v.toV | _ => none
theorem one {r : Res} {x : Value} (h : getV r = some x) : Good r x := by
  constructor
  unfold getV at h
  split at h
  · exact ⟨_, rfl, h⟩
  · cases h

/-- The value of a result, through its branches. -/
def outV (r : Res) : Option Value := getV r
theorem gives_of {r : Res} {x : Value} (h : outV r = some x) : Good r x := one h
theorem outV_cond (b : Bool) (r s : Res) : outV (cond b r s) = cond b (outV r) (outV s) := by cases b <;> rfl
theorem outV_rv (x : Value) : outV (rv x) = some x := rfl
theorem cond_some {α : Type} (b : Bool) (x y : α) : cond b (some x) (some y) = some (cond b x y) := by cases b <;> rfl
theorem cond_bool (b x y : Bool) : cond b (Value.bool x) (Value.bool y) = Value.bool (cond b x y) := by cases b <;> rfl
theorem cond_int (b : Bool) (k : IntKind) (x y : Int) : cond b (Value.int k x) (Value.int k y) = Value.int k (cond b x y) := by cases b <;> rfl

theorem cyv_congr {f g : Nat → Int} (h : ∀ k, k < 8 → f k = g k) : cyv f = cyv g := by
  rw [cyv, h 0 (by decide), h 1 (by decide), h 2 (by decide), h 3 (by decide), h 4 (by decide), h 5 (by decide), h 6 (by decide), h 7 (by decide)]
theorem sdv_congr {f g : Nat → Int} (h : ∀ k, k < 4 → f k = g k) : sdv f = sdv g := by
  rw [sdv, h 0 (by decide), h 1 (by decide), h 2 (by decide), h 3 (by decide)]
theorem obl2 {a b : Bool} (h : obls [a, b] = true) : a = true ∧ b = true := by simpa [obls] using h
theorem upto {n : Int} {m : Nat} (h0 : decide (0 ≤ n) = true) (h1 : decide (n ≤ m) = true) {p : Int → Prop} (h : ∀ k : Nat, k ≤ m → p k) : p n := by
  have h0 := of_decide_eq_true h0
  have h1 := of_decide_eq_true h1
  obtain ⟨k, rfl⟩ := Int.eq_ofNat_of_zero_le h0
  exact h k (by omega)

end Go.Proofs.Ytkbdppnlojlcdaa
