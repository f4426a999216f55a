/- The abstract machine, 16: small words for contracts with loops. No conditions. -/
import Derived.Test.YtfpebhlkikmgbaaGreatDoorZD0
import Derived.Test.YtfpebhlkikmgbaaGreatDoorZD1
import Derived.Test.YtfpebhlkikmgbaaGreatDoorProg
/- The abstract machine over this seat's program; what its small functions on numbers, exact points and surds return. No conditions beyond those that each contract names. -/
namespace Go.Proofs.YtfpebhlkikmgbaaGreatDoor
open Go.RowKit

theorem mixed : Tryz.prog.follows .mixedOrders = true := by kernel_rfl

theorem names_ok : Tryz.prog.funcs.toList.all (fun fn => !(fn.name == "runtime.NumGoroutine")) = true := by kernel_rfl

theorem enters : Enters Tryz.prog := by
  intro g fn hg hb args w
  have hn : (fn.name == "runtime.NumGoroutine") = false := by
    have := List.all_eq_true.1 names_ok fn (by
      have := (Array.getElem?_eq_some_iff.1 hg)
      obtain ⟨hlt, e⟩ := this
      rw [← e]
      simp)
    simpa using this
  obtain ⟨c, hc⟩ := Option.isSome_iff_exists.1 hb
  have hn' : ¬ fn.name = "runtime.NumGoroutine" := by simpa using hn
  simp [callFunc, hg, hn', hc]

def g0 : Gam := fun _ => none
theorem g0_ok : GamOk Tryz.prog g0 := fun _ _ h => by cases h

structure Good (r : Res) (x : Value) : Prop where
  out : r.ok (Gives x)

theorem mkV {Γ : Gam} (hΓ : GamOk Tryz.prog Γ) {n : Nat} {f : FuncId} {fn : Func} (hf : Tryz.prog.funcs[f]? = some fn) (hb : fn.body.isSome = true) {F : List Value → Option (Value × List Bool)}
    (h : ∀ vs x ob, F vs = some (x, ob) → obls ob = true → Good (execF Tryz.prog Γ noLam n fn (vs.map .v) [] valK) x) : SpecOk Tryz.prog f (specV F) :=
  specV_ok (fun args w => enters f fn hf hb args w) fun vs x ob hF ho w ht => calls_val hΓ mixed enters hf (h vs x ob hF ho).out w ht

abbrev i64 (n : Int) : Value := .int .i64 n
abbrev cyv (a : Nat → Int) : Value := .agg #[.int .i64 (a 0), .int .i64 (a 1), .int .i64 (a 2), .int .i64 (a 3), .int .i64 (a 4), .int .i64 (a 5), .int .i64 (a 6), .int .i64 (a 7)]
def getV (r : Res) : Option Value := match r with | .out _ [v] _ => v.toV | _ => none
theorem one {r : Res} {x : Value} (h : getV r = some x) : Good r x := by
  constructor
  unfold getV at h
  split at h
  · exact ⟨_, rfl, h⟩
  · cases h

def outV (r : Res) : Option Value := getV r
theorem gives_of {r : Res} {x : Value} (h : outV r = some x) : Good r x := one h
theorem outV_cond (b : Bool) (r s : Res) : outV (cond b r s) = cond b (outV r) (outV s) := by cases b <;> rfl
theorem outV_rv (x : Value) : outV (rv x) = some x := rfl
theorem cond_some {α : Type} (b : Bool) (x y : α) : cond b (some x) (some y) = some (cond b x y) := by cases b <;> rfl
theorem cond_bool (b x y : Bool) : cond b (Value.bool x) (Value.bool y) = Value.bool (cond b x y) := by cases b <;> rfl
theorem cond_int (b : Bool) (k : IntKind) (x y : Int) : cond b (Value.int k x) (Value.int k y) = Value.int k (cond b x y) := by cases b <;> rfl

theorem cyv_congr {f g : Nat → Int} (h : ∀ k, k < 8 → f k = g k) : cyv f = cyv g := by
  rw [cyv, h 0 (by decide), h 1 (by decide), h 2 (by decide), h 3 (by decide), h 4 (by decide), h 5 (by decide), h 6 (by decide), h 7 (by decide)]
theorem obl2 {a b : Bool} (h : obls [a, b] = true) : a = true ∧ b = true := by simpa [obls] using h
end Go.Proofs.YtfpebhlkikmgbaaGreatDoor

/- The abstract machine, 16: small words for contracts with loops. No conditions. -/
namespace Go.Proofs.YtfpebhlkikmgbaaGreatDoor
open Go.RowKit

def lv3 (a b c : List Nat) : Ex → List Nat
  | .normal => a
  | .exit _ => b
  | .ret => c

def oneL (id : Nat) (S : Sum) : Nat → Option Sum := fun j => bif Nat.beq j id then some S else none
def loopAt (id : Nat) (fn : Func) : Code := match codeAt id (fn.body.getD .skip) with
  | .block _ (.loop c) :: _ => c
  | _ => .skip

theorem lam1 {P : Program} {m0 id : Nat} {fn : Func} {S : Sum} {c : Code} (h : codeAt id (fn.body.getD .skip) = [.block id (.loop c)]) (hS : SumOk P m0 (.block id (.loop c)) S) : ∀ cc, fn.body = some cc → LamOk P m0 (oneL id S) cc := by
  intro cc hcc j S' hj b hb
  unfold oneL at hj
  cases hjb : Nat.beq j id with
  | false => rw [hjb] at hj; cases hj
  | true =>
    rw [hjb] at hj
    cases hj
    rw [Nat.eq_of_beq_eq_true hjb] at hb
    rw [hcc] at h
    simp only [Option.getD_some] at h
    rw [h] at hb
    simp at hb
    subst hb
    exact hS

structure GoodQ (r : Res) (Q : Ex → List AV → List AB → Prop) : Prop where
  out : r.ok Q

theorem good_cond {Q : Ex → List AV → List AB → Prop} {b : Bool} {r s : Res} (h1 : b = true → GoodQ r Q) (h2 : b = false → GoodQ s Q) : GoodQ (cond b r s) Q := by
  cases b
  · exact h2 rfl
  · exact h1 rfl
theorem good_true {Q : Ex → List AV → List AB → Prop} {b : Bool} {r s : Res} (hb : b = true) (h : GoodQ r Q) : GoodQ (cond b r s) Q := by
  subst hb; exact h
theorem good_false {Q : Ex → List AV → List AB → Prop} {b : Bool} {r s : Res} (hb : b = false) (h : GoodQ s Q) : GoodQ (cond b r s) Q := by
  subst hb; exact h
theorem good_out {Q : Ex → List AV → List AB → Prop} {e : Ex} {T : List AV} {H : List AB} (h : Q e T H) : GoodQ (.out e T H) Q := ⟨h⟩

theorem noLam' (m0 : Nat) {fn : Func} : ∀ c, fn.body = some c → LamOk Tryz.prog m0 noLam c := fun c _ => noLam_ok _ _ c

theorem zip_self {α : Type} (f : Nat → α) : ∀ l : List Nat, l.zip (l.map f) = l.map fun i => (i, f i)
  | [] => rfl
  | a :: l => by simp [zip_self f l]

theorem res_mono {Q Q' : Ex → List AV → List AB → Prop} (h : ∀ e T H, Q e T H → Q' e T H) : ∀ {r : Res}, r.ok Q → r.ok Q'
  | .err, hq => hq
  | .out e T H, hq => h e T H hq

theorem ob_cons {b : Bool} {bs : List Bool} : obls (b :: bs) = true ↔ b = true ∧ obls bs = true := by simp [obls]
theorem beq_me (n : Nat) : Nat.beq n n = true := Nat.beq_refl n
theorem ob_nil : obls [] = true := rfl
theorem good_needs {Q : Ex → List AV → List AB → Prop} {bs : List Bool} {r : Res} (h : obls bs = true) (k : GoodQ r Q) : GoodQ (needs bs r) Q := by
  induction bs with
  | nil => exact k
  | cons b bs ih => rw [ob_cons] at h; rw [h.1] at *; exact ⟨(ih h.2).out⟩

def intOf : Value → Int
  | .int .i64 x => x
  | _ => 0
end Go.Proofs.YtfpebhlkikmgbaaGreatDoor
