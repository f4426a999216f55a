/- The abstract machine, 16: small words for contracts with loops. No conditions. -/
import Derived.Test.YtoligfhcogligaaZS0
import Derived.Test.YtoligfhcogligaaZS1
import Derived.Test.YtoligfhcogligaaProg
/- The abstract machine over this seat's program; what its small functions on numbers, exact points and surds return. No conditions beyond those that each contract names. -/
namespace Go.Proofs.Ytoligfhcogligaa
open Go.RowKit

theorem mixed : Try.prog.follows .mixedOrders = true := by kernel_rfl

theorem names_ok : Try.prog.funcs.toList.all (fun fn => !(fn.name == "runtime.NumGoroutine")) = true := by kernel_rfl

theorem enters : Enters Try.prog := by
  intro g fn hg hb args w
  have hn : (fn.name == "runtime.NumGoroutine") = false := by
    have := List.all_eq_true.1 names_ok fn (by
      have := (Array.getElem?_eq_some_iff.1 hg)
      obtain ⟨hlt, e⟩ := this
      rw [← e]
      simp)
    simpa using this
  obtain ⟨c, hc⟩ := Option.isSome_iff_exists.1 hb
  have hn' : ¬ fn.name = "runtime.NumGoroutine" := by simpa using hn
  simp [callFunc, hg, hn', hc]

def g0 : Gam := fun _ => none
theorem g0_ok : GamOk Try.prog g0 := fun _ _ h => by cases h

/-- The result is x. (A word that nothing opens by itself.) -/
structure Good (r : Res) (x : Value) : Prop where
  out : r.ok (Gives x)

/-- A contract for a callee on plain values. -/
theorem mkV {Γ : Gam} (hΓ : GamOk Try.prog Γ) {n : Nat} {f : FuncId} {fn : Func} (hf : Try.prog.funcs[f]? = some fn) (hb : fn.body.isSome = true) {F : List Value → Option (Value × List Bool)}
    (h : ∀ vs x ob, F vs = some (x, ob) → obls ob = true → Good (execF Try.prog Γ noLam n fn (vs.map .v) [] valK) x) : SpecOk Try.prog f (specV F) :=
  specV_ok (fun args w => enters f fn hf hb args w) fun vs x ob hF ho w => calls_val hΓ mixed enters hf (h vs x ob hF ho).out w

abbrev i64 (n : Int) : Value := .int .i64 n
abbrev cyv (a : Nat → Int) : Value := .agg #[.int .i64 (a 0), .int .i64 (a 1), .int .i64 (a 2), .int .i64 (a 3), .int .i64 (a 4), .int .i64 (a 5), .int .i64 (a 6), .int .i64 (a 7)]
abbrev sdv (s : Nat → Int) : Value := .agg #[.int .i64 (s 0), .int .i64 (s 1), .int .i64 (s 2), .int .i64 (s 3)]

def getV (r : Res) : Option Value := match r with | .out _ [v] _ => v.toV | _ => none
theorem one {r : Res} {x : Value} (h : getV r = some x) : Good r x := by
  constructor
  unfold getV at h
  split at h
  · exact ⟨_, rfl, h⟩
  · cases h

/-- The value of a result, through its branches. -/
def outV (r : Res) : Option Value := getV r
theorem gives_of {r : Res} {x : Value} (h : outV r = some x) : Good r x := one h
theorem outV_cond (b : Bool) (r s : Res) : outV (cond b r s) = cond b (outV r) (outV s) := by cases b <;> rfl
theorem outV_rv (x : Value) : outV (rv x) = some x := rfl
theorem cond_some {α : Type} (b : Bool) (x y : α) : cond b (some x) (some y) = some (cond b x y) := by cases b <;> rfl
theorem cond_bool (b x y : Bool) : cond b (Value.bool x) (Value.bool y) = Value.bool (cond b x y) := by cases b <;> rfl
theorem cond_int (b : Bool) (k : IntKind) (x y : Int) : cond b (Value.int k x) (Value.int k y) = Value.int k (cond b x y) := by cases b <;> rfl

theorem cyv_congr {f g : Nat → Int} (h : ∀ k, k < 8 → f k = g k) : cyv f = cyv g := by
  rw [cyv, h 0 (by decide), h 1 (by decide), h 2 (by decide), h 3 (by decide), h 4 (by decide), h 5 (by decide), h 6 (by decide), h 7 (by decide)]
theorem sdv_congr {f g : Nat → Int} (h : ∀ k, k < 4 → f k = g k) : sdv f = sdv g := by
  rw [sdv, h 0 (by decide), h 1 (by decide), h 2 (by decide), h 3 (by decide)]
theorem obl2 {a b : Bool} (h : obls [a, b] = true) : a = true ∧ b = true := by simpa [obls] using h
theorem upto {n : Int} {m : Nat} (h0 : decide (0 ≤ n) = true) (h1 : decide (n ≤ m) = true) {p : Int → Prop} (h : ∀ k : Nat, k ≤ m → p k) : p n := by
  have h0 := of_decide_eq_true h0
  have h1 := of_decide_eq_true h1
  obtain ⟨k, rfl⟩ := Int.eq_ofNat_of_zero_le h0
  exact h k (by omega)

end Go.Proofs.Ytoligfhcogligaa

/- The abstract machine, 16: small words for contracts with loops. No conditions. -/
namespace Go.Proofs.Ytoligfhcogligaa
open Go.RowKit

def lv3 (a b c : List Nat) : Ex → List Nat
  | .normal => a
  | .exit _ => b
  | .ret => c

def oneL (id : Nat) (S : Sum) : Nat → Option Sum := fun j => bif Nat.beq j id then some S else none
def loopAt (id : Nat) (fn : Func) : Code := match codeAt id (fn.body.getD .skip) with
  | .block _ (.loop c) :: _ => c
  | _ => .skip

theorem lam1 {P : Program} {m0 id : Nat} {fn : Func} {S : Sum} {c : Code} (h : codeAt id (fn.body.getD .skip) = [.block id (.loop c)]) (hS : SumOk P m0 (.block id (.loop c)) S) : ∀ cc, fn.body = some cc → LamOk P m0 (oneL id S) cc := by
  intro cc hcc j S' hj b hb
  unfold oneL at hj
  cases hjb : Nat.beq j id with
  | false => rw [hjb] at hj; cases hj
  | true =>
    rw [hjb] at hj
    cases hj
    rw [Nat.eq_of_beq_eq_true hjb] at hb
    rw [hcc] at h
    simp only [Option.getD_some] at h
    rw [h] at hb
    simp at hb
    subst hb
    exact hS

structure GoodQ (r : Res) (Q : Ex → List AV → List AB → Prop) : Prop where
  out : r.ok Q

theorem good_cond {Q : Ex → List AV → List AB → Prop} {b : Bool} {r s : Res} (h1 : b = true → GoodQ r Q) (h2 : b = false → GoodQ s Q) : GoodQ (cond b r s) Q := by
  cases b
  · exact h2 rfl
  · exact h1 rfl
theorem good_true {Q : Ex → List AV → List AB → Prop} {b : Bool} {r s : Res} (hb : b = true) (h : GoodQ r Q) : GoodQ (cond b r s) Q := by
  subst hb; exact h
theorem good_false {Q : Ex → List AV → List AB → Prop} {b : Bool} {r s : Res} (hb : b = false) (h : GoodQ s Q) : GoodQ (cond b r s) Q := by
  subst hb; exact h
theorem good_out {Q : Ex → List AV → List AB → Prop} {e : Ex} {T : List AV} {H : List AB} (h : Q e T H) : GoodQ (.out e T H) Q := ⟨h⟩

/-- A contract with slices; H0: what they hold, in other words. -/
theorem mkR {Γ : Gam} (hΓ : GamOk Try.prog Γ) {f : FuncId} {fn : Func} {Λ : Nat → Option Sum} {n : Nat} {mds : List Md} {F : List SA → Option FR} (hf : Try.prog.funcs[f]? = some fn) (hb : fn.body.isSome = true)
    (h : ∀ sas fr, F sas = some fr → obls fr.obl = true → ∃ H0, Hsim (abC mds sas) H0 ∧ (∀ c, fn.body = some c → LamOk Try.prog H0.length Λ c) ∧ GoodQ (execF Try.prog Γ Λ n fn (avC 0 mds sas) H0 (packK H0.length)) (GivR (abP mds sas fr.put) fr)) : SpecOk Try.prog f (specR mds F) :=
  specR_ok hΓ mixed enters hf hb fun sas fr hF ho => let ⟨H0, h1, h2, h3⟩ := h sas fr hF ho; ⟨H0, h1, h2, h3.out⟩

theorem noLam' (m0 : Nat) {fn : Func} : ∀ c, fn.body = some c → LamOk Try.prog m0 noLam c := fun c _ => noLam_ok _ _ c

theorem zip_self {α : Type} (f : Nat → α) : ∀ l : List Nat, l.zip (l.map f) = l.map fun i => (i, f i)
  | [] => rfl
  | a :: l => by simp [zip_self f l]

/-- The word for a loop: what it needs of the slots that live, and how it goes on. -/
def loopS {σ : Type} (N : Nat) (live : List Nat) (dec : List AV → List AB → Option σ) (pre : σ → List Bool) (out : σ → Kont → Res) : Sum := fun T H K =>
  cond (Nat.beq T.length N) (match dec (live.map fun i => T.getD i .dead) H with
    | some s => needs (pre s) (out s K)
    | none => .err) .err

/-- A loop: states s, each with its slots and its blocks. -/
theorem mkLoop {Γ : Gam} (hΓ : GamOk Try.prog Γ) {id n m m0 N : Nat} {c : Code} {lv : Ex → List Nat} {Λ : Nat → Option Sum} {σ : Type} {dec : List AV → List AB → Option σ} {pre : σ → List Bool} {out : σ → Kont → Res}
    (st : σ → List (Nat × AV)) (hp : σ → List AB) (Inv : σ → σ → Prop) (μ : σ → Nat) (hr : risB (lv .normal) = true) (hΛ : LamOk Try.prog m0 Λ c) (hm : m0 ≤ m)
    (h0 : ∀ avs H s, dec avs H = some s → obls (pre s) = true → ∃ H1, weakM m (mkT 0 N ((lv .normal).zip avs)) H = some (mkT 0 N (st s), H1) ∧ Hsim H1 (hp s) ∧ Inv s s)
    (h : ∀ s0 K Q, obls (pre s0) = true → (out s0 K).ok Q → ∀ s, Inv s0 s → GoodQ (execC Try.prog Γ n Λ c (mkT 0 N (st s)) (hp s) (leafK lv m)) fun e T' H' => match e with
        | .normal => ∃ s', Inv s0 s' ∧ T' = mkT 0 N (st s') ∧ Hsim H' (hp s') ∧ μ s' < μ s
        | .exit j => ∃ H'', Hsim H' H'' ∧ if j = id then (K .normal T' H'').ok Q else (K (.exit j) T' H'').ok Q
        | .ret => ∃ H'', Hsim H' H'' ∧ (K .ret T' H'').ok Q) : SumOk Try.prog m0 (.block id (.loop c)) (loopS N (lv .normal) dec pre out) := by
  refine sum_loop hΓ mixed enters (lv := lv) (Λ := Λ) (n := n) hΛ hm fun T H K Q hS => ?_
  unfold loopS at hS
  cases hN : Nat.beq T.length N with
  | false => rw [hN] at hS; exact hS.elim
  | true =>
    rw [hN, cond_true] at hS
    split at hS
    · rename_i s hd
      obtain ⟨ho, hk⟩ := needs_ok hS
      obtain ⟨H1, e1, e2, hI⟩ := h0 _ _ _ hd ho
      refine ⟨σ, fun s => (mkT 0 N (st s), hp s), Inv s, μ, s, hI, ⟨H1, ?_, e2⟩, fun s' hs' => (h s K Q ho hk s' hs').out⟩
      rw [weak_mask hr (Nat.eq_of_beq_eq_true hN), ← e1]
      congr 2
      exact (zip_self _ _).symm
    · exact hS.elim

theorem res_mono {Q Q' : Ex → List AV → List AB → Prop} (h : ∀ e T H, Q e T H → Q' e T H) : ∀ {r : Res}, r.ok Q → r.ok Q'
  | .err, hq => hq
  | .out e T H, hq => h e T H hq

/-- A loop that counts from 0: what was found at its head (p), and how many rounds are over. -/
theorem mkFor {Γ : Gam} (hΓ : GamOk Try.prog Γ) {id n m m0 N : Nat} {c : Code} {lv : Ex → List Nat} {Λ : Nat → Option Sum} {σ : Type} {dec : List AV → List AB → Option σ} {pre : σ → List Bool} {out : σ → Kont → Res}
    (st : σ → Nat → List (Nat × AV)) (hp : σ → Nat → List AB) (okI : σ → Nat → Prop) (len : σ → Nat) (hr : risB (lv .normal) = true) (hΛ : LamOk Try.prog m0 Λ c) (hm : m0 ≤ m)
    (h0 : ∀ avs H p, dec avs H = some p → obls (pre p) = true → ∃ H1, weakM m (mkT 0 N ((lv .normal).zip avs)) H = some (mkT 0 N (st p 0), H1) ∧ Hsim H1 (hp p 0) ∧ okI p 0)
    (h : ∀ p K Q, obls (pre p) = true → (out p K).ok Q → ∀ i, okI p i → i ≤ len p → GoodQ (execC Try.prog Γ n Λ c (mkT 0 N (st p i)) (hp p i) (leafK lv m)) fun e T' H' => match e with
        | .normal => i < len p ∧ T' = mkT 0 N (st p (i + 1)) ∧ Hsim H' (hp p (i + 1)) ∧ okI p (i + 1)
        | .exit j => ∃ H'', Hsim H' H'' ∧ if j = id then (K .normal T' H'').ok Q else (K (.exit j) T' H'').ok Q
        | .ret => ∃ H'', Hsim H' H'' ∧ (K .ret T' H'').ok Q) : SumOk Try.prog m0 (.block id (.loop c)) (loopS N (lv .normal) dec pre out) := by
  refine sum_loop hΓ mixed enters (lv := lv) (Λ := Λ) (n := n) hΛ hm fun T H K Q hS => ?_
  unfold loopS at hS
  cases hN : Nat.beq T.length N with
  | false => rw [hN] at hS; exact hS.elim
  | true =>
    rw [hN, cond_true] at hS
    split at hS
    · rename_i p hd
      obtain ⟨ho, hk⟩ := needs_ok hS
      obtain ⟨H1, e1, e2, hI⟩ := h0 _ _ _ hd ho
      refine ⟨Nat, fun i => (mkT 0 N (st p i), hp p i), fun i => okI p i ∧ i ≤ len p, fun i => len p - i, 0, ⟨hI, Nat.zero_le _⟩, ⟨H1, ?_, e2⟩, fun i hi => ?_⟩
      · rw [weak_mask hr (Nat.eq_of_beq_eq_true hN), ← e1]
        congr 2
        exact (zip_self _ _).symm
      · have := (h p K Q ho hk i hi.1 hi.2).out
        refine res_mono (fun e T' H' hq => ?_) this
        cases e with
        | normal => exact ⟨i + 1, ⟨hq.2.2.2, hq.1⟩, hq.2.1, hq.2.2.1, by have := hq.1; simp only; omega⟩
        | exit j => exact hq
        | ret => exact hq
    · exact hS.elim

theorem ob_cons {b : Bool} {bs : List Bool} : obls (b :: bs) = true ↔ b = true ∧ obls bs = true := by simp [obls]
theorem beq_me (n : Nat) : Nat.beq n n = true := Nat.beq_refl n
theorem ob_nil : obls [] = true := rfl
theorem good_needs {Q : Ex → List AV → List AB → Prop} {bs : List Bool} {r : Res} (h : obls bs = true) (k : GoodQ r Q) : GoodQ (needs bs r) Q := by
  induction bs with
  | nil => exact k
  | cons b bs ih => rw [ob_cons] at h; rw [h.1] at *; exact ⟨(ih h.2).out⟩

/-- Rows of whole numbers. -/
def intOf : Value → Int
  | .int .i64 x => x
  | _ => 0
def isI : List Value → Bool
  | [.int .i64 _] => true
  | _ => false
def itI (g : Nat → List Value) : Nat → Int := fun j => intOf ((g j).getD 0 undef)
abbrev rowI (a : Nat → Int) : Nat → List Value := fun j => [i64 (a j)]
def allI (m : Nat) (g : Nat → List Value) : Bool := (List.range m).all fun j => isI (g j)
theorem allI_get {m : Nat} {g : Nat → List Value} (h : allI m g = true) (j : Nat) (hj : j < m) : g j = rowI (itI g) j := by
  have := List.all_eq_true.1 h j (by simpa using hj)
  simp only [rowI, itI, i64]
  unfold isI at this
  split at this
  · rename_i x e; rw [e]; rfl
  · cases this
theorem allI_of {m : Nat} {a : Nat → Int} {g : Nat → List Value} (h : ∀ j, j < m → g j = rowI a j) : allI m g = true := List.all_eq_true.2 fun j hj => by
  rw [h j (by simpa using hj)]; rfl

end Go.Proofs.Ytoligfhcogligaa
