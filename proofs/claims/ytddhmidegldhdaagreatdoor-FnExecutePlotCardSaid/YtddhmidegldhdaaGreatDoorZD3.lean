/- The point of a design at a turn, in whole numbers. No program, no conditions. -/
import Derived.Test.YtddhmidegldhdaaGreatDoorZD0
import Derived.Test.YtddhmidegldhdaaGreatDoorZD1
import Derived.Test.YtddhmidegldhdaaGreatDoorZD2
import Derived.Test.YtddhmidegldhdaaGreatDoorProg
import Derived.StillTail
import Derived.RowKit3
import Derived.Below
import Derived.Lib.SplitLaws
import Derived.Lib.AtoiAll
import Derived.Lib.ItoaNum
import Derived.Lib.Join
import Derived.Shelf.Strconv.Itoa3
import Derived.Shelf.Strings.OnBuilder
import Derived.Shelf.Strings.Cut
import Derived.Shelf.Strings.Split
import Derived.Shelf.Strconv.AtoiAll
import Derived.Shelf.Strings.Search3
/- The abstract machine over this seat's program; what its small functions on numbers, exact points and surds return. No conditions beyond those that each contract names. -/
namespace Go.Proofs.YtddhmidegldhdaaGreatDoor
open Go.RowKit

theorem mixed : Tryz.prog.follows .mixedOrders = true := by kernel_rfl

theorem names_ok : Tryz.prog.funcs.toList.all (fun fn => !(fn.name == "runtime.NumGoroutine")) = true := by kernel_rfl

theorem enters : Enters Tryz.prog := by
  intro g fn hg hb args w
  have hn : (fn.name == "runtime.NumGoroutine") = false := by
    have := List.all_eq_true.1 names_ok fn (by
      have := (Array.getElem?_eq_some_iff.1 hg)
      obtain ⟨hlt, e⟩ := this
      rw [← e]
      simp)
    simpa using this
  obtain ⟨c, hc⟩ := Option.isSome_iff_exists.1 hb
  have hn' : ¬ fn.name = "runtime.NumGoroutine" := by simpa using hn
  simp [callFunc, hg, hn', hc]

def g0 : Gam := fun _ => none
theorem g0_ok : GamOk Tryz.prog g0 := fun _ _ h => by cases h

structure Good (r : Res) (x : Value) : Prop where
  out : r.ok (Gives x)

theorem mkV {Γ : Gam} (hΓ : GamOk Tryz.prog Γ) {n : Nat} {f : FuncId} {fn : Func} (hf : Tryz.prog.funcs[f]? = some fn) (hb : fn.body.isSome = true) {F : List Value → Option (Value × List Bool)}
    (h : ∀ vs x ob, F vs = some (x, ob) → obls ob = true → Good (execF Tryz.prog Γ noLam n fn (vs.map .v) [] valK) x) : SpecOk Tryz.prog f (specV F) :=
  specV_ok (fun args w => enters f fn hf hb args w) fun vs x ob hF ho w ht => calls_val hΓ mixed enters hf (h vs x ob hF ho).out w ht

abbrev i64 (n : Int) : Value := .int .i64 n
def getV (r : Res) : Option Value := match r with | .out _ [v] _ => v.toV | _ => none
theorem one {r : Res} {x : Value} (h : getV r = some x) : Good r x := by
  constructor
  unfold getV at h
  split at h
  · exact ⟨_, rfl, h⟩
  · cases h

theorem obl2 {a b : Bool} (h : obls [a, b] = true) : a = true ∧ b = true := by simpa [obls] using h
end Go.Proofs.YtddhmidegldhdaaGreatDoor

/- Plain algebra: the program's own ways to the product, the mirrored point, and the signs. No program, no conditions. -/
namespace Go.Proofs.YtddhmidegldhdaaGreatDoor
open Go.RowKit

end Go.Proofs.YtddhmidegldhdaaGreatDoor

/- The abstract machine at the small functions on exact points. No conditions. -/
namespace Go.Proofs.YtddhmidegldhdaaGreatDoor
open Go.RowKit
set_option maxRecDepth 100000

end Go.Proofs.YtddhmidegldhdaaGreatDoor

/- The abstract machine, 16: small words for contracts with loops. No conditions. -/
namespace Go.Proofs.YtddhmidegldhdaaGreatDoor
open Go.RowKit

def lv3 (a b c : List Nat) : Ex → List Nat
  | .normal => a
  | .exit _ => b
  | .ret => c

def oneL (id : Nat) (S : Sum) : Nat → Option Sum := fun j => bif Nat.beq j id then some S else none
def loopAt (id : Nat) (fn : Func) : Code := match codeAt id (fn.body.getD .skip) with
  | .block _ (.loop c) :: _ => c
  | _ => .skip

theorem lam1 {P : Program} {m0 id : Nat} {fn : Func} {S : Sum} {c : Code} (h : codeAt id (fn.body.getD .skip) = [.block id (.loop c)]) (hS : SumOk P m0 (.block id (.loop c)) S) : ∀ cc, fn.body = some cc → LamOk P m0 (oneL id S) cc := by
  intro cc hcc j S' hj b hb
  unfold oneL at hj
  cases hjb : Nat.beq j id with
  | false => rw [hjb] at hj; cases hj
  | true =>
    rw [hjb] at hj
    cases hj
    rw [Nat.eq_of_beq_eq_true hjb] at hb
    rw [hcc] at h
    simp only [Option.getD_some] at h
    rw [h] at hb
    simp at hb
    subst hb
    exact hS

structure GoodQ (r : Res) (Q : Ex → List AV → List AB → Prop) : Prop where
  out : r.ok Q

theorem good_cond {Q : Ex → List AV → List AB → Prop} {b : Bool} {r s : Res} (h1 : b = true → GoodQ r Q) (h2 : b = false → GoodQ s Q) : GoodQ (cond b r s) Q := by
  cases b
  · exact h2 rfl
  · exact h1 rfl
theorem good_true {Q : Ex → List AV → List AB → Prop} {b : Bool} {r s : Res} (hb : b = true) (h : GoodQ r Q) : GoodQ (cond b r s) Q := by
  subst hb; exact h
theorem good_false {Q : Ex → List AV → List AB → Prop} {b : Bool} {r s : Res} (hb : b = false) (h : GoodQ s Q) : GoodQ (cond b r s) Q := by
  subst hb; exact h
theorem good_out {Q : Ex → List AV → List AB → Prop} {e : Ex} {T : List AV} {H : List AB} (h : Q e T H) : GoodQ (.out e T H) Q := ⟨h⟩

theorem noLam' (m0 : Nat) {fn : Func} : ∀ c, fn.body = some c → LamOk Tryz.prog m0 noLam c := fun c _ => noLam_ok _ _ c

theorem zip_self {α : Type} (f : Nat → α) : ∀ l : List Nat, l.zip (l.map f) = l.map fun i => (i, f i)
  | [] => rfl
  | a :: l => by simp [zip_self f l]

theorem res_mono {Q Q' : Ex → List AV → List AB → Prop} (h : ∀ e T H, Q e T H → Q' e T H) : ∀ {r : Res}, r.ok Q → r.ok Q'
  | .err, hq => hq
  | .out e T H, hq => h e T H hq

theorem ob_cons {b : Bool} {bs : List Bool} : obls (b :: bs) = true ↔ b = true ∧ obls bs = true := by simp [obls]
theorem ob_nil : obls [] = true := rfl
theorem good_needs {Q : Ex → List AV → List AB → Prop} {bs : List Bool} {r : Res} (h : obls bs = true) (k : GoodQ r Q) : GoodQ (needs bs r) Q := by
  induction bs with
  | nil => exact k
  | cons b bs ih => rw [ob_cons] at h; rw [h.1] at *; exact ⟨(ih h.2).out⟩

def intOf : Value → Int
  | .int .i64 x => x
  | _ => 0
end Go.Proofs.YtddhmidegldhdaaGreatDoor

/- The abstract machine, 23: loops by what is known at their head: only the slots that live are told. Conditions: those of the table of callees. -/
namespace Go.Proofs.YtddhmidegldhdaaGreatDoor
open Go.RowKit

noncomputable def chk (p : Prop) : Bool := @decide p (Classical.propDecidable p)
theorem chk_of {p : Prop} (h : p) : chk p = true := by
  unfold chk
  exact @decide_eq_true p (Classical.propDecidable p) h
theorem of_chk {p : Prop} (h : chk p = true) : p := by
  unfold chk at h
  exact @of_decide_eq_true p (Classical.propDecidable p) h

def weakL (live : List Nat) (m : Nat) (T : List AV) (H : List AB) : Option (List AV × List AB) :=
  match weak live m T H with
  | some p => some (live.map fun i => p.1.getD i .dead, p.2)
  | none => none
theorem weakL_some {live : List Nat} {m : Nat} {T : List AV} {H : List AB} {p : List AV × List AB} (h : weakL live m T H = some p) (hr : risB live = true) :
    weak live m T H = some (mkT 0 T.length (live.zip p.1), p.2) := by
  unfold weakL at h
  split at h
  · rename_i q hq
    cases h
    rw [hq]
    obtain ⟨T', H'⟩ := q
    simp only [Option.some.injEq, Prod.mk.injEq, and_true]
    unfold weak at hq
    split at hq
    · rename_i T1 H1 h1 h2
      cases hn : (nodupB (keepOf m (maskT live 0 T) H) && (keepOf m (maskT live 0 T) H).take m == upN 0 m) with
      | false => rw [hn] at hq; cases hq
      | true =>
        rw [hn] at hq
        simp only [cond_true, Option.some.injEq, Prod.mk.injEq] at hq
        obtain ⟨rfl, rfl⟩ := hq
        have hl : T1.length = T.length := by rw [renAs_length h1, maskT_length]
        have hd : ∀ t, live.elem t = false → T1.getD t .dead = .dead := by
          intro t ht
          have := renAs_get h1 t
          rw [maskT_get, Nat.zero_add, ht] at this
          simp only [Bool.false_eq_true, if_false, renA, Option.some.injEq] at this
          exact this.symm
        have hm : maskT live 0 T1 = T1 := by
          apply List.ext_getElem?
          intro t
          by_cases ht : t < T1.length
          · have e1 := maskT_get live T1 0 t
            rw [Nat.zero_add] at e1
            have e2 : (maskT live 0 T1).getD t .dead = T1.getD t .dead := by
              rw [e1]
              split
              · rfl
              · rename_i hne
                exact (hd t (by simpa using hne)).symm
            have ht' : t < (maskT live 0 T1).length := by rw [maskT_length]; exact ht
            simp only [List.getD_eq_getElem?_getD, List.getElem?_eq_getElem ht, List.getElem?_eq_getElem ht', Option.getD_some] at e2
            rw [List.getElem?_eq_getElem ht, List.getElem?_eq_getElem ht', e2]
          · rw [List.getElem?_eq_none (by rw [maskT_length]; omega), List.getElem?_eq_none (by omega)]
        have := mask_mk T1 0 live hr fun _ _ => Nat.zero_le _
        rw [hm, hl] at this
        simp only [Nat.sub_zero] at this
        rw [zip_self]
        exact this
    · cases hq
  · cases h

def leafV (N : Nat) (lv : Ex → List Nat) (m : Nat) : Kont := fun e T H => cond (Nat.beq T.length N) (match weakL (lv e) m T H with
  | some p => .out e p.1 p.2
  | none => .err) .err

noncomputable def atS (N : Nat) (live : List Nat) (m : Nat) (vals : List AV) (H0 : List AB) (out : Kont → Res) : Sum := fun T H K =>
  cond (Nat.beq T.length N) (match weakL live m T H with
    | some p => cond (chk (p.1 = vals ∧ Hsim p.2 H0)) (out K) .err
    | none => .err) .err

def RoundV {σ : Type} (N id : Nat) (lv : Ex → List Nat) (st : σ → List AV) (hp : σ → List AB) (nxt : σ → Prop) (K : Kont) (Q : Ex → List AV → List AB → Prop) : Ex → List AV → List AB → Prop := fun e vs H' => match e with
  | .normal => ∃ s', nxt s' ∧ vs = st s' ∧ Hsim H' (hp s')
  | .exit j => ∃ H'', Hsim H' H'' ∧ if j = id then (K .normal (mkT 0 N ((lv (.exit j)).zip vs)) H'').ok Q else (K (.exit j) (mkT 0 N ((lv (.exit j)).zip vs)) H'').ok Q
  | .ret => ∃ H'', Hsim H' H'' ∧ (K .ret (mkT 0 N ((lv .ret).zip vs)) H'').ok Q

theorem loop_at {Γ : Gam} (hΓ : GamOk Tryz.prog Γ) {id n m m0 N : Nat} {c : Code} {lv : Ex → List Nat} {out : Kont → Res} {σ : Type} (st : σ → List AV) (hp : σ → List AB) (Inv : σ → Prop) (μ : σ → Nat) (s0 : σ) (Λ : σ → Nat → Option Sum)
    (hr : ∀ e, risB (lv e) = true) (hm : m0 ≤ m) (h0 : Inv s0)
    (h : ∀ K Q, (out K).ok Q → ∀ s, Inv s → LamOk Tryz.prog m0 (Λ s) c ∧ GoodQ (execC Tryz.prog Γ n (Λ s) c (mkT 0 N ((lv .normal).zip (st s))) (hp s) (leafV N lv m)) (RoundV N id lv st hp (fun s' => Inv s' ∧ μ s' < μ s) K Q)) :
    SumOk Tryz.prog m0 (.block id (.loop c)) (atS N (lv .normal) m (st s0) (hp s0) out) := by
  intro M w0 ν0 hM hm0 T H K Q a w ν hS hR hd
  unfold atS at hS
  cases hN : Nat.beq T.length N with
  | false => rw [hN] at hS; exact hS.elim
  | true =>
    rw [hN, cond_true] at hS
    have hN := Nat.eq_of_beq_eq_true hN
    split at hS
    · rename_i p hw
      rcases cond_ok hS with ⟨hc, hk⟩ | ⟨_, hk⟩
      · obtain ⟨hv, hsim⟩ := of_chk hc
        have hw' := weakL_some hw (hr .normal)
        rw [hN, hv] at hw'
        have hν : ∀ i b, ν0 i = some b → i < m := fun i b hb => Nat.lt_of_lt_of_le (hm0 i b hb) hm
        have key : ∀ (r : Nat) (s : σ) (a : Act) (w : World) (ν : Nu), Inv s → μ s < r → SR M w0 ν0 (mkT 0 N ((lv .normal).zip (st s))) (hp s) a w ν → a.defers = [] → Code.rounds Tryz.prog c (Exit.inBlock id (post M w0 ν0 K Q)) r a w := by
          intro r
          induction r with
          | zero => intro s a w ν _ hlt; omega
          | succ r ih =>
            intro s a w ν hi hlt hR hd
            rw [rounds_succ]
            obtain ⟨hL, hG⟩ := h K Q hk s hi
            refine wp_mono (execC_sound hΓ mixed enters n m0 (Λ s) c hL M w0 ν0 hM hm0 _ _ _ _ a w ν hG.out hR hd) fun e a' w' hpp => ?_
            obtain ⟨e', T', H', ν', rfl, hk', hS', hd'⟩ := hpp
            unfold leafV at hk'
            cases hN' : Nat.beq T'.length N with
            | false => rw [hN'] at hk'; exact hk'.elim
            | true =>
              rw [hN', cond_true] at hk'
              have hN' := Nat.eq_of_beq_eq_true hN'
              split at hk'
              · rename_i q hwk
                have hwk' := weakL_some hwk (hr e')
                rw [hN'] at hwk'
                have hR' := weak_sound hwk' hS' hν
                cases e' with
                | normal =>
                  obtain ⟨s', ⟨i', hmu⟩, he, hs'⟩ := hk'
                  rw [he] at hR'
                  exact ih s' a' w' _ i' (by omega) (hR'.sim hs') hd'
                | exit j =>
                  simp only [Ex.to, Exit.then, Exit.inBlock]
                  obtain ⟨H'', hs', hkk⟩ := hk'
                  split
                  · rename_i hj
                    rw [if_pos hj] at hkk
                    exact ⟨.normal, _, _, _, rfl, hkk, hR'.sim hs', hd'⟩
                  · rename_i hj
                    rw [if_neg hj] at hkk
                    exact ⟨.exit j, _, _, _, rfl, hkk, hR'.sim hs', hd'⟩
                | ret =>
                  obtain ⟨H'', hs', hkk⟩ := hk'
                  exact ⟨.ret, _, _, _, rfl, hkk, hR'.sim hs', hd'⟩
              · exact hk'.elim
        have hR0 := (weak_sound hw' hR hν).sim hsim
        exact wp_block (wp_loop_rounds (μ s0 + 1) (key _ s0 a w _ h0 (Nat.lt_succ_self _) hR0 hd))
      · exact hk.elim
    · exact hS.elim

theorem for_at {Γ : Gam} (hΓ : GamOk Tryz.prog Γ) {id n m m0 N : Nat} {c : Code} {lv : Ex → List Nat} {out : Kont → Res} (st : Nat → List AV) (hp : Nat → List AB) (okI : Nat → Prop) (len : Nat) (Λ : Nat → Nat → Option Sum)
    (hr : ∀ e, risB (lv e) = true) (hm : m0 ≤ m) (h0 : okI 0)
    (h : ∀ K Q, (out K).ok Q → ∀ i, okI i → i ≤ len → LamOk Tryz.prog m0 (Λ i) c ∧ GoodQ (execC Tryz.prog Γ n (Λ i) c (mkT 0 N ((lv .normal).zip (st i))) (hp i) (leafV N lv m)) (RoundV N id lv st hp (fun s' => s' = i + 1 ∧ i < len ∧ okI (i + 1)) K Q)) :
    SumOk Tryz.prog m0 (.block id (.loop c)) (atS N (lv .normal) m (st 0) (hp 0) out) := by
  refine loop_at hΓ (n := n) st hp (fun i => okI i ∧ i ≤ len) (fun i => len - i) 0 Λ hr hm ⟨h0, Nat.zero_le _⟩ fun K Q hk i hi => ?_
  obtain ⟨h1, h2⟩ := h K Q hk i hi.1 hi.2
  refine ⟨h1, ⟨res_mono (fun e vs H' hq => ?_) h2.out⟩⟩
  cases e with
  | normal =>
    obtain ⟨s', ⟨rfl, hlt, hok⟩, h3, h4⟩ := hq
    exact ⟨_, ⟨⟨hok, hlt⟩, by omega⟩, h3, h4⟩
  | exit j => exact hq
  | ret => exact hq

theorem lv3_ris {a b c : List Nat} (h1 : risB a = true) (h2 : risB b = true) (h3 : risB c = true) : ∀ e, risB (lv3 a b c e) = true
  | .normal => h1
  | .exit _ => h2
  | .ret => h3

theorem specR_hr {Γ : Gam} (hΓ : GamOk Tryz.prog Γ) {f : FuncId} {fn : Func} {mds : List Md} {F : List SA → Option FR} (hf : Tryz.prog.funcs[f]? = some fn) (hb : fn.body.isSome = true)
    (h : ∀ sas fr, F sas = some fr → obls fr.obl = true → ∃ (H0 : List AB) (Λ : Nat → Option Sum) (n : Nat), Hsim (abC mds sas) H0 ∧ (∀ c, fn.body = some c → LamOk Tryz.prog H0.length Λ c) ∧ GoodQ (execF Tryz.prog Γ Λ n fn (avC 0 mds sas) H0 (packK H0.length)) (GivR (abP mds sas fr.put) fr)) : SpecOk Tryz.prog f (specR mds F) :=
  specR_calls enters hf hb fun sas fr hF ho => by
    obtain ⟨H0, Λ, n, h1, h2, h3⟩ := h sas fr hF ho
    exact ⟨H0, h1, fun M vals w ν hM hv hH hdom => calls_pack hΓ mixed enters hf h2 hM h3.out hv hH hdom⟩

end Go.Proofs.YtddhmidegldhdaaGreatDoor

/- Plain lists of wheels: to tidy by the program's way and by the reference's. No program, no conditions. -/
namespace Go.Proofs.YtddhmidegldhdaaGreatDoor
open Go.RowKit

structure Cy where
  c0 : Int
  c1 : Int
  c2 : Int
  c3 : Int
  c4 : Int
  c5 : Int
  c6 : Int
  c7 : Int
  deriving DecidableEq
structure Wh where
  s : Int
  r : Cy
  deriving DecidableEq
def Cy.f (a : Cy) : Nat → Int := v8 a.c0 a.c1 a.c2 a.c3 a.c4 a.c5 a.c6 a.c7
def cyZ : Cy := ⟨0, 0, 0, 0, 0, 0, 0, 0⟩
def cyOk (a : Cy) : Bool := smallF a.f (-1000000) 1000000
def rising (l : List Wh) : Prop := l.Pairwise fun x y => x.s < y.s

def dValid (l : List Wh) : Bool := decide (l.length ≤ 12) && l.all fun w => inR w.s (-1000) 1000 && cyOk w.r
end Go.Proofs.YtddhmidegldhdaaGreatDoor

/- Plain lists of wheels: sorted by insertion. No program, no conditions. -/
namespace Go.Proofs.YtddhmidegldhdaaGreatDoor
open Go.RowKit

end Go.Proofs.YtddhmidegldhdaaGreatDoor

/- Rows of wheels. No conditions. -/
namespace Go.Proofs.YtddhmidegldhdaaGreatDoor
open Go.RowKit
set_option maxRecDepth 100000

abbrev row9 (f : Nat → Nat → Int) : Nat → List Value := fun j => [i64 (f j 0), i64 (f j 1), i64 (f j 2), i64 (f j 3), i64 (f j 4), i64 (f j 5), i64 (f j 6), i64 (f j 7), i64 (f j 8)]
def whN (w : Wh) : Nat → Int
  | 0 => w.s
  | 1 => w.r.c0
  | 2 => w.r.c1
  | 3 => w.r.c2
  | 4 => w.r.c3
  | 5 => w.r.c4
  | 6 => w.r.c5
  | 7 => w.r.c6
  | 8 => w.r.c7
  | _ => 0
def wfun (L : List Wh) : Nat → Nat → Int := fun j k => match L[j]? with
  | some w => whN w k
  | none => 0
end Go.Proofs.YtddhmidegldhdaaGreatDoor

/- Small functions on exact points: valid, done, turned by the root. No conditions. -/
namespace Go.Proofs.YtddhmidegldhdaaGreatDoor
open Go.RowKit
set_option maxRecDepth 100000

end Go.Proofs.YtddhmidegldhdaaGreatDoor

/- l5Add: its runs. Conditions: a list of wheels. -/
namespace Go.Proofs.YtddhmidegldhdaaGreatDoor
open Go.RowKit
set_option maxRecDepth 100000

end Go.Proofs.YtddhmidegldhdaaGreatDoor

/- To put a wheel in its place: where that is. Plain lists, no program. -/
namespace Go.Proofs.YtddhmidegldhdaaGreatDoor
open Go.RowKit

end Go.Proofs.YtddhmidegldhdaaGreatDoor

/- Small words: no index is bad; numbers that fit. No conditions. -/
namespace Go.Proofs.YtddhmidegldhdaaGreatDoor
open Go.RowKit

theorem wr_in {x : Int} (h : -9223372036854775808 ≤ x ∧ x ≤ 9223372036854775807) : IntKind.wrap IntKind.i64 x = x := w64_in h.1 h.2

end Go.Proofs.YtddhmidegldhdaaGreatDoor

/- l5Add: its word. Conditions: a list of wheels. -/
namespace Go.Proofs.YtddhmidegldhdaaGreatDoor
open Go.RowKit
set_option maxRecDepth 100000

end Go.Proofs.YtddhmidegldhdaaGreatDoor

/- DesignValid, the reference's: its word. Conditions: a list of wheels. -/
namespace Go.Proofs.YtddhmidegldhdaaGreatDoor
open Go.RowKit
set_option maxRecDepth 100000

end Go.Proofs.YtddhmidegldhdaaGreatDoor

/- l5Done and l5Tidy, the reference's: their words. Conditions: a list of wheels. -/
namespace Go.Proofs.YtddhmidegldhdaaGreatDoor
open Go.RowKit
set_option maxRecDepth 100000

end Go.Proofs.YtddhmidegldhdaaGreatDoor

/- l5Tidy, the reference's: its word. Conditions: a list of wheels. -/
namespace Go.Proofs.YtddhmidegldhdaaGreatDoor
open Go.RowKit
set_option maxRecDepth 100000

end Go.Proofs.YtddhmidegldhdaaGreatDoor

/- Plain algebra: the product by a power of the root is the point turned step by step. No program, no conditions. -/
namespace Go.Proofs.YtddhmidegldhdaaGreatDoor
open Go.RowKit

end Go.Proofs.YtddhmidegldhdaaGreatDoor

/- Plain lists of wheels, by their places: added, left out, changed over. No program, no conditions. -/
namespace Go.Proofs.YtddhmidegldhdaaGreatDoor
open Go.RowKit

end Go.Proofs.YtddhmidegldhdaaGreatDoor

/- The abstract machine, 24: words for callees by their view of memory: whatever their arguments reach, under numbers of its own. Conditions: those of the table of callees. -/
namespace Go.Proofs.YtddhmidegldhdaaGreatDoor
open Go.RowKit

mutual
def mapA (f : Nat → Option Nat) : AV → Option AV
  | .v x => some (.v x)
  | .ptr i w j k => (f i).map fun i => .ptr i w j k
  | .sl i w j k l c => (f i).map fun i => .sl i w j k l c
  | .own i l => (f i).map fun i => .own i l
  | .agg cs => (mapAs f cs).map .agg
  | .tup cs => (mapAs f cs).map .tup
  | .fn g cs => (mapAs f cs).map (.fn g)
  | .err q => some (.err q)
  | .dead => some .dead
def mapAs (f : Nat → Option Nat) : List AV → Option (List AV)
  | [] => some []
  | a :: al => match mapA f a, mapAs f al with
    | some x, some xs => some (x :: xs)
    | _, _ => none
end
mutual
theorem VR.map {f : Nat → Option Nat} {ν ν' : Nu} (h : ∀ i i' b, f i = some i' → ν i = some b → ν' i' = some b) : ∀ {a a' : AV} {y : Value}, mapA f a = some a' → VR ν a y → VR ν' a' y
  | .v _, a', _, hs, hv => by
    simp only [mapA, Option.some.injEq] at hs
    subst hs
    simpa only [VR] using hv
  | .ptr .., a', _, hs, hv => by
    simp only [mapA, Option.map_eq_some_iff] at hs
    obtain ⟨q, hq, rfl⟩ := hs
    simp only [VR] at hv ⊢
    obtain ⟨b, h1, h2⟩ := hv
    exact ⟨b, h _ _ _ hq h1, h2⟩
  | .sl .., a', _, hs, hv => by
    simp only [mapA, Option.map_eq_some_iff] at hs
    obtain ⟨q, hq, rfl⟩ := hs
    simp only [VR] at hv ⊢
    obtain ⟨p, c, h1, h2, h3, h4⟩ := hv
    exact ⟨p, c, h1, h2, h3, fun hc => let ⟨b, h5, h6⟩ := h4 hc; ⟨b, h _ _ _ hq h5, h6⟩⟩
  | .own .., a', _, hs, hv => by
    simp only [mapA, Option.map_eq_some_iff] at hs
    obtain ⟨q, hq, rfl⟩ := hs
    simp only [VR] at hv ⊢
    obtain ⟨b, h1, h2⟩ := hv
    exact ⟨b, h _ _ _ hq h1, h2⟩
  | .agg cs, a', _, hs, hv => by
    simp only [mapA, Option.map_eq_some_iff] at hs
    obtain ⟨q, hq, rfl⟩ := hs
    simp only [VR] at hv ⊢
    obtain ⟨l, h1, h2⟩ := hv
    exact ⟨l, h1, VRs.map h hq h2⟩
  | .tup cs, a', _, hs, hv => by
    simp only [mapA, Option.map_eq_some_iff] at hs
    obtain ⟨q, hq, rfl⟩ := hs
    simp only [VR] at hv ⊢
    obtain ⟨l, h1, h2⟩ := hv
    exact ⟨l, h1, VRs.map h hq h2⟩
  | .fn _ cs, a', _, hs, hv => by
    simp only [mapA, Option.map_eq_some_iff] at hs
    obtain ⟨q, hq, rfl⟩ := hs
    simp only [VR] at hv ⊢
    obtain ⟨l, h1, h2⟩ := hv
    exact ⟨l, h1, VRs.map h hq h2⟩
  | .err _, a', _, hs, hv => by
    simp only [mapA, Option.some.injEq] at hs
    subst hs
    simpa only [VR] using hv
  | .dead, a', _, hs, _ => by
    simp only [mapA, Option.some.injEq] at hs
    subst hs
    simp only [VR]
theorem VRs.map {f : Nat → Option Nat} {ν ν' : Nu} (h : ∀ i i' b, f i = some i' → ν i = some b → ν' i' = some b) : ∀ {al al' : List AV} {ys : List Value}, mapAs f al = some al' → VRs ν al ys → VRs ν' al' ys
  | [], al', ys, hs, hv => by
    simp only [mapAs, Option.some.injEq] at hs
    subst hs
    cases ys with
    | nil => simp only [VRs]
    | cons => simp only [VRs] at hv
  | a :: al, al', ys, hs, hv => by
    cases ys with
    | nil => simp only [VRs] at hv
    | cons y ys =>
      simp only [VRs] at hv
      simp only [mapAs] at hs
      split at hs
      · rename_i x xs h1 h2
        cases hs
        simp only [VRs]
        exact ⟨VR.map h h1 hv.1, VRs.map h h2 hv.2⟩
      · cases hs
end
def mapB (f : Nat → Option Nat) : AB → Option AB
  | .cells cs t => (mapAs f cs).map fun cs => .cells cs t
  | b => some b
def mapBs (f : Nat → Option Nat) : List AB → Option (List AB)
  | [] => some []
  | b :: bs => match mapB f b, mapBs f bs with
    | some x, some xs => some (x :: xs)
    | _, _ => none
theorem mapBs_get {f : Nat → Option Nat} : ∀ {bs bs' : List AB}, mapBs f bs = some bs' → bs'.length = bs.length ∧ ∀ (j : Nat) b, bs[j]? = some b → ∃ b', bs'[j]? = some b' ∧ mapB f b = some b'
  | [], bs', h => by
    simp only [mapBs, Option.some.injEq] at h
    subst h
    exact ⟨rfl, fun j b hb => by simp at hb⟩
  | b :: bs, bs', h => by
    simp only [mapBs] at h
    split at h
    · rename_i x xs h1 h2
      cases h
      obtain ⟨e1, e2⟩ := mapBs_get h2
      refine ⟨by simp [e1], fun j b' hb => ?_⟩
      cases j with
      | zero => simp at hb; subst hb; exact ⟨x, rfl, h1⟩
      | succ j => simpa using e2 j b' (by simpa using hb)
    · cases h
theorem BR.map {f : Nat → Option Nat} {ν ν' : Nu} {i i' : Nat} {b b' : AB} {w : World} (h : ∀ i i' b, f i = some i' → ν i = some b → ν' i' = some b) (hi : ν' i' = ν i) (hm : mapB f b = some b') (hb : BR ν i b w) : BR ν' i' b' w := by
  cases b with
  | cells cs t =>
    simp only [mapB, Option.map_eq_some_iff] at hm
    obtain ⟨cs', h1, rfl⟩ := hm
    obtain ⟨b, l, e1, e2, e3, e4⟩ := hb
    exact ⟨b, l, by rw [hi]; exact e1, e2, e3, e4.map h h1⟩
  | row rw' n wd g t =>
    simp only [mapB, Option.some.injEq] at hm
    subst hm
    rcases hb with ⟨e1, e2, e3⟩ | ⟨b, l, t', fz, e1, e2⟩
    · exact .inl ⟨e1, e2, by rw [hi]; exact e3⟩
    · exact .inr ⟨b, l, t', fz, by rw [hi]; exact e1, e2⟩
  | gone =>
    simp only [mapB, Option.some.injEq] at hm
    subst hm
    trivial
theorem mapB_marks {f : Nat → Option Nat} {b b' : AB} (h : mapB f b = some b') : b'.wr = b.wr ∧ b'.live = b.live ∧ (b = .gone → b' = .gone) := by
  cases b with
  | cells cs t => simp only [mapB, Option.map_eq_some_iff] at h; obtain ⟨q, _, rfl⟩ := h; exact ⟨rfl, rfl, fun h => by cases h⟩
  | row => simp only [mapB, Option.some.injEq] at h; subst h; exact ⟨rfl, rfl, fun h => by cases h⟩
  | gone => simp only [mapB, Option.some.injEq] at h; subst h; exact ⟨rfl, rfl, fun _ => rfl⟩

def roB (r : Bool) : AB → AB
  | .row rw n w g t => .row (rw && !r) n w g t
  | b => b
def roL : List Bool → List AB → List AB
  | _, [] => []
  | [], b :: bs => b :: roL [] bs
  | r :: rs, b :: bs => roB r b :: roL rs bs
theorem roL_length : ∀ (rs : List Bool) (bs : List AB), (roL rs bs).length = bs.length
  | _, [] => by simp [roL]
  | [], b :: bs => by simp [roL, roL_length [] bs]
  | r :: rs, b :: bs => by simp [roL, roL_length rs bs]
theorem roL_get : ∀ (rs : List Bool) (bs : List AB) (j : Nat), (roL rs bs)[j]? = (bs[j]?).map (roB (rs.getD j false))
  | _, [], j => by simp [roL]
  | [], b :: bs, 0 => by cases b <;> simp [roL, roB]
  | [], b :: bs, j + 1 => by simpa [roL] using roL_get [] bs j
  | r :: rs, b :: bs, 0 => by simp [roL]
  | r :: rs, b :: bs, j + 1 => by simpa [roL] using roL_get rs bs j
theorem roB_wr {r : Bool} {b : AB} (h : (roB r b).wr = true) : b.wr = true := by
  cases b with
  | row rw => simp only [roB, AB.wr, Bool.and_eq_true] at h ⊢; exact h.1
  | cells => rfl
  | gone => simp [roB, AB.wr] at h
theorem roB_live {r : Bool} {b : AB} : (roB r b).live = b.live := by cases b <;> rfl
theorem roB_br {ν : Nu} {i : Nat} {r : Bool} {b : AB} {w : World} (h : BR ν i b w) : BR ν i (roB r b) w := by
  cases b with
  | row rw n wd g t =>
    rcases h with ⟨e1, e2, e3⟩ | ⟨b, l, t', fz, e1, e2, e3, e4⟩
    · exact .inl ⟨by simp [e1], e2, e3⟩
    · exact .inr ⟨b, l, t', fz, e1, e2, fun hr => by
        simp only [Bool.and_eq_true] at hr
        exact e3 hr.1, e4⟩
  | cells => exact h
  | gone => exact h

structure HR where
  val : AV
  out : List AB
  new : List AB := []
  obl : List Bool := []

def putH : List Nat → List AB → List AB → List (Nat × AB)
  | i :: is, h :: hs, o :: os => bif h.wr then (i, o) :: putH is hs os else putH is hs os
  | _, _, _ => []
theorem putH_mem : ∀ {is : List Nat} {hs os : List AB} {i : Nat} {o : AB}, (i, o) ∈ putH is hs os → ∃ (j : Nat) (h : AB), is[j]? = some i ∧ hs[j]? = some h ∧ os[j]? = some o ∧ h.wr = true
  | i0 :: is, h0 :: hs, o0 :: os, i, o, hm => by
    simp only [putH] at hm
    have tail : (i, o) ∈ putH is hs os → ∃ (j : Nat) (h : AB), (i0 :: is)[j]? = some i ∧ (h0 :: hs)[j]? = some h ∧ (o0 :: os)[j]? = some o ∧ h.wr = true := fun hm => by
      obtain ⟨j, h, e1, e2, e3, e4⟩ := putH_mem hm
      exact ⟨j + 1, h, by simpa using e1, by simpa using e2, by simpa using e3, e4⟩
    cases hw : h0.wr with
    | true =>
      rw [hw, cond_true] at hm
      rcases List.mem_cons.1 hm with e | hm
      · cases e
        exact ⟨0, h0, rfl, rfl, rfl, hw⟩
      · exact tail hm
    | false => rw [hw, cond_false] at hm; exact tail hm
  | [], _, _, _, _, hm => by simp [putH] at hm
  | _ :: _, [], _, _, _, hm => by simp [putH] at hm
  | _ :: _, _ :: _, [], _, _, hm => by simp [putH] at hm
theorem putH_of : ∀ {is : List Nat} {hs os : List AB} {j i : Nat} {h o : AB}, is[j]? = some i → hs[j]? = some h → os[j]? = some o → h.wr = true → (i, o) ∈ putH is hs os
  | i0 :: is, h0 :: hs, o0 :: os, j, i, h, o, e1, e2, e3, hw => by
    cases j with
    | zero =>
      simp at e1 e2 e3
      subst e1 e2 e3
      simp [putH, hw]
    | succ j =>
      have := putH_of (is := is) (hs := hs) (os := os) (j := j) (by simpa using e1) (by simpa using e2) (by simpa using e3) hw
      simp only [putH]
      cases h0.wr with
      | true => exact List.mem_cons_of_mem _ this
      | false => exact this
  | [], _, _, _, _, _, _, e1, _, _, _ => by simp at e1
  | _ :: _, [], _, _, _, _, _, _, e2, _, _ => by simp at e2
  | _ :: _, _ :: _, [], _, _, _, _, _, _, e3, _ => by simp at e3
theorem lookB_of {i : Nat} {b : AB} : ∀ {l : List (Nat × AB)}, (i, b) ∈ l → ∃ b', lookB i l = some b'
  | p :: l, h => by
    simp only [lookB]
    split
    · exact ⟨_, rfl⟩
    · rename_i hne
      rcases List.mem_cons.1 h with e | h
      · subst e; exact absurd rfl hne
      · exact lookB_of h

def viewH (ros : List Bool) (avs : List AV) (H : List AB) : Option (List Nat × List AV × List AB) :=
  match renAs (reach H 400 [] (idxAs avs)) avs, renBs (reach H 400 [] (idxAs avs)) H (reach H 400 [] (idxAs avs)) with
  | some a, some h => cond (nodupB (reach H 400 [] (idxAs avs))) (some (reach H 400 [] (idxAs avs), a, roL ros h)) none
  | _, _ => none

def GivH (hr : HR) : Ex → List AV → List AB → Prop := fun _ l He => l = [hr.val] ∧ Hsim He (hr.out ++ hr.new)

def GivW (hr : HR) : Ex → List AV → List AB → Prop := fun _ l He => ∃ a, l = [a] ∧ (∀ M ν w v, RH M ν (fun b => He.getD b .gone) w → VR ν a v → VR ν hr.val v) ∧ Hsim He (hr.out ++ hr.new)
structure Himp (H H0 : List AB) : Prop where
  len : H.length = H0.length
  rh : ∀ {M ν w}, RH M ν (fun b => H.getD b .gone) w → RH M ν (fun b => H0.getD b .gone) w
theorem Hsim.imp {H H0 : List AB} (h : Hsim H H0) : Himp H H0 := ⟨h.length, fun k => k.sim h⟩
end Go.Proofs.YtddhmidegldhdaaGreatDoor

/- IndexFunc on wheels, for the three questions that the program asks, and the program's DesignValid. Conditions: a list of wheels. -/
namespace Go.Proofs.YtddhmidegldhdaaGreatDoor
open Go.RowKit
set_option maxRecDepth 100000

def v9 (s x1 x2 x3 x4 x5 x6 x7 x8 : Int) : Nat → Int := whN ⟨s, ⟨x1, x2, x3, x4, x5, x6, x7, x8⟩⟩
end Go.Proofs.YtddhmidegldhdaaGreatDoor

/- DeleteFunc on wheels: those whose radius is nothing are left out. Conditions: a list of wheels. -/
namespace Go.Proofs.YtddhmidegldhdaaGreatDoor
open Go.RowKit
set_option maxRecDepth 100000

end Go.Proofs.YtddhmidegldhdaaGreatDoor

/- The sort of wheels by their speeds. Conditions: at most twelve. -/
namespace Go.Proofs.YtddhmidegldhdaaGreatDoor
open Go.RowKit
set_option maxRecDepth 100000

theorem lamC {P : Program} {m0 id : Nat} {S : Sum} {c cc : Code} (h : codeAt id cc = [.block id (.loop c)]) (hS : SumOk P m0 (.block id (.loop c)) S) : LamOk P m0 (oneL id S) cc := by
  intro j S' hj b hb
  unfold oneL at hj
  cases hjb : Nat.beq j id with
  | false => rw [hjb] at hj; cases hj
  | true =>
    rw [hjb] at hj
    cases hj
    rw [Nat.eq_of_beq_eq_true hjb] at hb
    rw [h] at hb
    simp at hb
    subst hb
    exact hS

end Go.Proofs.YtddhmidegldhdaaGreatDoor

/- SortFunc on wheels, and Clip. Conditions: at most twelve. -/
namespace Go.Proofs.YtddhmidegldhdaaGreatDoor
open Go.RowKit
set_option maxRecDepth 100000

end Go.Proofs.YtddhmidegldhdaaGreatDoor

/- tidied: the program's tidy design. Conditions: a list of wheels. -/
namespace Go.Proofs.YtddhmidegldhdaaGreatDoor
open Go.RowKit
set_option maxRecDepth 100000

end Go.Proofs.YtddhmidegldhdaaGreatDoor

/- l2Turned and l2Done, the reference's: their words. Conditions: at most 2^40 steps. -/
namespace Go.Proofs.YtddhmidegldhdaaGreatDoor
open Go.RowKit
set_option maxRecDepth 100000

end Go.Proofs.YtddhmidegldhdaaGreatDoor

/- root and turned of the program. Conditions: numbers of 64 bits. -/
namespace Go.Proofs.YtddhmidegldhdaaGreatDoor
open Go.RowKit
set_option maxRecDepth 100000

end Go.Proofs.YtddhmidegldhdaaGreatDoor

/- 'changed', for each change that the program makes: trees. Conditions: a list of wheels. -/
namespace Go.Proofs.YtddhmidegldhdaaGreatDoor
open Go.RowKit
set_option maxRecDepth 100000

end Go.Proofs.YtddhmidegldhdaaGreatDoor

/- 'changed', for each change that the program makes: its words. Conditions: a list of wheels. -/
namespace Go.Proofs.YtddhmidegldhdaaGreatDoor
open Go.RowKit
set_option maxRecDepth 100000

end Go.Proofs.YtddhmidegldhdaaGreatDoor

/- The program's designs changed: DesignTidy, DesignTurned, DesignLater, DesignBack, DesignMirror. Conditions: a list of wheels. -/
namespace Go.Proofs.YtddhmidegldhdaaGreatDoor
open Go.RowKit
set_option maxRecDepth 100000

end Go.Proofs.YtddhmidegldhdaaGreatDoor

/- l5At and DesignAt, the reference's: their words. Conditions: a list of wheels. -/
namespace Go.Proofs.YtddhmidegldhdaaGreatDoor
open Go.RowKit
set_option maxRecDepth 100000

end Go.Proofs.YtddhmidegldhdaaGreatDoor

/- l5Each, the reference's. Conditions: a list of wheels. -/
namespace Go.Proofs.YtddhmidegldhdaaGreatDoor
open Go.RowKit
set_option maxRecDepth 100000

end Go.Proofs.YtddhmidegldhdaaGreatDoor

/- Helpers on what l5Each and the changes come to. No conditions. -/
namespace Go.Proofs.YtddhmidegldhdaaGreatDoor
open Go.RowKit
set_option maxRecDepth 100000

theorem ble_me (n : Nat) : Nat.ble n n = true := by simp
theorem needs_nil (r : Res) : needs [] r = r := rfl
theorem needs_t (l : List Bool) (r : Res) : needs (true :: l) r = needs l r := rfl
end Go.Proofs.YtddhmidegldhdaaGreatDoor

/- A word for a callee that hands back a new list or none: read as one. Conditions: those of its two cases. -/
namespace Go.Proofs.YtddhmidegldhdaaGreatDoor
open Go.RowKit
set_option maxRecDepth 100000

structure UR where
  b : Bool
  T : List Wh
  obl : List Bool
end Go.Proofs.YtddhmidegldhdaaGreatDoor

/- Changed designs as a list or none, read as one. Conditions: a list of wheels. -/
namespace Go.Proofs.YtddhmidegldhdaaGreatDoor
open Go.RowKit
set_option maxRecDepth 100000

end Go.Proofs.YtddhmidegldhdaaGreatDoor

/- The program's DesignTidy, DesignBack, DesignMirror, as a list or none, read as one. Conditions: a list of wheels. -/
namespace Go.Proofs.YtddhmidegldhdaaGreatDoor
open Go.RowKit
set_option maxRecDepth 100000

end Go.Proofs.YtddhmidegldhdaaGreatDoor

/- Products of designs: CycTimes of both, DesignTimes of both: trees. Conditions: two lists of wheels. -/
namespace Go.Proofs.YtddhmidegldhdaaGreatDoor
open Go.RowKit
set_option maxRecDepth 100000

end Go.Proofs.YtddhmidegldhdaaGreatDoor

/- Products of designs: CycTimes of both, DesignTimes of both. Conditions: two lists of wheels. -/
namespace Go.Proofs.YtddhmidegldhdaaGreatDoor
open Go.RowKit
set_option maxRecDepth 100000

end Go.Proofs.YtddhmidegldhdaaGreatDoor

/- DesignTimes of both. Conditions: two lists of wheels. -/
namespace Go.Proofs.YtddhmidegldhdaaGreatDoor
open Go.RowKit
set_option maxRecDepth 100000

end Go.Proofs.YtddhmidegldhdaaGreatDoor

/- The program's DesignTimes, as a list or none, read as one. Conditions: two lists of wheels. -/
namespace Go.Proofs.YtddhmidegldhdaaGreatDoor
open Go.RowKit
set_option maxRecDepth 100000

end Go.Proofs.YtddhmidegldhdaaGreatDoor

/- Contracts brought down to the world: what a callee that writes nothing old hands back; lists of wheels that a slice reads as. No conditions beyond those of each contract. -/
namespace Go.Proofs.YtddhmidegldhdaaGreatDoor
open Go.RowKit
set_option maxRecDepth 100000

abbrev nwM (w : World) : Nat → Prop := fun k => w.heap.size ≤ k
theorem SpecOk.down {f : FuncId} {S : Spec} (h : SpecOk Tryz.prog f S) {avs : List AV} {H : List AB} {base : Nat} {δ : Delta} {ν : Nu} {vals : List Value} {w : World} (hS : S avs H base = some δ) (ho : obls δ.obl = true) (hp : δ.put = []) (hv : VRs ν avs vals)
    (hr : ∀ i ∈ δ.rd, BR ν i (H.getD i .gone) w) (hlt : ∀ i b, ν i = some b → i < base ∧ b.n < w.heap.size) (ht : TabOk (nwM w) w) :
    Calls Tryz.prog f vals.toArray w fun e w' => ∃ v ν', e = .returned v ∧ VR ν' δ.val v ∧ (∀ (j : Nat) b, δ.new[j]? = some b → BR ν' (base + j) b w') ∧ (∀ (j : Nat) b, j < δ.new.length → ν' (base + j) = some b → w.heap.size ≤ b.n ∧ b.n < w'.heap.size) ∧ Fr (nwM w) w w' := by
  refine (h.2 avs H base δ ν vals w hS ho hv hr (fun i b hb => (hlt i b hb).2) (fun j _ => ?_) (fun i c j b b' hc => ?_) (ht.mono fun k _ hk => ?_)).mono ?_
  · cases e : ν (base + j) with
    | none => rfl
    | some b => have := (hlt _ b e).1; omega
  · rw [hp] at hc
    cases hc
  · rcases hk with hk | ⟨i, b, c, hc, _⟩
    · exact hk
    · rw [hp] at hc
      cases hc
  · rintro e w' ⟨v, ν', rfl, d⟩
    refine ⟨v, ν', rfl, d.val, d.new, fun j b hj hb => ?_, d.os, d.tape, d.output, d.size, fun k hk _ => d.block k hk fun p b hpm => ?_⟩
    · obtain ⟨h1, h2⟩ := d.fresh j b hj hb
      refine ⟨?_, h1⟩
      rcases h2 with h2 | ⟨i, b0, h3, _⟩
      · exact h2
      · rw [hp] at h3
        cases h3
    · rw [hp] at hpm
      cases hpm

def Wrow (w : World) (k : Nat) : Prop := ∃ l fz, w.heap[k]? = some (.cells l 60 fz)
def ReadsW (w : World) (v : Value) (L : List Wh) : Prop :=
  ∃ ν : Nu, (∀ i b, ν i = some b → i = 0 ∧ b.n < w.heap.size ∧ Wrow w b.n) ∧ VR ν (.sl 0 9 0 0 L.length none) v ∧ BR ν 0 (.row false L.length 9 (row9 (wfun L)) 60) w
theorem ReadsW.nil (w : World) : ReadsW w (.slice none 0 0) [] := by
  refine ⟨fun _ => none, fun i b h => (by cases h), ?_, .inl ⟨rfl, rfl, rfl⟩⟩
  simp only [VR]
  exact ⟨none, 0, rfl, by simp, Nat.le_refl _, fun h => absurd h (Nat.lt_irrefl 0)⟩
theorem ReadsW.kept {w w' : World} {v : Value} {L : List Wh} (h : ReadsW w v L) (hs : w.heap.size ≤ w'.heap.size) (hk : ∀ k, k < w.heap.size → Wrow w k → w'.heap[k]? = w.heap[k]?) : ReadsW w' v L := by
  obtain ⟨ν, h1, h2, h3⟩ := h
  refine ⟨ν, fun i b hb => ?_, h2, h3.of_block fun k hk' _ => hk _ (h1 _ k hk').2.1 (h1 _ k hk').2.2⟩
  obtain ⟨q1, q2, q3⟩ := h1 i b hb
  refine ⟨q1, Nat.lt_of_lt_of_le q2 hs, ?_⟩
  unfold Wrow at q3 ⊢
  rw [hk _ q2 (h1 i b hb).2.2]
  exact q3
theorem ReadsW.fr {w w' : World} {v : Value} {L : List Wh} (h : ReadsW w v L) {M : Nat → Prop} (hM : ∀ k, k < w.heap.size → M k → ¬ Wrow w k) (f : Fr M w w') : ReadsW w' v L := h.kept f.size fun k hk hw => f.block k hk fun hm => hM k hk hm hw
theorem ReadsW.below {w w' : World} {v : Value} {L : List Wh} (h : ReadsW w v L) (f : Fr (nwM w) w w') : ReadsW w' v L := h.fr (fun _ hk hm => absurd hm (Nat.not_le.2 hk)) f
theorem ReadsW.of {ν : Nu} {i n : Nat} {v : Value} {c : Option Nat} {L : List Wh} {w : World} (hn : n = L.length) (hv : VR ν (.sl i 9 0 0 n c) v) (hb : BR ν i (.row true n 9 (row9 (wfun L)) 60) w) (hf : ∀ b, ν i = some b → b.n < w.heap.size) : ReadsW w v L := by
  subst hn
  rcases hb with ⟨h1, _⟩ | ⟨b, l, t', fz, h1, h2, h6, h4, h5⟩
  · cases h1
  obtain ⟨_, _, rfl, _⟩ := h6 rfl
  refine ⟨fun j => if j = 0 then ν i else none, fun j b' hj => ?_, ?_, ?_⟩
  · simp only at hj
    split at hj
    · have := hf b' hj
      rw [h1] at hj
      cases hj
      exact ⟨by assumption, this, _, _, h2⟩
    · cases hj
  · simp only [VR] at hv ⊢
    obtain ⟨p, c', h1, _, h3, h4⟩ := hv
    exact ⟨p, c', h1, by simp, h3, fun hc => let ⟨b, h5, h6⟩ := h4 hc; ⟨b, by simp [h5], h6⟩⟩
  · exact .inr ⟨b, l, _, fz, by simp [h1], h2, by simp, h4, h5⟩

theorem ReadsW.lt {w : World} {v : Value} {L : List Wh} (h : ReadsW w v L) : ∃ ν : Nu, (∀ i b, ν i = some b → i < 1 ∧ b.n < w.heap.size) ∧ VR ν (.sl 0 9 0 0 L.length none) v ∧ BR ν 0 (.row false L.length 9 (row9 (wfun L)) 60) w := by
  obtain ⟨ν, h1, h2, h3⟩ := h
  exact ⟨ν, fun i b hb => ⟨by have := (h1 i b hb).1; omega, (h1 i b hb).2.1⟩, h2, h3⟩
theorem vrs_map {ν : Nu} : ∀ l : List Value, VRs ν (l.map .v) l
  | [] => trivial
  | _ :: l => ⟨rfl, vrs_map l⟩
theorem down_v {f : FuncId} {S : Spec} (h : SpecOk Tryz.prog f S) {δ : Delta} {w : World} (vs : List Value) (hS : S (vs.map .v) [] 0 = some δ) (ho : obls δ.obl = true) (hp : δ.put = []) (hd : δ.rd = []) (ht : TabOk (nwM w) w) :
    Calls Tryz.prog f vs.toArray w fun e w' => ∃ x ν', e = .returned x ∧ VR ν' δ.val x ∧ (∀ (j : Nat) b, δ.new[j]? = some b → BR ν' (0 + j) b w') ∧ (∀ (j : Nat) b, j < δ.new.length → ν' (0 + j) = some b → w.heap.size ≤ b.n ∧ b.n < w'.heap.size) ∧ Fr (nwM w) w w' := by
  refine h.down (ν := fun _ => none) hS ho hp (vals := vs) (vrs_map vs) (fun i hi => ?_) (fun i b hb => by cases hb) ht
  rw [hd] at hi
  cases hi

def VPost (w : World) (x : Value) (e : Ending) (w' : World) : Prop := e = .returned x ∧ Fr (nwM w) w w'
theorem v_v {f : FuncId} {S : Spec} (h : SpecOk Tryz.prog f S) {δ : Delta} {x : Value} {w : World} (vs : List Value) (hS : S (vs.map .v) [] 0 = some δ) (hx : δ.val.toV = some x) (ho : obls δ.obl = true) (hp : δ.put = []) (hd : δ.rd = []) (ht : TabOk (nwM w) w) :
    Calls Tryz.prog f vs.toArray w (VPost w x) := by
  refine (down_v h vs hS ho hp hd ht).mono ?_
  rintro e w' ⟨y, ν', rfl, hy, _, _, hr⟩
  rw [VR_toV hx hy]
  exact ⟨rfl, hr⟩
end Go.Proofs.YtddhmidegldhdaaGreatDoor

/- Regions whose order is left open, walked once in the order of the text: every operation of the head comes to one value and keeps an invariant of the world, in whatever order; the tail is forced. For every program whose orders are mixed. -/
namespace Go.Proofs.YtddhmidegldhdaaGreatDoor
open Go.RowKit

section
variable {P : Program} {ops : Array Oper} {md : Region.Mode} {I : World → Prop}

def Goes (P : Program) (I : World → Prop) (N : Nat) (dst : Option Tmp) (v : Value) : Result Next → Prop
  | .ok (.value u) w' => (∀ d, dst = some d → d < N → u = v) ∧ I w'
  | .ok .skip w' => (∀ d, dst = some d → d < N → undef = v) ∧ I w'
  | .ok (.enter f args) w' => Calls P f args w' fun e w'' => ∃ u, e = .returned u ∧ (∀ d, dst = some d → d < N → u = v) ∧ I w''
  | .ok (.row row args) w' => Rows P row args w' fun u w'' => (∀ d, dst = some d → d < N → u = v) ∧ I w''
  | _ => False

theorem put_congr {a : Act} {N : Nat} (hN : a.tmps.size = N) {dst : Option Tmp} {u v : Value} (h : ∀ d, dst = some d → d < N → u = v) : a.put dst u = a.put dst v := by
  cases dst with
  | none => rfl
  | some d =>
    by_cases hd : d < N
    · rw [h d rfl hd]
    · have h1 : a.tmps.size ≤ d := by rw [hN]; exact Nat.le_of_not_lt hd
      simp only [Act.put]
      rw [Array.setIfInBounds_eq_of_size_le h1, Array.setIfInBounds_eq_of_size_le h1]

def Sure (P : Program) (ops : Array Oper) (I : World → Prop) (o : Oper) (v : Value) (a : Act) : Prop :=
  (Region.wanted o (yielded ops a.tmps) = true ∧ ∀ w, I w → Goes P I a.tmps.size o.dst v ((execOp a.eval o).run P w)) ∨
  (Region.wanted o (yielded ops a.tmps) = false ∧ v = undef)

theorem Sure.wpOp {i : Nat} {o : Oper} {v : Value} {a : Act} {w : World} {Q : Exit → Act → World → Prop} {K : Act → World → Prop} (hi : ops[i]? = some o) (hy : Sure P ops I o v a) (hI : I w)
    (hK : ∀ w', I w' → K (a.put o.dst v) w') : Go.wpOp P ops Q i K a w := by
  unfold Go.wpOp
  simp only [hi]
  rcases hy with ⟨hw, hg⟩ | ⟨hw, rfl⟩
  · simp only [hw, if_true]
    refine .inl ?_
    have hg := hg w hI
    unfold Oper.wp
    generalize (execOp a.eval o).run P w = r at *
    cases r with
    | ok x w' =>
      cases x <;> simp only [Goes] at hg <;> simp only [Oper.upon]
      case value u => rw [put_congr rfl hg.1]; exact hK _ hg.2
      case skip => rw [put_congr rfl hg.1]; exact hK _ hg.2
      case enter f args =>
        refine hg.mono ?_
        rintro e w'' ⟨u, rfl, hu, hI'⟩
        simp only
        rw [put_congr rfl hu]; exact hK _ hI'
      case row row args =>
        refine hg.mono ?_
        rintro u w'' ⟨hu, hI'⟩
        rw [put_congr rfl hu]; exact hK _ hI'
    | halt x w' => simp only [Goes] at hg
  · simp only [hw, Bool.false_eq_true, if_false]
    exact hK w hI

end
end Go.Proofs.YtddhmidegldhdaaGreatDoor

/- The desk: must, become. No conditions. -/
namespace Go.Proofs.YtddhmidegldhdaaGreatDoor
open Go.RowKit
set_option maxRecDepth 100000

abbrev refV : Value := .iface 131 (.agg #[])
abbrev diesE : Ending := .panicked [{ v := refV, recovered := false }]
set_option maxHeartbeats 1000000 in
theorem must_ok (w : World) : Calls Tryz.prog 157 #[.bool true] w fun e w' => e = .returned (.tuple #[]) ∧ w' = w := by
  have mixed := mixed
  go_enter Tryz.func157, Tryz.ntmps157
  go_wp2
  go_end0
  exact ⟨rfl, rfl⟩
set_option maxHeartbeats 1000000 in
theorem must_no (w : World) : Calls Tryz.prog 157 #[.bool false] w fun e w' => e = diesE ∧ w' = w := by
  have mixed := mixed
  go_enter Tryz.func157, Tryz.ntmps157
  go_wp2
  exact ⟨rfl, rfl, rfl⟩
end Go.Proofs.YtddhmidegldhdaaGreatDoor

/- Texts cut at a byte, joined again; numbers written and read back. Plain. No conditions. -/
namespace Go.Proofs.YtddhmidegldhdaaGreatDoor

def cuC (c : UInt8) : List UInt8 → List (List UInt8)
  | [] => [[]]
  | b :: l => if b = c then [] :: cuC c l else match cuC c l with
    | x :: xs => (b :: x) :: xs
    | [] => [[b]]
theorem cuC_ne (c : UInt8) : ∀ l : List UInt8, cuC c l ≠ []
  | [] => by simp [cuC]
  | b :: l => by
    unfold cuC
    split
    · simp
    · split <;> simp
theorem cuC_free {c : UInt8} : ∀ l : List UInt8, c ∉ l → cuC c l = [l]
  | [], _ => rfl
  | b :: l, h => by
    simp only [List.mem_cons, not_or] at h
    unfold cuC
    rw [if_neg (fun e => h.1 e.symm), cuC_free l h.2]
theorem cuC_app {c : UInt8} : ∀ (x r : List UInt8), c ∉ x → cuC c (x ++ c :: r) = x :: cuC c r
  | [], r, _ => by
    rw [List.nil_append, cuC, if_pos rfl]
  | b :: x, r, h => by
    simp only [List.mem_cons, not_or] at h
    rw [List.cons_append, cuC, if_neg (fun e => h.1 e.symm), cuC_app x r h.2]
theorem index_app {c : UInt8} : ∀ (x r : List UInt8), c ∉ x → Lib.index (x ++ c :: r) [c] = (x.length : Int)
  | [], r, _ => by
    rw [List.nil_append, Lib.index]
    simp [List.isPrefixOf]
  | b :: x, r, h => by
    simp only [List.mem_cons, not_or] at h
    have hp : ([c] : List UInt8).isPrefixOf (b :: (x ++ c :: r)) = false := by simp [List.isPrefixOf, h.1]
    rw [List.cons_append, Lib.index, hp, index_app x r h.2]
    have : ((x.length : Int) == -1) = false := by rw [beq_eq_false_iff_ne]; omega
    rw [this]
    simp
theorem cut_first (c : UInt8) : ∀ l : List UInt8, c ∈ l → ∃ x r, l = x ++ c :: r ∧ c ∉ x
  | b :: l, h => by
    by_cases e : b = c
    · exact ⟨[], l, by rw [e]; rfl, by simp⟩
    · have : c ∈ l := by
        rcases List.mem_cons.1 h with h | h
        · exact absurd h.symm e
        · exact h
      obtain ⟨x, r, h1, h2⟩ := cut_first c l this
      exact ⟨b :: x, r, by rw [h1]; rfl, by simp only [List.mem_cons, not_or]; exact ⟨fun e' => e e'.symm, h2⟩⟩
theorem splitK_cuC {c : UInt8} : ∀ (k : Nat) (s : List UInt8), s.count c = k → Lib.splitK [c] 0 k s = cuC c s
  | 0, s, h => by
    rw [Lib.splitK, cuC_free s (List.count_eq_zero.1 h)]
  | k + 1, s, h => by
    have hm : c ∈ s := by
      rw [← List.count_pos_iff]
      omega
    obtain ⟨x, r, rfl, hx⟩ := cut_first c s hm
    have hr : r.count c = k := by
      rw [List.count_append, List.count_cons_self, List.count_eq_zero.2 hx] at h
      omega
    rw [Lib.splitK, index_app x r hx, cuC_app x r hx]
    have : ((x.length : Int) == -1) = false := by rw [beq_eq_false_iff_ne]; omega
    rw [this]
    simp only [Bool.false_eq_true, if_false, Int.toNat_natCast, Nat.add_zero, List.take_left, List.length_singleton]
    rw [show List.drop (x.length + 1) (x ++ c :: r) = r from by rw [← List.drop_drop, List.drop_left]; rfl, splitK_cuC k r hr]
theorem cut_app {c : UInt8} {x r : List UInt8} (h : c ∉ x) : Lib.cut (x ++ c :: r) [c] = (x, r, true) := by
  rw [Lib.cut, index_app x r h, if_pos (by omega)]
  simp only [Int.toNat_natCast, List.take_left, List.length_singleton, Prod.mk.injEq, and_true, true_and]
  rw [← List.drop_drop, List.drop_left]
  rfl

end Go.Proofs.YtddhmidegldhdaaGreatDoor

/- Decimal numbers: strconv.Itoa by the shelf's contract, the reference's l6Dec by walking. Conditions: the int's range. -/
namespace Go.Proofs.YtddhmidegldhdaaGreatDoor
open Go.RowKit Go.Shelf
set_option maxRecDepth 100000

def Tryz.laysItoa_ren : Go.Shelf.Ren := ⟨fun | 171 => 48 | 243 => 109 | 246 => 167 | 283 => 239 | 284 => 240 | 285 => 241 | 286 => 242 | 129 => 209 | 317 => 296 | 318 => 297 | 319 => 298 | 320 => 299 | 337 => 321 | 338 => 322 | n => n, fun | 3 => 3 | 9 => 9 | 2 => 2 | 4 => 4 | 171 => 263 | 0 => 0 | 53 => 207 | 37 => 22 | 5 => 5 | 173 => 265 | 212 => 305 | 51 => 203 | 20 => 20 | 213 => 306 | 46 => 175 | 232 => 339 | 233 => 340 | n => n, fun | 17 => 3 | 18 => 8 | 19 => 9 | n => n⟩
theorem Tryz.laysItoa : Go.Proofs.LaysM.n171 Tryz.prog Tryz.laysItoa_ren := {
  mixed := by kernel_rfl
  f129 := Tryz.func209.trans (congrArg some (by kernel_rfl))
  f171 := Tryz.func48.trans (congrArg some (by kernel_rfl))
  f243 := Tryz.func109.trans (congrArg some (by kernel_rfl))
  f246 := Tryz.func167.trans (congrArg some (by kernel_rfl))
  f283 := Tryz.func239.trans (congrArg some (by kernel_rfl))
  f284 := Tryz.func240.trans (congrArg some (by kernel_rfl))
  f285 := Tryz.func241.trans (congrArg some (by kernel_rfl))
  f286 := Tryz.func242.trans (congrArg some (by kernel_rfl))
  f317 := Tryz.func296.trans (congrArg some (by kernel_rfl))
  f318 := Tryz.func297.trans (congrArg some (by kernel_rfl))
  f319 := Tryz.func298.trans (congrArg some (by kernel_rfl))
  f320 := Tryz.func299.trans (congrArg some (by kernel_rfl))
  f337 := Tryz.func321.trans (congrArg some (by kernel_rfl))
  f338 := Tryz.func322.trans (congrArg some (by kernel_rfl))
  t0 := Tryz.underlying0
  a0 := Tryz.isAgg0
  z0 := Tryz.sizeOf0
  v0 := Tryz.zeroValue0
  t2 := Tryz.underlying2
  a2 := Tryz.isAgg2
  z2 := Tryz.sizeOf2
  v2 := Tryz.zeroValue2
  t3 := Tryz.underlying3
  a3 := Tryz.isAgg3
  z3 := Tryz.sizeOf3
  v3 := Tryz.zeroValue3
  t4 := Tryz.underlying4
  a4 := Tryz.isAgg4
  z4 := Tryz.sizeOf4
  v4 := Tryz.zeroValue4
  t5 := Tryz.underlying5
  a5 := Tryz.isAgg5
  z5 := Tryz.sizeOf5
  v5 := Tryz.zeroValue5
  t9 := Tryz.underlying9
  a9 := Tryz.isAgg9
  z9 := Tryz.sizeOf9
  v9 := Tryz.zeroValue9
  t20 := Tryz.underlying20
  a20 := Tryz.isAgg20
  z20 := Tryz.sizeOf20
  v20 := Tryz.zeroValue20
  t37 := Tryz.underlying22
  a37 := Tryz.isAgg22
  z37 := Tryz.sizeOf22
  v37 := Tryz.zeroValue22
  t46 := Tryz.underlying175
  a46 := Tryz.isAgg175
  z46 := Tryz.sizeOf175
  v46 := Tryz.zeroValue175
  t51 := Tryz.underlying203
  a51 := Tryz.isAgg203
  z51 := Tryz.sizeOf203
  v51 := Tryz.zeroValue203
  t53 := Tryz.underlying207
  a53 := Tryz.isAgg207
  z53 := Tryz.sizeOf207
  v53 := Tryz.zeroValue207
  t171 := Tryz.underlying263
  a171 := Tryz.isAgg263
  z171 := Tryz.sizeOf263
  v171 := Tryz.zeroValue263
  t173 := Tryz.underlying265
  a173 := Tryz.isAgg265
  z173 := Tryz.sizeOf265
  v173 := Tryz.zeroValue265
  t212 := Tryz.underlying305
  a212 := Tryz.isAgg305
  z212 := Tryz.sizeOf305
  v212 := Tryz.zeroValue305
  t213 := Tryz.underlying306
  a213 := Tryz.isAgg306
  z213 := Tryz.sizeOf306
  t232 := Tryz.underlying339
  a232 := Tryz.isAgg339
  z232 := Tryz.sizeOf339
  v232 := Tryz.zeroValue339
  t233 := Tryz.underlying340
  a233 := Tryz.isAgg340
  z233 := Tryz.sizeOf340
  v233 := Tryz.zeroValue340
  g17 := by kernel_rfl
  g18 := by kernel_rfl
  g19 := by kernel_rfl
  i0 := by kernel_rfl
  i2 := by kernel_rfl
  i3 := by kernel_rfl
  i4 := by kernel_rfl
  i5 := by kernel_rfl
  i9 := by kernel_rfl
  i20 := by kernel_rfl
  i37 := by kernel_rfl
  i46 := by kernel_rfl
  i51 := by kernel_rfl
  i53 := by kernel_rfl
  i171 := by kernel_rfl
  i173 := by kernel_rfl
  i212 := by kernel_rfl
  i232 := by kernel_rfl
  i233 := by kernel_rfl
  m17 := by kernel_rfl
  m18 := by kernel_rfl
  m19 := by kernel_rfl }

def decB (n : Int) : ByteArray := ⟨(Lib.itoa n).toArray⟩
def fDec : List Value → Option (Value × List Bool)
  | [.int .i64 n] => some (.string (decB n), [decide (-9223372036854775808 ≤ n), decide (n ≤ 9223372036854775807)])
  | _ => none

theorem tab_pow10 {M : Nat → Prop} {w : World} (h : TabOk M w) : Lib.TabIs Tryz.prog w "internal/strconv.uint64pow10" .u64 Lib.pow10Tab := by
  obtain ⟨_, l, t, fz, h1, rfl⟩ := h _ List.mem_cons_self
  have e : Tryz.prog.globalNamed "internal/strconv.uint64pow10" = some 3 := by kernel_rfl
  simp only [Lib.TabIs, World.var?, e, Option.bind_some, h1]

theorem fr_grow (w : World) (k : Nat) (os : Array Obj) : Fr (fun _ => False) w (Sort.grow (w.drewN k) os) := by
  refine ⟨rfl, rfl, rfl, by simp [Sort.grow], fun i hi _ => ?_⟩
  simp only [Sort.grow, World.heap_drewN]
  rw [Array.getElem?_append_left (by simpa using hi)]

theorem ok_itoa : SpecOk Tryz.prog 48 (specV fDec) := by
  refine specV_ok (fun args w => enters 48 Tryz.f48 Tryz.func48 rfl args w) fun vs x ob hF ho w ht => ?_
  unfold fDec at hF
  split at hF
  · rename_i n
    simp only [Option.some.injEq, Prod.mk.injEq] at hF
    obtain ⟨rfl, rfl⟩ := hF
    obtain ⟨h1, h2⟩ := obl2 ho
    refine (Any.strconv_Itoa Tryz.laysItoa n (of_decide_eq_true h1) (of_decide_eq_true h2) w (tab_pow10 ht)).mono ?_
    rintro e w' ⟨rfl, k, os, rfl⟩
    exact ⟨rfl, fr_grow w k os⟩
  · cases hF


def fDecP (dc : Int → ByteArray) (p : Int → Bool) : List Value → Option (Value × List Bool)
  | [.int .i64 n] => some (.string (dc n), [p n])
  | _ => none
def gmDec (dc : Int → ByteArray) (p : Int → Bool) : Gam := ext g0 63 (specV (fDecP dc p))

theorem treeDec_h (dc : Int → ByteArray) (p : Int → Bool) (n : Int) (u0 : _) (hu0 : (IntKind.wrap .i64 ((48 : Int) + Int.tmod n (10 : Int))) = u0) (u1 : _) (hu1 : (IntKind.wrap .i64 (Int.tdiv n (10 : Int))) = u1) (u2 : _) (hu2 : (IntKind.wrap .i64 ((48 : Int) + n)) = u2) (u3 : _) (hu3 : (IntKind.wrap .i64 ((0 : Int) - n)) = u3) (u4 : _) (hu4 : (txOf [u8Of (IntKind.wrap .u8 u0)]) = u4) : execF Tryz.prog (gmDec dc p) noLam 100 Tryz.f63 [.v (i64 n)] [] valK
    = bif decide (n < (-9223372036854775807 : Int)) then Res.out .ret [AV.v (.string (ByteArray.mk (Array.mk [(45 : UInt8), (57 : UInt8), (50 : UInt8), (50 : UInt8), (51 : UInt8), (51 : UInt8), (55 : UInt8), (50 : UInt8), (48 : UInt8), (51 : UInt8), (54 : UInt8), (56 : UInt8), (53 : UInt8), (52 : UInt8), (55 : UInt8), (55 : UInt8), (53 : UInt8), (56 : UInt8), (48 : UInt8), (56 : UInt8)])))] [] else bif decide (n < (0 : Int)) then needs [p u3, Nat.ble ((1 : Nat) + ByteArray.size (dc u3)) (9223372036854775807 : Nat)] (Res.out .ret [AV.v (.string (catB (ByteArray.mk (Array.mk [(45 : UInt8)])) (dc u3)))] []) else bif decide (n < (10 : Int)) then needs [decide ((0 : Int) ≤ IntKind.wrap .u8 u2), decide (IntKind.wrap .u8 u2 < (256 : Int))] (Res.out .ret [AV.v (.string (txOf [u8Of (IntKind.wrap .u8 u2)]))] []) else needs [p u1, decide ((0 : Int) ≤ IntKind.wrap .u8 u0), decide (IntKind.wrap .u8 u0 < (256 : Int)), Nat.ble (ByteArray.size (dc u1) + ByteArray.size u4) (9223372036854775807 : Nat)] (Res.out .ret [AV.v (.string (catB (dc u1) u4))] []) := by
  subst hu4 hu3 hu2 hu1 hu0
  kernel_rfl
theorem treeDec (dc : Int → ByteArray) (p : Int → Bool) (n : Int) : type_of% (treeDec_h dc p n _ rfl _ rfl _ rfl _ rfl _ rfl) := treeDec_h dc p n _ rfl _ rfl _ rfl _ rfl _ rfl

theorem nDigits_le : ∀ (k u : Nat), u < 10 ^ (k + 1) → Lib.nDigits u ≤ k + 1
  | 0, u, h => by rw [Lib.nDigits_small (by simpa using h)]; omega
  | k + 1, u, h => by
    by_cases hu : u < 10
    · rw [Lib.nDigits_small hu]; omega
    · rw [Lib.nDigits_big hu]
      have := nDigits_le k (u / 10) (by rw [Nat.pow_succ] at h; omega)
      omega
theorem decB_size {n : Int} (h1 : -10000000000000000000 < n) (h2 : n < 10000000000000000000) : (decB n).size ≤ 20 := by
  simp only [decB, ByteArray.size, List.size_toArray, Lib.itoa]
  split
  · rw [List.length_cons, Lib.decDigits_length]
    have := nDigits_le 18 n.natAbs (by omega)
    omega
  · rw [Lib.decDigits_length]
    have := nDigits_le 18 n.toNat (by omega)
    omega
theorem decB_neg {n : Int} (h : n < 0) : decB n = catB ⟨⟨[45]⟩⟩ (decB (-n)) := by
  have h1 : Lib.itoa n = 45 :: Lib.decDigits n.natAbs := by rw [Lib.itoa, if_pos h]
  have h2 : Lib.itoa (-n) = Lib.decDigits n.natAbs := by rw [Lib.itoa, if_neg (by omega), show (-n).toNat = n.natAbs by omega]
  simp only [decB, catB, h1, h2]
  exact (ByteArray.mk_append_mk [45] (Lib.decDigits n.natAbs)).symm
theorem u8Of_dig {n : Int} (h0 : 0 ≤ n) (h1 : n < 10) : u8Of (IntKind.u8.wrap (48 + n)) = UInt8.ofNat (48 + n.toNat) := by
  have : IntKind.u8.wrap (48 + n) = 48 + n := by rw [IntKind.wrap_u8]; omega
  rw [this, u8Of]
  congr 1
  omega
theorem decB_small {n : Int} (h0 : 0 ≤ n) (h1 : n < 10) : decB n = txOf [u8Of (IntKind.u8.wrap (48 + n))] := by
  rw [u8Of_dig h0 h1, decB, txOf, Lib.itoa, if_neg (by omega), Lib.decDigits_one (by omega)]
theorem decB_big {n : Int} (h1 : 10 ≤ n) : decB n = catB (decB (n.tdiv 10)) (txOf [u8Of (IntKind.u8.wrap (48 + n.tmod 10))]) := by
  have e1 : n.tdiv 10 = n / 10 := Int.tdiv_eq_ediv_of_nonneg (by omega)
  have e2 : n.tmod 10 = n % 10 := Int.tmod_eq_emod_of_nonneg (by omega)
  rw [e1, e2, u8Of_dig (by omega) (by omega)]
  have h2 : Lib.itoa n = Lib.decDigits (n / 10).toNat ++ [UInt8.ofNat (48 + (n % 10).toNat)] := by
    rw [Lib.itoa, if_neg (by omega), Lib.decDigits, dif_neg (by omega), show n.toNat / 10 = (n / 10).toNat by omega, show n.toNat % 10 = (n % 10).toNat by omega]
  have h3 : Lib.itoa (n / 10) = Lib.decDigits (n / 10).toNat := by rw [Lib.itoa, if_neg (by omega)]
  simp only [decB, catB, txOf, h2, h3]
  exact (ByteArray.mk_append_mk _ _).symm

theorem dec_step {p q : Int → Bool} (hp : SpecOk Tryz.prog 63 (specV (fDecP decB p))) (h1 : ∀ n, q n = true → -9223372036854775807 ≤ n ∧ n ≤ 9223372036854775807) (h2 : ∀ n, q n = true → n < 0 → p (-n) = true)
    (h3 : ∀ n, q n = true → 10 ≤ n → p (n.tdiv 10) = true) : SpecOk Tryz.prog 63 (specV (fDecP decB q)) := by
  refine mkV (n := 100) (ext_ok g0_ok hp) Tryz.func63 rfl fun vs x ob hF ho => ?_
  unfold fDecP at hF
  split at hF
  · rename_i n
    simp only [Option.some.injEq, Prod.mk.injEq] at hF
    obtain ⟨rfl, rfl⟩ := hF
    have hq : q n = true := by simpa [obls] using ho
    obtain ⟨r1, r2⟩ := h1 n hq
    have e := treeDec decB p n
    unfold gmDec at e
    simp only [List.map_cons, List.map_nil]
    rw [e]
    have W1 : ∀ {x : Int}, -9223372036854775808 ≤ x → x ≤ 9223372036854775807 → IntKind.wrap IntKind.i64 x = x := fun a b => wr_in ⟨a, b⟩
    have U1 : ∀ {x : Int}, 0 ≤ x → x < 10 → 0 ≤ IntKind.wrap IntKind.u8 (48 + x) ∧ IntKind.wrap IntKind.u8 (48 + x) < 256 := fun _ _ => by rw [IntKind.wrap_u8]; omega
    suffices h : GoodQ _ (Gives (.string (decB n))) from ⟨h.out⟩
    refine good_cond (fun c1 => ?_) fun _ => good_cond (fun c2 => ?_) fun c2 => good_cond (fun c3 => ?_) fun c3 => ?_
    · have c1 := of_decide_eq_true c1
      omega
    · have c2 := of_decide_eq_true c2
      rw [W1 (by omega) (by omega), Int.zero_sub]
      have hs := decB_size (n := -n) (by omega) (by omega)
      refine good_needs (by simp only [ob_cons, ob_nil, and_true, Nat.ble_eq]; exact ⟨h2 n hq c2, by omega⟩) (good_out ⟨_, rfl, ?_⟩)
      rw [decB_neg c2]
      rfl
    · have c2 := of_decide_eq_false c2
      have c3 := of_decide_eq_true c3
      rw [W1 (by omega) (by omega)]
      obtain ⟨u1, u2⟩ := U1 (x := n) (by omega) (by omega)
      refine good_needs (by simp only [ob_cons, ob_nil, and_true, decide_eq_true_eq]; exact ⟨u1, u2⟩) (good_out ⟨_, rfl, ?_⟩)
      rw [decB_small (by omega) (by omega)]
      rfl
    · have c2 := of_decide_eq_false c2
      have c3 := of_decide_eq_false c3
      have e1 : n.tdiv 10 = n / 10 := Int.tdiv_eq_ediv_of_nonneg (by omega)
      have e2 : n.tmod 10 = n % 10 := Int.tmod_eq_emod_of_nonneg (by omega)
      have hp := h3 n hq (by omega)
      rw [W1 (x := n.tdiv 10) (by omega) (by omega), W1 (x := 48 + n.tmod 10) (by omega) (by omega)]
      obtain ⟨u1, u2⟩ := U1 (x := n.tmod 10) (by omega) (by omega)
      have hs := decB_size (n := n.tdiv 10) (by omega) (by omega)
      have ht : (txOf [u8Of (IntKind.wrap IntKind.u8 (48 + n.tmod 10))]).size = 1 := rfl
      refine good_needs (by simp only [ob_cons, ob_nil, and_true, decide_eq_true_eq, Nat.ble_eq]; exact ⟨hp, u1, u2, by omega⟩) (good_out ⟨_, rfl, ?_⟩)
      rw [decB_big (n := n) (by omega)]
      rfl
  · cases hF

def inDec (k : Nat) (n : Int) : Bool := decide (0 ≤ n ∧ n < 10 ^ k ∧ n ≤ 9223372036854775807)
theorem dec_zero : SpecOk Tryz.prog 63 (specV (fDecP decB fun _ => false)) := by
  refine specV_ok (fun args w => enters 63 Tryz.f63 Tryz.func63 rfl args w) fun vs x ob hF ho => ?_
  unfold fDecP at hF
  split at hF
  · simp only [Option.some.injEq, Prod.mk.injEq] at hF
    obtain ⟨rfl, rfl⟩ := hF
    simp [obls] at ho
  · cases hF
theorem dec_at : ∀ k : Nat, SpecOk Tryz.prog 63 (specV (fDecP decB (inDec (k + 1))))
  | 0 => dec_step dec_zero (fun n h => by simp only [inDec, decide_eq_true_eq] at h; omega) (fun n h => by simp only [inDec, decide_eq_true_eq] at h; omega) (fun n h => by simp only [inDec, decide_eq_true_eq] at h; omega)
  | k + 1 => dec_step (dec_at k) (fun n h => by simp only [inDec, decide_eq_true_eq] at h; omega) (fun n h => by simp only [inDec, decide_eq_true_eq] at h; omega) (fun n h h10 => by
    simp only [inDec, decide_eq_true_eq] at h ⊢
    rw [Int.pow_succ] at h
    have e1 : n.tdiv 10 = n / 10 := Int.tdiv_eq_ediv_of_nonneg (by omega)
    omega)
theorem ok_dec : SpecOk Tryz.prog 63 (specV (fDecP decB fun n => decide (-9223372036854775807 ≤ n ∧ n ≤ 9223372036854775807))) :=
  dec_step (dec_at 19) (fun n h => by simpa using h) (fun n h h0 => by simp only [inDec, decide_eq_true_eq] at h ⊢; omega) (fun n h h0 => by
    simp only [inDec, decide_eq_true_eq] at h ⊢
    have e1 : n.tdiv 10 = n / 10 := Int.tdiv_eq_ediv_of_nonneg (by omega)
    omega)
end Go.Proofs.YtddhmidegldhdaaGreatDoor

/- strings.Join by the shelf's contract: a list of texts as a read-only row. Conditions: the lengths. -/
namespace Go.Proofs.YtddhmidegldhdaaGreatDoor
open Go.RowKit Go.Shelf
set_option maxRecDepth 100000

def Tryz.lays156_ren : Go.Shelf.Ren := ⟨fun | 156 => 86 | 165 => 141 | 166 => 46 | 169 => 49 | 240 => 88 | 241 => 210 | 276 => 145 | 277 => 276 | n => n, fun | 31 => 71 | 9 => 9 | 3 => 3 | 4 => 4 | 0 => 0 | 20 => 20 | 72 => 70 | 76 => 50 | 70 => 68 | 37 => 22 | 75 => 49 | 127 => 135 | 164 => 160 | 5 => 5 | 80 => 74 | n => n, fun | n => n⟩
theorem Tryz.lays156 : Go.Proofs.Lays.n156 Tryz.prog Tryz.lays156_ren := {
  mixed := by kernel_rfl
  f156 := Tryz.func86.trans (congrArg some (by kernel_rfl))
  f165 := Tryz.func141.trans (congrArg some (by kernel_rfl))
  f166 := Tryz.func46.trans (congrArg some (by kernel_rfl))
  f169 := Tryz.func49.trans (congrArg some (by kernel_rfl))
  f240 := Tryz.func88.trans (congrArg some (by kernel_rfl))
  f241 := Tryz.func210.trans (congrArg some (by kernel_rfl))
  f276 := Tryz.func145.trans (congrArg some (by kernel_rfl))
  f277 := Tryz.func276.trans (congrArg some (by kernel_rfl))
  t0 := Tryz.underlying0
  a0 := Tryz.isAgg0
  z0 := Tryz.sizeOf0
  v0 := Tryz.zeroValue0
  t3 := Tryz.underlying3
  a3 := Tryz.isAgg3
  z3 := Tryz.sizeOf3
  v3 := Tryz.zeroValue3
  t4 := Tryz.underlying4
  a4 := Tryz.isAgg4
  z4 := Tryz.sizeOf4
  v4 := Tryz.zeroValue4
  t9 := Tryz.underlying9
  a9 := Tryz.isAgg9
  z9 := Tryz.sizeOf9
  v9 := Tryz.zeroValue9
  t20 := Tryz.underlying20
  a20 := Tryz.isAgg20
  z20 := Tryz.sizeOf20
  v20 := Tryz.zeroValue20
  t31 := Tryz.underlying71
  a31 := Tryz.isAgg71
  z31 := Tryz.sizeOf71
  v31 := Tryz.zeroValue71
  t37 := Tryz.underlying22
  a37 := Tryz.isAgg22
  z37 := Tryz.sizeOf22
  v37 := Tryz.zeroValue22
  t70 := Tryz.underlying68
  a70 := Tryz.isAgg68
  z70 := Tryz.sizeOf68
  v70 := Tryz.zeroValue68
  t72 := Tryz.underlying70
  a72 := Tryz.isAgg70
  z72 := Tryz.sizeOf70
  v72 := Tryz.zeroValue70
  t75 := Tryz.underlying49
  a75 := Tryz.isAgg49
  z75 := Tryz.sizeOf49
  v75 := Tryz.zeroValue49
  t76 := Tryz.underlying50
  a76 := Tryz.isAgg50
  z76 := Tryz.sizeOf50
  v76 := Tryz.zeroValue50
  t127 := Tryz.underlying135
  a127 := Tryz.isAgg135
  z127 := Tryz.sizeOf135
  v127 := Tryz.zeroValue135
  t164 := Tryz.underlying160
  a164 := Tryz.isAgg160
  z164 := Tryz.sizeOf160
  v164 := Tryz.zeroValue160 }
theorem Tryz.extra156 : Builder.Extra Tryz.prog Tryz.lays156_ren where
  sizeBuilder := by kernel_rfl
  liesBuilder := by kernel_rfl
  t5 := Tryz.underlying5
  a5 := Tryz.isAgg5
  z5 := Tryz.sizeOf5
  v5 := Tryz.zeroValue5
  infoByte := by kernel_rfl
  cellsByte := by kernel_rfl
  sizeByte := by kernel_rfl
  neB5 := by decide

def strV : List Value → ByteArray
  | [.string s] => s
  | _ => ⟨#[]⟩
def isS : List Value → Bool
  | [.string _] => true
  | _ => false
def allS (m : Nat) (g : Nat → List Value) : Bool := (List.range m).all fun j => isS (g j)
def strs (g : Nat → List Value) (m : Nat) : List ByteArray := (List.range m).map fun j => strV (g j)
theorem allS_get {m : Nat} {g : Nat → List Value} (h : allS m g = true) {j : Nat} (hj : j < m) : g j = [.string (strV (g j))] := by
  have := List.all_eq_true.1 h j (List.mem_range.2 hj)
  match hg : g j, this with
  | [.string s], _ => rfl

end Go.Proofs.YtddhmidegldhdaaGreatDoor

/- The text of a tidy design, by both sides: trees. Conditions: a list of wheels. -/
namespace Go.Proofs.YtddhmidegldhdaaGreatDoor
open Go.RowKit
set_option maxRecDepth 100000

def tAt (ws : List ByteArray) (j : Nat) : ByteArray := ws.getD j ⟨#[]⟩
def rowS (ws : List ByteArray) : Nat → List Value := fun j => [.string (tAt ws j)]
end Go.Proofs.YtddhmidegldhdaaGreatDoor

/- A text cut at a byte, and a number read, by the reference: trees. Conditions: a text. -/
namespace Go.Proofs.YtddhmidegldhdaaGreatDoor
open Go.RowKit
set_option maxRecDepth 100000

abbrev hpCt (n : Nat) (ws : List ByteArray) : List AB := [.row true n 1 (rowS ws) 9]
end Go.Proofs.YtddhmidegldhdaaGreatDoor

/- The text of a tidy design: one plain function; both sides give it. Conditions: a valid list of wheels. -/
namespace Go.Proofs.YtddhmidegldhdaaGreatDoor
open Go.RowKit
set_option maxRecDepth 100000

theorem catB_mk (x y : List UInt8) : catB ⟨x.toArray⟩ ⟨y.toArray⟩ = ⟨(x ++ y).toArray⟩ := ByteArray.mk_append_mk x y
theorem catB_size (x y : ByteArray) : (catB x y).size = x.size + y.size := by simp [catB]
theorem tAt_snoc (ws : List ByteArray) (x : ByteArray) (i : Nat) (hl : ws.length = i) (q : Nat) (hq : q < i + 1) : [Value.string (bif Nat.blt q i then tAt ws q else x)] = rowS (ws ++ [x]) q := by
  subst hl
  unfold rowS tAt
  by_cases e : q < ws.length
  · rw [show Nat.blt q ws.length = true from by rw [Nat.blt_eq]; exact e, cond_true]
    simp [List.getD, List.getElem?_append_left e]
  · have : q = ws.length := by omega
    subst this
    rw [show Nat.blt ws.length ws.length = false from by simp [Nat.blt_eq, ← Bool.not_eq_true], cond_false]
    simp [List.getD]
theorem strs_rowS (ws : List ByteArray) (m : Nat) (h : ws.length = m) : strs (rowS ws) m = ws := by
  subst h
  apply List.ext_getElem (by simp [strs])
  intro i h1 h2
  simp [strs, rowS, strV, tAt, List.getD, h2]
end Go.Proofs.YtddhmidegldhdaaGreatDoor

/- A text cut at a byte, and a number read, by the reference: their words. Conditions: a text that is no giant. -/
namespace Go.Proofs.YtddhmidegldhdaaGreatDoor
open Go.RowKit
set_option maxRecDepth 100000

def stepCt (s : ByteArray) (c : Int) (i : Nat) (p : List ByteArray × Nat) : List ByteArray × Nat := bif ((i : Int) == (s.size : Int)) || (byB s i == c) then (p.1 ++ [s.extract p.2 i], i + 1) else p
def cutP (s : ByteArray) (c : Int) : Nat → List ByteArray × Nat
  | 0 => ([], 0)
  | i + 1 => stepCt s c i (cutP s c i)
def cutB (s : ByteArray) (c : Int) : List ByteArray := (cutP s c (s.size + 1)).1
theorem cutP_le (s : ByteArray) (c : Int) : ∀ i : Nat, (cutP s c i).1.length ≤ i ∧ (cutP s c i).2 ≤ i
  | 0 => ⟨Nat.le_refl _, Nat.le_refl _⟩
  | i + 1 => by
    have h := cutP_le s c i
    unfold cutP stepCt
    cases ((i : Int) == (s.size : Int)) || (byB s i == c) with
    | true =>
      simp only [cond_true, List.length_append, List.length_cons, List.length_nil]
      omega
    | false =>
      simp only [cond_false]
      omega
theorem row_snocS (ws : List ByteArray) (x : ByteArray) (i : Nat) (hl : ws.length = i) : ∀ q, q < i + 1 → [Value.string (bif Nat.blt q i then tAt ws q else x)] = rowS (ws ++ [x]) q := fun q hq => tAt_snoc ws x i hl q hq
end Go.Proofs.YtddhmidegldhdaaGreatDoor

/- The text of a tidy design, the reference's side. Conditions: a valid list of wheels. -/
namespace Go.Proofs.YtddhmidegldhdaaGreatDoor
open Go.RowKit
set_option maxRecDepth 100000

def inD (n : Int) : Bool := decide (-9223372036854775807 ≤ n ∧ n ≤ 9223372036854775807)
end Go.Proofs.YtddhmidegldhdaaGreatDoor

/- DesignAt, the reference's: its word. Conditions: a list of wheels. -/
namespace Go.Proofs.YtddhmidegldhdaaGreatDoor
open Go.RowKit
set_option maxRecDepth 100000

end Go.Proofs.YtddhmidegldhdaaGreatDoor

/- impl.at and the program's DesignAt: the reference's word. Conditions: a list of wheels. -/
namespace Go.Proofs.YtddhmidegldhdaaGreatDoor
open Go.RowKit
set_option maxRecDepth 100000

end Go.Proofs.YtddhmidegldhdaaGreatDoor

/- Single points of both. Conditions: a point. -/
namespace Go.Proofs.YtddhmidegldhdaaGreatDoor
open Go.RowKit
set_option maxRecDepth 100000

end Go.Proofs.YtddhmidegldhdaaGreatDoor

/- Single numbers that stay finite: sums and products of small ones. No program, no conditions. -/
namespace Go.Proofs.YtddhmidegldhdaaGreatDoor
open Go.RowKit

def Fin32 (x : Nat) (e : Int) : Prop := ∃ s m i, FloatKind.f32.format.read x = .number s m i ∧ i + (m.log2 : Int) ≤ e
theorem Fin32.mono {x : Nat} {e d : Int} (h : Fin32 x e) (hd : e ≤ d) : Fin32 x d := by
  obtain ⟨s, m, i, h1, h2⟩ := h
  exact ⟨s, m, i, h1, by omega⟩
end Go.Proofs.YtddhmidegldhdaaGreatDoor

/- The reference's DesignTidy: its word. Conditions: a list of wheels. -/
namespace Go.Proofs.YtddhmidegldhdaaGreatDoor
open Go.RowKit
set_option maxRecDepth 100000

end Go.Proofs.YtddhmidegldhdaaGreatDoor

/- DesignCheck of both: trees. Conditions: a list of wheels. -/
namespace Go.Proofs.YtddhmidegldhdaaGreatDoor
open Go.RowKit
set_option maxRecDepth 100000

end Go.Proofs.YtddhmidegldhdaaGreatDoor

/- DesignCheck of both: single points, loops. Conditions: a list of wheels. -/
namespace Go.Proofs.YtddhmidegldhdaaGreatDoor
open Go.RowKit
set_option maxRecDepth 100000

def hsh (h : Int) (R M : Nat) : Int := IntKind.wrap IntKind.u32 (IntKind.wrap IntKind.u32 (((BitVec.ofInt 32 (IntKind.wrap IntKind.u32 (IntKind.wrap IntKind.u32 (((BitVec.ofInt 32 h ^^^ BitVec.ofInt 32 (R : Int)).toNat : Nat) : Int) * 16777619)) ^^^ BitVec.ofInt 32 (M : Int)).toNat : Nat) : Int) * 16777619)
end Go.Proofs.YtddhmidegldhdaaGreatDoor

/- DesignCheck of both: their word. Conditions: a list of wheels. -/
namespace Go.Proofs.YtddhmidegldhdaaGreatDoor
open Go.RowKit
set_option maxRecDepth 100000

end Go.Proofs.YtddhmidegldhdaaGreatDoor

/- DesignText and EntryMake of both sides: trees. Conditions: a list of wheels. -/
namespace Go.Proofs.YtddhmidegldhdaaGreatDoor
open Go.RowKit
set_option maxRecDepth 100000

end Go.Proofs.YtddhmidegldhdaaGreatDoor

/- Plain algebra: how great products, mirrored points and parts can be. No program, no conditions. -/
namespace Go.Proofs.YtddhmidegldhdaaGreatDoor
open Go.RowKit

def bd8 (B : Int) (f : Nat → Int) : Prop := ∀ k, k < 8 → -B ≤ f k ∧ f k ≤ B
def bd4 (B : Int) (f : Nat → Int) : Prop := ∀ k, k < 4 → -B ≤ f k ∧ f k ≤ B

theorem W4 {f : Nat → Int} {A : Int} (h : bd4 A f) (hA : A ≤ 9223372036854775807) : ∀ k, k < 4 → W (f k) = f k := fun k hk => by
  have := h k hk
  exact w64_in (by omega) (by omega)
end Go.Proofs.YtddhmidegldhdaaGreatDoor

/- Plain lists of wheels: sums over the wheels that are linear in the radii do not change when the list is tidied; a tidy list is known by its sums. No program, no conditions. -/
namespace Go.Proofs.YtddhmidegldhdaaGreatDoor
open Go.RowKit

def Lin (φ : Int → (Nat → Int) → Int) : Prop := ∀ s f g, φ s (fun k => f k + g k) = φ s f + φ s g
theorem Lin.zero {φ : Int → (Nat → Int) → Int} (h : Lin φ) (s : Int) : φ s (fun _ => 0) = 0 := by
  have := h s (fun _ => 0) (fun _ => 0)
  have e : (fun k : Nat => (fun _ : Nat => (0 : Int)) k + (fun _ : Nat => (0 : Int)) k) = fun _ => 0 := by
    funext k
    rfl
  rw [e] at this
  omega
def bdW (B : Int) (L : List Wh) : Prop := ∀ w ∈ L, bd8 B w.r.f
theorem cyOk_bd {a : Cy} (h : cyOk a = true) : bd8 1000000 a.f := fun k hk => by
  have := smallF_iff.1 h k hk
  omega
theorem bd8.mono {A B : Int} {f : Nat → Int} (h : bd8 A f) (hAB : A ≤ B) : bd8 B f := fun k hk => by
  have := h k hk
  omega
theorem bdW.mono {A B : Int} {L : List Wh} (h : bdW A L) (hAB : A ≤ B) : bdW B L := fun w hw => (h w hw).mono hAB

def okW (L : List Wh) : Prop := ∀ w ∈ L, cyOk w.r = true
theorem okW.bd {L : List Wh} (h : okW L) : bdW 1000000 L := fun w hw => cyOk_bd (h w hw)
def isTidy (T : List Wh) : Prop := rising T ∧ (∀ w ∈ T, w.r ≠ cyZ) ∧ dValid T = true
end Go.Proofs.YtddhmidegldhdaaGreatDoor

/- DesignText and EntryMake of both sides: their words. Conditions: a list of wheels. -/
namespace Go.Proofs.YtddhmidegldhdaaGreatDoor
open Go.RowKit
set_option maxRecDepth 100000

end Go.Proofs.YtddhmidegldhdaaGreatDoor

/- DesignRead of the reference: trees. Conditions: a text. -/
namespace Go.Proofs.YtddhmidegldhdaaGreatDoor
open Go.RowKit
set_option maxRecDepth 100000

end Go.Proofs.YtddhmidegldhdaaGreatDoor

/- The abstract machine, 21: a function whose body holds a loop over a function. Conditions: the word of the function that yields. -/
namespace Go.Proofs.YtddhmidegldhdaaGreatDoor
open Go.RowKit

end Go.Proofs.YtddhmidegldhdaaGreatDoor

/- The abstract machine, 32: a function whose body holds a loop over a function, within a scope. Conditions: the word of the function that yields. -/
namespace Go.Proofs.YtddhmidegldhdaaGreatDoor
open Go.RowKit

end Go.Proofs.YtddhmidegldhdaaGreatDoor

/- The abstract machine, 35: a range over a function whose iterator writes cells of its own. Conditions: the word of the function that yields. -/
namespace Go.Proofs.YtddhmidegldhdaaGreatDoor
open Go.RowKit

structure Chg (B : Nat → Prop) (W W' : World) : Prop where
  fr : Fr B W W'
  cells : ∀ k, B k → (∃ l t fz, W.heap[k]? = some (.cells (List.toArray l) t fz)) → ∃ l t fz, W'.heap[k]? = some (.cells (List.toArray l) t fz)
def isCellsB : AB → Bool
  | .cells _ _ => true
  | _ => false
end Go.Proofs.YtddhmidegldhdaaGreatDoor

/- The abstract machine, 36: one operation of a region, in a frame with rounds. Conditions: those of the table of callees. -/
namespace Go.Proofs.YtddhmidegldhdaaGreatDoor
open Go.RowKit

end Go.Proofs.YtddhmidegldhdaaGreatDoor

/- The function that yields the sides of a polygon: its word. Conditions: the list holds points. -/
namespace Go.Proofs.YtddhmidegldhdaaGreatDoor
open Go.RowKit
set_option maxRecDepth 100000

end Go.Proofs.YtddhmidegldhdaaGreatDoor

/- strings.Cut, strings.Split, strings.Index, strconv.Atoi by the shelf's contracts. Conditions: the texts' lengths. -/
namespace Go.Proofs.YtddhmidegldhdaaGreatDoor
open Go.RowKit Go.Shelf
set_option maxRecDepth 100000

def Tryz.laysCut_ren : Go.Shelf.Ren := ⟨fun | 145 => 108 | 220 => 166 | 219 => 213 | 217 => 171 | 225 => 277 | 224 => 278 | 267 => 279 | 266 => 246 | 314 => 315 | n => n, fun | 9 => 9 | 4 => 4 | 59 => 132 | 3 => 3 | 5 => 5 | 46 => 175 | 146 => 307 | 51 => 203 | n => n, fun | 1 => 1 | n => n⟩
theorem Tryz.laysCut : Go.Proofs.Lays.n145 Tryz.prog Tryz.laysCut_ren := {
  mixed := by kernel_rfl
  f145 := Tryz.func108.trans (congrArg some (by kernel_rfl))
  f217 := Tryz.func171.trans (congrArg some (by kernel_rfl))
  f219 := Tryz.func213.trans (congrArg some (by kernel_rfl))
  f220 := Tryz.func166.trans (congrArg some (by kernel_rfl))
  f224 := Tryz.func278.trans (congrArg some (by kernel_rfl))
  f225 := Tryz.func277.trans (congrArg some (by kernel_rfl))
  f266 := Tryz.func246.trans (congrArg some (by kernel_rfl))
  f267 := Tryz.func279.trans (congrArg some (by kernel_rfl))
  f314 := Tryz.func315.trans (congrArg some (by kernel_rfl))
  t3 := Tryz.underlying3
  a3 := Tryz.isAgg3
  z3 := Tryz.sizeOf3
  v3 := Tryz.zeroValue3
  t4 := Tryz.underlying4
  a4 := Tryz.isAgg4
  z4 := Tryz.sizeOf4
  v4 := Tryz.zeroValue4
  t5 := Tryz.underlying5
  a5 := Tryz.isAgg5
  z5 := Tryz.sizeOf5
  v5 := Tryz.zeroValue5
  t9 := Tryz.underlying9
  a9 := Tryz.isAgg9
  z9 := Tryz.sizeOf9
  v9 := Tryz.zeroValue9
  t46 := Tryz.underlying175
  a46 := Tryz.isAgg175
  z46 := Tryz.sizeOf175
  v46 := Tryz.zeroValue175
  t51 := Tryz.underlying203
  a51 := Tryz.isAgg203
  z51 := Tryz.sizeOf203
  v51 := Tryz.zeroValue203
  t59 := Tryz.underlying132
  a59 := Tryz.isAgg132
  z59 := Tryz.sizeOf132
  v59 := Tryz.zeroValue132
  t146 := Tryz.underlying307
  a146 := Tryz.isAgg307
  z146 := Tryz.sizeOf307
  v146 := Tryz.zeroValue307
  g1 := by kernel_rfl }
def Tryz.laysSplit_ren : Go.Shelf.Ren := ⟨fun | 146 => 45 | 221 => 87 | 268 => 142 | 138 => 143 | 143 => 144 | 195 => 211 | 197 => 177 | 218 => 212 | 219 => 213 | 260 => 248 | 217 => 171 | 225 => 277 | 224 => 278 | 267 => 279 | 266 => 246 | 314 => 315 | n => n, fun | 9 => 9 | 31 => 71 | 3 => 3 | 4 => 4 | 0 => 0 | 105 => 211 | 21 => 21 | 5 => 5 | 46 => 175 | 119 => 312 | 139 => 315 | 138 => 314 | 146 => 307 | 51 => 203 | n => n, fun | 1 => 1 | 3 => 4 | 4 => 5 | n => n⟩
theorem Tryz.laysSplit : Go.Proofs.LaysM.n146 Tryz.prog Tryz.laysSplit_ren := {
  mixed := by kernel_rfl
  f138 := Tryz.func143.trans (congrArg some (by kernel_rfl))
  f143 := Tryz.func144.trans (congrArg some (by kernel_rfl))
  f146 := Tryz.func45.trans (congrArg some (by kernel_rfl))
  f195 := Tryz.func211.trans (congrArg some (by kernel_rfl))
  f197 := Tryz.func177.trans (congrArg some (by kernel_rfl))
  f217 := Tryz.func171.trans (congrArg some (by kernel_rfl))
  f218 := Tryz.func212.trans (congrArg some (by kernel_rfl))
  f219 := Tryz.func213.trans (congrArg some (by kernel_rfl))
  f221 := Tryz.func87.trans (congrArg some (by kernel_rfl))
  f224 := Tryz.func278.trans (congrArg some (by kernel_rfl))
  f225 := Tryz.func277.trans (congrArg some (by kernel_rfl))
  f260 := Tryz.func248.trans (congrArg some (by kernel_rfl))
  f266 := Tryz.func246.trans (congrArg some (by kernel_rfl))
  f267 := Tryz.func279.trans (congrArg some (by kernel_rfl))
  f268 := Tryz.func142.trans (congrArg some (by kernel_rfl))
  f314 := Tryz.func315.trans (congrArg some (by kernel_rfl))
  t0 := Tryz.underlying0
  a0 := Tryz.isAgg0
  z0 := Tryz.sizeOf0
  v0 := Tryz.zeroValue0
  t3 := Tryz.underlying3
  a3 := Tryz.isAgg3
  z3 := Tryz.sizeOf3
  v3 := Tryz.zeroValue3
  t4 := Tryz.underlying4
  a4 := Tryz.isAgg4
  z4 := Tryz.sizeOf4
  v4 := Tryz.zeroValue4
  t5 := Tryz.underlying5
  a5 := Tryz.isAgg5
  z5 := Tryz.sizeOf5
  v5 := Tryz.zeroValue5
  t9 := Tryz.underlying9
  a9 := Tryz.isAgg9
  z9 := Tryz.sizeOf9
  v9 := Tryz.zeroValue9
  t21 := Tryz.underlying21
  a21 := Tryz.isAgg21
  z21 := Tryz.sizeOf21
  v21 := Tryz.zeroValue21
  t31 := Tryz.underlying71
  a31 := Tryz.isAgg71
  z31 := Tryz.sizeOf71
  v31 := Tryz.zeroValue71
  t46 := Tryz.underlying175
  a46 := Tryz.isAgg175
  z46 := Tryz.sizeOf175
  v46 := Tryz.zeroValue175
  t51 := Tryz.underlying203
  a51 := Tryz.isAgg203
  z51 := Tryz.sizeOf203
  v51 := Tryz.zeroValue203
  t105 := Tryz.underlying211
  a105 := Tryz.isAgg211
  z105 := Tryz.sizeOf211
  v105 := Tryz.zeroValue211
  t119 := Tryz.underlying312
  a119 := Tryz.isAgg312
  z119 := Tryz.sizeOf312
  t138 := Tryz.underlying314
  a138 := Tryz.isAgg314
  z138 := Tryz.sizeOf314
  v138 := Tryz.zeroValue314
  t139 := Tryz.underlying315
  a139 := Tryz.isAgg315
  z139 := Tryz.sizeOf315
  v139 := Tryz.zeroValue315
  t146 := Tryz.underlying307
  a146 := Tryz.isAgg307
  z146 := Tryz.sizeOf307
  v146 := Tryz.zeroValue307
  g1 := by kernel_rfl
  g3 := by kernel_rfl
  g4 := by kernel_rfl
  i0 := by kernel_rfl
  i3 := by kernel_rfl
  i4 := by kernel_rfl
  i5 := by kernel_rfl
  i9 := by kernel_rfl
  i21 := by kernel_rfl
  i31 := by kernel_rfl
  i46 := by kernel_rfl
  i51 := by kernel_rfl
  i105 := by kernel_rfl
  i138 := by kernel_rfl
  i139 := by kernel_rfl
  i146 := by kernel_rfl
  m1 := by kernel_rfl
  s1_3 := fun w h => Go.Proofs.cell_of_shapedOpen_int (zero := #[.int .i64 0]) (t := 3) h (of_decide_eq_true (by kernel_rfl)) (by kernel_rfl) rfl (by kernel_rfl) (by kernel_rfl) Tryz.underlying3
  m3 := by kernel_rfl
  m4 := by kernel_rfl }
theorem tab_num {M : Nat → Prop} {w : World} (h : TabOk M w) : ∃ m, w.cell? ⟨1, 0, none⟩ = some (.int .i64 m) := by
  obtain ⟨_, l, t, fz, h1, m, rfl⟩ := h (1, aNum) (by simp [tabG])
  exact ⟨m, by simp only at h1; simp [World.cell?, h1]⟩
def cuA (s p : ByteArray) : ByteArray := ⟨(Lib.cut s.data.toList p.data.toList).1.toArray⟩
def cuB (s p : ByteArray) : ByteArray := ⟨(Lib.cut s.data.toList p.data.toList).2.1.toArray⟩
def cuF (s p : ByteArray) : Bool := (Lib.cut s.data.toList p.data.toList).2.2
theorem mkS_size (x : List UInt8) : (ByteArray.mk x.toArray).size = x.length := by simp [ByteArray.size]
def fCutO (a b : ByteArray → ByteArray → ByteArray) (q : ByteArray → ByteArray → Bool) : List Value → Option (Value × List Bool)
  | [.string s, .string p] => some (.tuple #[.string (a s p), .string (b s p), .bool (q s p)], [Nat.blt s.size 4294967281])
  | _ => none
theorem fr_drew (w : World) (k : Nat) : Fr (fun _ => False) w (w.drewN k) := ⟨rfl, rfl, rfl, Nat.le_refl _, fun _ _ _ => rfl⟩
theorem ok_cut : SpecOk Tryz.prog 108 (specV (fCutO cuA cuB cuF)) := by
  refine specV_ok (fun args w => enters 108 Tryz.f108 Tryz.func108 rfl args w) fun vs x ob hF ho w ht => ?_
  unfold fCutO at hF
  split at hF
  · rename_i s p
    simp only [Option.some.injEq, Prod.mk.injEq] at hF
    obtain ⟨rfl, rfl⟩ := hF
    simp only [ob_cons, ob_nil, and_true, Nat.blt_eq] at ho
    obtain ⟨m, hm⟩ := tab_num ht
    refine (Any.strings_Cut Tryz.laysCut s p m w ho hm).mono ?_
    rintro e w' ⟨rfl, k, rfl⟩
    exact ⟨rfl, fr_drew w k⟩
  · cases hF

def spB (s p : ByteArray) : List ByteArray := Lib.splitB p 0 (Lib.countB s p) s
theorem spB_length (s p : ByteArray) (h : 1 ≤ p.size) : (spB s p).length = Lib.countB s p + 1 := Lib.splitB_all p h 0 _ s rfl
end Go.Proofs.YtddhmidegldhdaaGreatDoor

/- strings.SplitSeq's iterator at a space: its pieces, what its code does between. Conditions: a text that is no giant. -/
namespace Go.Proofs.YtddhmidegldhdaaGreatDoor
open Go.RowKit Go.Shelf
set_option maxRecDepth 100000

def spc : ByteArray := ByteArray.mk (Array.mk [32])
end Go.Proofs.YtddhmidegldhdaaGreatDoor

/- strings.SplitSeq's iterator at a space: its word. Conditions: a text that is no giant. -/
namespace Go.Proofs.YtddhmidegldhdaaGreatDoor
open Go.RowKit Go.Shelf
set_option maxRecDepth 100000

structure StS (M B : Nat → Prop) (nu : Nu) (X : World) (T : List AV) (H : List AB) (A : Act) : Prop where
  sr : SR (fun k => X.heap.size ≤ k ∨ B k) X nu T H A X nu
  tab : TabOk M X
  dfs : A.defers = []
structure NuS (M B : Nat → Prop) (nu : Nu) (m : Nat) : Prop where
  own : ∀ k, B k → M k
  bB : ∀ i b, nu i = some b → B b.n
  has : ∀ i, i < m → ∃ b, nu i = some b
  all : ∀ k, B k → ∃ i b, i < m ∧ nu i = some b ∧ b.n = k
def celH (H : List AB) : Bool := H.all isCellsB

theorem StS.next {M B : Nat → Prop} {nu : Nu} {m : Nat} (hN : NuS M B nu m) {X : World} {T : List AV} {H : List AB} {A : Act} (h : StS M B nu X T H A) {T' : List AV} {H' : List AB} {A' : Act} {X' : World} {ν' : Nu} (hm : H'.length = m) (hc : celH H' = true)
    (hS : SR (fun k => X.heap.size ≤ k ∨ B k) X nu T' H' A' X' ν') (hd : A'.defers = []) : StS M B nu X' T' H' A' ∧ Chg B X X' := by
  have hn : ν' = nu := funext fun i => by
    cases e : ν' i with
    | none =>
      cases e2 : nu i with
      | none => rfl
      | some b => rw [hS.le _ _ e2] at e; cases e
    | some b =>
      have := hS.dom i b e
      obtain ⟨b', hb'⟩ := hN.has i (by omega)
      rw [hS.le _ _ hb'] at e
      cases e
      exact hb'.symm
  subst hn
  have hfr : Fr B X X' := hS.fr.mono fun k hk hk' => by
    rcases hk' with h' | h'
    · omega
    · exact h'
  have htab : TabOk M X' := h.tab.block fun k hk hnM => hfr.block k hk fun hb => hnM (hN.own k hb)
  refine ⟨⟨⟨hS.tmps, ⟨hS.heap.br, hS.heap.sep, fun i b _ hb => .inr (hN.bB i b hb), hS.heap.lt, htab.mono fun k hk hk' => ?_⟩, Fr.refl _ _, hS.dom, hS.len, Le.refl _⟩, htab, hd⟩, hfr, fun k hk _ => ?_⟩
  · rcases hk' with h' | h'
    · omega
    · exact hN.own k h'
  · obtain ⟨i, b, hi, hb, rfl⟩ := hN.all k hk
    have hbr : BR ν' i (H'.getD i .gone) X' := hS.heap.br i
    have hlt : i < H'.length := by omega
    have hcl : isCellsB (H'.getD i .gone) = true := by
      rw [List.getD_eq_getElem?_getD, List.getElem?_eq_getElem hlt]
      exact List.all_eq_true.1 hc _ (List.getElem_mem hlt)
    generalize H'.getD i .gone = y at hbr hcl
    cases y with
    | cells cs t =>
      obtain ⟨b', l, e1, _, e3, _⟩ := hbr
      rw [hb] at e1
      cases e1
      exact ⟨l, t, (0, 0), e3⟩
    | row => cases hcl
    | gone => cases hcl

theorem StS.back {M B : Nat → Prop} {nu : Nu} {m : Nat} (hN : NuS M B nu m) {X X' : World} {T : List AV} {H : List AB} {A : Act} (h : StS M B nu X T H A) (hsz : X.heap.size ≤ X'.heap.size) (hb : ∀ k, B k → X'.heap[k]? = X.heap[k]?) (ht : TabOk M X') {dst : Option Tmp} {x : Value} (hd : dstOk T dst = true) :
    StS M B nu X' (setT T dst (.v x)) H (A.put dst x) := by
  have hRH : RH (fun k => X'.heap.size ≤ k ∨ B k) nu (fun b => H.getD b .gone) X' := ⟨fun i => (h.sr.heap.br i).of_block fun k hk _ => hb k.n (hN.bB i k hk), h.sr.heap.sep, fun i b _ hb' => .inr (hN.bB i b hb'), fun i b hb' => Nat.lt_of_lt_of_le (h.sr.heap.lt i b hb') hsz, ht.mono fun k hk hk' => by
    rcases hk' with h' | h'
    · omega
    · exact hN.own k h'⟩
  have h0 : SR (fun k => X'.heap.size ≤ k ∨ B k) X' nu T H A X' nu := ⟨h.sr.tmps, hRH, Fr.refl _ _, h.sr.dom, h.sr.len, Le.refl _⟩
  exact ⟨SR.put h0 hd (Le.refl _) (by simp only [VR]) hRH (Fr.refl _ _) h.sr.dom, ht, (put_defers' ..).trans h.dfs⟩
theorem StS.at {M B : Nat → Prop} {nu : Nu} {X : World} {T : List AV} {H : List AB} {A : Act} (h : StS M B nu X T H A) {z : Operand} {x : Value} (hz : evA T z = .v x) : A.eval z = x := by
  have := evA_sound (T := T) (a := A) (ν := nu) (z := z) fun t _ => h.sr.tmps t
  rw [hz] at this
  simpa only [VR] using this

end Go.Proofs.YtddhmidegldhdaaGreatDoor

/- A wheel read from a word, the program's side: trees. Conditions: a text. -/
namespace Go.Proofs.YtddhmidegldhdaaGreatDoor
open Go.RowKit
set_option maxRecDepth 100000

end Go.Proofs.YtddhmidegldhdaaGreatDoor

/- A wheel read from a word, the program's side: its word. Conditions: a text. -/
namespace Go.Proofs.YtddhmidegldhdaaGreatDoor
open Go.RowKit
set_option maxRecDepth 100000

end Go.Proofs.YtddhmidegldhdaaGreatDoor

/- DesignRead of the program: trees. Conditions: a text. -/
namespace Go.Proofs.YtddhmidegldhdaaGreatDoor
open Go.RowKit
set_option maxRecDepth 100000

end Go.Proofs.YtddhmidegldhdaaGreatDoor

/- The abstract machine, 22: one case of a word. No conditions. -/
namespace Go.Proofs.YtddhmidegldhdaaGreatDoor
open Go.RowKit

end Go.Proofs.YtddhmidegldhdaaGreatDoor

/- The abstract machine, 34: two cases of a word, read as one. No conditions. -/
namespace Go.Proofs.YtddhmidegldhdaaGreatDoor
open Go.RowKit
set_option maxRecDepth 100000

end Go.Proofs.YtddhmidegldhdaaGreatDoor

/- DesignRead of the program: its word. Conditions: a text. -/
namespace Go.Proofs.YtddhmidegldhdaaGreatDoor
open Go.RowKit
set_option maxRecDepth 100000

end Go.Proofs.YtddhmidegldhdaaGreatDoor

/- DesignRead of the program, read as a list or none. Conditions: none. -/
namespace Go.Proofs.YtddhmidegldhdaaGreatDoor
open Go.RowKit
set_option maxRecDepth 100000

end Go.Proofs.YtddhmidegldhdaaGreatDoor

/- DesignRead of the reference: its word. Conditions: none. -/
namespace Go.Proofs.YtddhmidegldhdaaGreatDoor
open Go.RowKit
set_option maxRecDepth 100000

end Go.Proofs.YtddhmidegldhdaaGreatDoor

/- The point of a design at a turn, in whole numbers. No program, no conditions. -/
namespace Go.Proofs.YtddhmidegldhdaaGreatDoor
open Go.RowKit

end Go.Proofs.YtddhmidegldhdaaGreatDoor
