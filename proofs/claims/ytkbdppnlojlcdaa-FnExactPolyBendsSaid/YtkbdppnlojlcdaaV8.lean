/- The abstract machine, 8: a region, in the order of the text and in any order that its edges allow. Conditions: those of the table of callees. -/
import Derived.Test.YtkbdppnlojlcdaaV7
namespace Go.Proofs.Ytkbdppnlojlcdaa
open Go.RowKit

inductive Ex where
  | normal
  | exit (id : Nat)
  | ret

inductive Res where
  | err
  | out (e : Ex) (T : List AV) (H : List AB)

def Res.ok (Q : Ex → List AV → List AB → Prop) : Res → Prop
  | .err => False
  | .out e T H => Q e T H

def needs : List Bool → Res → Res
  | [], r => r
  | b :: bs, r => cond b (needs bs r) .err

theorem needs_ok {Q : Ex → List AV → List AB → Prop} {bs : List Bool} {r : Res} (h : (needs bs r).ok Q) : obls bs = true ∧ r.ok Q := by
  induction bs with
  | nil => exact ⟨rfl, h⟩
  | cons b bs ih =>
    cases b
    · exact h.elim
    · obtain ⟨h1, h2⟩ := ih h
      exact ⟨by simpa [obls] using h1, h2⟩

structure Ent where
  d : Option Delta
  base : Nat

structure Item where
  o : Oper
  e : Ent

def putA : List AB → List (Nat × AB) → List AB
  | H, [] => H
  | H, p :: l => (putA H l).set p.1 p.2
def appH (H : List AB) (δ : Delta) : List AB := putA H δ.put ++ δ.new
def setT (T : List AV) (dst : Option Tmp) (v : AV) : List AV := match dst with | none => T | some d => T.set d v
def dstOk (T : List AV) (dst : Option Tmp) : Bool := match dst with | none => true | some d => Nat.blt d T.length

inductive GR where
  | fail
  | go
  | skip
  | ask (d : Nat) (b want : Bool)

def guardA (all : List Oper) (T : List AV) : Option (Nat × Bool) → GR
  | none => .go
  | some (j, want) => match (all[j]?).bind (·.dst) with
    | none => .fail
    | some d => match T.getD d .dead with
      | .v (.bool b) => .ask d b want
      | .v (.tuple _) => .skip
      | _ => .fail

/-- Worked out to their heads, and handed on: for the kernel's sake; nothing turns. -/
def fcV : Value → (Value → Res) → Res
  | .int k n, f => f (.int k n)
  | .bool b, f => f (.bool b)
  | .agg a, f => f (.agg a)
  | .tuple a, f => f (.tuple a)
  | x, f => f x
theorem fcV_eq (x : Value) (f : Value → Res) : fcV x f = f x := by cases x <;> rfl
mutual
def fcA : AV → (AV → Res) → Res
  | .v x, f => fcV x fun x => f (.v x)
  | .ptr i w j k, f => f (.ptr i w j k)
  | .sl i w j k l c, f => f (.sl i w j k l c)
  | .own i l, f => f (.own i l)
  | .agg cs, f => fcAs cs fun cs => f (.agg cs)
  | .tup cs, f => fcAs cs fun cs => f (.tup cs)
  | .fn g cs, f => fcAs cs fun cs => f (.fn g cs)
  | .dead, f => f .dead
def fcAs : List AV → (List AV → Res) → Res
  | [], f => f []
  | a :: as, f => fcA a fun a => fcAs as fun as => f (a :: as)
end
mutual
theorem fcA_eq : ∀ (a : AV) (f : AV → Res), fcA a f = f a
  | .v x, f => by simp only [fcA, fcV_eq]
  | .ptr .., f => by simp only [fcA]
  | .sl .., f => by simp only [fcA]
  | .own .., f => by simp only [fcA]
  | .agg cs, f => by simp only [fcA]; exact fcAs_eq cs _
  | .tup cs, f => by simp only [fcA]; exact fcAs_eq cs _
  | .fn g cs, f => by simp only [fcA]; exact fcAs_eq cs _
  | .dead, f => by simp only [fcA]
theorem fcAs_eq : ∀ (as : List AV) (f : List AV → Res), fcAs as f = f as
  | [], f => by simp only [fcAs]
  | a :: as, f => by simp only [fcAs]; rw [fcA_eq a, fcAs_eq as]
end
def fcSp {α : Type} : List α → (List α → Res) → Res
  | [], f => f []
  | a :: as, f => fcSp as fun as => f (a :: as)
theorem fcSp_eq {α : Type} : ∀ (l : List α) (f : List α → Res), fcSp l f = f l
  | [], f => by simp only [fcSp]
  | a :: as, f => by simp only [fcSp]; rw [fcSp_eq as]
def fcB : AB → (AB → Res) → Res
  | .cells cs t, f => fcAs cs fun cs => f (.cells cs t)
  | .row rw n w g t, f => f (.row rw n w g t)
  | .gone, f => f .gone
theorem fcB_eq (b : AB) (f : AB → Res) : fcB b f = f b := by cases b <;> simp only [fcB, fcAs_eq]
def fcPs : List (Nat × AB) → (List (Nat × AB) → Res) → Res
  | [], f => f []
  | p :: l, f => fcB p.2 fun b => fcPs l fun l => f ((p.1, b) :: l)
theorem fcPs_eq : ∀ (l : List (Nat × AB)) (f : List (Nat × AB) → Res), fcPs l f = f l
  | [], f => by simp only [fcPs]
  | p :: l, f => by simp only [fcPs, fcB_eq]; rw [fcPs_eq l]
def fcBs : List AB → (List AB → Res) → Res
  | [], f => f []
  | b :: l, f => fcB b fun b => fcBs l fun l => f (b :: l)
theorem fcBs_eq : ∀ (l : List AB) (f : List AB → Res), fcBs l f = f l
  | [], f => by simp only [fcBs]
  | b :: l, f => by simp only [fcBs, fcB_eq]; rw [fcBs_eq l]
def fcH (H : List AB) (δ : Delta) (f : List AB → Res) : Res :=
  fcPs δ.put fun pu => fcBs δ.new fun nw => match pu, nw with
    | [], [] => f H
    | pu, nw => fcSp (putA H pu ++ nw) f
theorem fcH_eq (H : List AB) (δ : Delta) (f : List AB → Res) : fcH H δ f = f (appH H δ) := by
  simp only [fcH, fcPs_eq, fcBs_eq, appH]
  split
  · rename_i h1 h2
    rw [h1, h2]
    simp [putA]
  · rw [fcSp_eq]
def fcD (T : List AV) (dst : Option Tmp) (v : AV) (H : List AB) (δ : Delta) (f : List AV → List AB → Res) : Res :=
  fcA v fun v => fcSp (setT T dst v) fun T => fcH H δ fun H => f T H
theorem fcD_eq (T : List AV) (dst : Option Tmp) (v : AV) (H : List AB) (δ : Delta) (f : List AV → List AB → Res) : fcD T dst v H δ f = f (setT T dst v) (appH H δ) := by
  simp only [fcD, fcA_eq, fcSp_eq, fcH_eq]

def stepOp (P : Program) (Γ : Gam) (o : Oper) (T : List AV) (H : List AB) (tr : List Ent) (K : List AV → List AB → List Ent → Res) : Res :=
  match opA P Γ o T H H.length with
  | none => .err
  | some δ => needs δ.obl (cond (dstOk T o.dst && δ.put.all fun p => (H.getD p.1 .gone).wr) (fcD T o.dst δ.val H δ fun T' H' => K T' H' (⟨some δ, H.length⟩ :: tr)) .err)
def skipOp (o : Oper) (T : List AV) (H : List AB) (tr : List Ent) (K : List AV → List AB → List Ent → Res) : Res :=
  cond (dstOk T o.dst) (K (setT T o.dst (.v undef)) H (⟨none, H.length⟩ :: tr)) .err

def execOps (P : Program) (Γ : Gam) (all : List Oper) : List Oper → List AV → List AB → List Ent → (List AV → List AB → List Ent → Res) → Res
  | [], T, H, tr, K => K T H tr
  | o :: rest, T, H, tr, K =>
    match guardA all T o.guard with
    | .fail => .err
    | .go => stepOp P Γ o T H tr fun T H tr => execOps P Γ all rest T H tr K
    | .skip => skipOp o T H tr fun T H tr => execOps P Γ all rest T H tr K
    | .ask d b want =>
      cond b (cond want (stepOp P Γ o (T.set d (.v (.bool true))) H tr fun T H tr => execOps P Γ all rest T H tr K) (skipOp o (T.set d (.v (.bool true))) H tr fun T H tr => execOps P Γ all rest T H tr K))
        (cond want (skipOp o (T.set d (.v (.bool false))) H tr fun T H tr => execOps P Γ all rest T H tr K) (stepOp P Γ o (T.set d (.v (.bool false))) H tr fun T H tr => execOps P Γ all rest T H tr K))

def wantedA (all : List Oper) (T : List AV) (g : Option (Nat × Bool)) (x : Bool) : Prop :=
  match guardA all T g with
  | .fail => False
  | .go => x = true
  | .skip => x = false
  | .ask _ b want => x = (b == want)

def entOk (P : Program) (Γ : Gam) (all : List Oper) (o : Oper) (T : List AV) (H : List AB) (e : Ent) : Prop :=
  e.base = H.length ∧ dstOk T o.dst = true ∧ match e.d with
  | some δ => wantedA all T o.guard true ∧ opA P Γ o T H H.length = some δ ∧ obls δ.obl = true ∧ ∀ p ∈ δ.put, (H.getD p.1 .gone).wr = true
  | none => wantedA all T o.guard false

def nextT (o : Oper) (e : Ent) (T : List AV) : List AV := setT T o.dst (match e.d with | some δ => δ.val | none => .v undef)
def nextH (e : Ent) (H : List AB) : List AB := match e.d with | some δ => appH H δ | none => H

def RunOk (P : Program) (Γ : Gam) (all : List Oper) : List Oper → List Ent → List AV → List AB → List AV → List AB → Prop
  | [], [], T, H, T', H' => T' = T ∧ H' = H
  | o :: os, e :: es, T, H, T', H' => entOk P Γ all o T H e ∧ RunOk P Γ all os es (nextT o e T) (nextH e H) T' H'
  | _, _, _, _, _, _ => False

theorem set_same {T : List AV} {d : Nat} {x : AV} (h : T.getD d .dead = x) (hx : x ≠ .dead) : T.set d x = T := by
  apply List.ext_getElem?
  intro k
  rw [List.getElem?_set]
  by_cases hk : d = k
  · subst hk
    by_cases hl : d < T.length
    · simp [hl]
      simp [List.getD, hl] at h
      exact h.symm
    · simp [hl]
  · simp [hk]

theorem stepOp_run {P : Program} {Γ : Gam} {all : List Oper} {o : Oper} {T : List AV} {H : List AB} {tr : List Ent} {K : List AV → List AB → List Ent → Res} {Q : Ex → List AV → List AB → Prop} (h : (stepOp P Γ o T H tr K).ok Q) (hw : wantedA all T o.guard true) :
    ∃ e, entOk P Γ all o T H e ∧ (K (nextT o e T) (nextH e H) (e :: tr)).ok Q := by
  unfold stepOp at h
  simp only [fcD_eq] at h
  split at h
  · exact h.elim
  · rename_i δ hδ
    obtain ⟨h1, h2⟩ := needs_ok h
    cases hc : (dstOk T o.dst && δ.put.all fun p => (H.getD p.1 .gone).wr) with
    | false => rw [hc] at h2; exact h2.elim
    | true =>
      rw [hc] at h2
      rw [Bool.and_eq_true] at hc
      exact ⟨⟨some δ, H.length⟩, ⟨rfl, hc.1, hw, hδ, h1, fun p hp => List.all_eq_true.1 hc.2 p hp⟩, h2⟩

theorem skipOp_run {P : Program} {Γ : Gam} {all : List Oper} {o : Oper} {T : List AV} {H : List AB} {tr : List Ent} {K : List AV → List AB → List Ent → Res} {Q : Ex → List AV → List AB → Prop} (h : (skipOp o T H tr K).ok Q) (hw : wantedA all T o.guard false) :
    ∃ e, entOk P Γ all o T H e ∧ (K (nextT o e T) (nextH e H) (e :: tr)).ok Q := by
  unfold skipOp at h
  cases hc : dstOk T o.dst with
  | false => rw [hc] at h; exact h.elim
  | true =>
    rw [hc] at h
    exact ⟨⟨none, H.length⟩, ⟨rfl, hc, hw⟩, h⟩

theorem execOps_run {P : Program} {Γ : Gam} {all : List Oper} {Q : Ex → List AV → List AB → Prop} : ∀ {ops : List Oper} {T : List AV} {H : List AB} {tr : List Ent} {K : List AV → List AB → List Ent → Res}, (execOps P Γ all ops T H tr K).ok Q →
    ∃ es T' H', RunOk P Γ all ops es T H T' H' ∧ (K T' H' (es.reverse ++ tr)).ok Q
  | [], T, H, tr, K, h => ⟨[], T, H, ⟨rfl, rfl⟩, h⟩
  | o :: rest, T, H, tr, K, h => by
    have fin : (∃ e, entOk P Γ all o T H e ∧ (execOps P Γ all rest (nextT o e T) (nextH e H) (e :: tr) K).ok Q) → ∃ es T' H', RunOk P Γ all (o :: rest) es T H T' H' ∧ (K T' H' (es.reverse ++ tr)).ok Q := by
      rintro ⟨e, h1, h2⟩
      obtain ⟨es, T', H', h3, h4⟩ := execOps_run h2
      exact ⟨e :: es, T', H', ⟨h1, h3⟩, by simpa using h4⟩
    apply fin
    unfold execOps at h
    cases hg : guardA all T o.guard with
    | fail => rw [hg] at h; exact h.elim
    | go => rw [hg] at h; exact stepOp_run h (by simp [wantedA, hg])
    | skip => rw [hg] at h; exact skipOp_run h (by simp [wantedA, hg])
    | ask d b want =>
      rw [hg] at h
      have hd : T.getD d .dead = .v (.bool b) := by
        unfold guardA at hg
        split at hg
        · cases hg
        · split at hg
          · cases hg
          · split at hg
            · rename_i hh; cases hg; exact hh
            · cases hg
            · cases hg
      have hs : T.set d (.v (.bool b)) = T := set_same hd (by simp)
      cases b <;> cases want <;> simp only [cond_true, cond_false, hs] at h
      · exact stepOp_run h (by simp [wantedA, hg])
      · exact skipOp_run h (by simp [wantedA, hg])
      · exact skipOp_run h (by simp [wantedA, hg])
      · exact stepOp_run h (by simp [wantedA, hg])

/-- The frame and the blocks, as functions, behind those operations that S holds. -/
def valT (x : Item) : AV := match x.e.d with | some δ => δ.val | none => .v undef
def foldT (S : Nat → Bool) : Nat → List Item → (Nat → AV) → Nat → AV
  | _, [], T => T
  | k, x :: l, T => foldT S (k + 1) l (if S k = true then fun t => if x.o.dst = some t then valT x else T t else T)
def newH (x : Item) (H : Nat → AB) : Nat → AB := match x.e.d with | some δ => appF x.e.base δ H | none => H
def foldH (S : Nat → Bool) : Nat → List Item → (Nat → AB) → Nat → AB
  | _, [], H => H
  | k, x :: l, H => foldH S (k + 1) l (if S k = true then newH x H else H)
def isNew (x : Item) (i : Nat) : Prop := match x.e.d with | some δ => x.e.base ≤ i ∧ i < x.e.base + δ.new.length | none => False
def wrH (x : Item) (i : Nat) : Prop := match x.e.d with | some δ => (x.e.base ≤ i ∧ i < x.e.base + δ.new.length) ∨ (lookB i δ.put).isSome = true | none => False

theorem newH_other {x : Item} {H : Nat → AB} {i : Nat} (h : ¬ wrH x i) : newH x H i = H i := by
  unfold newH
  unfold wrH at h
  cases hd : x.e.d with
  | none => rfl
  | some δ =>
    rw [hd] at h
    simp only [appF]
    have h' := not_or.1 h
    rw [if_neg h'.1]
    cases hl : lookB i δ.put with
    | none => rfl
    | some b => rw [hl] at h'; simp at h'

theorem newH_at {x : Item} {H H' : Nat → AB} {i : Nat} (h : wrH x i) : newH x H i = newH x H' i := by
  unfold newH
  unfold wrH at h
  cases hd : x.e.d with
  | none => rw [hd] at h; exact h.elim
  | some δ =>
    rw [hd] at h
    simp only [appF]
    rcases h with h | h
    · rw [if_pos h, if_pos h]
    · obtain ⟨b, hb⟩ := Option.isSome_iff_exists.1 h
      rw [hb]
      simp

theorem foldT_congr {S S' : Nat → Bool} {t : Nat} : ∀ {l : List Item} {k : Nat} {T T' : Nat → AV}, T t = T' t → (∀ (j : Nat) x, l[j]? = some x → x.o.dst = some t → S (k + j) = S' (k + j)) → foldT S k l T t = foldT S' k l T' t
  | [], _, _, _, h, _ => h
  | x :: l, k, T, T', h, hs => by
    simp only [foldT]
    refine foldT_congr ?_ fun j y hy hd => ?_
    · have h0 := hs 0 x rfl
      simp only [Nat.add_zero] at h0
      by_cases hd : x.o.dst = some t
      · rw [h0 hd]
        split
        · simp [hd]
        · exact h
      · split <;> split <;> simp [hd, h]
    · have := hs (j + 1) y (by simpa using hy) hd
      rwa [show k + 1 + j = k + (j + 1) by omega]

theorem foldH_congr {S S' : Nat → Bool} {i : Nat} : ∀ {l : List Item} {k : Nat} {H H' : Nat → AB}, H i = H' i → (∀ (j : Nat) x, l[j]? = some x → wrH x i → S (k + j) = S' (k + j)) → foldH S k l H i = foldH S' k l H' i
  | [], _, _, _, h, _ => h
  | x :: l, k, H, H', h, hs => by
    simp only [foldH]
    refine foldH_congr ?_ fun j y hy hd => ?_
    · have h0 := hs 0 x rfl
      simp only [Nat.add_zero] at h0
      by_cases hd : wrH x i
      · rw [h0 hd]
        split
        · exact newH_at hd
        · exact h
      · split <;> split <;> simp [newH_other hd, h]
    · have := hs (j + 1) y (by simpa using hy) hd
      rwa [show k + 1 + j = k + (j + 1) by omega]

def also (S : Nat → Bool) (i : Nat) : Nat → Bool := fun j => S j || j == i

theorem foldT_also {S : Nat → Bool} {t : Nat} : ∀ {l : List Item} {k i : Nat} {x : Item} {T : Nat → AV}, l[i]? = some x → S (k + i) = false → (x.o.dst = some t → ∀ (j : Nat) y, i < j → l[j]? = some y → y.o.dst = some t → S (k + j) = false) →
    foldT (also S (k + i)) k l T t = if x.o.dst = some t then valT x else foldT S k l T t
  | [], _, _, _, _, h, _, _ => by simp at h
  | y :: l, k, 0, x, T, h, h0, hs => by
    simp only [List.getElem?_cons_zero, Option.some.injEq] at h
    subst h
    simp only [foldT, Nat.add_zero] at h0 ⊢
    have e : also S k k = true := by simp [also]
    rw [if_pos e, if_neg (show ¬ S k = true by rw [h0]; simp)]
    by_cases hd : y.o.dst = some t
    · rw [if_pos hd]
      have : ∀ {l : List Item} {k' : Nat} {T : Nat → AV}, (∀ (j : Nat) z, l[j]? = some z → z.o.dst = some t → also S k (k' + j) = false) → foldT (also S k) k' l T t = T t := by
        intro l
        induction l with
        | nil => intro k' T _; rfl
        | cons z l ih =>
          intro k' T hz
          simp only [foldT]
          rw [ih fun j q hq hdq => by have := hz (j + 1) q (by simpa using hq) hdq; rwa [show k' + 1 + j = k' + (j + 1) by omega]]
          by_cases hdz : z.o.dst = some t
          · have := hz 0 z rfl hdz
            simp only [Nat.add_zero] at this
            rw [this, if_neg (by simp)]
          · split <;> simp [hdz]
      rw [this]
      · simp [hd]
      · intro j z hz hdz
        have := hs hd (j + 1) z (by omega) (by simpa using hz) hdz
        simp only [also, Bool.or_eq_false_iff]
        rw [show k + 1 + j = k + (j + 1) by omega]
        exact ⟨this, by simp⟩
    · rw [if_neg hd]
      refine foldT_congr (by simp [hd]) fun j z hz hdz => ?_
      simp [also]
      omega
  | y :: l, k, i + 1, x, T, h, h0, hs => by
    simp only [foldT]
    have e : also S (k + (i + 1)) k = S k := by simp [also]
    rw [e, show k + (i + 1) = (k + 1) + i by omega]
    exact foldT_also (by simpa using h) (by rwa [show k + 1 + i = k + (i + 1) by omega]) fun hd j z hj hz hdz => by
      have := hs hd (j + 1) z (by omega) (by simpa using hz) hdz
      rwa [show k + 1 + j = k + (j + 1) by omega]

theorem foldH_also {S : Nat → Bool} {b : Nat} : ∀ {l : List Item} {k i : Nat} {x : Item} {H : Nat → AB}, l[i]? = some x → S (k + i) = false → (wrH x b → ∀ (j : Nat) y, i < j → l[j]? = some y → wrH y b → S (k + j) = false) →
    foldH (also S (k + i)) k l H b = newH x (foldH S k l H) b
  | [], _, _, _, _, h, _, _ => by simp at h
  | y :: l, k, 0, x, H, h, h0, hs => by
    simp only [List.getElem?_cons_zero, Option.some.injEq] at h
    subst h
    simp only [foldH, Nat.add_zero] at h0 ⊢
    have e : also S k k = true := by simp [also]
    rw [if_pos e, if_neg (show ¬ S k = true by rw [h0]; simp)]
    by_cases hd : wrH y b
    · have : ∀ {l : List Item} {k' : Nat} {H : Nat → AB}, (∀ (j : Nat) z, l[j]? = some z → wrH z b → also S k (k' + j) = false) → foldH (also S k) k' l H b = H b := by
        intro l
        induction l with
        | nil => intro k' H _; rfl
        | cons z l ih =>
          intro k' H hz
          simp only [foldH]
          rw [ih fun j q hq hdq => by have := hz (j + 1) q (by simpa using hq) hdq; rwa [show k' + 1 + j = k' + (j + 1) by omega]]
          by_cases hdz : wrH z b
          · have := hz 0 z rfl hdz
            simp only [Nat.add_zero] at this
            rw [this, if_neg (by simp)]
          · split <;> simp [newH_other hdz]
      rw [this]
      · exact newH_at hd
      · intro j z hz hdz
        have := hs hd (j + 1) z (by omega) (by simpa using hz) hdz
        simp only [also, Bool.or_eq_false_iff]
        rw [show k + 1 + j = k + (j + 1) by omega]
        exact ⟨this, by simp⟩
    · rw [newH_other hd]
      refine foldH_congr (newH_other hd) fun j z hz hdz => ?_
      simp [also]
      omega
  | y :: l, k, i + 1, x, H, h, h0, hs => by
    simp only [foldH]
    have e : also S (k + (i + 1)) k = S k := by simp [also]
    rw [e, show k + (i + 1) = (k + 1) + i by omega]
    exact foldH_also (by simpa using h) (by rwa [show k + 1 + i = k + (i + 1) by omega]) fun hd j z hj hz hdz => by
      have := hs hd (j + 1) z (by omega) (by simpa using hz) hdz
      rwa [show k + 1 + j = k + (j + 1) by omega]

end Go.Proofs.Ytkbdppnlojlcdaa
