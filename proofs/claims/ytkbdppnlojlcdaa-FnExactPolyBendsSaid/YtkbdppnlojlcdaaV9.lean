/- The abstract machine, 9: a region, in the order of the text and in any order that its edges allow: what it leaves. Conditions: those of the table of callees. -/
import Derived.Test.YtkbdppnlojlcdaaV8
namespace Go.Proofs.Ytkbdppnlojlcdaa
open Go.RowKit

def items (ops : List Oper) (es : List Ent) : List Item := List.zipWith Item.mk ops es

theorem setT_get {T : List AV} {dst : Option Tmp} {v : AV} (h : dstOk T dst = true) (t : Nat) : (setT T dst v).getD t .dead = if dst = some t then v else T.getD t .dead := by
  cases dst with
  | none => simp [setT]
  | some d =>
    have hd : d < T.length := by simpa [dstOk, Nat.blt_eq] using h
    simp only [setT, List.getD_eq_getElem?_getD, List.getElem?_set, Option.some.injEq]
    by_cases e : d = t
    · subst e; simp [hd]
    · simp [e]

theorem setT_length (T : List AV) (dst : Option Tmp) (v : AV) : (setT T dst v).length = T.length := by cases dst <;> simp [setT]

theorem putA_length (H : List AB) : ∀ l : List (Nat × AB), (putA H l).length = H.length
  | [] => rfl
  | p :: l => by simp [putA, putA_length H l]

theorem putA_get (H : List AB) (i : Nat) : ∀ l : List (Nat × AB), (∀ p ∈ l, p.1 < H.length) → (putA H l).getD i .gone = (lookB i l).getD (H.getD i .gone)
  | [], _ => rfl
  | p :: l, h => by
    have hp : p.1 < (putA H l).length := by rw [putA_length]; exact h p List.mem_cons_self
    simp only [putA, lookB, List.getD_eq_getElem?_getD, List.getElem?_set]
    by_cases e : p.1 = i
    · rw [if_pos e, if_pos hp, if_pos e]; rfl
    · rw [if_neg e, if_neg e]
      have := putA_get H i l fun q hq => h q (List.mem_cons_of_mem _ hq)
      simpa [List.getD_eq_getElem?_getD] using this

theorem wr_lt {H : List AB} {i : Nat} (h : (H.getD i .gone).wr = true) : i < H.length := by
  rcases Nat.lt_or_ge i H.length with h' | h'
  · exact h'
  · rw [List.getD_eq_getElem?_getD, List.getElem?_eq_none h'] at h
    cases h

theorem appH_get {H : List AB} {δ : Delta} (hp : ∀ p ∈ δ.put, (H.getD p.1 .gone).wr = true) (i : Nat) : (appH H δ).getD i .gone = appF H.length δ (fun i => H.getD i .gone) i := by
  have hlt : ∀ p ∈ δ.put, p.1 < H.length := fun p h => wr_lt (hp p h)
  unfold appH appF
  rw [List.getD_eq_getElem?_getD]
  by_cases h1 : i < H.length
  · rw [List.getElem?_append_left (by rw [putA_length]; exact h1), if_neg (by omega), ← List.getD_eq_getElem?_getD]
    exact putA_get H i _ hlt
  · rw [List.getElem?_append_right (by rw [putA_length]; omega), putA_length]
    by_cases h2 : i < H.length + δ.new.length
    · rw [if_pos ⟨by omega, h2⟩, List.getD_eq_getElem?_getD]
    · rw [if_neg (by omega), List.getElem?_eq_none (by omega)]
      have : lookB i δ.put = none := by
        cases hl : lookB i δ.put with
        | none => rfl
        | some b => have := hlt _ (lookB_mem hl); simp at this; omega
      rw [this]
      simp [List.getElem?_eq_none (Nat.le_of_not_lt h1)]

theorem foldT_shift {S : Nat → Bool} : ∀ {l : List Item} {k : Nat} {T : Nat → AV}, foldT S (k + 1) l T = foldT (fun j => S (j + 1)) k l T
  | [], _, _ => rfl
  | x :: l, k, T => by
    simp only [foldT]
    exact foldT_shift
theorem foldH_shift {S : Nat → Bool} : ∀ {l : List Item} {k : Nat} {H : Nat → AB}, foldH S (k + 1) l H = foldH (fun j => S (j + 1)) k l H
  | [], _, _ => rfl
  | x :: l, k, H => by
    simp only [foldH]
    exact foldH_shift

/-- At the operation's own place in the text. -/
def At (P : Program) (Γ : Gam) (all : List Oper) (n : Nat) (T0 : Nat → AV) (H0 : Nat → AB) (L : List Item) (i : Nat) (x : Item) : Prop :=
  ∃ Ti Hi, entOk P Γ all x.o Ti Hi x.e ∧ Ti.length = n ∧ (∀ t, Ti.getD t .dead = foldT (fun j => decide (j < i)) 0 L T0 t) ∧ ∀ b, Hi.getD b .gone = foldH (fun j => decide (j < i)) 0 L H0 b

structure RunAt (P : Program) (Γ : Gam) (all ops : List Oper) (es : List Ent) (T : List AV) (H : List AB) (T' : List AV) (H' : List AB) : Prop where
  len : es.length ≤ ops.length
  lenT : T'.length = T.length
  lenH : H.length ≤ H'.length
  at_ : ∀ (i : Nat) x, (items ops es)[i]? = some x → At P Γ all T.length (fun t => T.getD t .dead) (fun b => H.getD b .gone) (items ops es) i x
  endT : ∀ t, T'.getD t .dead = foldT (fun _ => true) 0 (items ops es) (fun t => T.getD t .dead) t
  endH : ∀ b, H'.getD b .gone = foldH (fun _ => true) 0 (items ops es) (fun b => H.getD b .gone) b
  base : ∀ (i : Nat) x, (items ops es)[i]? = some x → H.length ≤ x.e.base
  apart : ∀ (i j : Nat) x y, i < j → (items ops es)[i]? = some x → (items ops es)[j]? = some y → ∀ b, isNew x b → b < y.e.base
  lt : ∀ (i : Nat) x, (items ops es)[i]? = some x → ∀ b, isNew x b → b < H'.length

theorem nextT_get {P : Program} {Γ : Gam} {all : List Oper} {o : Oper} {T : List AV} {H : List AB} {e : Ent} (h : entOk P Γ all o T H e) : (fun t => (nextT o e T).getD t .dead) = fun t => if o.dst = some t then valT ⟨o, e⟩ else T.getD t .dead := by
  funext t
  unfold nextT
  rw [setT_get h.2.1]
  cases hd : e.d <;> simp [valT, hd]

theorem nextH_get {P : Program} {Γ : Gam} {all : List Oper} {o : Oper} {T : List AV} {H : List AB} {e : Ent} (h : entOk P Γ all o T H e) : (fun b => (nextH e H).getD b .gone) = newH ⟨o, e⟩ fun b => H.getD b .gone := by
  funext b
  obtain ⟨h1, h2, h3⟩ := h
  unfold nextH newH
  cases hd : e.d with
  | none => simp
  | some δ =>
    rw [hd] at h3
    simp only [h1]
    exact appH_get h3.2.2.2 b

theorem nextH_length (e : Ent) (H : List AB) : (nextH e H).length = H.length + (match e.d with | some δ => δ.new.length | none => 0) := by
  unfold nextH
  cases e.d <;> simp [appH, putA_length]

theorem run_len {P : Program} {Γ : Gam} {all : List Oper} : ∀ {ops : List Oper} {es : List Ent} {T : List AV} {H : List AB} {T' : List AV} {H' : List AB}, RunOk P Γ all ops es T H T' H' → es.length = ops.length
  | [], [], T, H, T', H', h => rfl
  | o :: os, e :: es, T, H, T', H', h => by simp [run_len h.2]
  | [], _ :: _, T, H, T', H', h => h.elim
  | _ :: _, [], T, H, T', H', h => h.elim

theorem run_at {P : Program} {Γ : Gam} {all : List Oper} : ∀ {ops : List Oper} {es : List Ent} {T : List AV} {H : List AB} {T' : List AV} {H' : List AB}, RunOk P Γ all ops es T H T' H' → RunAt P Γ all ops es T H T' H'
  | [], [], T, H, T', H', h => by
    obtain ⟨rfl, rfl⟩ := h
    exact ⟨Nat.le_refl _, rfl, Nat.le_refl _, by intro i x h; simp [items] at h, fun _ => rfl, fun _ => rfl, by intro i x h; simp [items] at h, by intro i j x y _ h; simp [items] at h, by intro i x h; simp [items] at h⟩
  | o :: os, e :: es, T, H, T', H', h => by
    obtain ⟨h1, h2⟩ := h
    have r := run_at h2
    have hb : e.base = H.length := h1.1
    have hl := nextH_length e H
    have hit : items (o :: os) (e :: es) = ⟨o, e⟩ :: items os es := rfl
    have hT := nextT_get h1
    have hH := nextH_get h1
    have rlT := r.lenT
    rw [show (nextT o e T).length = T.length by unfold nextT; rw [setT_length]] at rlT
    have rlH := r.lenH
    rw [hl] at rlH
    have new0 : ∀ b, isNew ⟨o, e⟩ b → b < (nextH e H).length := by
      intro b hbn
      unfold isNew at hbn
      rw [hl]
      cases hd : e.d with
      | none => simp [hd] at hbn
      | some δ => simp [hd] at hbn ⊢; omega
    refine ⟨by simpa using r.len, rlT, by omega, ?_, ?_, ?_, ?_, ?_, ?_⟩
    · intro i x hx
      rw [hit] at hx ⊢
      cases i with
      | zero =>
        simp only [List.getElem?_cons_zero, Option.some.injEq] at hx
        subst hx
        have key : ∀ (l : List Item) (k : Nat) (T : Nat → AV), foldT (fun j => decide (j < 0)) k l T = T := by
          intro l
          induction l with
          | nil => intro k T; rfl
          | cons y l ih => intro k T; simp only [foldT]; rw [ih]; simp
        have keyH : ∀ (l : List Item) (k : Nat) (H : Nat → AB), foldH (fun j => decide (j < 0)) k l H = H := by
          intro l
          induction l with
          | nil => intro k T; rfl
          | cons y l ih => intro k T; simp only [foldH]; rw [ih]; simp
        exact ⟨T, H, h1, rfl, fun t => by rw [key], fun b => by rw [keyH]⟩
      | succ i =>
        simp only [List.getElem?_cons_succ] at hx
        obtain ⟨Ti, Hi, a1, a2, a3, a4⟩ := r.at_ i x hx
        refine ⟨Ti, Hi, a1, ?_, ?_, ?_⟩
        · rw [a2]; unfold nextT; rw [setT_length]
        · intro t
          rw [a3 t, hT]
          simp only [foldT]
          rw [foldT_shift]
          simp
        · intro b
          rw [a4 b, hH]
          simp only [foldH]
          rw [foldH_shift]
          simp
    · intro t
      rw [hit, r.endT t, hT]
      simp only [foldT]
      rw [foldT_shift]
      simp
    · intro b
      rw [hit, r.endH b, hH]
      simp only [foldH]
      rw [foldH_shift]
      simp
    · intro i x hx
      rw [hit] at hx
      cases i with
      | zero => simp only [List.getElem?_cons_zero, Option.some.injEq] at hx; subst hx; simp [hb]
      | succ i =>
        have := r.base i x (by simpa using hx)
        omega
    · intro i j x y hij hx hy b hbn
      rw [hit] at hx hy
      cases j with
      | zero => omega
      | succ j =>
        cases i with
        | zero =>
          simp only [List.getElem?_cons_zero, Option.some.injEq] at hx
          subst hx
          have := r.base j y (by simpa using hy)
          have := new0 b hbn
          omega
        | succ i => exact r.apart i j x y (by omega) (by simpa using hx) (by simpa using hy) b hbn
    · intro i x hx b hbn
      rw [hit] at hx
      cases i with
      | zero =>
        simp only [List.getElem?_cons_zero, Option.some.injEq] at hx
        subst hx
        have := new0 b hbn
        have := r.lenH
        omega
      | succ i => exact r.lt i x (by simpa using hx) b hbn
  | [], _ :: _, _, _, _, _, h => h.elim
  | _ :: _, [], _, _, _, _, h => h.elim

/-- What holds behind those operations that S holds. -/
structure Stage (M : Nat → Prop) (w0 : World) (ν0 : Nu) (n n0 : Nat) (T0 : Nat → AV) (H0 : Nat → AB) (L : List Item) (S : Nat → Bool) (a : Act) (w : World) (ν : Nu) : Prop where
  tmps : ∀ t, VR ν (foldT S 0 L T0 t) (a.tmps.getD t undef)
  heap : RH M ν (foldH S 0 L H0) w
  fr : Fr M w0 w
  dom : ∀ i b, ν i = some b → i < n0 ∨ ∃ j x, L[j]? = some x ∧ S j = true ∧ isNew x i
  len : n ≤ a.tmps.size
  le : Le ν0 ν

def readsB (x : Item) (b : Nat) : Prop := match x.e.d with | some δ => b ∈ δ.rd ∨ ∃ p ∈ δ.put, p.1 = b | none => False

theorem wanted_of {all : List Oper} {o : Oper} {T : List AV} {a : Act} {ν : Nu} {q : Bool} (h : wantedA all T o.guard q) (hT : ∀ t, t ∈ o.looksAt all.toArray → VR ν (T.getD t .dead) (a.tmps.getD t undef)) : Region.wanted o (yielded all.toArray a.tmps) = q := by
  unfold wantedA at h
  cases hg : o.guard with
  | none =>
    rw [hg] at h
    simp [guardA] at h
    simp [Region.wanted, hg, h]
  | some jw =>
    obtain ⟨j, want⟩ := jw
    rw [hg] at h
    simp only [guardA] at h
    cases hd : (all[j]?).bind (·.dst) with
    | none => rw [hd] at h; exact h.elim
    | some d =>
      have hd' : (all.toArray[j]?).bind (·.dst) = some d := by simpa using hd
      have hv := hT d (by simp only [Oper.looksAt, hg, hd']; simp)
      simp only [Region.wanted, hg, yielded, hd', Option.bind_some]
      cases hx : T.getD d .dead with
      | v x =>
        rw [hx] at hv
        simp only [VR] at hv
        cases x with
        | bool b =>
          simp only [hd, hx] at h
          have hs : a.tmps[d]? = some (.bool b) := by
            simp only [Array.getD_eq_getD_getElem?] at hv
            cases hq : a.tmps[d]? with
            | none => rw [hq] at hv; simp [undef] at hv
            | some z => rw [hq] at hv; simpa using hv
          rw [hs, h]
          cases b <;> cases want <;> rfl
        | tuple vs =>
          simp only [hd, hx] at h
          rw [h]
          cases hq : a.tmps[d]? with
          | none => simp
          | some z =>
            have : z = .tuple vs := by simpa [Array.getD_eq_getD_getElem?, hq] using hv
            rw [this]
            simp
        | _ => simp only [hd, hx] at h
      | _ => simp only [hd, hx] at h

theorem put_getD {a : Act} {dst : Option Tmp} {v : Value} (h : ∀ d, dst = some d → d < a.tmps.size) (t : Nat) : (a.put dst v).tmps.getD t undef = if dst = some t then v else a.tmps.getD t undef := by
  cases dst with
  | none => simp [Act.put]
  | some d =>
    have hd := h d rfl
    simp only [Act.put, Option.some.injEq, Array.getD_eq_getD_getElem?, Array.getElem?_setIfInBounds]
    by_cases e : d = t
    · subst e; simp [hd]
    · simp [e]

theorem put_defers' (a : Act) (dst : Option Tmp) (v : Value) : (a.put dst v).defers = a.defers := by cases dst <;> rfl
theorem put_size' (a : Act) (dst : Option Tmp) (v : Value) : (a.put dst v).tmps.size = a.tmps.size := by cases dst <;> simp [Act.put]

theorem evA_sound {T : List AV} {a : Act} {ν : Nu} {z : Operand} (h : ∀ t, z = .tmp t → VR ν (T.getD t .dead) (a.tmps.getD t undef)) : VR ν (evA T z) (a.eval z) := by
  cases z with
  | tmp t => exact h t rfl
  | const v => simp [evA, VR, Act.eval]
  | global g => simp [evA, VR, Act.eval]
  | func f =>
    simp only [evA, VR, Act.eval]
    exact ⟨[], rfl, by simp only [VRs]⟩

/-- A STEP, wherever the order stands. -/
theorem stage_step {P : Program} {Γ : Gam} (hΓ : GamOk P Γ) {all : List Oper} {es : List Ent} {M : Nat → Prop} {w0 : World} {ν0 : Nu} (hM : ∀ k, w0.heap.size ≤ k → M k) {T : List AV} {H : List AB} {T' : List AV} {H' : List AB} (r : RunAt P Γ all all es T H T' H')
    {S : Nat → Bool} {a : Act} {w : World} {ν : Nu} {i : Nat} {x : Item} {K : Act → World → Prop} {Q : Exit → Act → World → Prop} (hx : (items all es)[i]? = some x)
    (st : Stage M w0 ν0 T.length H.length (fun t => T.getD t .dead) (fun b => H.getD b .gone) (items all es) S a w ν) (h0 : S i = false)
    (hT : ∀ t, t ∈ x.o.looksAt all.toArray → foldT S 0 (items all es) (fun t => T.getD t .dead) t = foldT (fun j => decide (j < i)) 0 (items all es) (fun t => T.getD t .dead) t)
    (hH : ∀ b, readsB x b → foldH S 0 (items all es) (fun b => H.getD b .gone) b = foldH (fun j => decide (j < i)) 0 (items all es) (fun b => H.getD b .gone) b)
    (hwT : ∀ t, x.o.dst = some t → ∀ (j : Nat) y, i < j → (items all es)[j]? = some y → y.o.dst = some t → S j = false)
    (hwH : ∀ b, wrH x b → ∀ (j : Nat) y, i < j → (items all es)[j]? = some y → wrH y b → S j = false)
    (hK : ∀ a' w' ν', Stage M w0 ν0 T.length H.length (fun t => T.getD t .dead) (fun b => H.getD b .gone) (items all es) (also S i) a' w' ν' → a'.defers = a.defers → K a' w') : wpOp P all.toArray Q i K a w := by
  obtain ⟨Ti, Hi, ⟨e1, e2, e3⟩, lT, gT, gH⟩ := r.at_ i x hx
  have hxo : all[i]? = some x.o := by
    simp only [items, List.getElem?_zipWith] at hx
    split at hx
    · rename_i o e h1 h2
      cases hx
      exact h1
    · cases hx
  have vT : ∀ t, t ∈ x.o.looksAt all.toArray → VR ν (Ti.getD t .dead) (a.tmps.getD t undef) := fun t ht => by rw [gT t, ← hT t ht]; exact st.tmps t
  have hdst : ∀ d, x.o.dst = some d → d < a.tmps.size := by
    intro d hd
    have h1 : d < Ti.length := by simpa [dstOk, hd, Nat.blt_eq] using e2
    rw [lT] at h1
    exact Nat.lt_of_lt_of_le h1 st.len
  have also_T := fun t => foldT_also (S := S) (k := 0) (i := i) (T := fun t => T.getD t .dead) (t := t) hx (by simpa using h0) (fun hd j y hj hy hdy => by have := hwT t hd j y hj hy hdy; simpa using this)
  have also_H := fun b => foldH_also (S := S) (k := 0) (i := i) (H := fun b => H.getD b .gone) (b := b) hx (by simpa using h0) (fun hd j y hj hy hdy => by have := hwH b hd j y hj hy hdy; simpa using this)
  simp only [Nat.zero_add] at also_T also_H
  unfold wpOp
  simp only [List.getElem?_toArray, hxo]
  cases hd : x.e.d with
  | none =>
    rw [hd] at e3
    rw [wanted_of e3 vT]
    simp only [Bool.false_eq_true, if_false]
    refine hK _ w ν ⟨?_, ?_, st.fr, ?_, by rw [put_size']; exact st.len, st.le⟩ (put_defers' _ _ _)
    · intro t
      rw [also_T t, put_getD hdst]
      split
      · simp [valT, hd, VR]
      · exact st.tmps t
    · have : foldH (also S i) 0 (items all es) (fun b => H.getD b .gone) = foldH S 0 (items all es) (fun b => H.getD b .gone) := by
        funext b
        rw [also_H b, newH_other]
        simp [wrH, hd]
      rw [this]
      exact st.heap
    · intro k b hk
      rcases st.dom k b hk with h | ⟨j, y, h1, h2, h3⟩
      · exact .inl h
      · exact .inr ⟨j, y, h1, by simp [also, h2], h3⟩
  | some δ =>
    rw [hd] at e3
    obtain ⟨e3, e4, e5, e6⟩ := e3
    rw [wanted_of e3 vT]
    simp only [if_true]
    refine .inl ?_
    have rd : ∀ b, readsB x b → Hi.getD b .gone = foldH S 0 (items all es) (fun b => H.getD b .gone) b := fun b hb => by rw [gH b, hH b hb]
    have hfree : ∀ j, j < δ.new.length → ν (Hi.length + j) = none := by
      intro j hj
      cases hν : ν (Hi.length + j) with
      | none => rfl
      | some b =>
        have hnew : isNew x (Hi.length + j) := by simp only [isNew, hd]; omega
        rcases st.dom _ b hν with h | ⟨q, y, h1, h2, h3⟩
        · have := r.base i x hx
          omega
        · rcases Nat.lt_trichotomy q i with hq | hq | hq
          · have := r.apart q i y x hq h1 hx _ h3
            omega
          · subst hq; rw [h0] at h2; cases h2
          · have := r.apart i q x y hq hx h1 _ hnew
            unfold isNew at h3
            split at h3
            · omega
            · exact h3.elim
    refine opA_sound hΓ e4 e5 (fun z hz => evA_sound fun t ht => vT t ?_) (fun b hb => ?_) (fun b k hk => st.heap.lt b k hk) hfree (fun i' c j' b b' hp hj hne hl h1 h2 => st.heap.sep i' j' b b' hne (by rw [← rd i' (by simp only [readsB, hd]; exact .inr ⟨_, hp, rfl⟩)]; exact e6 _ hp) (by rw [← rd j' (by simp only [readsB, hd]; exact .inl hj)]; exact hl) h1 h2) fun v w' ν' did => ?_
    · subst ht
      simp only [Oper.looksAt, List.mem_append]
      left
      rw [List.mem_filterMap]
      exact ⟨_, by simpa using hz, rfl⟩
    · rw [rd b (by simp only [readsB, hd]; exact .inl hb)]
      exact st.heap.br b
    · have hput : ∀ p ∈ δ.put, (foldH S 0 (items all es) (fun b => H.getD b .gone) p.1).wr = true := by
        intro p hp
        rw [← rd p.1 (by simp only [readsB, hd]; exact .inr ⟨p, hp, rfl⟩)]
        exact e6 p hp
      refine hK _ w' ν' ⟨?_, ?_, did.fr st.heap hput st.fr, ?_, by rw [put_size']; exact st.len, st.le.trans did.le⟩ (put_defers' _ _ _)
      · intro t
        rw [also_T t, put_getD hdst]
        split
        · simp only [valT, hd]
          exact did.val
        · exact (st.tmps t).le did.le
      · have : foldH (also S i) 0 (items all es) (fun b => H.getD b .gone) = appF Hi.length δ (foldH S 0 (items all es) (fun b => H.getD b .gone)) := by
          funext b
          rw [also_H b]
          simp [newH, hd, e1]
        rw [this]
        exact st.heap.step (fun k hk => hM k (Nat.le_trans st.fr.size hk)) did hput hfree
      · intro k b hk
        cases hν : ν k with
        | some b' =>
          rcases st.dom k b' hν with h | ⟨j, y, h1, h2, h3⟩
          · exact .inl h
          · exact .inr ⟨j, y, h1, by simp [also, h2], h3⟩
        | none =>
          have := did.dom k hν (by rw [hk]; simp)
          exact .inr ⟨i, x, hx, by simp [also], by simp only [isNew, hd, e1]; exact this⟩

/-- What the lists say of a frame and a world. -/
structure SR (M : Nat → Prop) (w0 : World) (ν0 : Nu) (T : List AV) (H : List AB) (a : Act) (w : World) (ν : Nu) : Prop where
  tmps : ∀ t, VR ν (T.getD t .dead) (a.tmps.getD t undef)
  heap : RH M ν (fun b => H.getD b .gone) w
  fr : Fr M w0 w
  dom : ∀ i b, ν i = some b → i < H.length
  len : T.length ≤ a.tmps.size
  le : Le ν0 ν

theorem stage_start {M : Nat → Prop} {w0 : World} {ν0 : Nu} {T : List AV} {H : List AB} {a : Act} {w : World} {ν : Nu} {L : List Item} (h : SR M w0 ν0 T H a w ν) (S : Nat → Bool) (hS : ∀ j, S j = false) :
    Stage M w0 ν0 T.length H.length (fun t => T.getD t .dead) (fun b => H.getD b .gone) L S a w ν := by
  have kT : ∀ (l : List Item) (k : Nat) (T : Nat → AV), foldT S k l T = T := by
    intro l
    induction l with
    | nil => intro k T; rfl
    | cons y l ih => intro k T; simp only [foldT]; rw [ih]; simp [hS]
  have kH : ∀ (l : List Item) (k : Nat) (H : Nat → AB), foldH S k l H = H := by
    intro l
    induction l with
    | nil => intro k T; rfl
    | cons y l ih => intro k T; simp only [foldH]; rw [ih]; simp [hS]
  exact ⟨fun t => by rw [kT]; exact h.tmps t, by rw [kH]; exact h.heap, h.fr, fun i b hb => .inl (h.dom i b hb), h.len, h.le⟩

theorem stage_end {P : Program} {Γ : Gam} {all : List Oper} {es : List Ent} {M : Nat → Prop} {w0 : World} {ν0 : Nu} {T : List AV} {H : List AB} {T' : List AV} {H' : List AB} (r : RunAt P Γ all all es T H T' H') {S : Nat → Bool} {a : Act} {w : World} {ν : Nu}
    (st : Stage M w0 ν0 T.length H.length (fun t => T.getD t .dead) (fun b => H.getD b .gone) (items all es) S a w ν) (hS : ∀ j, j < es.length → S j = true) : SR M w0 ν0 T' H' a w ν := by
  have lt : ∀ (j : Nat) x, (items all es)[j]? = some x → j < es.length := by
    intro j x hx
    have := (List.getElem?_eq_some_iff.1 hx).1
    simp [items] at this
    omega
  refine ⟨fun t => ?_, ?_, st.fr, fun i b hb => ?_, by rw [r.lenT]; exact st.len, st.le⟩
  · rw [r.endT t, ← foldT_congr (S := S) (T := fun t => T.getD t .dead) rfl fun j x hx _ => by simpa using hS j (lt j x hx)]
    exact st.tmps t
  · have : (fun b => H'.getD b .gone) = foldH S 0 (items all es) fun b => H.getD b .gone := by
      funext b
      rw [r.endH b]
      exact (foldH_congr rfl fun j x hx _ => by simpa using hS j (lt j x hx)).symm
    rw [this]
    exact st.heap
  · rcases st.dom i b hb with h | ⟨j, x, h1, _, h3⟩
    · exact Nat.lt_of_lt_of_le h r.lenH
    · exact r.lt j x h1 i h3

/-- In the order of the text. -/
theorem seq_sound {P : Program} {Γ : Gam} (hΓ : GamOk P Γ) {all : List Oper} {es : List Ent} {M : Nat → Prop} {w0 : World} {ν0 : Nu} (hM : ∀ k, w0.heap.size ≤ k → M k) {T : List AV} {H : List AB} {T' : List AV} {H' : List AB} (r : RunOk P Γ all all es T H T' H')
    {a : Act} {w : World} {ν : Nu} {Q : Exit → Act → World → Prop} (h : SR M w0 ν0 T H a w ν) (hQ : ∀ a' w' ν', SR M w0 ν0 T' H' a' w' ν' → a'.defers = a.defers → Q .normal a' w') : wpOps P all.toArray Q (List.range all.length) a w := by
  have ra := run_at r
  have rl := run_len r
  have hlen : (items all es).length = all.length := by simp [items, rl]
  have key : ∀ (m i : Nat) (a' : Act) (w' : World) (ν' : Nu), i + m = all.length → Stage M w0 ν0 T.length H.length (fun t => T.getD t .dead) (fun b => H.getD b .gone) (items all es) (fun j => decide (j < i)) a' w' ν' → a'.defers = a.defers → wpOps P all.toArray Q (List.range' i m) a' w' := by
    intro m
    induction m with
    | zero =>
      intro i a' w' ν' hi st hd
      simp only [List.range'_zero, wpOps]
      exact hQ a' w' ν' (stage_end ra st fun j hj => by simp; omega) hd
    | succ m ih =>
      intro i a' w' ν' hi st hd
      rw [List.range'_succ, wpOps_cons]
      have hil : i < (items all es).length := by omega
      refine stage_step hΓ hM ra (List.getElem?_eq_getElem hil) st (by simp) (fun t _ => rfl) (fun b _ => rfl) (fun t _ j y hj _ _ => by simp; omega) (fun b _ j y hj _ _ => by simp; omega) fun a'' w'' ν'' st' hd' => ?_
      refine ih (i + 1) a'' w'' ν'' (by omega) ?_ (hd'.trans hd)
      have : also (fun j => decide (j < i)) i = fun j => decide (j < i + 1) := by
        funext j
        simp only [also]
        rw [Bool.eq_iff_iff]
        simp
        omega
      rw [← this]
      exact st'
  rw [List.range_eq_range']
  exact key all.length 0 a w ν (by omega) (stage_start h _ fun j => by simp) rfl

/-- Two operations of which neither touches what the other writes. -/
def wrL (e : Ent) : List Nat := match e.d with | some δ => δ.put.map (·.1) ++ List.range' e.base δ.new.length | none => []
def rdL (e : Ent) : List Nat := match e.d with | some δ => δ.rd ++ δ.put.map (·.1) | none => []
def apartI (ops : Array Oper) (x y : Item) : Bool :=
  Oper.apart ops x.o y.o && !((wrL x.e).any fun b => (rdL y.e).contains b || (wrL y.e).contains b) && !((rdL x.e).any fun b => (wrL y.e).contains b)

def earlierOk (ops : Array Oper) (y : Item) (mask : Nat) : Nat → List Item → Bool
  | _, [] => true
  | i, x :: l => (mask.testBit i || apartI ops x y) && earlierOk ops y mask (i + 1) l

def befL : List Oper → List Nat → List Nat
  | [], acc => acc
  | o :: r, acc => befL r (acc ++ [o.after.toList.foldl (fun s e => cond (Region.binds .any e) (s ||| 2 ^ e.on ||| acc.getD e.on 0) s) 0])

def edgesOk : Nat → List Oper → Bool
  | _, [] => true
  | i, o :: r => (o.after.toList.all fun e => !Region.binds .any e || Nat.blt e.on i) && edgesOk (i + 1) r

def raceFree (ops : Array Oper) : List Item → List Item → List Nat → Bool
  | _, [], _ => true
  | done, y :: r, m :: ms => earlierOk ops y m 0 done && raceFree ops (done ++ [y]) r ms
  | _, _ :: _, [] => false

end Go.Proofs.Ytkbdppnlojlcdaa
