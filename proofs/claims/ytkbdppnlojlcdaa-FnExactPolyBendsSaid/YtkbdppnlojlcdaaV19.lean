/- The abstract machine, 19: a loop over a function: the rounds, on the loop's own frame. Conditions: the word of the function that yields. -/
import Derived.Test.YtkbdppnlojlcdaaV18
namespace Go.Proofs.Ytkbdppnlojlcdaa
open Go.RowKit

/-- What may turn from here on: the own blocks, and what is new. -/
def ownM (w : World) (ν : Nu) (H : List AB) : Nat → Prop := fun k => w.heap.size ≤ k ∨ ∃ i b, (H.getD i .gone).wr = true ∧ ν i = some b ∧ b.n = k

theorem SR.rebase {M : Nat → Prop} {w0 : World} {ν0 : Nu} {T : List AV} {H : List AB} {a : Act} {w : World} {ν : Nu} (h : SR M w0 ν0 T H a w ν) : SR (ownM w ν H) w ν T H a w ν :=
  ⟨h.tmps, ⟨h.heap.br, h.heap.sep, fun i b hw hb => .inr ⟨i, b, hw, hb, rfl⟩, h.heap.lt⟩, Fr.refl _ _, h.dom, h.len, Le.refl _⟩

theorem SR.unbase {M : Nat → Prop} {w0 : World} {ν0 : Nu} {T T' : List AV} {H H' : List AB} {a a' : Act} {w w' : World} {ν ν' : Nu} (hM : ∀ k, w0.heap.size ≤ k → M k) (h : SR M w0 ν0 T H a w ν) (h' : SR (ownM w ν H) w ν T' H' a' w' ν') : SR M w0 ν0 T' H' a' w' ν' := by
  have hsub : ∀ k, ownM w ν H k → M k := by
    rintro k (hk | ⟨i, b, hw, hb, rfl⟩)
    · exact hM k (Nat.le_trans h.fr.size hk)
    · exact h.heap.own i b hw hb
  exact ⟨h'.tmps, ⟨h'.heap.br, h'.heap.sep, fun i b hw hb => hsub _ (h'.heap.own i b hw hb), h'.heap.lt⟩, h.fr.trans (h'.fr.mono fun k _ hk => hsub k hk), h'.dom, h'.len, h.le.trans h'.le⟩

/-- A block that is no cells turns, or new ones are laid. -/
theorem SR.turn {M : Nat → Prop} {w0 : World} {ν0 : Nu} {T : List AV} {H : List AB} {a : Act} {w w' : World} {ν : Nu} {row : Option Nat} (hM : ∀ k, w0.heap.size ≤ k → M k) (h : SR M w0 ν0 T H a w ν) (hg : w.grownBy w' row)
    (hr : ∀ r, row = some r → w0.heap.size ≤ r ∧ ∃ o : Obj, w.heap[r]? = some o ∧ o.isCells = false) : SR M w0 ν0 T H a w' ν := by
  have hb : ∀ i k, ν i = some k → (H.getD i .gone).live = true → w'.heap[k.n]? = w.heap[k.n]? := by
    intro i k hk hl
    refine hg.block _ (h.heap.lt i k hk) fun e => ?_
    obtain ⟨_, o, ho, hc⟩ := hr _ e.symm
    have hbr := h.heap.br i
    cases hH : H.getD i .gone with
    | cells cs t =>
      rw [hH] at hbr
      obtain ⟨b, l, h1, _, h2, _⟩ := hbr
      rw [hk] at h1
      cases h1
      rw [ho] at h2
      cases h2
      cases hc
    | row rw n s g t =>
      rw [hH] at hbr
      rcases hbr with ⟨_, _, h1⟩ | ⟨b, l, t', fz, h1, h2, _⟩
      · rw [hk] at h1; cases h1
      · rw [hk] at h1
        cases h1
        rw [ho] at h2
        cases h2
        cases hc
    | gone => rw [hH] at hl; cases hl
  refine ⟨h.tmps, ⟨fun i => (h.heap.br i).of_block fun k hk hl => hb i k hk hl, h.heap.sep, h.heap.own, fun i b hi => Nat.lt_of_lt_of_le (h.heap.lt i b hi) hg.size⟩, ?_, h.dom, h.len, h.le⟩
  refine ⟨hg.os.trans h.fr.os, hg.tape.trans h.fr.tape, hg.output.trans h.fr.output, Nat.le_trans h.fr.size hg.size, fun k hk hm => ?_⟩
  rw [hg.block k (Nat.lt_of_lt_of_le hk h.fr.size) fun e => ?_]
  · exact h.fr.block k hk hm
  · have := (hr _ e.symm).1
    omega

/-- yield's arguments in the loop's parameters. -/
def parT : List Tmp → List Value → List AV → List AV
  | p :: ps, v :: vs, T => parT ps vs (T.set p (.v v))
  | _, _, T => T

theorem par_sr {ν : Nu} : ∀ {ps : List Tmp} {vs : List Value} {T : List AV} {t : Array Value}, (∀ p ∈ ps, p < T.length) → T.length ≤ t.size → (∀ i, VR ν (T.getD i .dead) (t.getD i undef)) →
    (∀ i, VR ν ((parT ps vs T).getD i .dead) (((ps.zip vs).foldl (fun t (p, v) => t.setIfInBounds p v) t).getD i undef)) ∧ (parT ps vs T).length ≤ ((ps.zip vs).foldl (fun t (p, v) => t.setIfInBounds p v) t).size
  | [], vs, T, t, _, hl, h => ⟨h, hl⟩
  | p :: ps, [], T, t, _, hl, h => ⟨h, hl⟩
  | p :: ps, v :: vs, T, t, hp, hl, h => by
    simp only [parT, List.zip_cons_cons, List.foldl_cons]
    refine par_sr (by simpa using fun q hq => hp q (List.mem_cons_of_mem _ hq)) (by simpa using hl) fun i => ?_
    have hpl := hp p (by simp)
    by_cases e : p = i
    · subst e
      have h1 : p < t.size := Nat.lt_of_lt_of_le hpl hl
      simp [List.getD_eq_getElem?_getD, Array.getD_eq_getD_getElem?, hpl, h1, VR]
    · simpa [List.getD_eq_getElem?_getD, Array.getD_eq_getD_getElem?, List.getElem?_set, Array.getElem?_setIfInBounds, e] using h i

/-- What a round keeps: old blocks that are not the loop's own. -/
def keepR (w : World) (M : Nat → Prop) (W W' : World) : Prop := W.heap.size ≤ W'.heap.size ∧ ∀ (k : Nat) (o : Obj), k < w.heap.size → ¬ M k → W.heap[k]? = some o → W'.heap[k]? = some o

theorem keepR.trans {w : World} {M : Nat → Prop} {A B C : World} (h : keepR w M A B) (k : keepR w M B C) : keepR w M A C := ⟨Nat.le_trans h.1 k.1, fun i o hi hm ho => k.2 i o hi hm (h.2 i o hi hm ho)⟩

theorem keepR.fr {w : World} {M M' : Nat → Prop} {W W' : World} (hs : w.heap.size ≤ W.heap.size) (hsub : ∀ k, k < w.heap.size → M' k → M k) (h : Fr M' W W') : keepR w M W W' :=
  ⟨h.size, fun k _ hk hm ho => (h.block k (by omega) fun hm' => hm (hsub k hk hm')).trans ho⟩

theorem keepR.put {w : World} {M : Nat → Prop} {W : World} {l : Nat} {o : Obj} (hl : w.heap.size ≤ l) : keepR w M W (W.putObj l o) :=
  ⟨by simp [World.putObj], fun k o' hk _ ho => (World.putObj_heap_other (by omega)).trans ho⟩

def deadK (m : Nat) : Kont := leafK (fun _ => []) m
/-- The loop's assignment, and then its body. -/
def andK (P : Program) (Γ : Gam) (n : Nat) (body : Code) (m : Nat) : Kont := fun e T' H' => match e with
  | .normal => execC P Γ n noLam body T' H' (deadK m)
  | _ => .err

def jumpOf : Ex → Code
  | .ret => .ret
  | .exit id => .exit id
  | .normal => .skip

theorem SR.own_cells {M : Nat → Prop} {w0 : World} {ν0 : Nu} {T : List AV} {H : List AB} {a : Act} {w : World} {ν : Nu} (h : SR M w0 ν0 T H a w ν) {l : Nat} {o : Obj} (hl : w.heap[l]? = some o) (ho : o.isCells = false) : ¬ ownM w ν H l := by
  rintro (hk | ⟨i, b, hw, hb, rfl⟩)
  · rw [Array.getElem?_eq_none hk] at hl; cases hl
  · have hbr := h.heap.br i
    cases hH : H.getD i .gone with
    | cells cs t =>
      rw [hH] at hbr
      obtain ⟨b', l, h1, _, h2, _⟩ := hbr
      rw [hb] at h1
      cases h1
      rw [hl] at h2
      cases h2
      cases ho
    | row rw n s g t =>
      rw [hH] at hbr
      rcases hbr with ⟨_, _, h1⟩ | ⟨b', l, t', fz, h1, h2, _⟩
      · rw [hb] at h1; cases h1
      · rw [hb] at h1
        cases h1
        rw [hl] at h2
        cases h2
        cases ho
    | gone => rw [hH] at hw; cases hw

/-- HOW A ROUND MAY END, in blocks. -/
def RoundQ {α : Type} (lv : Ex → Bool) (hp : List α → List AB) (hx : Ex → List α → List AB) (pre : List α) : Ex → List AV → List AB → Prop := fun e _ H' => match e with
  | .normal => Hsim H' (hp pre)
  | e => lv e = true ∧ Hsim H' (hx e pre)

theorem range_law {α : Type} {P : Program} {Γ : Gam} (hΓ : GamOk P Γ) (hmix : P.follows .mixedOrders = true) (hent : Enters P) {g : Operand} {gf : Nat} {lb : Array Value} {encs : α → List Value} {ps : Array Tmp} {assign body : Code} {S Sp : List α → Prop} {N nn n : Nat} {T : List AV} {a : Act} {w : World} {ν : Nu}
    (hg : a.eval g = .func (.func gf) #[] lb) (eg : ∀ args w, (callFunc gf args).run P w = .ok (.enter gf args) w) (lv : Ex → Bool) (hp : List α → List AB) (hx : Ex → List α → List AB) (hD1 : codeDef assign = true) (hD2 : codeDef body = true)
    {m : Nat} (hm : (hp []).length = m) (h0 : SR (ownM w ν (hp [])) w ν T (hp []) a w ν)
    (hseq : SeqStopsK (wideR none) nn P gf lb (fun x => (encs x).toArray) (keepR w (ownM w ν (hp []))) S Sp N w)
    (hps : ∀ x, (encs x).length = ps.size) (hpT : ∀ p ∈ ps.toList, p < T.length)
    (hround : ∀ pre x, pre.length < N → (execC P Γ n noLam assign (parT ps.toList (encs x) T) (hp pre) (andK P Γ n body m)).ok (RoundQ lv hp hx (pre ++ [x])))
    {Q : Exit → Act → World → Prop}
    (hdone : ∀ D xs W ν', w.heap.size ≤ D → S xs → SR (ownM w ν (hp [])) w ν T (hp xs) a W ν' → W.heap[D]? = some (.deferred (some [])) → Q .normal { a with defers := { target := .collected D, args := #[] } :: a.defers } W)
    (hleave : ∀ D e pre W ν', w.heap.size ≤ D → e ≠ .normal → lv e = true → Sp pre → SR (ownM w ν (hp [])) w ν T (hx e pre) a W ν' → W.heap[D]? = some (.deferred (some [])) → Q (Ex.to e) { a with defers := { target := .collected D, args := #[] } :: a.defers } W) :
    (Code.rangeFunc g ps assign body).wpIn (wideR none) (nn + 1) P Q a w := by
  have hM : ∀ k, w.heap.size ≤ k → ownM w ν (hp []) k := fun k hk => .inl hk
  refine wpIn_rangeFunc fun fn hfn => ?_
  obtain ⟨rec, hrec⟩ : ∃ rec : LoopState → Option Code → Loop, rec = fun st pe => { state := st, pending := pe, fn, tmps := a.tmps, params := ps, assign, body, defers := w.heap.size } := ⟨_, rfl⟩
  obtain ⟨W1, hW1⟩ : ∃ W1, (w.alloc (.deferred (some []))).alloc (.loop (rec .ready none)) = W1 := ⟨_, rfl⟩
  have hsz : W1.heap.size = w.heap.size + 2 := by rw [← hW1]; simp
  have hL1 : W1.heap[w.heap.size + 1]? = some (.loop (rec .ready none)) := by
    rw [← hW1]; have := World.alloc_heap_new (w.alloc (.deferred (some []))) (.loop (rec .ready none)); rwa [World.size_alloc] at this
  have hK1 : W1.heap[w.heap.size]? = some (.deferred (some [])) := by
    rw [← hW1]; exact (Below.heap_alloc _ _ _ (by simp)).trans (World.alloc_heap_new w _)
  have hg1 : w.grownBy W1 none := by
    rw [← hW1]
    have e1 := World.grownBy_alloc w (.deferred (some [])) none
    have e2 := World.grownBy_alloc (w.alloc (.deferred (some []))) (.loop (rec .ready none)) none
    exact ⟨e2.os.trans e1.os, e2.tape.trans e1.tape, e2.output.trans e1.output, Nat.le_trans e1.size e2.size, fun k hk hn => (e2.block k (Nat.lt_of_lt_of_le hk e1.size) hn).trans (e1.block k hk hn)⟩
  have hb1 : Below w.heap.size w W1 := ⟨hg1.os, hg1.tape, hg1.output, hg1.size, fun k hk => hg1.block k hk (by simp)⟩
  -- the caller's word: I
  let I : List α → World → Prop := fun pre W => ∃ ν', SR (ownM w ν (hp [])) w ν T (hp pre) a W ν'
  let Ix : Ex → List α → World → Prop := fun e pre W => (e ≠ .normal ∧ lv e = true) ∧ ∃ ν', SR (ownM w ν (hp [])) w ν T (hx e pre) a W ν'
  have hI : ∀ pre W W' row, I pre W → W.grownBy W' row → (∀ r, row = some r → w.heap.size ≤ r ∧ ∃ o : Obj, W.heap[r]? = some o ∧ o.isCells = false) → I pre W' :=
    fun pre W W' row ⟨ν', hs⟩ hg hr => ⟨ν', hs.turn hM hg hr⟩
  have hIx : ∀ e pre W W' row, Ix e pre W → W.grownBy W' row → (∀ r, row = some r → w.heap.size ≤ r ∧ ∃ o : Obj, W.heap[r]? = some o ∧ o.isCells = false) → Ix e pre W' :=
    fun e pre W W' row ⟨hn, ν', hs⟩ hg hr => ⟨hn, ν', hs.turn hM hg hr⟩
  have hI1 : I [] W1 := hI [] w W1 none ⟨ν, h0⟩ hg1 fun r e => by cases e
  have hnw : ∀ {A : World} {row : Option Nat}, (∀ r, row = some r → W1.heap.size ≤ r ∧ ∃ o : Obj, A.heap[r]? = some o ∧ o.isWalk = true) → (∀ r, row = some r → w.heap.size ≤ r ∧ ∃ o : Obj, A.heap[r]? = some o ∧ o.isCells = false) :=
    fun hr r e => by obtain ⟨hB, o, ho, hw⟩ := hr r e; exact ⟨by omega, o, ho, Obj.not_cells_of_walk hw⟩
  refine ⟨w.heap.size + 1, [{ target := .collected w.heap.size, args := #[] }], W1, { target := .fn (.func gf) lb, args := #[.func (.yield (w.heap.size + 1)) #[] #[]] }, W1, gf,
    #[.func (.yield (w.heap.size + 1)) #[] #[]] ++ lb, W1, ?_, ?_, fun _ _ => trivial, ?_, fun h => (by cases h), ?_⟩
  · rw [← hW1, hrec]; exact run_enterLoop_outer _ _ _ _ _
  · simp only [resolve, hg]
    simp [go_sem]
  · simp [invoke, go_sem, eg]
  · refine (hseq (w.heap.size + 1)
      (fun pre W => I pre W ∧ W.heap[w.heap.size + 1]? = some (.loop (rec .ready none)) ∧ W.heap[w.heap.size]? = some (.deferred (some [])))
      (fun pre W => ∃ e, Ix e pre W ∧ W.heap[w.heap.size + 1]? = some (.loop (rec .done (some (jumpOf e)))) ∧ W.heap[w.heap.size]? = some (.deferred (some [])))
      W1 hb1
      (fun s A B row hs hg' hr => ⟨hI s A B row hs.1 hg' (hnw hr), (grownBy_keeps hg' (fun r e => (hr r e).2) hs.2.1 rfl).trans hs.2.1, (grownBy_keeps hg' (fun r e => (hr r e).2) hs.2.2 rfl).trans hs.2.2⟩)
      (fun s A B row hs hg' hr => by
        obtain ⟨e, hc, hl, hk⟩ := hs
        exact ⟨e, hIx e s A B row hc hg' (hnw hr), (grownBy_keeps hg' (fun r e => (hr r e).2) hl rfl).trans hl, (grownBy_keeps hg' (fun r e => (hr r e).2) hk rfl).trans hk⟩)
      ?_ ⟨hI1, hL1, hK1⟩).mono ?_
    · rintro pre x W ⟨⟨ν', hs⟩, hl, hk⟩ hlen
      have hlt : w.heap.size + 1 < W.heap.size := (Array.getElem?_eq_some_iff.1 hl).1
      have hy := run_yield (P := P) (args := (encs x).toArray) hl (by rw [hrec]; simp [hps x])
      rw [hrec] at hy
      refine ⟨fn, _, assign, body, hy, roundIn_of_wpIn hfn ?_⟩
      have hpar := par_sr (ps := ps.toList) (vs := encs x) (T := T) (t := a.tmps) hpT hs.len hs.tmps
      have hfold : (ps.zip (encs x).toArray).foldl (fun t (p, v) => t.setIfInBounds p v) a.tmps = (ps.toList.zip (encs x)).foldl (fun t (p, v) => t.setIfInBounds p v) a.tmps := by
        rw [← Array.foldl_toList, Array.toList_zip]
      have hstart : SR (ownM w ν (hp [])) w ν (parT ps.toList (encs x) T) (hp pre) { tmps := (ps.toList.zip (encs x)).foldl (fun t (p, v) => t.setIfInBounds p v) a.tmps, defers := [] } W ν' :=
        ⟨hpar.1, hs.heap, hs.fr, hs.dom, hpar.2, hs.le⟩
      have hsub1 : ∀ k, k < w.heap.size → ownM W ν' (hp pre) k → ownM w ν (hp []) k := by
        rintro k hk (hk' | ⟨i, b, hw, hb, rfl⟩)
        · have := hs.fr.size; omega
        · exact hs.heap.own i b hw hb
      have run1 := execC_in hΓ hmix hent (some (w.heap.size + 1)) (nn - 1) [] n assign hD1 (ownM W ν' (hp pre)) W ν' (fun k hk => .inl hk) _ _ _ _ _ W ν' (hround pre x hlen) hstart.rebase rfl
      show assign.wpIn (wideR (some (w.heap.size + 1))) (nn - 1) P _ _ W
      simp only [hfold]
      refine wpIn_mono run1 ?_
      rintro e a1 Wa ⟨e1, T1, H1, ν1, rfl, hk1, hS1, hd1⟩
      cases e1 with
      | exit id => exact hk1.elim
      | ret => exact hk1.elim
      | normal =>
        have hlA : Wa.heap[w.heap.size + 1]? = some (.loop (rec .ready none)) := (hS1.fr.block _ hlt (hs.own_cells hl rfl)).trans hl
        have hkA : Wa.heap[w.heap.size]? = some (.deferred (some [])) := (hS1.fr.block _ (by omega) (hs.own_cells hk rfl)).trans hk
        have hSu := hstart.unbase hM hS1
        refine ⟨_, run_beginRound hlA (by rw [hrec]), ?_⟩
        obtain ⟨W2, hW2⟩ : ∃ W2, Wa.putObj (w.heap.size + 1) (.loop { rec .ready none with state := .busy }) = W2 := ⟨_, rfl⟩
        have hl2 : W2.heap[w.heap.size + 1]? = some (.loop { rec .ready none with state := .busy }) := by rw [← hW2]; exact World.putObj_heap_same (Array.getElem?_eq_some_iff.1 hlA).1
        have hk2 : W2.heap[w.heap.size]? = some (.deferred (some [])) := by rw [← hW2]; exact (World.putObj_heap_other (by omega)).trans hkA
        have hS2 : SR (ownM w ν (hp [])) w ν T1 H1 a1 W2 ν1 := by
          rw [← hW2]
          refine hSu.turn hM (grownBy_putObj' Wa _ _) fun r e => ?_
          cases e
          exact ⟨by omega, _, hlA, rfl⟩
        have hkp2 : keepR w (ownM w ν (hp [])) W W2 := by
          rw [← hW2]
          exact (keepR.fr (hs.fr.size) hsub1 hS1.fr).trans (keepR.put (by omega))
        rw [hW2]
        have hsub2 : ∀ k, k < w.heap.size → ownM W2 ν1 H1 k → ownM w ν (hp []) k := by
          rintro k hk (hk' | ⟨i, b, hw, hb, rfl⟩)
          · have := hS2.fr.size; omega
          · exact hS2.heap.own i b hw hb
        have run2 := execC_in hΓ hmix hent (some (w.heap.size + 1)) (nn - 1) [] n body hD2 (ownM W2 ν1 H1) W2 ν1 (fun k hk => .inl hk) _ _ _ _ a1 W2 ν1 hk1 hS2.rebase hd1
        refine wpIn_mono run2 ?_
        rintro e a2 W3 ⟨e2, T2, H2, ν2, rfl, hk3, hS3, hd3⟩
        have hl3 : W3.heap[w.heap.size + 1]? = some (.loop { rec .ready none with state := .busy }) := (hS3.fr.block _ (Array.getElem?_eq_some_iff.1 hl2).1 (hS2.own_cells hl2 rfl)).trans hl2
        have hk3' : W3.heap[w.heap.size]? = some (.deferred (some [])) := (hS3.fr.block _ (Array.getElem?_eq_some_iff.1 hk2).1 (hS2.own_cells hk2 rfl)).trans hk2
        have hS4 := hS2.unbase hM hS3
        have hkp3 := hkp2.trans (keepR.fr hS2.fr.size hsub2 hS3.fr)
        unfold deadK leafK at hk3
        split at hk3
        · rename_i p hwk
          have hS5 := weak_sound hwk hS4 (by rw [← hm]; exact h0.dom)
          have fin : ∀ (jump : Option Code), (Instr.endRound (w.heap.size + 1) jump).run P W3 = .ok (.bool jump.isNone) (W3.putObj (w.heap.size + 1) (.loop (rec (if jump.isNone then .ready else .done) jump))) ∧
              (W3.putObj (w.heap.size + 1) (.loop (rec (if jump.isNone then .ready else .done) jump))).heap[w.heap.size + 1]? = some (.loop (rec (if jump.isNone then .ready else .done) jump)) ∧
              (W3.putObj (w.heap.size + 1) (.loop (rec (if jump.isNone then .ready else .done) jump))).heap[w.heap.size]? = some (.deferred (some [])) ∧ ∀ HH ν3, SR (ownM w ν (hp [])) w ν p.1 HH a2 W3 ν3 → SR (ownM w ν (hp [])) w ν T HH a (W3.putObj (w.heap.size + 1) (.loop (rec (if jump.isNone then .ready else .done) jump))) ν3 := fun jump => by
            have := run_endRound (P := P) jump hl3
            rw [hrec] at this ⊢
            refine ⟨this, World.putObj_heap_same (Array.getElem?_eq_some_iff.1 hl3).1, (World.putObj_heap_other (by omega)).trans hk3', fun HH ν3 hh => ?_⟩
            have h1 : SR (ownM w ν (hp [])) w ν T HH a W3 ν3 := ⟨fun t => (h0.tmps t).le hh.le, hh.heap, hh.fr, hh.dom, h0.len, hh.le⟩
            refine h1.turn hM (grownBy_putObj' W3 _ _) fun r e => ?_
            cases e
            exact ⟨by omega, _, hl3, rfl⟩
          cases e2 with
          | normal =>
            obtain ⟨f1, f2, f3, f4⟩ := fin none
            exact ⟨_, _, f1, .inl ⟨rfl, ⟨⟨_, f4 _ _ (hS5.sim hk3)⟩, f2, f3⟩, hkp3.trans (keepR.put (by omega))⟩⟩
          | ret =>
            obtain ⟨f1, f2, f3, f4⟩ := fin (some .ret)
            exact ⟨_, _, f1, .inr ⟨rfl, .ret, ⟨⟨(by simp), hk3.1⟩, _, f4 _ _ (hS5.sim hk3.2)⟩, f2, f3⟩⟩
          | exit id =>
            obtain ⟨f1, f2, f3, f4⟩ := fin (some (.exit id))
            exact ⟨_, _, f1, .inr ⟨rfl, .exit id, ⟨⟨(by simp), hk3.1⟩, _, f4 _ _ (hS5.sim hk3.2)⟩, f2, f3⟩⟩
        · exact hk3.elim
    · rintro e W2 ⟨⟨v, rfl⟩, (⟨xs, hS, ⟨ν', hi⟩, hl, hk⟩ | ⟨pre, hSp, e, ⟨hne, ν', hi⟩, hl, hk⟩)⟩
      · have hend := run_endLoop (P := P) hl (by rw [hrec]; simp)
        rw [hrec] at hend
        refine ⟨none, _, hend, hdone _ xs _ ν' (Nat.le_refl _) hS (hi.turn hM (grownBy_putObj' W2 _ _) fun r e => ?_) ((World.putObj_heap_other (by omega)).trans hk)⟩
        cases e
        exact ⟨by omega, _, hl, rfl⟩
      · have hend := run_endLoop (P := P) hl (by rw [hrec]; simp)
        rw [hrec] at hend
        have hi' := hi.turn (w' := W2.putObj (w.heap.size + 1) (.loop { rec .done (some (jumpOf e)) with state := .exhausted })) hM (grownBy_putObj' W2 _ _) fun r e => by
          cases e
          exact ⟨by omega, _, hl, rfl⟩
        have hk' : (W2.putObj (w.heap.size + 1) (.loop { rec .done (some (jumpOf e)) with state := .exhausted })).heap[w.heap.size]? = some (.deferred (some [])) := (World.putObj_heap_other (by omega)).trans hk
        rw [hrec] at hi' hk'
        refine ⟨_, _, hend, ?_⟩
        cases e with
        | normal => exact (hne.1 rfl).elim
        | ret => exact wpIn_ret (hleave _ .ret pre _ ν' (Nat.le_refl _) hne.1 hne.2 hSp hi' hk')
        | exit id => exact wpIn_exit (hleave _ (.exit id) pre _ ν' (Nat.le_refl _) hne.1 hne.2 hSp hi' hk')

end Go.Proofs.Ytkbdppnlojlcdaa
