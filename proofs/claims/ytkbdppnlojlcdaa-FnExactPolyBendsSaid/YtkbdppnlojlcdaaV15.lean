/- The abstract machine, 15: a word for a callee with slices is kept. Conditions: those of the table of callees and of the loops' words. -/
import Derived.Test.YtkbdppnlojlcdaaV14
namespace Go.Proofs.Ytkbdppnlojlcdaa
open Go.RowKit

theorem abP_marks : ∀ {mds : List Md} {sas : List SA} {ps : List (Nat → List Value)} {j : Nat} {b b' : AB}, (abC mds sas)[j]? = some b → (abP mds sas ps)[j]? = some b' → b'.wr = b.wr ∧ b'.live = true ∧ b.live = true
  | [], sas, ps, j, b, b', h, _ => by cases sas <;> simp [abC] at h
  | .val :: ds, [], ps, j, b, b', h, _ => by simp [abC] at h
  | .rd _ _ :: ds, [], ps, j, b, b', h, _ => by simp [abC] at h
  | .wr _ _ :: ds, [], ps, j, b, b', h, _ => by simp [abC] at h
  | .val :: ds, .v _ :: r, ps, j, b, b', h, h' => by
    simp only [abC, abP] at h h'
    exact abP_marks h h'
  | .val :: ds, .row _ _ :: r, ps, j, b, b', h, h' => by simp [abC] at h
  | .val :: ds, .own _ _ _ :: r, ps, j, b, b', h, h' => by simp [abC] at h
  | .rd _ _ :: ds, .v _ :: r, ps, j, b, b', h, h' => by simp [abC] at h
  | .rd _ _ :: ds, .own _ _ _ :: r, ps, j, b, b', h, h' => by simp [abC] at h
  | .wr _ _ :: ds, .v _ :: r, ps, j, b, b', h, h' => by simp [abC] at h
  | .wr _ _ :: ds, .row _ _ :: r, ps, j, b, b', h, h' => by simp [abC] at h
  | .rd s t :: ds, .row m g :: r, ps, j, b, b', h, h' => by
    simp only [abC, abP] at h h'
    cases j with
    | zero => simp at h h'; subst h h'; exact ⟨rfl, rfl, rfl⟩
    | succ j => exact abP_marks (j := j) (by simpa using h) (by simpa using h')
  | .wr s t :: ds, .own m n g :: r, [], j, b, b', h, h' => by simp [abP] at h'
  | .wr s t :: ds, .own m n g :: r, p :: ps, j, b, b', h, h' => by
    simp only [abC, abP] at h h'
    cases j with
    | zero => simp at h h'; subst h h'; exact ⟨rfl, rfl, rfl⟩
    | succ j => exact abP_marks (j := j) (by simpa using h) (by simpa using h')

theorem abC_live : ∀ {mds : List Md} {sas : List SA} {j : Nat} {b : AB}, (abC mds sas)[j]? = some b → b.live = true
  | [], sas, j, b, h => by cases sas <;> simp [abC] at h
  | .val :: ds, [], j, b, h => by simp [abC] at h
  | .rd _ _ :: ds, [], j, b, h => by simp [abC] at h
  | .wr _ _ :: ds, [], j, b, h => by simp [abC] at h
  | .val :: ds, .v _ :: r, j, b, h => by
    simp only [abC] at h
    exact abC_live h
  | .val :: ds, .row _ _ :: r, j, b, h => by simp [abC] at h
  | .val :: ds, .own _ _ _ :: r, j, b, h => by simp [abC] at h
  | .rd _ _ :: ds, .v _ :: r, j, b, h => by simp [abC] at h
  | .rd _ _ :: ds, .own _ _ _ :: r, j, b, h => by simp [abC] at h
  | .wr _ _ :: ds, .v _ :: r, j, b, h => by simp [abC] at h
  | .wr _ _ :: ds, .row _ _ :: r, j, b, h => by simp [abC] at h
  | .rd s t :: ds, .row m g :: r, j, b, h => by
    simp only [abC] at h
    cases j with
    | zero => simp at h; subst h; rfl
    | succ j => exact abC_live (j := j) (by simpa using h)
  | .wr s t :: ds, .own m n g :: r, j, b, h => by
    simp only [abC] at h
    cases j with
    | zero => simp at h; subst h; rfl
    | succ j => exact abC_live (j := j) (by simpa using h)

theorem putC_mem : ∀ {is : List (Option Nat)} {bs : List AB} {i : Nat} {c : AB}, (i, c) ∈ putC is bs → ∃ j : Nat, is[j]? = some (some i) ∧ bs[j]? = some c ∧ c.wr = true
  | [], bs, i, c, h => by cases bs <;> simp [putC] at h
  | none :: is, [], i, c, h => by simp [putC] at h
  | some _ :: is, [], i, c, h => by simp [putC] at h
  | none :: is, b :: bs, i, c, h => by
    simp only [putC] at h
    obtain ⟨j, e1, e2, e3⟩ := putC_mem h
    exact ⟨j + 1, by simpa using e1, by simpa using e2, e3⟩
  | some q :: is, b :: bs, i, c, h => by
    cases b with
    | row rw n s g t =>
      cases rw with
      | true =>
        simp only [putC, List.mem_cons] at h
        rcases h with h | h
        · cases h
          exact ⟨0, rfl, rfl, rfl⟩
        · obtain ⟨j, e1, e2, e3⟩ := putC_mem h
          exact ⟨j + 1, by simpa using e1, by simpa using e2, e3⟩
      | false =>
        simp only [putC] at h
        obtain ⟨j, e1, e2, e3⟩ := putC_mem h
        exact ⟨j + 1, by simpa using e1, by simpa using e2, e3⟩
    | cells =>
      simp only [putC] at h
      obtain ⟨j, e1, e2, e3⟩ := putC_mem h
      exact ⟨j + 1, by simpa using e1, by simpa using e2, e3⟩
    | gone =>
      simp only [putC] at h
      obtain ⟨j, e1, e2, e3⟩ := putC_mem h
      exact ⟨j + 1, by simpa using e1, by simpa using e2, e3⟩

theorem putC_of : ∀ {is : List (Option Nat)} {bs : List AB} {j i : Nat} {n s : Nat} {g : Nat → List Value} {t : TypeId}, is[j]? = some (some i) → bs[j]? = some (.row true n s g t) → (i, .row true n s g t) ∈ putC is bs
  | [], bs, j, i, n, s, g, t, h, _ => by simp at h
  | x :: is, [], j, i, n, s, g, t, _, h => by simp at h
  | x :: is, b :: bs, 0, i, n, s, g, t, h, h' => by
    simp at h h'
    subst h h'
    simp [putC]
  | x :: is, b :: bs, j + 1, i, n, s, g, t, h, h' => by
    have ih := putC_of (is := is) (bs := bs) (j := j) (by simpa using h) (by simpa using h')
    cases x with
    | none => simpa [putC] using ih
    | some q =>
      cases b with
      | row rw =>
        cases rw with
        | true => simp only [putC, List.mem_cons]; exact .inr ih
        | false => simpa [putC] using ih
      | cells => simpa [putC] using ih
      | gone => simpa [putC] using ih

theorem filter_mem {l : List (Option Nat)} {j i : Nat} (h : l[j]? = some (some i)) : i ∈ l.filterMap id := List.mem_filterMap.2 ⟨some i, List.mem_of_getElem? h, rfl⟩

theorem filter_nodup : ∀ {l : List (Option Nat)}, nodupB (l.filterMap id) = true → ∀ (j j' i : Nat), l[j]? = some (some i) → l[j']? = some (some i) → j = j'
  | [], _, j, _, _, h, _ => by simp at h
  | none :: l, h, j, j', i, h1, h2 => by
    cases j with
    | zero => simp at h1
    | succ j =>
      cases j' with
      | zero => simp at h2
      | succ j' => rw [filter_nodup (l := l) (by simpa using h) j j' i (by simpa using h1) (by simpa using h2)]
  | some a :: l, h, j, j', i, h1, h2 => by
    simp only [List.filterMap_cons, id, nodupB, Bool.and_eq_true, Bool.not_eq_true'] at h
    have notin : ∀ k : Nat, l[k]? = some (some a) → False := fun k hk => by
      have h1 := h.1
      simp at h1
      exact h1 (List.mem_of_getElem? hk)
    cases j with
    | zero =>
      simp at h1
      subst h1
      cases j' with
      | zero => rfl
      | succ j' => exact (notin j' (by simpa using h2)).elim
    | succ j =>
      cases j' with
      | zero =>
        simp at h2
        subst h2
        exact (notin j (by simpa using h1)).elim
      | succ j' => rw [filter_nodup (l := l) h.2 j j' i (by simpa using h1) (by simpa using h2)]

theorem hasWr_of : ∀ {mds : List Md} {sas : List SA} {j : Nat} {b : AB}, (abC mds sas)[j]? = some b → b.wr = true → hasWr mds = true
  | [], sas, j, b, h, _ => by cases sas <;> simp [abC] at h
  | .wr _ _ :: ds, _, j, b, _, _ => rfl
  | .val :: ds, [], j, b, h, _ => by simp [abC] at h
  | .rd _ _ :: ds, [], j, b, h, _ => by simp [abC] at h
  | .val :: ds, .v _ :: r, j, b, h, hw => by
    simp only [abC] at h
    exact hasWr_of (mds := ds) h hw
  | .val :: ds, .row _ _ :: r, j, b, h, hw => by simp [abC] at h
  | .val :: ds, .own _ _ _ :: r, j, b, h, hw => by simp [abC] at h
  | .rd _ _ :: ds, .v _ :: r, j, b, h, hw => by simp [abC] at h
  | .rd _ _ :: ds, .own _ _ _ :: r, j, b, h, hw => by simp [abC] at h
  | .rd s t :: ds, .row m g :: r, j, b, h, hw => by
    simp only [abC] at h
    cases j with
    | zero => simp at h; subst h; simp [AB.wr] at hw
    | succ j => exact hasWr_of (mds := ds) (j := j) (by simpa using h) hw

theorem abP_rows : ∀ {mds : List Md} {sas : List SA} {ps : List (Nat → List Value)} {j : Nat} {cs : List AV} {t : TypeId}, (abP mds sas ps)[j]? = some (.cells cs t) → False := by
  intro mds
  induction mds with
  | nil => intro sas ps j cs t h; cases sas <;> simp [abP] at h
  | cons d ds ih =>
    intro sas ps j cs t h
    cases d <;> cases sas with
    | nil => simp [abP] at h
    | cons x r =>
      cases x <;> first
        | (simp [abP] at h; done)
        | (simp only [abP] at h; exact ih h)
        | (simp only [abP] at h; cases j with
           | zero => simp at h
           | succ j => exact ih (by simpa using h))
        | (cases ps with
           | nil => simp [abP] at h
           | cons p ps =>
             simp only [abP] at h
             cases j with
             | zero => simp at h
             | succ j => exact ih (by simpa using h))

/-- What a call comes to. -/
def RetG (Q : Ex → List AV → List AB → Prop) (M : Nat → Prop) (ν : Nu) (w : World) : Ending → World → Prop :=
  fun e w' => ∃ v av H' ν', e = .returned v ∧ Q .ret [av] H' ∧ VR ν' av v ∧ RH M ν' (fun b => H'.getD b .gone) w' ∧ Fr M w w' ∧ Le ν ν' ∧ ∀ i b, ν' i = some b → i < H'.length

/-- A word for a callee with slices. -/
theorem specR_calls {P : Program} (hent : Enters P) {f : FuncId} {fn : Func} {mds : List Md} {F : List SA → Option FR} (hf : P.funcs[f]? = some fn) (hb : fn.body.isSome = true)
    (h : ∀ sas fr, F sas = some fr → obls fr.obl = true → ∃ H0, Hsim (abC mds sas) H0 ∧ ∀ (M : Nat → Prop) (vals : List Value) (w : World) (ν : Nu), (∀ k, w.heap.size ≤ k → M k) → VRs ν (avC 0 mds sas) vals → RH M ν (fun b => H0.getD b .gone) w → (∀ i b, ν i = some b → i < H0.length) →
      Calls P f vals.toArray w (RetG (GivR (abP mds sas fr.put) fr) M ν w)) : SpecOk P f (specR mds F) := by
  refine ⟨fun args w => hent f fn hf hb args w, fun avs H base δ ν vals w hS ho hv hr hlt hfree hsep => ?_⟩
  unfold specR at hS
  split at hS
  · rename_i xs hxs
    split at hS
    · rename_i fr hF
      split at hS
      · rename_i av hav
        cases hc : ((!hasWr mds || nodupB ((ixC mds xs).filterMap id)) && fr.new.all isRowT && Nat.beq (abP mds (xs.map (·.sa)) fr.put).length (abC mds (xs.map (·.sa))).length) with
        | false => rw [hc] at hS; cases hS
        | true =>
          rw [hc] at hS
          simp only [cond_true, Option.some.injEq] at hS
          subst hS
          simp only [Bool.and_eq_true] at hc
          obtain ⟨⟨hc1, hc2⟩, hc3⟩ := hc
          have hlen := Nat.eq_of_beq_eq_true hc3
          have ho' : obls (xs.flatMap (·.ob)) = true ∧ obls fr.obl = true := by simpa [obls, List.all_append] using ho
          obtain ⟨L, A⟩ := args_ok (w := w) hxs ho'.1 hv hr hlt
          generalize xs.map (·.sa) = sas at *
          obtain ⟨H0, hs0, hcalls⟩ := h sas fr hF ho'.2
          -- the callee's own numbers
          let νc : Nu := fun j => (L[j]?).join
          have hall := A.all 0 νc (fun j _ => by simp [νc])
          have νcs : ∀ j b, νc j = some b → L[j]? = some (some b) := by
            intro j b hb
            simp only [νc] at hb
            cases hj : L[j]? with
            | none => rw [hj] at hb; cases hb
            | some o => rw [hj] at hb; simp at hb; rw [hb]
          have νlt : ∀ j b, νc j = some b → j < (abC mds sas).length := fun j b hb => by
            rw [← A.len]
            exact (List.getElem?_eq_some_iff.1 (νcs j b hb)).1
          let M : Nat → Prop := fun k => w.heap.size ≤ k ∨ ∃ j b c, νc j = some b ∧ (abC mds sas)[j]? = some c ∧ c.wr = true ∧ b.n = k
          have hgetC : ∀ j, (abC mds sas).getD j .gone = ((abC mds sas)[j]?).getD .gone := fun j => by rw [List.getD_eq_getElem?_getD]
          have putw : ∀ (i : Nat) c, (abC mds sas)[i]? = some c → c.wr = true → ∃ n s g t, (abP mds sas fr.put)[i]? = some (.row true n s g t) := by
            intro i c hi hw
            have : i < (abP mds sas fr.put).length := by rw [hlen]; exact (List.getElem?_eq_some_iff.1 hi).1
            obtain ⟨cc, hcc⟩ : ∃ cc, (abP mds sas fr.put)[i]? = some cc := ⟨_, List.getElem?_eq_getElem this⟩
            have hccw := (abP_marks hi hcc).1
            rw [hw] at hccw
            cases cc with
            | row rw n s g t => simp [AB.wr] at hccw; subst hccw; exact ⟨n, s, g, t, hcc⟩
            | cells cs t => exact (abP_rows hcc).elim
            | gone => simp [AB.wr] at hccw
          have hsepc : ∀ i j b b', i ≠ j → ((abC mds sas).getD i .gone).wr = true → ((abC mds sas).getD j .gone).live = true → νc i = some b → νc j = some b' → b.n ≠ b'.n := by
            intro i j b b' hne hw hl hbi hbj
            rw [hgetC] at hw hl
            cases hi : (abC mds sas)[i]? with
            | none => rw [hi] at hw; cases hw
            | some c =>
              rw [hi] at hw
              simp only [Option.getD_some] at hw
              cases hj : (abC mds sas)[j]? with
              | none => rw [hj] at hl; cases hl
              | some c' =>
                obtain ⟨i1, b1, f1, f2, f3, _, _, f5⟩ := A.back i b (νcs _ _ hbi)
                obtain ⟨j1, b2, g1, g2, g3, _, g4, g5⟩ := A.back j b' (νcs _ _ hbj)
                obtain ⟨rfl, hwr⟩ := f5 c hi hw
                have hij : i1 ≠ j1 := by
                  rintro rfl
                  have hw' : hasWr mds = true := hasWr_of hi hw
                  rw [hw'] at hc1
                  exact hne (filter_nodup (by simpa using hc1) i j i1 f1 g1)
                rw [← g3]
                obtain ⟨n', s', g', t', hcc⟩ := putw i c hi hw
                exact hsep i1 _ j1 b b2 (putC_of f1 hcc) (filter_mem g1) hij g4 f2 g2
          have hRH : RH M νc (fun b => (abC mds sas).getD b .gone) w := by
            refine ⟨fun j => ?_, hsepc, ?_, ?_⟩
            · simp only [hgetC]
              cases hj : (abC mds sas)[j]? with
              | none => trivial
              | some b => have := hall.2 j b hj; simpa using this
            · intro j b hw hbj
              simp only [hgetC] at hw
              cases hj : (abC mds sas)[j]? with
              | none => rw [hj] at hw; cases hw
              | some c => rw [hj] at hw; exact .inr ⟨j, b, c, hbj, hj, hw, rfl⟩
            · intro j b hbj
              obtain ⟨_, _, _, _, _, f4, _⟩ := A.back j b (νcs _ _ hbj)
              exact f4
          refine (hcalls M _ w νc (fun k hk => .inl hk) hall.1 (hRH.sim hs0) (fun j b hb => by rw [← hs0.length]; exact νlt j b hb)).mono ?_
          rintro e w' ⟨v, av', H', ν', rfl, ⟨av2, hsh, hl, hsim⟩, hvr, hrh, hfr, hle, hdm⟩
          simp only [List.cons.injEq, and_true] at hl
          subst hl
          have hrh := hrh.sim hsim
          rw [hlen] at hsh
          have hgetP : ∀ j, j < (abC mds sas).length → (abP mds sas fr.put ++ fr.new).getD j .gone = ((abP mds sas fr.put)[j]?).getD .gone := fun j hj => by
            rw [List.getD_eq_getElem?_getD, List.getElem?_append_left (by rw [hlen]; exact hj)]
          have hgetN : ∀ q, (abP mds sas fr.put ++ fr.new).getD ((abC mds sas).length + q) .gone = (fr.new[q]?).getD .gone := fun q => by
            rw [List.getD_eq_getElem?_getD, List.getElem?_append_right (by rw [hlen]; omega), hlen, Nat.add_sub_cancel_left]
          -- new blocks have numbers of their own, and lie in new memory
          have hnew : ∀ q b, fr.new[q]? = some b → ∃ k, ν' ((abC mds sas).length + q) = some k ∧ w.heap.size ≤ k.n ∧ k.n < w'.heap.size := by
            intro q b hq
            have hbt : isRowT b = true := List.all_eq_true.1 hc2 b (List.mem_of_getElem? hq)
            have hbw : b.wr = true := by
              cases b with
              | row rw => cases rw <;> simp [isRowT] at hbt ⊢ <;> rfl
              | _ => simp [isRowT] at hbt
            have hbr := hrh.br ((abC mds sas).length + q)
            simp only [hgetN, hq, Option.getD_some] at hbr
            have hk : ∃ k, ν' ((abC mds sas).length + q) = some k := by
              cases b with
              | row rw n s g t =>
                rcases hbr with ⟨h1, _, _⟩ | ⟨k, _, _, _, h1, _⟩
                · subst h1; simp [isRowT] at hbt
                · exact ⟨k, h1⟩
              | _ => simp [isRowT] at hbt
            obtain ⟨k, hk⟩ := hk
            refine ⟨k, hk, ?_, hrh.lt _ k hk⟩
            have hw2 : ((fun b => (abP mds sas fr.put ++ fr.new).getD b .gone) ((abC mds sas).length + q)).wr = true := by simp only [hgetN, hq, Option.getD_some]; exact hbw
            rcases hrh.own _ k hw2 hk with h1 | ⟨j, b', c, h1, h2, h3, h4⟩
            · exact h1
            · exfalso
              obtain ⟨n', s', g', t', hcc⟩ := putw j c h2 h3
              have hj := (List.getElem?_eq_some_iff.1 h2).1
              refine hrh.sep ((abC mds sas).length + q) j k b' (by omega) hw2 ?_ hk (hle _ _ h1) h4.symm
              simp only [hgetP j hj, hcc, Option.getD_some]
              rfl
          let νn : Nu := fun i => match ν i with
            | some b => some b
            | none => if base ≤ i ∧ i < base + fr.new.length then ν' ((abC mds sas).length + (i - base)) else none
          have νn_old : Le ν νn := fun i b hb => by simp [νn, hb]
          have νn_new : ∀ q, q < fr.new.length → νn (base + q) = ν' ((abC mds sas).length + q) := fun q hq => by
            have h0 := hfree q hq
            simp only [νn, h0]
            rw [if_pos (by omega), Nat.add_sub_cancel_left]
          have shift : ∀ q b, ν' ((abC mds sas).length + q) = some b → νn (base + q) = some b := by
            intro q b hb
            have hq : q < fr.new.length := by
              have h1 := hdm _ b hb
              rw [hsim.length, List.length_append, hlen] at h1
              omega
            rw [νn_new q hq]
            exact hb
          refine ⟨v, νn, rfl, νn_old, ?_, VR.shift shift hsh hav hvr, ?_, ?_, hfr.os, hfr.tape, hfr.output, hfr.size, ?_, ?_, ?_⟩
          · intro i h0 h1
            simp only [νn, h0] at h1
            by_cases hi : base ≤ i ∧ i < base + fr.new.length
            · exact hi
            · rw [if_neg hi] at h1
              exact absurd rfl h1
          · intro i c hc
            obtain ⟨j, f1, f2, f3⟩ := putC_mem (lookB_mem hc)
            have hj : j < (abC mds sas).length := by rw [← hlen]; exact (List.getElem?_eq_some_iff.1 f2).1
            have hbr := hrh.br j
            simp only [hgetP j hj, f2, Option.getD_some] at hbr
            cases c with
            | row rw n s g t =>
              rcases hbr with ⟨h1, _, _⟩ | ⟨k, l, t', fz, h1, h2⟩
              · subst h1; simp [AB.wr] at f3
              · have hLj : ∃ o, L[j]? = some o := ⟨_, List.getElem?_eq_getElem (by rw [A.len]; exact hj)⟩
                obtain ⟨o, ho⟩ := hLj
                cases o with
                | none =>
                  exfalso
                  obtain ⟨cc, hcc⟩ : ∃ cc, (abC mds sas)[j]? = some cc := ⟨_, List.getElem?_eq_getElem hj⟩
                  have hbc := hall.2 j cc hcc
                  have hmk := abP_marks hcc f2
                  have hnone : νc (0 + j) = none := by simp [νc, ho]
                  cases cc with
                  | row rw' =>
                    rcases hbc with ⟨h3, _, _⟩ | ⟨k', _, _, _, h3, _⟩
                    · subst h3
                      have := hmk.1
                      rw [f3] at this
                      simp [AB.wr] at this
                    · rw [hnone] at h3; cases h3
                  | cells =>
                    obtain ⟨k', _, h3, _⟩ := hbc
                    rw [hnone] at h3; cases h3
                  | gone => have := hmk.1; rw [f3] at this; simp [AB.wr] at this
                | some b0 =>
                  have hν0 : νc j = some b0 := by simp [νc, ho]
                  obtain ⟨i1, b1, g1, g2, g3, g4, g5, g6⟩ := A.back j b0 ho
                  rw [f1] at g1
                  cases g1
                  obtain ⟨cc, hcc⟩ : ∃ cc, (abC mds sas)[j]? = some cc := ⟨_, List.getElem?_eq_getElem hj⟩
                  obtain ⟨rfl, _⟩ := g6 cc hcc (by rw [← (abP_marks hcc f2).1]; exact f3)
                  rw [hle _ _ hν0] at h1
                  cases h1
                  exact .inr ⟨_, l, t', fz, νn_old _ _ g2, h2⟩
            | cells cs t => exact (abP_rows f2).elim
            | gone => simp [AB.wr] at f3
          · intro q b hq
            have hql : q < fr.new.length := (List.getElem?_eq_some_iff.1 hq).1
            have hbr := hrh.br ((abC mds sas).length + q)
            simp only [hgetN, hq, Option.getD_some] at hbr
            have hbt : isRowT b = true := List.all_eq_true.1 hc2 b (List.mem_of_getElem? hq)
            cases b with
            | row rw n s g t =>
              rcases hbr with ⟨h1, _, _⟩ | ⟨k, l, t', fz, h1, h2⟩
              · subst h1; simp [isRowT] at hbt
              · exact .inr ⟨k, l, t', fz, by rw [νn_new q hql]; exact h1, h2⟩
            | _ => simp [isRowT] at hbt
          · intro k hk hne
            refine hfr.block k hk ?_
            rintro (h1 | ⟨j, b, c, h1, h2, h3, h4⟩)
            · omega
            · obtain ⟨i1, b1, f1, f2, f3, _, _, f5⟩ := A.back j b (νcs _ _ h1)
              obtain ⟨rfl, _⟩ := f5 c h2 h3
              obtain ⟨n', s', g', t', hcc⟩ := putw j c h2 h3
              exact hne (i1, _) b (putC_of f1 hcc) f2 h4
          · intro q b hq hb
            rw [νn_new q hq] at hb
            obtain ⟨k, h1, h2, h3⟩ := hnew q _ (List.getElem?_eq_getElem hq)
            rw [hb] at h1
            cases h1
            exact ⟨h3, .inl h2⟩
          · intro q q' b b' hne hq hq' hb hb'
            rw [νn_new q hq] at hb
            rw [νn_new q' hq'] at hb'
            have hbt : ∀ (z : Nat) (b : AB), fr.new[z]? = some b → b.wr = true ∧ b.live = true := by
              intro z b hz
              have := List.all_eq_true.1 hc2 b (List.mem_of_getElem? hz)
              cases b with
              | row rw => cases rw <;> simp [isRowT] at this ⊢ <;> exact ⟨rfl, rfl⟩
              | _ => simp [isRowT] at this
            refine hrh.sep ((abC mds sas).length + q) ((abC mds sas).length + q') b b' (by omega) ?_ ?_ hb hb'
            · simp only [hgetN, List.getElem?_eq_getElem hq, Option.getD_some]
              exact (hbt q _ (List.getElem?_eq_getElem hq)).1
            · simp only [hgetN, List.getElem?_eq_getElem hq', Option.getD_some]
              exact (hbt q' _ (List.getElem?_eq_getElem hq')).2
      · cases hS
    · cases hS
  · cases hS

theorem specR_ok {P : Program} {Γ : Gam} (hΓ : GamOk P Γ) (hmix : P.follows .mixedOrders = true) (hent : Enters P) {f : FuncId} {fn : Func} {Λ : Nat → Option Sum} {n : Nat} {mds : List Md} {F : List SA → Option FR} (hf : P.funcs[f]? = some fn) (hb : fn.body.isSome = true)
    (h : ∀ sas fr, F sas = some fr → obls fr.obl = true → ∃ H0, Hsim (abC mds sas) H0 ∧ (∀ c, fn.body = some c → LamOk P H0.length Λ c) ∧ (execF P Γ Λ n fn (avC 0 mds sas) H0 (packK H0.length)).ok (GivR (abP mds sas fr.put) fr)) : SpecOk P f (specR mds F) :=
  specR_calls hent hf hb fun sas fr hF ho => let ⟨H0, hs, hL, hex⟩ := h sas fr hF ho; ⟨H0, hs, fun _ _ _ _ hM hv hR hd => calls_pack hΓ hmix hent hf hL hM hex hv hR hd⟩

end Go.Proofs.Ytkbdppnlojlcdaa
