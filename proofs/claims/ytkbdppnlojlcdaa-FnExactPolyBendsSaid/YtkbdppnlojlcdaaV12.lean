/- The abstract machine, 12: words for callees. Conditions: those of the table of callees. -/
import Derived.Test.YtkbdppnlojlcdaaV11
namespace Go.Proofs.Ytkbdppnlojlcdaa
open Go.RowKit

/-- No words for loops. -/
def noLam : Nat → Option Sum := fun _ => none
theorem noLam_ok (P : Program) (m0 : Nat) (c : Code) : LamOk P m0 noLam c := fun _ _ h => by cases h

/-- A result without the blocks. -/
def valK : AV → List AB → Res := fun v _ => .out .ret [v] []
abbrev rv (x : Value) : Res := .out .ret [.v x] []
abbrev rt (xs : List AV) : Res := .out .ret [.tup xs] []
abbrev ra (xs : List AV) : Res := .out .ret [.agg xs] []
def Gives (x : Value) : Ex → List AV → List AB → Prop := fun _ l _ => ∃ av, l = [av] ∧ av.toV = some x
theorem gives_rv (x : Value) : (rv x).ok (Gives x) := ⟨_, rfl, rfl⟩
theorem gives_cond {x : Value} {b : Bool} {r s : Res} (h1 : b = true → r.ok (Gives x)) (h2 : b = false → s.ok (Gives x)) : (cond b r s).ok (Gives x) := by
  cases b
  · exact h2 rfl
  · exact h1 rfl

/-- A callee that takes plain values and returns one; F says which, and on what terms. -/
def specV (F : List Value → Option (Value × List Bool)) : Spec := fun avs _ _ => match AV.toVs avs with
  | some vs => (F vs).map fun x => { val := .v x.1, obl := x.2 }
  | none => none

/-- Returns x; of what was there nothing has turned. -/
def RetV (w : World) (x : Value) (e : Ending) (w' : World) : Prop := e = .returned x ∧ Fr (fun _ => False) w w'

theorem specV_ok {P : Program} {f : FuncId} {F : List Value → Option (Value × List Bool)} (hc : ∀ args w, (callFunc f args).run P w = .ok (.enter f args) w)
    (h : ∀ vs x ob, F vs = some (x, ob) → obls ob = true → ∀ w, Calls P f vs.toArray w (RetV w x)) : SpecOk P f (specV F) := by
  refine ⟨hc, fun avs H base δ ν vals w hS ho hv _ _ _ _ => ?_⟩
  unfold specV at hS
  split at hS
  · rename_i vs hvs
    simp only [Option.map_eq_some_iff] at hS
    obtain ⟨⟨x, ob⟩, hF, rfl⟩ := hS
    have e := VR_toVs hvs hv
    subst e
    refine (h _ _ _ hF ho w).mono ?_
    rintro e w' ⟨rfl, hf⟩
    refine ⟨x, ν, rfl, Le.refl _, fun i h h' => absurd h h', by simp only [VR], by intro i b hb; simp [lookB] at hb, by intro j b hb; simp at hb, hf.os, hf.tape, hf.output, hf.size, fun k hk _ => hf.block k hk fun f => f, by intro j b hj; simp at hj, by intro j j' b b' _ hj; simp at hj⟩
  · cases hS

/-- A call with plain values. -/
theorem calls_val {P : Program} {Γ : Gam} (hΓ : GamOk P Γ) (hmix : P.follows .mixedOrders = true) (hent : Enters P) {n : Nat} {f : FuncId} {fn : Func} (hf : P.funcs[f]? = some fn) {vs : List Value} {x : Value}
    (h : (execF P Γ noLam n fn (vs.map .v) [] valK).ok (Gives x)) (w : World) : Calls P f vs.toArray w (RetV w x) := by
  have hH : RH (fun k => w.heap.size ≤ k) (fun _ => none) (fun b => ([] : List AB).getD b .gone) w := ⟨fun i => trivial, fun i j b b' _ h => by simp [AB.wr] at h, fun i b h => by simp [AB.wr] at h, fun i b h => by cases h⟩
  refine (calls_exec hΓ hmix hent hf (fun c _ => noLam_ok P _ c) (M := fun k => w.heap.size ≤ k) (fun k hk => hk) h (VRs.map_v vs) hH (fun i b h => by cases h)).mono ?_
  rintro e w' ⟨v, av, H', ν', rfl, ⟨av', hl, h1⟩, h2, _, h4, _⟩
  simp only [List.cons.injEq, and_true] at hl
  subst hl
  exact ⟨by rw [VR_toV h1 h2], h4.mono fun k hk hk' => by omega⟩

/-- The table with one more callee. -/
def ext (Γ : Gam) (f : FuncId) (S : Spec) : Gam := fun g => cond (Nat.beq g f) (some S) (Γ g)
theorem ext_ok {P : Program} {Γ : Gam} {f : FuncId} {S : Spec} (h : GamOk P Γ) (hS : SpecOk P f S) : GamOk P (ext Γ f S) := by
  intro g S' hg
  unfold ext at hg
  cases hb : Nat.beq g f with
  | true =>
    rw [hb] at hg
    cases hg
    rw [Nat.eq_of_beq_eq_true hb]
    exact hS
  | false =>
    rw [hb] at hg
    exact h g S' hg



mutual
/-- Other numbers for the blocks: those of their places in 'keep'. -/
def renA (keep : List Nat) : AV → Option AV
  | .v x => some (.v x)
  | .ptr i w j k => (keep.idxOf? i).map fun i => .ptr i w j k
  | .sl i w j k l c => (keep.idxOf? i).map fun i => .sl i w j k l c
  | .own i l => (keep.idxOf? i).map fun i => .own i l
  | .agg cs => (renAs keep cs).map .agg
  | .tup cs => (renAs keep cs).map .tup
  | .fn f cs => (renAs keep cs).map (.fn f)
  | .dead => some .dead
def renAs (keep : List Nat) : List AV → Option (List AV)
  | [] => some []
  | a :: as => match renA keep a, renAs keep as with
    | some x, some xs => some (x :: xs)
    | _, _ => none
end
def renB (keep : List Nat) : AB → Option AB
  | .cells cs t => (renAs keep cs).map fun cs => .cells cs t
  | b => some b
def renBs (keep : List Nat) (H : List AB) : List Nat → Option (List AB)
  | [] => some []
  | i :: l => match renB keep (H.getD i .gone), renBs keep H l with
    | some x, some xs => some (x :: xs)
    | _, _ => none

mutual
def idxA : AV → List Nat
  | .ptr i _ _ _ => [i]
  | .sl i _ _ _ _ _ => [i]
  | .own i _ => [i]
  | .agg cs => idxAs cs
  | .tup cs => idxAs cs
  | .fn _ cs => idxAs cs
  | _ => []
def idxAs : List AV → List Nat
  | [] => []
  | a :: as => idxA a ++ idxAs as
end
def idxB : AB → List Nat
  | .cells cs _ => idxAs cs
  | _ => []
def reach (H : List AB) : Nat → List Nat → List Nat → List Nat
  | 0, keep, _ => keep
  | _ + 1, keep, [] => keep
  | f + 1, keep, i :: r => cond (keep.elem i) (reach H f keep r) (reach H f (keep ++ [i]) (r ++ idxB (H.getD i .gone)))

def maskT (live : List Nat) : Nat → List AV → List AV
  | _, [] => []
  | i, a :: as => cond (live.elem i) a .dead :: maskT live (i + 1) as

def nodupB : List Nat → Bool
  | [] => true
  | i :: l => !l.elem i && nodupB l

def upN : Nat → Nat → List Nat
  | _, 0 => []
  | i, n + 1 => i :: upN (i + 1) n

def keepOf (m : Nat) (T : List AV) (H : List AB) : List Nat := reach H 400 (upN 0 m) (idxAs T ++ (H.take m).flatMap idxB)

/-- What is kept at a loop's head: the slots of 'live'; the first m blocks, and those that can be reached, with new numbers. -/
def weak (live : List Nat) (m : Nat) (T : List AV) (H : List AB) : Option (List AV × List AB) :=
  match renAs (keepOf m (maskT live 0 T) H) (maskT live 0 T), renBs (keepOf m (maskT live 0 T) H) H (keepOf m (maskT live 0 T) H) with
  | some T', some H' => cond (nodupB (keepOf m (maskT live 0 T) H) && (keepOf m (maskT live 0 T) H).take m == upN 0 m) (some (T', H')) none
  | _, _ => none

def keepNu (keep : List Nat) (ν : Nu) : Nu := fun j => match keep[j]? with | some i => ν i | none => none

theorem idxOf_get : ∀ {keep : List Nat} {i j : Nat}, keep.idxOf? i = some j → keep[j]? = some i
  | [], i, j, h => by simp at h
  | a :: l, i, j, h => by
    rw [List.idxOf?_cons] at h
    split at h
    · rename_i e
      cases h
      simp at e
      simp [e]
    · simp only [Option.map_eq_some_iff] at h
      obtain ⟨k, hk, rfl⟩ := h
      simpa using idxOf_get hk

mutual
theorem VR.ren {keep : List Nat} {ν : Nu} : ∀ {a a' : AV} {y : Value}, renA keep a = some a' → VR ν a y → VR (keepNu keep ν) a' y
  | .v _, a', _, hs, hv => by
    simp only [renA, Option.some.injEq] at hs
    subst hs
    simpa only [VR] using hv
  | .ptr .., a', _, hs, hv => by
    simp only [renA, Option.map_eq_some_iff] at hs
    obtain ⟨q, hq, rfl⟩ := hs
    simp only [VR] at hv ⊢
    obtain ⟨b, h1, h2⟩ := hv
    exact ⟨b, by simp [keepNu, idxOf_get hq, h1], h2⟩
  | .sl .., a', _, hs, hv => by
    simp only [renA, Option.map_eq_some_iff] at hs
    obtain ⟨q, hq, rfl⟩ := hs
    simp only [VR] at hv ⊢
    obtain ⟨p, c, h1, h2, h3, h4⟩ := hv
    exact ⟨p, c, h1, h2, h3, fun hc => let ⟨b, h5, h6⟩ := h4 hc; ⟨b, by simp [keepNu, idxOf_get hq, h5], h6⟩⟩
  | .own .., a', _, hs, hv => by
    simp only [renA, Option.map_eq_some_iff] at hs
    obtain ⟨q, hq, rfl⟩ := hs
    simp only [VR] at hv ⊢
    obtain ⟨b, h1, h2⟩ := hv
    exact ⟨b, by simp [keepNu, idxOf_get hq, h1], h2⟩
  | .agg cs, a', _, hs, hv => by
    simp only [renA, Option.map_eq_some_iff] at hs
    obtain ⟨q, hq, rfl⟩ := hs
    simp only [VR] at hv ⊢
    obtain ⟨l, h1, h2⟩ := hv
    exact ⟨l, h1, VRs.ren hq h2⟩
  | .tup cs, a', _, hs, hv => by
    simp only [renA, Option.map_eq_some_iff] at hs
    obtain ⟨q, hq, rfl⟩ := hs
    simp only [VR] at hv ⊢
    obtain ⟨l, h1, h2⟩ := hv
    exact ⟨l, h1, VRs.ren hq h2⟩
  | .fn _ cs, a', _, hs, hv => by
    simp only [renA, Option.map_eq_some_iff] at hs
    obtain ⟨q, hq, rfl⟩ := hs
    simp only [VR] at hv ⊢
    obtain ⟨l, h1, h2⟩ := hv
    exact ⟨l, h1, VRs.ren hq h2⟩
  | .dead, a', _, hs, _ => by
    simp only [renA, Option.some.injEq] at hs
    subst hs
    simp only [VR]
theorem VRs.ren {keep : List Nat} {ν : Nu} : ∀ {as as' : List AV} {ys : List Value}, renAs keep as = some as' → VRs ν as ys → VRs (keepNu keep ν) as' ys
  | [], as', ys, hs, hv => by
    simp only [renAs, Option.some.injEq] at hs
    subst hs
    cases ys with
    | nil => simp only [VRs]
    | cons => simp only [VRs] at hv
  | a :: as, as', ys, hs, hv => by
    cases ys with
    | nil => simp only [VRs] at hv
    | cons y ys =>
      simp only [VRs] at hv
      simp only [renAs] at hs
      split at hs
      · rename_i x xs h1 h2
        cases hs
        simp only [VRs]
        exact ⟨VR.ren h1 hv.1, VRs.ren h2 hv.2⟩
      · cases hs
end

theorem maskT_get (live : List Nat) : ∀ (T : List AV) (i t : Nat), (maskT live i T).getD t .dead = if live.elem (i + t) then T.getD t .dead else .dead
  | [], i, t => by simp [maskT]
  | a :: as, i, 0 => by
    simp only [maskT, List.getD_cons_zero, Nat.add_zero]
    cases live.elem i <;> rfl
  | a :: as, i, t + 1 => by
    simp only [maskT, List.getD_cons_succ]
    rw [maskT_get live as (i + 1) t, show i + 1 + t = i + (t + 1) by omega]
theorem maskT_length (live : List Nat) : ∀ (T : List AV) (i : Nat), (maskT live i T).length = T.length
  | [], _ => rfl
  | a :: as, i => by simp [maskT, maskT_length live as]
theorem renAs_get {keep : List Nat} : ∀ {l l' : List AV}, renAs keep l = some l' → ∀ t, renA keep (l.getD t .dead) = some (l'.getD t .dead)
  | [], l', h, t => by
    simp only [renAs, Option.some.injEq] at h
    subst h
    simp [renA]
  | a :: as, l', h, t => by
    simp only [renAs] at h
    split at h
    · rename_i x xs h1 h2
      cases h
      cases t with
      | zero => simpa using h1
      | succ t => simpa using renAs_get h2 t
    · cases h
theorem renAs_length {keep : List Nat} : ∀ {l l' : List AV}, renAs keep l = some l' → l'.length = l.length
  | [], l', h => by
    simp only [renAs, Option.some.injEq] at h
    subst h
    rfl
  | a :: as, l', h => by
    simp only [renAs] at h
    split at h
    · rename_i x xs h1 h2
      cases h
      simp [renAs_length h2]
    · cases h
theorem renBs_get {keep : List Nat} {H : List AB} : ∀ {l : List Nat} {l' : List AB}, renBs keep H l = some l' → l'.length = l.length ∧ ∀ (t i : Nat), l[t]? = some i → ∃ b, l'[t]? = some b ∧ renB keep (H.getD i .gone) = some b
  | [], l', h => by
    simp only [renBs, Option.some.injEq] at h
    subst h
    exact ⟨rfl, fun t i h => by simp at h⟩
  | a :: as, l', h => by
    simp only [renBs] at h
    split at h
    · rename_i x xs h1 h2
      cases h
      obtain ⟨e1, e2⟩ := renBs_get h2
      refine ⟨by simp [e1], fun t i hi => ?_⟩
      cases t with
      | zero => simp at hi; subst hi; exact ⟨x, rfl, h1⟩
      | succ t => simpa using e2 t i (by simpa using hi)
    · cases h
theorem nodupB_ne : ∀ {l : List Nat}, nodupB l = true → ∀ (i j x : Nat), l[i]? = some x → l[j]? = some x → i = j
  | [], _, i, j, x, h, _ => by simp at h
  | a :: l, h, i, j, x, hi, hj => by
    simp only [nodupB, Bool.and_eq_true, Bool.not_eq_true'] at h
    have notin : ∀ k : Nat, l[k]? = some a → False := fun k hk => by
      have : a ∈ l := List.mem_of_getElem? hk
      have h1 := h.1
      simp at h1
      exact h1 this
    cases i with
    | zero =>
      simp at hi
      subst hi
      cases j with
      | zero => rfl
      | succ j => exact (notin j (by simpa using hj)).elim
    | succ i =>
      cases j with
      | zero =>
        simp at hj
        subst hj
        exact (notin i (by simpa using hi)).elim
      | succ j => rw [nodupB_ne h.2 i j x (by simpa using hi) (by simpa using hj)]
theorem upN_get : ∀ (n i k : Nat), k < n → (upN i n)[k]? = some (i + k)
  | 0, i, k, h => by omega
  | n + 1, i, 0, _ => by simp [upN]
  | n + 1, i, k + 1, h => by
    simp only [upN, List.getElem?_cons_succ]
    rw [upN_get n (i + 1) k (by omega)]
    congr 1
    omega

theorem weak_sound {M : Nat → Prop} {w0 : World} {ν0 : Nu} {live : List Nat} {m : Nat} {T T' : List AV} {H H' : List AB} {a : Act} {w : World} {ν : Nu} (h : weak live m T H = some (T', H')) (hS : SR M w0 ν0 T H a w ν) (h0 : ∀ i b, ν0 i = some b → i < m) : SR M w0 ν0 T' H' a w (keepNu (keepOf m (maskT live 0 T) H) ν) := by
  unfold weak at h
  generalize keepOf m (maskT live 0 T) H = keep at *
  split at h
  · rename_i T1 H1 hT hH
    cases hc : (nodupB keep && keep.take m == upN 0 m) with
    | false => rw [hc] at h; cases h
    | true =>
      rw [hc] at h
      simp only [cond_true, Option.some.injEq, Prod.mk.injEq] at h
      obtain ⟨rfl, rfl⟩ := h
      simp only [Bool.and_eq_true] at hc
      obtain ⟨hnd, htk⟩ := hc
      have htk : keep.take m = upN 0 m := by simpa using htk
      obtain ⟨hl, hg⟩ := renBs_get hH
      have ofNu : ∀ {j b}, keepNu keep ν j = some b → ∃ i, keep[j]? = some i ∧ ν i = some b := by
        intro j b hb
        unfold keepNu at hb
        split at hb
        · rename_i i hi; exact ⟨i, hi, hb⟩
        · cases hb
      have getH : ∀ {j i}, keep[j]? = some i → renB keep (H.getD i .gone) = some (H1.getD j .gone) := by
        intro j i hi
        obtain ⟨b, e1, e2⟩ := hg j i hi
        have e : H1.getD j .gone = b := by simp [List.getD_eq_getElem?_getD, e1]
        rw [e]
        exact e2
      have wrlive : ∀ {b b' : AB}, renB keep b = some b' → b'.wr = b.wr ∧ b'.live = b.live := by
        intro b b' hb
        cases b with
        | cells cs t => simp only [renB, Option.map_eq_some_iff] at hb; obtain ⟨q, _, rfl⟩ := hb; exact ⟨rfl, rfl⟩
        | row => simp only [renB, Option.some.injEq] at hb; subst hb; exact ⟨rfl, rfl⟩
        | gone => simp only [renB, Option.some.injEq] at hb; subst hb; exact ⟨rfl, rfl⟩
      refine ⟨fun t => ?_, ⟨fun j => ?_, ?_, ?_, ?_⟩, hS.fr, fun j b hb => ?_, by rw [renAs_length hT, maskT_length]; exact hS.len, fun i b hb => ?_⟩
      · have h1 := renAs_get hT t
        rw [maskT_get] at h1
        split at h1
        · exact (hS.tmps t).ren h1
        · simp only [renA, Option.some.injEq] at h1
          rw [← h1]
          simp only [VR]
      · cases hj : keep[j]? with
        | none =>
          have : H1.getD j .gone = .gone := by
            rw [List.getD_eq_getElem?_getD, List.getElem?_eq_none]
            · rfl
            · rw [hl]
              exact List.getElem?_eq_none_iff.1 hj
          simp only [this]
          trivial
        | some i =>
          have hb := hS.heap.br i
          have hr := getH hj
          have hν : keepNu keep ν j = ν i := by simp [keepNu, hj]
          cases hi : H.getD i .gone with
          | cells cs t =>
            rw [hi] at hr hb
            simp only [renB, Option.map_eq_some_iff] at hr
            obtain ⟨cs', h1, h2⟩ := hr
            rw [← h2]
            obtain ⟨b, l, e1, e2, e3, e4⟩ := hb
            exact ⟨b, l, by rw [hν]; exact e1, e2, e3, e4.ren h1⟩
          | row rw' n wd g t =>
            rw [hi] at hr hb
            simp only [renB, Option.some.injEq] at hr
            rw [← hr]
            rcases hb with ⟨e1, e2, e3⟩ | ⟨b, l, t', fz, e1, e2⟩
            · exact .inl ⟨e1, e2, by rw [hν]; exact e3⟩
            · exact .inr ⟨b, l, t', fz, by rw [hν]; exact e1, e2⟩
          | gone =>
            rw [hi] at hr
            simp only [renB, Option.some.injEq] at hr
            rw [← hr]
            trivial
      · intro i j b b' hne hw hlv hb hb'
        obtain ⟨i', hi, e1⟩ := ofNu hb
        obtain ⟨j', hj, e2⟩ := ofNu hb'
        refine hS.heap.sep i' j' b b' (fun e => hne (nodupB_ne hnd i j i' hi (e ▸ hj))) ?_ ?_ e1 e2
        · rw [← (wrlive (getH hi)).1]; exact hw
        · rw [← (wrlive (getH hj)).2]; exact hlv
      · intro i b hw hb
        obtain ⟨i', hi, e1⟩ := ofNu hb
        exact hS.heap.own i' b (by rw [← (wrlive (getH hi)).1]; exact hw) e1
      · intro i b hb
        obtain ⟨i', hi, e1⟩ := ofNu hb
        exact hS.heap.lt i' b e1
      · obtain ⟨i', hi, e1⟩ := ofNu hb
        rw [hl]
        exact (List.getElem?_eq_some_iff.1 hi).1
      · have hi := h0 i b hb
        have : keep[i]? = some i := by
          have h1 := upN_get m 0 i hi
          rw [← htk, List.getElem?_take, if_pos hi, Nat.zero_add] at h1
          exact h1
        simp [keepNu, this, hS.le i b hb]
  · cases h

/-- The same block, as far as its elements go. -/
def ABeq : AB → AB → Prop
  | .row rw n w g t, b' => ∃ g', b' = .row rw n w g' t ∧ ∀ j, j < n → g j = g' j
  | b, b' => b = b'

theorem ABeq.refl (b : AB) : ABeq b b := by
  cases b with
  | row rw n w g t => exact ⟨g, rfl, fun _ _ => rfl⟩
  | _ => rfl

theorem ABeq.row {rw : Bool} {n w : Nat} {g g' : Nat → List Value} {t : TypeId} (h : ∀ j, j < n → g j = g' j) : ABeq (.row rw n w g t) (.row rw n w g' t) := ⟨g', rfl, h⟩

theorem ABeq.br {ν : Nu} {i : Nat} {b b' : AB} {w : World} (h : ABeq b b') (hb : BR ν i b w) : BR ν i b' w := by
  cases b with
  | row rw n wd g t =>
    obtain ⟨g', rfl, hg⟩ := h
    rcases hb with h | ⟨b, l, t', fz, e1, e2, e3, e4, e5⟩
    · exact .inl h
    · exact .inr ⟨b, l, t', fz, e1, e2, e3, e4, fun j hj => by rw [← hg j hj]; exact e5 j hj⟩
  | cells => cases h; exact hb
  | gone => cases h; trivial

theorem ABeq.marks {b b' : AB} (h : ABeq b b') : b'.wr = b.wr ∧ b'.live = b.live := by
  cases b with
  | row rw n wd g t => obtain ⟨g', rfl, _⟩ := h; exact ⟨rfl, rfl⟩
  | cells => cases h; exact ⟨rfl, rfl⟩
  | gone => cases h; exact ⟨rfl, rfl⟩

inductive Hsim : List AB → List AB → Prop
  | nil : Hsim [] []
  | cons {b b' H H'} : ABeq b b' → Hsim H H' → Hsim (b :: H) (b' :: H')

theorem Hsim.refl : ∀ H : List AB, Hsim H H
  | [] => .nil
  | b :: H => .cons (ABeq.refl b) (Hsim.refl H)
theorem Hsim.length : ∀ {H H' : List AB}, Hsim H H' → H.length = H'.length
  | _, _, .nil => rfl
  | _, _, .cons _ h => by simp [h.length]
theorem Hsim.get : ∀ {H H' : List AB}, Hsim H H' → ∀ i, ABeq (H.getD i .gone) (H'.getD i .gone)
  | _, _, .nil, i => by simp [ABeq]
  | _, _, .cons h _, 0 => by simpa using h
  | _, _, .cons _ h, i + 1 => by simpa using h.get i

theorem RH.sim {M : Nat → Prop} {ν : Nu} {H H' : List AB} {w : World} (h : RH M ν (fun b => H.getD b .gone) w) (s : Hsim H H') : RH M ν (fun b => H'.getD b .gone) w :=
  ⟨fun i => (s.get i).br (h.br i), fun i j b b' hne hw hl => h.sep i j b b' hne (by rw [← (s.get i).marks.1]; exact hw) (by rw [← (s.get j).marks.2]; exact hl), fun i b hw => h.own i b (by rw [← (s.get i).marks.1]; exact hw), h.lt⟩

theorem SR.sim {M : Nat → Prop} {w0 : World} {ν0 : Nu} {T : List AV} {H H' : List AB} {a : Act} {w : World} {ν : Nu} (h : SR M w0 ν0 T H a w ν) (s : Hsim H H') : SR M w0 ν0 T H' a w ν :=
  ⟨h.tmps, h.heap.sim s, h.fr, fun i b hb => by rw [← s.length]; exact h.dom i b hb, h.len, h.le⟩

def leafK (lv : Ex → List Nat) (m : Nat) : Kont := fun e T H => match weak (lv e) m T H with
  | some p => .out e p.1 p.2
  | none => .err

/-- n slots, those that are named and no others. -/
def mkT : Nat → Nat → List (Nat × AV) → List AV
  | _, 0, _ => []
  | i, n + 1, [] => .dead :: mkT (i + 1) n []
  | i, n + 1, p :: r => bif Nat.beq i p.1 then p.2 :: mkT (i + 1) n r else .dead :: mkT (i + 1) n (p :: r)

def risB : List Nat → Bool
  | [] => true
  | [_] => true
  | a :: b :: r => Nat.blt a b && risB (b :: r)

theorem maskT_congr {l l' : List Nat} : ∀ (T : List AV) (i : Nat), (∀ k, i ≤ k → l.elem k = l'.elem k) → maskT l i T = maskT l' i T
  | [], _, _ => rfl
  | a :: as, i, h => by simp only [maskT, h i (Nat.le_refl i), maskT_congr as (i + 1) fun k hk => h k (by omega)]

theorem risB_all : ∀ {a : Nat} {r : List Nat}, risB (a :: r) = true → risB r = true ∧ ∀ j ∈ r, a < j
  | a, [], _ => ⟨rfl, fun _ h => by cases h⟩
  | a, b :: r, h => by
    simp only [risB, Bool.and_eq_true, Nat.blt_eq] at h
    refine ⟨h.2, fun j hj => ?_⟩
    rcases List.mem_cons.1 hj with rfl | hj
    · exact h.1
    · exact Nat.lt_trans h.1 ((risB_all h.2).2 j hj)

theorem mask_mk : ∀ (T : List AV) (i : Nat) (l : List Nat), risB l = true → (∀ j ∈ l, i ≤ j) → maskT l i T = mkT i T.length (l.map fun j => (j, T.getD (j - i) .dead))
  | [], i, l, _, _ => by cases l <;> rfl
  | a :: as, i, [], _, _ => by
    have := mask_mk as (i + 1) [] rfl (fun _ h => by cases h)
    simp only [List.map_nil] at this
    simp only [maskT, List.length_cons, mkT, List.map_nil, this]
    rfl
  | a :: as, i, j :: r, hs, hl => by
    obtain ⟨hr, hlt⟩ := risB_all hs
    have hij := hl j (by simp)
    by_cases e : i = j
    · subst e
      have h1 : maskT (i :: r) (i + 1) as = maskT r (i + 1) as := maskT_congr as (i + 1) fun k hk => by
        have : (k == i) = false := by simp; omega
        rw [List.elem_cons, this]
      have h2 := mask_mk as (i + 1) r hr (fun k hk => hlt k hk)
      simp only [maskT, h1, h2, List.length_cons, mkT, List.map_cons, Nat.beq_refl, cond_true, Nat.sub_self, List.getD_cons_zero]
      have h3 : (i :: r).elem i = true := by simp
      rw [h3]
      congr 2
      refine List.map_congr_left fun k hk => ?_
      have := hlt k hk
      obtain ⟨d, rfl⟩ : ∃ d, k = i + 1 + d := ⟨k - (i + 1), by omega⟩
      rw [show i + 1 + d - (i + 1) = d by omega, show i + 1 + d - i = d + 1 by omega, List.getD_cons_succ]
    · have h0 : (j :: r).elem i = false := by
        rw [List.elem_eq_contains]
        simp only [List.contains_eq_mem, decide_eq_false_iff_not, List.mem_cons, not_or]
        refine ⟨e, fun hi => ?_⟩
        have := hlt i hi
        omega
      have h2 := mask_mk as (i + 1) (j :: r) hs (fun k hk => by
        rcases List.mem_cons.1 hk with rfl | hk
        · omega
        · have := hlt k hk; omega)
      have hb : Nat.beq i j = false := by
        cases hb : Nat.beq i j with
        | false => rfl
        | true => exact (e (Nat.eq_of_beq_eq_true hb)).elim
      simp only [maskT, h0, cond_false, List.length_cons, mkT, List.map_cons, hb, h2, List.getD_eq_getElem?_getD]
      congr 2
      congr 1
      · rw [show j - i = (j - (i + 1)) + 1 by omega, List.getElem?_cons_succ]
      · refine List.map_congr_left fun k hk => ?_
        have := hlt k hk
        rw [show k - i = (k - (i + 1)) + 1 by omega, List.getElem?_cons_succ]

/-- 'weak', the slots already masked. -/
def weakM (m : Nat) (T : List AV) (H : List AB) : Option (List AV × List AB) :=
  match renAs (keepOf m T H) T, renBs (keepOf m T H) H (keepOf m T H) with
  | some T', some H' => cond (nodupB (keepOf m T H) && (keepOf m T H).take m == upN 0 m) (some (T', H')) none
  | _, _ => none

theorem weak_mask {l : List Nat} (h : risB l = true) {N m : Nat} {T : List AV} {H : List AB} (hN : T.length = N) : weak l m T H = weakM m (mkT 0 N (l.map fun j => (j, T.getD j .dead))) H := by
  subst hN
  have := mask_mk T 0 l h (fun _ _ => Nat.zero_le _)
  simp only [Nat.sub_zero] at this
  unfold weak weakM
  rw [this]

/-- A LOOP: a family of states, a round that goes from one to another or leaves; the words within may go by the state. -/
theorem sum_loopG {P : Program} {Γ : Gam} (hΓ : GamOk P Γ) (hmix : P.follows .mixedOrders = true) (hent : Enters P) {id n m m0 : Nat} {c : Code} {S : Sum} {lv : Ex → List Nat} (hm : m0 ≤ m)
    (h : ∀ T H (K : Kont) Q, (S T H K).ok Q → ∃ (σ : Type) (I : σ → List AV × List AB) (Inv : σ → Prop) (μ : σ → Nat) (s0 : σ) (Λ : σ → Nat → Option Sum), Inv s0 ∧ (∃ H1, weak (lv .normal) m T H = some ((I s0).1, H1) ∧ Hsim H1 (I s0).2) ∧
      ∀ s, Inv s → LamOk P m0 (Λ s) c ∧ (execC P Γ n (Λ s) c (I s).1 (I s).2 (leafK lv m)).ok fun e T' H' => match e with
        | .normal => ∃ s', Inv s' ∧ T' = (I s').1 ∧ Hsim H' (I s').2 ∧ μ s' < μ s
        | .exit j => ∃ H'', Hsim H' H'' ∧ if j = id then (K .normal T' H'').ok Q else (K (.exit j) T' H'').ok Q
        | .ret => ∃ H'', Hsim H' H'' ∧ (K .ret T' H'').ok Q) : SumOk P m0 (.block id (.loop c)) S := by
  intro M w0 ν0 hM hm0 T H K Q a w ν hS hR hd
  obtain ⟨σ, I, Inv, μ, s0, Λ, i0, ⟨H1, hw, hsim⟩, hstep⟩ := h T H K Q hS
  have hν : ∀ i b, ν0 i = some b → i < m := fun i b hb => Nat.lt_of_lt_of_le (hm0 i b hb) hm
  have key : ∀ (r : Nat) (s : σ) (a : Act) (w : World) (ν : Nu), Inv s → μ s < r → SR M w0 ν0 (I s).1 (I s).2 a w ν → a.defers = [] → Code.rounds P c (Exit.inBlock id (post M w0 ν0 K Q)) r a w := by
    intro r
    induction r with
    | zero => intro s a w ν _ hlt; omega
    | succ r ih =>
      intro s a w ν hi hlt hR hd
      rw [rounds_succ]
      refine wp_mono (execC_sound hΓ hmix hent n m0 (Λ s) c (hstep s hi).1 M w0 ν0 hM hm0 _ _ _ _ a w ν (hstep s hi).2 hR hd) fun e a' w' hp => ?_
      obtain ⟨e', T', H', ν', rfl, hk, hS', hd'⟩ := hp
      unfold leafK at hk
      split at hk
      · rename_i p hwk
        have hR' := weak_sound hwk hS' hν
        cases e' with
        | normal =>
          obtain ⟨s', i', he, hs', hmu⟩ := hk
          exact ih s' a' w' _ i' (by omega) (by rw [← he]; exact hR'.sim hs') hd'
        | exit j =>
          simp only [Ex.to, Exit.then, Exit.inBlock]
          obtain ⟨H'', hs', hk⟩ := hk
          split
          · rename_i hj
            rw [if_pos hj] at hk
            exact ⟨.normal, _, _, _, rfl, hk, hR'.sim hs', hd'⟩
          · rename_i hj
            rw [if_neg hj] at hk
            exact ⟨.exit j, _, _, _, rfl, hk, hR'.sim hs', hd'⟩
        | ret =>
          obtain ⟨H'', hs', hk⟩ := hk
          exact ⟨.ret, _, _, _, rfl, hk, hR'.sim hs', hd'⟩
      · exact hk.elim
  have hR0 := (weak_sound hw hR hν).sim hsim
  exact wp_block (wp_loop_rounds (μ s0 + 1) (key _ s0 a w _ i0 (Nat.lt_succ_self _) hR0 hd))

/-- A LOOP: a family of states, a round that goes from one to another or leaves. -/
theorem sum_loop {P : Program} {Γ : Gam} (hΓ : GamOk P Γ) (hmix : P.follows .mixedOrders = true) (hent : Enters P) {id n m m0 : Nat} {c : Code} {S : Sum} {lv : Ex → List Nat} {Λ : Nat → Option Sum} (hΛ : LamOk P m0 Λ c) (hm : m0 ≤ m)
    (h : ∀ T H (K : Kont) Q, (S T H K).ok Q → ∃ (σ : Type) (I : σ → List AV × List AB) (Inv : σ → Prop) (μ : σ → Nat) (s0 : σ), Inv s0 ∧ (∃ H1, weak (lv .normal) m T H = some ((I s0).1, H1) ∧ Hsim H1 (I s0).2) ∧
      ∀ s, Inv s → (execC P Γ n Λ c (I s).1 (I s).2 (leafK lv m)).ok fun e T' H' => match e with
        | .normal => ∃ s', Inv s' ∧ T' = (I s').1 ∧ Hsim H' (I s').2 ∧ μ s' < μ s
        | .exit j => ∃ H'', Hsim H' H'' ∧ if j = id then (K .normal T' H'').ok Q else (K (.exit j) T' H'').ok Q
        | .ret => ∃ H'', Hsim H' H'' ∧ (K .ret T' H'').ok Q) : SumOk P m0 (.block id (.loop c)) S := by
  refine sum_loopG hΓ hmix hent (n := n) (lv := lv) hm fun T H K Q hS => ?_
  obtain ⟨σ, I, Inv, μ, s0, i0, h1, h2⟩ := h T H K Q hS
  exact ⟨σ, I, Inv, μ, s0, fun _ => Λ, i0, h1, fun s hs => ⟨hΛ, h2 s hs⟩⟩

/-- A result, with the blocks that it needs: the first m, and its own. -/
def packK (m : Nat) : AV → List AB → Res := fun av H => match weak [0] m [av] H with
  | some p => .out .ret p.1 p.2
  | none => .err

/-- What a call comes to, where blocks matter. -/
theorem calls_pack {P : Program} {Γ : Gam} (hΓ : GamOk P Γ) (hmix : P.follows .mixedOrders = true) (hent : Enters P) {Λ : Nat → Option Sum} {n : Nat} {f : FuncId} {fn : Func} {avs : List AV} {H : List AB} {ν : Nu} {vals : List Value} {w : World} {Q : Ex → List AV → List AB → Prop} {M : Nat → Prop}
    (hf : P.funcs[f]? = some fn) (hL : ∀ c, fn.body = some c → LamOk P H.length Λ c) (hM : ∀ k, w.heap.size ≤ k → M k) (h : (execF P Γ Λ n fn avs H (packK H.length)).ok Q) (hv : VRs ν avs vals) (hH : RH M ν (fun b => H.getD b .gone) w) (hdom : ∀ i b, ν i = some b → i < H.length) :
    Calls P f vals.toArray w fun e w' => ∃ v av H' ν', e = .returned v ∧ Q .ret [av] H' ∧ VR ν' av v ∧ RH M ν' (fun b => H'.getD b .gone) w' ∧ Fr M w w' ∧ Le ν ν' ∧ ∀ i b, ν' i = some b → i < H'.length := by
  refine (calls_exec hΓ hmix hent hf hL hM h hv hH hdom).mono ?_
  rintro e w' ⟨v, av, H', ν', rfl, hk, h1, h2, h3, h4, h5⟩
  unfold packK at hk
  split at hk
  · rename_i p hp
    have hS : SR M w ν [av] H' { tmps := #[v], defers := [] } w' ν' := by
      refine ⟨fun t => ?_, h2, h3, h5, by simp, h4⟩
      cases t with
      | zero => simpa using h1
      | succ t => simp only [List.getD_cons_succ, List.getD_nil, VR]
    have hW := weak_sound hp hS hdom
    have hp1 : p.1.length = 1 := by
      have := hp
      unfold weak at this
      split at this
      · rename_i T1 H1 hT hH1
        cases hc : (nodupB (keepOf H.length (maskT [0] 0 [av]) H') && (keepOf H.length (maskT [0] 0 [av]) H').take H.length == upN 0 H.length) with
        | false => rw [hc] at this; cases this
        | true =>
          rw [hc] at this
          cases this
          have := renAs_length hT
          simpa [maskT] using this
      · cases this
    match hp2 : p.1, hp1 with
    | [av'], _ =>
      rw [hp2] at hk hW
      refine ⟨v, av', p.2, _, rfl, hk, ?_, hW.heap, hW.fr, hW.le, hW.dom⟩
      simpa using hW.tmps 0
  · exact hk.elim

end Go.Proofs.Ytkbdppnlojlcdaa
