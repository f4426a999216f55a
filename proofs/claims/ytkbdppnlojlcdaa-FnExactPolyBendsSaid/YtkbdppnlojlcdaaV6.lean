/- The abstract machine, 6: one operation. Conditions: those of the table of callees. -/
import Derived.Test.YtkbdppnlojlcdaaV5
namespace Go.Proofs.Ytkbdppnlojlcdaa
open Go.RowKit

theorem run_slice_of {P : Program} {w : World} {isS : Bool} {len cap : Nat} {lo hi mx : Option Value} {r : Nat × Nat × Nat} (h : (Instr.sliceBounds isS len cap lo hi mx).run P w = .ok r w) {α : Type} (k : Nat × Nat × Nat → Sem α) :
    ((Instr.sliceBounds isS len cap lo hi mx).bind k).run P w = (k r).run P w := by
  show ((Instr.sliceBounds isS len cap lo hi mx) >>= k).run P w = _
  rw [Sem.run_bind, h, Result.andThen_ok]

theorem sliceA_sound {P : Program} {H : List AB} {t : TypeId} {x : AV} {lo hi mx : Option AV} {δ : Delta} {ν : Nu} {y : Value} {vlo vhi vmx : Option Value} {w : World} (h : sliceA P H t x lo hi mx = some δ) (ho : obls δ.obl = true) (hv : VR ν x y)
    (h1 : BndOk ν lo vlo) (h2 : BndOk ν hi vhi) (h3 : BndOk ν mx vmx) (hr : ∀ i ∈ δ.rd, BR ν i (H.getD i .gone) w) : ∃ v, (Instr.sliceAt t y vlo vhi vmx).run P w = .ok v w ∧ VR ν δ.val v := by
  unfold sliceA at h
  split at h
  · rename_i e i len l hh m hu hl hhi hm
    split at h
    · rename_i s rw' n wd g ty hs hH
      split at h
      · cases h
      · rename_i hmh
        simp only [Option.some.injEq] at h
        subst h
        simp only [obls, List.all_cons, List.all_nil, Bool.and_true, id, Bool.and_eq_true, decide_eq_true_eq] at ho
        obtain ⟨b1, b2, b3, b4, b5⟩ := ho
        have hln := Nat.le_of_ble_eq_true b5
        have hbr := hr i (by simp)
        rw [hH] at hbr
        simp only [VR] at hv
        obtain ⟨b, hb0, rfl⟩ := hv
        rcases hbr with ⟨_, _, e1⟩ | ⟨b', _, _, _, e1, _, _, e4, _⟩
        · rw [hb0] at e1; cases e1
        rw [hb0] at e1; cases e1
        have e1 := hb0
        have hmc : hh.getD len ≤ m.getD (b.c : Int) ∧ m.getD (b.c : Int) ≤ b.c := by
          cases m with
          | none => simp at b3 b4 ⊢; omega
          | some m => simp at b3 b4 ⊢; omega
        have hb := sliceBounds_run (P := P) (w := w) (isS := true) (len := len) (cap := b.c) (bndA_val hl h1) (bndA_val hhi h2) (bndA_val hm h3) ((Bool.not_eq_true _).mp hmh) b1 b2 hmc.1 hmc.2
        refine ⟨.slice (some (if (m.getD (b.c : Int)).toNat = (l.getD 0).toNat then ⟨b.n, b.o, none⟩ else ⟨b.n, b.o + (l.getD 0).toNat * s, none⟩)) ((hh.getD len).toNat - (l.getD 0).toNat) ((m.getD (b.c : Int)).toNat - (l.getD 0).toNat), ?_, ?_⟩
        · simp only [Instr.sliceAt, Sem.run_bind, run_underlying hu, Result.andThen_ok, Instr.slice]
          rw [hb]
          simp [run_sizeOf' hs, addr_add]
          split <;> rfl
        · simp only [VR]
          refine ⟨some (if (m.getD (b.c : Int)).toNat = (l.getD 0).toNat then ⟨b.n, b.o, none⟩ else ⟨b.n, b.o + (l.getD 0).toNat * s, none⟩), (m.getD (b.c : Int)).toNat - (l.getD 0).toNat, ?_, ?_, ?_, ?_⟩
          · congr 1
            omega
          · intro c' hc'
            cases m with
            | none => simp at hc'
            | some m => simp at hc' ⊢; omega
          · omega
          · intro hc
            exact ⟨b, e1, by rw [if_neg (by omega), Nat.add_zero]⟩
    · cases h
  · rename_i e i wd j k len cap l hh m hu hl hhi hm
    split at h
    · rename_i s hs
      split at h
      · cases h
      · rename_i hmh
        split at h
        · rename_i hw
          subst hw
          simp only [Option.some.injEq] at h
          subst h
          simp only [obls, List.all_cons, List.all_nil, Bool.and_true, id, Bool.and_eq_true, decide_eq_true_eq] at ho
          obtain ⟨b1, b2, b3, b4⟩ := ho
          simp only [VR] at hv
          obtain ⟨p, c, rfl, hcap, hlc, hp⟩ := hv
          have hmc : hh.getD len ≤ m.getD (c : Int) ∧ m.getD (c : Int) ≤ c := by
            cases m with
            | none => simp at b3 b4 ⊢; omega
            | some m => simp at b3 b4 ⊢; omega
          have hb := sliceBounds_run (P := P) (w := w) (isS := true) (len := len) (cap := c) (bndA_val hl h1) (bndA_val hhi h2) (bndA_val hm h3) ((Bool.not_eq_true _).mp hmh) b1 b2 hmc.1 hmc.2
          refine ⟨.slice (if (m.getD (c : Int)).toNat = (l.getD 0).toNat then p else p.map (·.add ((l.getD 0).toNat * wd))) ((hh.getD len).toNat - (l.getD 0).toNat) ((m.getD (c : Int)).toNat - (l.getD 0).toNat), ?_, ?_⟩
          · simp only [Instr.sliceAt, Sem.run_bind, run_underlying hu, Result.andThen_ok, Instr.slice]
            rw [hb]
            simp [run_sizeOf' hs]
          · simp only [VR]
            refine ⟨if (m.getD (c : Int)).toNat = (l.getD 0).toNat then p else p.map (·.add ((l.getD 0).toNat * wd)), (m.getD (c : Int)).toNat - (l.getD 0).toNat, ?_, ?_, ?_, ?_⟩
            · congr 1
              omega
            · intro c' hc'
              cases m with
              | none =>
                simp only [Option.map_eq_some_iff] at hc'
                obtain ⟨c0, hc0, rfl⟩ := hc'
                have := hcap c0 hc0
                simp; omega
              | some m => simp at hc' ⊢; omega
            · omega
            · intro hc
              obtain ⟨b, e1, e2⟩ := hp (by omega)
              refine ⟨b, e1, ?_⟩
              rw [if_neg (by omega), e2, Option.map_some, addr_add]
              congr 2
              rw [Nat.add_mul]
              omega
        · cases h
    · cases h
  · rename_i s l hh hu hl hhi hm
    simp only [Option.some.injEq] at h
    subst h
    simp only [obls, List.all_cons, List.all_nil, Bool.and_true, id, Bool.and_eq_true, decide_eq_true_eq] at ho
    obtain ⟨b1, b2, b3⟩ := ho
    simp only [VR] at hv
    subst hv
    rcases bndA_val hm h3 with ⟨_, rfl⟩ | ⟨_, _, h0, _⟩
    · have hb := sliceBounds_run (P := P) (w := w) (isS := false) (len := s.size) (cap := s.size) (m := none) (bndA_val hl h1) (bndA_val hhi h2) (.inl ⟨rfl, rfl⟩) rfl b1 b2 (by simpa using b3) (by simp)
      refine ⟨_, ?_, by simp only [VR]; rfl⟩
      simp only [Instr.sliceAt, Sem.run_bind, run_underlying hu, Result.andThen_ok, Instr.slice]
      simp [hb]
    · cases h0
  · rename_i n e i wd j k hu hl hhi hm
    split at h
    · rename_i s hs
      simp only [Option.some.injEq] at h
      subst h
      simp only [VR] at hv
      obtain ⟨b, hb, rfl⟩ := hv
      rcases bndA_val hl h1 with ⟨_, rfl⟩ | ⟨_, _, h0, _⟩
      · rcases bndA_val hhi h2 with ⟨_, rfl⟩ | ⟨_, _, h0, _⟩
        · rcases bndA_val hm h3 with ⟨_, rfl⟩ | ⟨_, _, h0, _⟩
          · refine ⟨.slice (some ⟨b.n, b.o + (j * wd + k), none⟩) n n, ?_, ?_⟩
            · simp [Instr.sliceAt, run_underlying hu, Instr.sureAddr, Instr.sliceBounds, run_sizeOf' hs, Addr.add]
            · simp only [VR]
              exact ⟨_, n, rfl, by simp, Nat.le_refl _, fun _ => ⟨b, hb, by simp⟩⟩
          · cases h0
        · cases h0
      · cases h0
    · cases h
  · cases h

abbrev Spec := List AV → List AB → Nat → Option Delta

def VRl (ν : Nu) (as : List AV) (vs : List Value) : Prop := VRs ν as vs

/-- What is written lies apart from what is read. -/
def Seps (ν : Nu) (H : List AB) (δ : Delta) : Prop := ∀ i c j b b', (i, c) ∈ δ.put → j ∈ δ.rd → i ≠ j → (H.getD j .gone).live = true → ν i = some b → ν j = some b' → b.n ≠ b'.n

/-- A callee does what its word says. -/
def SpecOk (P : Program) (f : FuncId) (S : Spec) : Prop :=
  (∀ args w, (callFunc f args).run P w = .ok (.enter f args) w) ∧
  ∀ avs H base δ ν (vals : List Value) w, S avs H base = some δ → obls δ.obl = true → VRs ν avs vals → (∀ i ∈ δ.rd, BR ν i (H.getD i .gone) w) → (∀ i b, ν i = some b → b.n < w.heap.size) → (∀ j, j < δ.new.length → ν (base + j) = none) → Seps ν H δ →
    Calls P f vals.toArray w fun e w' => ∃ v ν', e = .returned v ∧ Did ν ν' base δ w w' v

abbrev Gam := FuncId → Option Spec
def GamOk (P : Program) (Γ : Gam) : Prop := ∀ f S, Γ f = some S → SpecOk P f S

def pureA (P : Program) (s : Sem Value) : Option Delta := (pureRun P s).map fun x => { val := .v x }

def pickA (q : Bool) (a b : AV) : AV :=
  match a, b with
  | .v (.bool x), .v (.bool y) => .v (.bool (cond q x y))
  | _, _ => cond q a b

theorem pickA_sound {ν : Nu} {q : Bool} {a b : AV} {x y : Value} (hx : VR ν a x) (hy : VR ν b y) : VR ν (pickA q a b) (if q then x else y) := by
  unfold pickA
  split
  · simp only [VR] at hx hy ⊢
    subst hx hy
    cases q <;> rfl
  · cases q
    · exact hy
    · exact hx

def binA (P : Program) (op : BinOp) (t : TypeId) (ox oy : Operand) (x y : AV) : Option Delta :=
  match x.toV, y.toV with
  | some (.int k a), some (.int k' b) =>
    (match op with
    | .quo => if k = k' then some { val := .v (.int k (k.wrap (a.tdiv b))), obl := [!decide (b = 0)] } else none
    | .rem => if k = k' then some { val := .v (.int k (a.tmod b)), obl := [!decide (b = 0)] } else none
    | _ => pureA P (do eqGuard op t ox oy (.int k a) (.int k' b); binOp op t (.int k a) (.int k' b)))
  | some vx, some vy => pureA P (do eqGuard op t ox oy vx vy; binOp op t vx vy)
  | _, _ => none

theorem pureA_plain {P : Program} {s : Sem Value} {δ : Delta} (h : pureA P s = some δ) : δ.put = [] ∧ δ.new = [] := by
  simp only [pureA, Option.map_eq_some_iff] at h
  obtain ⟨x, _, rfl⟩ := h
  exact ⟨rfl, rfl⟩

theorem pureA_sound {P : Program} {s : Sem Value} {δ : Delta} (h : pureA P s = some δ) (ν : Nu) (w : World) : ∃ v, s.run P w = .ok v w ∧ VR ν δ.val v := by
  simp only [pureA, Option.map_eq_some_iff] at h
  obtain ⟨x, hx, rfl⟩ := h
  exact ⟨x, pureRun_run hx w, by simp only [VR]⟩

theorem binA_plain {P : Program} {op : BinOp} {t : TypeId} {ox oy : Operand} {x y : AV} {δ : Delta} (h : binA P op t ox oy x y = some δ) : δ.put = [] ∧ δ.new = [] := by
  unfold binA at h
  repeat (first | exact pureA_plain h | split at h | (simp only [Option.some.injEq] at h; subst h; exact ⟨rfl, rfl⟩) | cases h)

theorem binA_sound {P : Program} {op : BinOp} {t : TypeId} {ox oy : Operand} {x y : AV} {δ : Delta} {ν : Nu} {vx vy : Value} (h : binA P op t ox oy x y = some δ) (ho : obls δ.obl = true) (hx : VR ν x vx) (hy : VR ν y vy) (w : World) :
    ∃ v, (do eqGuard op t ox oy vx vy; binOp op t vx vy : Sem Value).run P w = .ok v w ∧ VR ν δ.val v := by
  unfold binA at h
  split at h
  · rename_i k a k' b h1 h2
    have e1 := VR_toV h1 hx
    have e2 := VR_toV h2 hy
    subst e1 e2
    split at h
    · split at h
      · rename_i hk
        subst hk
        simp only [Option.some.injEq] at h
        subst h
        have hb : b ≠ 0 := by simpa [obls] using ho
        exact ⟨.int k (k.wrap (a.tdiv b)), by simp [eqGuard, binOp, Op.intDiv, hb], by simp only [VR]⟩
      · cases h
    · split at h
      · rename_i hk
        subst hk
        simp only [Option.some.injEq] at h
        subst h
        have hb : b ≠ 0 := by simpa [obls] using ho
        exact ⟨.int k (a.tmod b), by simp [eqGuard, binOp, Op.intDiv, hb], by simp only [VR]⟩
      · cases h
    · exact pureA_sound h ν w
  · rename_i vx' vy' _ h1 h2
    have e1 := VR_toV h1 hx
    have e2 := VR_toV h2 hy
    subst e1 e2
    exact pureA_sound h ν w
  · cases h

def partsV (ρ : Operand → AV) : List (Nat × Operand) → Option (List (Nat × Value))
  | [] => some []
  | p :: l => match AV.toV (ρ p.2), partsV ρ l with
    | some x, some xs => some ((p.1, x) :: xs)
    | _, _ => none

theorem partsV_sound {ν : Nu} {ρ : Operand → AV} {σ : Operand → Value} : ∀ {l : List (Nat × Operand)} {ps : List (Nat × Value)}, partsV ρ l = some ps → (∀ p ∈ l, VR ν (ρ p.2) (σ p.2)) → l.map (fun p => (p.1, σ p.2)) = ps
  | [], ps, h, _ => by simp only [partsV, Option.some.injEq] at h; subst h; rfl
  | p :: l, ps, h, hv => by
    simp only [partsV] at h
    split at h
    · rename_i x xs h1 h2
      simp only [Option.some.injEq] at h
      subst h
      rw [List.map_cons, partsV_sound h2 fun q hq => hv q (List.mem_cons_of_mem _ hq), VR_toV h1 (hv p List.mem_cons_self)]
    · cases h

def lenA (P : Program) (t : TypeId) (x : AV) : Option Delta :=
  match P.underlying t, x with
  | some (.slice _), .own _ len => some { val := .v (.int .i64 len) }
  | some (.slice _), .sl _ _ _ _ len _ => some { val := .v (.int .i64 len) }
  | _, _ => match x.toV with
    | some v => pureA P (Builtin.len_ #[t] 0 #[v])
    | none => none

def builtinA (P : Program) (b : Builtin) (ts : Array TypeId) (args : List AV) (H : List AB) (base : Nat) : Option Delta :=
  match b with
  | .len => (match args, ts.toList with
    | [x], [t] => lenA P t x
    | _, _ => none)
  | .append => (match args, ts.toList with
    | [s, x], [t, t'] => if t = t' then appendA P t H s x base else none
    | _, _ => none)
  | .copy => (match args, ts.toList with
    | [d, x], [t, _] => copyA P t H d x
    | _, _ => none)
  | .max => (match AV.toVs args with
    | some vs => pureA P (Builtin.max_ #[] 0 vs.toArray)
    | none => none)
  | .min => (match AV.toVs args with
    | some vs => pureA P (Builtin.min_ #[] 0 vs.toArray)
    | none => none)
  | _ => none

/-- The function that a value is, and what it has captured. -/
def fnOf : AV → Option (FuncId × List AV)
  | .fn g caps => some (g, caps)
  | .v (.func (.func g) ⟨[]⟩ l) => some (g, l.toList.map .v)
  | _ => none
theorem fnOf_sound {ν : Nu} {a : AV} {y : Value} {g : FuncId} {caps : List AV} (h : fnOf a = some (g, caps)) (hv : VR ν a y) : ∃ l, y = .func (.func g) #[] (List.toArray l) ∧ VRs ν caps l := by
  unfold fnOf at h
  split at h
  · cases h
    simpa only [VR] using hv
  · cases h
    simp only [VR] at hv
    exact ⟨_, hv, VRs.map_v _⟩
  · cases h

def callA (P : Program) (Γ : Gam) (c : Call) (ρ : Operand → AV) (H : List AB) (base : Nat) : Option Delta :=
  match c.callee with
  | .value f => (match fnOf (ρ f) with
    | some (g, caps) => (match Γ g with
      | some S => S (c.args.toList.map ρ ++ caps) H base
      | none => none)
    | _ => none)
  | .builtin b => builtinA P b c.argTypes (c.args.toList.map ρ) H base
  | _ => none

def opA (P : Program) (Γ : Gam) (o : Oper) (T : List AV) (H : List AB) (base : Nat) : Option Delta :=
  match o.op with
  | .move x => some { val := evA T x }
  | .assign x => some { val := evA T x }
  | .pick c a b => (match evA T c with
    | .v (.bool q) => some { val := pickA q (evA T a) (evA T b) }
    | _ => none)
  | .alloc t => allocA P t base
  | .box t x => boxA t (evA T x) base
  | .build t parts => (match partsV (evA T) parts.toList with
    | some ps => pureA P (Instr.build t ps.toArray)
    | none => none)
  | .buildSlice t len parts => (match partsV (evA T) parts.toList with
    | some ps => buildSliceA P t len ps base
    | none => none)
  | .load t a => loadA P H t (evA T a)
  | .store t a x => storeA P H t (evA T a) (evA T x)
  | .nilCheck x => (match evA T x with
    | .ptr i w j k => some { val := .ptr i w j k }
    | _ => none)
  | .binOp op t x y _ => binA P op t x y (evA T x) (evA T y)
  | .unOp op _ x => (match (evA T x).toV with
    | some v => pureA P (Op.unary op v)
    | none => none)
  | .convert src dst x => (match (evA T x).toV with
    | some v => pureA P (convert src dst v)
    | none => none)
  | .makeFunc (.func f) first cap => if first.size = 0 then some { val := .fn f (cap.toList.map (evA T)) } else none
  | .makeSlice t l c => (match evA T l, evA T c with
    | .v (.int _ l), .v (.int _ c) => makeSliceA P t l c base
    | _, _ => none)
  | .slice t x lo hi mx => sliceA P H t (evA T x) (lo.map (evA T)) (hi.map (evA T)) (mx.map (evA T))
  | .fieldAddr s x f => (fieldAddrA P s (evA T x) f).map fun r => { val := r }
  | .field s x f => (fieldA P s (evA T x) f).map fun r => { val := r }
  | .indexAddr t x ix => indexAddrA P H t (evA T x) (evA T ix)
  | .index t x ix => (indexA P t (evA T x) (evA T ix)).map fun r => { val := r.1, obl := r.2 }
  | .extract x ix => (match evA T x with
    | .tup cs => (cs[ix]?).map fun r => { val := r }
    | .v (.tuple arr) => (arr.toList[ix]?).map fun r => { val := .v r }
    | _ => none)
  | .call c => callA P Γ c (evA T) H base
  | _ => none

end Go.Proofs.Ytkbdppnlojlcdaa
