/- The abstract machine, 11: code, and functions. Conditions: those of the table of callees and of the loops' words. -/
import Derived.Test.YtkbdppnlojlcdaaV10
import Derived.LoopN
namespace Go.Proofs.Ytkbdppnlojlcdaa
open Go.RowKit

abbrev Kont := Ex → List AV → List AB → Res
abbrev Sum := List AV → List AB → Kont → Res

def exitK (id : Nat) (K : Kont) : Kont := fun e T H => match e with
  | .exit j => cond (Nat.beq j id) (K .normal T H) (K (.exit j) T H)
  | e => K e T H
def thenK (f : List AV → List AB → Res) (K : Kont) : Kont := fun e T H => match e with
  | .normal => f T H
  | e => K e T H

def iter (f : List AV → List AB → Kont → Res) : Nat → List AV → List AB → Kont → Res
  | 0, _, _, _ => .err
  | m + 1, T, H, K => f T H (thenK (fun T H => iter f m T H K) K)

def setC (T : List AV) (c : Operand) (b : Bool) : List AV := match c with | .tmp t => T.set t (.v (.bool b)) | _ => T

/-- The results. -/
def resA (P : Program) (T : List AV) (H : List AB) : List ResultVar → Option (List AV × List Bool)
  | [] => some ([], [])
  | .tmp t :: r => match resA P T H r with
    | some (vs, ob) => some (T.getD t .dead :: vs, ob)
    | none => none
  | .cell x t :: r => match loadA P H t (T.getD x .dead), resA P T H r with
    | some δ, some (vs, ob) => some (δ.val :: vs, δ.obl ++ ob)
    | _, _ => none

def oneA : List AV → AV
  | [x] => x
  | l => .tup l

def finC (P : Program) (fn : Func) (Kc : AV → List AB → Res) : Kont := fun e T H => match e with
  | .exit _ => .err
  | _ => match resA P T H fn.results.toList with
    | some (vs, ob) => needs ob (Kc (oneA vs) H)
    | none => .err

abbrev Cf := FuncId → List AV → List AB → (AV → List AB → Res) → Res

def inlA (o : Oper) (T : List AV) : Option (FuncId × List AV) :=
  match o.op with
  | .call c => match c.callee with
    | .value f => match fnOf (evA T f) with
      | some (g, caps) => some (g, c.args.toList.map (evA T) ++ caps)
      | _ => none
    | _ => none
  | _ => none

def stepS (P : Program) (Γ : Gam) (cf : Cf) (o : Oper) (T : List AV) (H : List AB) (K : List AV → List AB → Res) : Res :=
  match opA P Γ o T H H.length with
  | some δ => needs δ.obl (cond (dstOk T o.dst && δ.put.all fun p => (H.getD p.1 .gone).wr) (fcD T o.dst δ.val H δ K) .err)
  | none => match inlA o T with
    | some (g, avs) => cf g avs H fun v H' => cond (dstOk T o.dst) (fcA v fun v => fcSp (setT T o.dst v) fun T => K T H') .err
    | none => .err
def skipS (o : Oper) (T : List AV) (H : List AB) (K : List AV → List AB → Res) : Res :=
  cond (dstOk T o.dst) (K (setT T o.dst (.v undef)) H) .err

def execSeq (P : Program) (Γ : Gam) (cf : Cf) (all : List Oper) : List Oper → List AV → List AB → (List AV → List AB → Res) → Res
  | [], T, H, K => K T H
  | o :: rest, T, H, K =>
    match guardA all T o.guard with
    | .fail => .err
    | .go => stepS P Γ cf o T H fun T H => execSeq P Γ cf all rest T H K
    | .skip => skipS o T H fun T H => execSeq P Γ cf all rest T H K
    | .ask d b want =>
      cond b (cond want (stepS P Γ cf o (T.set d (.v (.bool true))) H fun T H => execSeq P Γ cf all rest T H K) (skipS o (T.set d (.v (.bool true))) H fun T H => execSeq P Γ cf all rest T H K))
        (cond want (skipS o (T.set d (.v (.bool false))) H fun T H => execSeq P Γ cf all rest T H K) (stepS P Γ cf o (T.set d (.v (.bool false))) H fun T H => execSeq P Γ cf all rest T H K))

def execC (P : Program) (Γ : Gam) : Nat → (Nat → Option Sum) → Code → List AV → List AB → Kont → Res
  | 0, _, _, _, _, _ => .err
  | n + 1, Λ, c, T, H, K =>
    match c with
    | .skip => K .normal T H
    | .label _ => K .normal T H
    | .region _ ops draw =>
      cond draw (execOps P Γ ops.toList ops.toList T H [] fun T' H' tr => cond (drawOk ops.toList tr.reverse) (K .normal T' H') .err)
        (execSeq P Γ (fun g avs H Kc => match P.funcs[g]? with
          | some fn => (match fn.body with
            | some c => fcAs (avs ++ List.replicate (fn.ntmps - avs.length) (.v undef)) fun T => execC P Γ n (fun _ => none) c T H (finC P fn Kc)
            | none => .err)
          | none => .err) ops.toList ops.toList T H fun T' H' => K .normal T' H')
    | .seq a b => execC P Γ n Λ a T H (thenK (fun T H => execC P Γ n Λ b T H K) K)
    | .cond c x y => (match evA T c with
      | .v (.bool q) => cond q (execC P Γ n Λ x (setC T c true) H K) (execC P Γ n Λ y (setC T c false) H K)
      | _ => .err)
    | .block id b => (match Λ id with
      | some S => S T H K
      | none => execC P Γ n Λ b T H (exitK id K))
    | .loop b => iter (execC P Γ n Λ b) n T H K
    | .exit id => K (.exit id) T H
    | .ret => K .ret T H
    | _ => .err

def Ex.to : Ex → Exit
  | .normal => .normal
  | .exit id => .exit id
  | .ret => .ret

/-- What is known where a piece of code ends. -/
def post (M : Nat → Prop) (w0 : World) (ν0 : Nu) (K : Kont) (Q : Ex → List AV → List AB → Prop) : Exit → Act → World → Prop :=
  fun e a w => ∃ e' T H ν, e = Ex.to e' ∧ (K e' T H).ok Q ∧ SR M w0 ν0 T H a w ν ∧ a.defers = []

/-- A word for a piece of code. -/
def SumOk (P : Program) (m0 : Nat) (c : Code) (S : Sum) : Prop :=
  ∀ (M : Nat → Prop) (w0 : World) (ν0 : Nu), (∀ k, w0.heap.size ≤ k → M k) → (∀ i b, ν0 i = some b → i < m0) → ∀ (T : List AV) (H : List AB) (K : Kont) (Q : Ex → List AV → List AB → Prop) (a : Act) (w : World) (ν : Nu), (S T H K).ok Q → SR M w0 ν0 T H a w ν → a.defers = [] → c.wp P (post M w0 ν0 K Q) a w

/-- The code of the blocks that bear a number. -/
def codeAt (id : Nat) : Code → List Code
  | .seq a b => codeAt id a ++ codeAt id b
  | .cond _ x y => codeAt id x ++ codeAt id y
  | .block j b => cond (Nat.beq j id) [.block j b] [] ++ codeAt id b
  | .loop b => codeAt id b
  | _ => []

def LamOk (P : Program) (m0 : Nat) (Λ : Nat → Option Sum) (c : Code) : Prop := ∀ id S, Λ id = some S → ∀ b ∈ codeAt id c, SumOk P m0 b S

theorem post_exit {M : Nat → Prop} {w0 : World} {ν0 : Nu} {K : Kont} {Q : Ex → List AV → List AB → Prop} {id : Nat} {e : Exit} {a : Act} {w : World} (h : post M w0 ν0 (exitK id K) Q e a w) : Exit.inBlock id (post M w0 ν0 K Q) e a w := by
  obtain ⟨e', T, H, ν, rfl, h1, h2, h3⟩ := h
  cases e' with
  | normal => exact ⟨.normal, T, H, ν, rfl, h1, h2, h3⟩
  | ret => exact ⟨.ret, T, H, ν, rfl, h1, h2, h3⟩
  | exit j =>
    simp only [Ex.to, Exit.inBlock]
    simp only [exitK] at h1
    by_cases hj : j = id
    · subst hj
      simp only [Nat.beq_refl, cond_true] at h1
      simp only [if_true]
      exact ⟨.normal, T, H, ν, rfl, h1, h2, h3⟩
    · have : Nat.beq j id = false := by
        cases hb : Nat.beq j id with
        | true => exact absurd (Nat.eq_of_beq_eq_true hb) hj
        | false => rfl
      rw [this] at h1
      rw [if_neg hj]
      exact ⟨.exit j, T, H, ν, rfl, h1, h2, h3⟩

theorem post_then {M : Nat → Prop} {w0 : World} {ν0 : Nu} {K : Kont} {Q : Ex → List AV → List AB → Prop} {f : List AV → List AB → Res} {next : Act → World → Prop} {e : Exit} {a : Act} {w : World} (h : post M w0 ν0 (thenK f K) Q e a w)
    (hn : ∀ T H ν, (f T H).ok Q → SR M w0 ν0 T H a w ν → a.defers = [] → next a w) : Exit.then next (post M w0 ν0 K Q) e a w := by
  obtain ⟨e', T, H, ν, rfl, h1, h2, h3⟩ := h
  cases e' with
  | normal => exact hn T H ν h1 h2 h3
  | ret => exact ⟨.ret, T, H, ν, rfl, h1, h2, h3⟩
  | exit j => exact ⟨.exit j, T, H, ν, rfl, h1, h2, h3⟩

theorem setC_same {T : List AV} {c : Operand} {q : Bool} (h : evA T c = .v (.bool q)) : setC T c q = T := by
  cases c with
  | tmp t => exact set_same h (by simp)
  | _ => rfl

/-- Every Go function with a body is entered. -/
def Enters (P : Program) : Prop := ∀ g fn, P.funcs[g]? = some fn → fn.body.isSome = true → ∀ args w, (callFunc g args).run P w = .ok (.enter g args) w

def CfOk (P : Program) (M : Nat → Prop) (Q : Ex → List AV → List AB → Prop) (cf : Cf) : Prop :=
  ∀ g avs H Kc (vals : List Value) w ν, (cf g avs H Kc).ok Q → VRs ν avs vals → RH M ν (fun b => H.getD b .gone) w → (∀ i b, ν i = some b → i < H.length) → (∀ k, w.heap.size ≤ k → M k) →
    (∀ args w, (callFunc g args).run P w = .ok (.enter g args) w) ∧
    Calls P g vals.toArray w fun e w' => ∃ v av H' ν', e = .returned v ∧ (Kc av H').ok Q ∧ VR ν' av v ∧ RH M ν' (fun b => H'.getD b .gone) w' ∧ Fr M w w' ∧ Le ν ν' ∧ ∀ i b, ν' i = some b → i < H'.length

theorem cond_ok {Q : Ex → List AV → List AB → Prop} {b : Bool} {x y : Res} (h : (cond b x y).ok Q) : (b = true ∧ x.ok Q) ∨ (b = false ∧ y.ok Q) := by
  cases b
  · exact .inr ⟨rfl, h⟩
  · exact .inl ⟨rfl, h⟩

theorem SR.put {M : Nat → Prop} {w0 : World} {ν0 : Nu} {T : List AV} {H H' : List AB} {a : Act} {w w' : World} {ν ν' : Nu} {dst : Option Tmp} {x : AV} {v : Value} (h : SR M w0 ν0 T H a w ν) (hd : dstOk T dst = true) (hl : Le ν ν') (hv : VR ν' x v) (hH : RH M ν' (fun b => H'.getD b .gone) w') (hf : Fr M w0 w')
    (hdom : ∀ i b, ν' i = some b → i < H'.length) : SR M w0 ν0 (setT T dst x) H' (a.put dst v) w' ν' := by
  have hdst : ∀ d, dst = some d → d < a.tmps.size := by
    intro d e
    have : d < T.length := by simpa [dstOk, e, Nat.blt_eq] using hd
    exact Nat.lt_of_lt_of_le this h.len
  refine ⟨fun t => ?_, hH, hf, hdom, by rw [put_size', setT_length]; exact h.len, h.le.trans hl⟩
  rw [setT_get hd, put_getD hdst]
  split
  · exact hv
  · exact (h.tmps t).le hl

/-- A plain region. -/
theorem seqS_sound {P : Program} {Γ : Gam} (hΓ : GamOk P Γ) {cf : Cf} {M : Nat → Prop} {w0 : World} {ν0 : Nu} (hM : ∀ k, w0.heap.size ≤ k → M k) {Q : Ex → List AV → List AB → Prop} (hcf : CfOk P M Q cf) {all : List Oper} {Qw : Exit → Act → World → Prop} {K : List AV → List AB → Res} :
    ∀ (ops : List Oper) (k : Nat) (T : List AV) (H : List AB) (a : Act) (w : World) (ν : Nu), all.drop k = ops → (execSeq P Γ cf all ops T H K).ok Q → SR M w0 ν0 T H a w ν →
    (∀ T' H' a' w' ν', (K T' H').ok Q → SR M w0 ν0 T' H' a' w' ν' → a'.defers = a.defers → Qw .normal a' w') → wpOps P all.toArray Qw (List.range' k ops.length) a w
  | [], k, T, H, a, w, ν, _, h, hS, hQ => by
    simp only [List.length_nil, List.range'_zero, wpOps]
    exact hQ T H a w ν h hS rfl
  | o :: rest, k, T, H, a, w, ν, hd, h, hS, hQ => by
    have hk : all[k]? = some o := by
      have := congrArg (·[0]?) hd
      simpa using this
    have hd' : all.drop (k + 1) = rest := by
      rw [← List.drop_drop, hd]
      rfl
    have vT : ∀ t, VR ν (T.getD t .dead) (a.tmps.getD t undef) := hS.tmps
    rw [List.length_cons, List.range'_succ, wpOps_cons]
    have skip : wantedA all T o.guard false → (skipS o T H fun T H => execSeq P Γ cf all rest T H K).ok Q → wpOp P all.toArray Qw k (wpOps P all.toArray Qw (List.range' (k + 1) rest.length)) a w := by
      intro hw h
      unfold wpOp
      simp only [List.getElem?_toArray, hk]
      rw [wanted_of hw fun t _ => vT t]
      simp only [Bool.false_eq_true, if_false]
      unfold skipS at h
      rcases cond_ok h with ⟨h1, h2⟩ | ⟨_, h2⟩
      · refine seqS_sound hΓ hM hcf rest (k + 1) _ H _ w ν hd' h2 (hS.put h1 (Le.refl _) (by simp only [VR]) hS.heap hS.fr hS.dom) fun T' H' a' w' ν' hk hS' hdf => hQ T' H' a' w' ν' hk hS' (by rw [hdf, put_defers'])
      · exact h2.elim
    have step : wantedA all T o.guard true → (stepS P Γ cf o T H fun T H => execSeq P Γ cf all rest T H K).ok Q → wpOp P all.toArray Qw k (wpOps P all.toArray Qw (List.range' (k + 1) rest.length)) a w := by
      intro hw h
      unfold wpOp
      simp only [List.getElem?_toArray, hk]
      rw [wanted_of hw fun t _ => vT t]
      simp only [if_true]
      refine .inl ?_
      unfold stepS at h
      simp only [fcD_eq, fcA_eq, fcSp_eq] at h
      split at h
      · rename_i δ hδ
        obtain ⟨ho, h⟩ := needs_ok h
        rcases cond_ok h with ⟨h1, h2⟩ | ⟨_, h2⟩
        · rw [Bool.and_eq_true] at h1
          have hput : ∀ p ∈ δ.put, (H.getD p.1 .gone).wr = true := fun p hp => List.all_eq_true.1 h1.2 p hp
          have hfree : ∀ j, j < δ.new.length → ν (H.length + j) = none := by
            intro j _
            cases hν : ν (H.length + j) with
            | none => rfl
            | some b => have := hS.dom _ b hν; omega
          refine opA_sound hΓ hδ ho (fun z _ => evA_sound fun t _ => vT t) (fun b _ => hS.heap.br b) hS.heap.lt hfree (fun i' c j' b b' hp _ hne hl h1 h2 => hS.heap.sep i' j' b b' hne (hput _ hp) hl h1 h2) fun v w' ν' did => ?_
          have hRH := hS.heap.step (fun k hk => hM k (Nat.le_trans hS.fr.size hk)) did hput hfree
          have e : (fun b => (appH H δ).getD b .gone) = appF H.length δ fun b => H.getD b .gone := by
            funext b
            exact appH_get hput b
          have hdom : ∀ i b, ν' i = some b → i < (appH H δ).length := by
            intro i b hb
            have hl : (appH H δ).length = H.length + δ.new.length := by simp [appH, putA_length]
            rw [hl]
            cases hν : ν i with
            | some b' => have := hS.dom i b' hν; omega
            | none => have := did.dom i hν (by rw [hb]; simp); omega
          refine seqS_sound hΓ hM hcf rest (k + 1) _ _ _ w' ν' hd' h2 (hS.put h1.1 did.le did.val (by rw [e]; exact hRH) (did.fr hS.heap hput hS.fr) hdom) fun T' H' a' w' ν' hk hS' hdf => hQ T' H' a' w' ν' hk hS' (by rw [hdf, put_defers'])
        · exact h2.elim
      · split at h
        · rename_i g avs hg
          obtain ⟨dst, op, ty, pos, after, guard⟩ := o
          unfold inlA at hg
          split at hg
          · rename_i c hop
            simp only at hop
            subst hop
            split at hg
            · rename_i f hcal
              split at hg
              · rename_i g' caps hf
                simp only [Option.some.injEq, Prod.mk.injEq] at hg
                obtain ⟨rfl, rfl⟩ := hg
                have hfv := evA_sound (T := T) (a := a) (ν := ν) (z := f) fun t _ => vT t
                obtain ⟨l, h2, h3⟩ := fnOf_sound hf hfv
                have hargs : VRs ν (c.args.toList.map (evA T)) (c.args.toList.map a.eval) := VRs_map fun x _ => evA_sound fun t _ => vT t
                obtain ⟨c1, c2⟩ := hcf _ _ _ _ _ w ν h (hargs.append h3) hS.heap hS.dom (fun k hk => hM k (Nat.le_trans hS.fr.size hk))
                have he : (execOp a.eval ⟨dst, .call c, ty, pos, after, guard⟩).run P w = .ok (.enter g' (c.args.toList.map a.eval ++ l).toArray) w := by
                  have e : (c.args.map a.eval ++ l.toArray) = (c.args.toList.map a.eval ++ l).toArray := by
                    apply Array.ext'
                    simp
                  rw [← e]
                  simp [execOp, resolve, hcal, h2, Deferred.ofValue, invoke, c1]
                unfold Oper.wp
                rw [he]
                simp only [Oper.upon]
                refine c2.mono ?_
                rintro e w' ⟨v, av, H', ν', rfl, k1, k2, k3, k4, k5, k6⟩
                rcases cond_ok k1 with ⟨d1, d2⟩ | ⟨_, d2⟩
                · exact seqS_sound hΓ hM hcf rest (k + 1) _ _ _ w' ν' hd' d2 (hS.put d1 k5 k2 k3 (hS.fr.trans k4) k6) fun T' H' a' w' ν' hk hS' hdf => hQ T' H' a' w' ν' hk hS' (by rw [hdf, put_defers'])
                · exact d2.elim
              · cases hg
            · cases hg
          · cases hg
        · exact h.elim
    unfold execSeq at h
    cases hg : guardA all T o.guard with
    | fail => rw [hg] at h; exact h.elim
    | go => rw [hg] at h; exact step (by simp [wantedA, hg]) h
    | skip => rw [hg] at h; exact skip (by simp [wantedA, hg]) h
    | ask d b want =>
      rw [hg] at h
      have hdb : T.getD d .dead = .v (.bool b) := by
        unfold guardA at hg
        split at hg
        · cases hg
        · split at hg
          · cases hg
          · split at hg
            · rename_i hh; cases hg; exact hh
            · cases hg
            · cases hg
      have hs : T.set d (.v (.bool b)) = T := set_same hdb (by simp)
      cases b <;> cases want <;> simp only [cond_true, cond_false, hs] at h
      · exact step (by simp [wantedA, hg]) h
      · exact skip (by simp [wantedA, hg]) h
      · exact skip (by simp [wantedA, hg]) h
      · exact step (by simp [wantedA, hg]) h

theorem drawQ {P : Program} {Γ : Gam} (hΓ : GamOk P Γ) (hmix : P.follows .mixedOrders = true) {M : Nat → Prop} {w0 : World} {ν0 : Nu} (hM : ∀ k, w0.heap.size ≤ k → M k) {id : Nat} {ops : Array Oper} {T : List AV} {H : List AB} {K : Kont} {Q : Ex → List AV → List AB → Prop} {a : Act} {w : World} {ν : Nu}
    (h : (execOps P Γ ops.toList ops.toList T H [] fun T' H' tr => cond (drawOk ops.toList tr.reverse) (K .normal T' H') .err).ok Q) (hS : SR M w0 ν0 T H a w ν) (hd : a.defers = []) : (Code.region id ops true).wp P (post M w0 ν0 K Q) a w := by
  obtain ⟨es, T', H', r, h2⟩ := execOps_run h
  rcases cond_ok h2 with ⟨hc, h2⟩ | ⟨_, h2⟩
  · have hB : drawOk ops.toList es = true := by simpa using hc
    refine wp_region_any hmix ?_
    have hS' : SR M w0 ν0 T H a { w with drawn := w.drawn + 1 } ν := ⟨hS.tmps, ⟨fun i => (hS.heap.br i).of_block fun _ _ _ => rfl, hS.heap.sep, hS.heap.own, hS.heap.lt⟩, hS.fr.drew, hS.dom, hS.len, hS.le⟩
    have := any_sound (Q := post M w0 ν0 K Q) hΓ hM r hB hS' fun a' w' ν' h' hd' => ⟨.normal, T', H', ν', rfl, h2, h', hd'.trans hd⟩
    simpa using this
  · exact h2.elim

theorem codeAt_block {id j : Nat} {b c : Code} (h : b ∈ codeAt id c) (hc : c = c) : b ∈ codeAt id c := h

theorem lam_seq {P : Program} {m0 : Nat} {Λ : Nat → Option Sum} {x y : Code} (h : LamOk P m0 Λ (.seq x y)) : LamOk P m0 Λ x ∧ LamOk P m0 Λ y :=
  ⟨fun id S hS b hb => h id S hS b (List.mem_append_left _ hb), fun id S hS b hb => h id S hS b (List.mem_append_right _ hb)⟩
theorem lam_cond {P : Program} {m0 : Nat} {Λ : Nat → Option Sum} {c : Operand} {x y : Code} (h : LamOk P m0 Λ (.cond c x y)) : LamOk P m0 Λ x ∧ LamOk P m0 Λ y :=
  ⟨fun id S hS b hb => h id S hS b (List.mem_append_left _ hb), fun id S hS b hb => h id S hS b (List.mem_append_right _ hb)⟩
theorem lam_block {P : Program} {m0 : Nat} {Λ : Nat → Option Sum} {j : Nat} {x : Code} (h : LamOk P m0 Λ (.block j x)) : LamOk P m0 Λ x ∧ ∀ S, Λ j = some S → SumOk P m0 (.block j x) S :=
  ⟨fun id S hS b hb => h id S hS b (List.mem_append_right _ hb), fun S hS => h j S hS _ (by simp [codeAt])⟩
theorem lam_loop {P : Program} {m0 : Nat} {Λ : Nat → Option Sum} {x : Code} (h : LamOk P m0 Λ (.loop x)) : LamOk P m0 Λ x := fun id S hS b hb => h id S hS b hb

def resV (tmps : Array Value) : ResultVar → Sem Value
  | .tmp t => pure (tmps.getD t undef)
  | .cell a t => do loadVar t (← asAddr (tmps.getD a undef))

theorem results_eq (fn : Func) (tmps : Array Value) : results fn tmps = (do
    let vs ← fn.results.mapM (resV tmps)
    pure (if h : vs.size = 1 then vs[0] else .tuple vs)) := by
  have : (fun r : ResultVar => match r with
    | .tmp t => (pure (tmps.getD t undef) : Sem Value)
    | .cell a t => do loadVar t (← asAddr (tmps.getD a undef))) = resV tmps := by
    funext r
    cases r <;> rfl
  rw [← this]
  rfl

theorem resA_sound {P : Program} {T : List AV} {H : List AB} {ν : Nu} {w : World} {tmps : Array Value} (hT : ∀ t, VR ν (T.getD t .dead) (tmps.getD t undef)) (hr : ∀ i, BR ν i (H.getD i .gone) w) : ∀ {l : List ResultVar} {vs : List AV} {ob : List Bool}, resA P T H l = some (vs, ob) → obls ob = true →
    ∃ rs : List Value, (l.mapM (resV tmps)).run P w = .ok rs w ∧ VRs ν vs rs
  | [], vs, ob, h, _ => by
    simp only [resA, Option.some.injEq, Prod.mk.injEq] at h
    obtain ⟨rfl, rfl⟩ := h
    exact ⟨[], by simp, by simp only [VRs]⟩
  | .tmp t :: l, vs, ob, h, ho => by
    simp only [resA] at h
    split at h
    · rename_i vs' ob' h1
      simp only [Option.some.injEq, Prod.mk.injEq] at h
      obtain ⟨rfl, rfl⟩ := h
      obtain ⟨rs, h2, h3⟩ := resA_sound hT hr h1 ho
      refine ⟨tmps.getD t undef :: rs, ?_, ?_⟩
      · rw [List.mapM_cons]
        simp [resV, h2]
      · simp only [VRs]
        exact ⟨hT t, h3⟩
    · cases h
  | .cell x t :: l, vs, ob, h, ho => by
    simp only [resA] at h
    split at h
    · rename_i δ vs' ob' h0 h1
      simp only [Option.some.injEq, Prod.mk.injEq] at h
      obtain ⟨rfl, rfl⟩ := h
      have ho' : obls δ.obl = true ∧ obls ob' = true := by simpa [obls, List.all_append] using ho
      obtain ⟨rs, h2, h3⟩ := resA_sound hT hr h1 ho'.2
      obtain ⟨v, h4, h5⟩ := loadA_sound h0 ho'.1 (hT x) fun i _ => hr i
      refine ⟨v :: rs, ?_, ?_⟩
      · have hp : ∃ a, tmps.getD x undef = .pointer (some a) := by
          unfold loadA at h0
          split at h0
          · rename_i i w' j k hx
            have := hT x
            rw [hx] at this
            simp only [VR] at this
            obtain ⟨b, _, e⟩ := this
            exact ⟨_, e⟩
          · cases h0
        obtain ⟨a, ha⟩ := hp
        rw [ha] at h4
        have h4' : (loadVar t a).run P w = .ok v w := by simpa [Instr.loadAt, Instr.sureAddr] using h4
        rw [List.mapM_cons]
        simp [resV, ha, asAddr, h4', h2]
      · simp only [VRs]
        exact ⟨h5, h3⟩
    · cases h

theorem results_run {P : Program} {fn : Func} {T : List AV} {H : List AB} {ν : Nu} {w : World} {tmps : Array Value} (hT : ∀ t, VR ν (T.getD t .dead) (tmps.getD t undef)) (hr : ∀ i, BR ν i (H.getD i .gone) w) {vs : List AV} {ob : List Bool} (h : resA P T H fn.results.toList = some (vs, ob)) (ho : obls ob = true) :
    ∃ v, (results fn tmps).run P w = .ok v w ∧ VR ν (oneA vs) v := by
  obtain ⟨rs, h1, h2⟩ := resA_sound hT hr h ho
  have e : (results fn tmps).run P w = .ok (if h : rs.toArray.size = 1 then rs.toArray[0] else .tuple rs.toArray) w := by
    rw [results_eq, Array.mapM_eq_mapM_toList]
    simp only [Sem.run_bind, Sem.run_map]
    rw [h1]
    simp
  refine ⟨_, e, ?_⟩
  match vs, rs, h2 with
  | [x], [y], h2 =>
    simp only [VRs] at h2
    simpa [oneA] using h2.1
  | [], [], h2 =>
    simp only [oneA, VR]
    exact ⟨[], by simp, h2⟩
  | x :: x' :: l, y :: y' :: l', h2 =>
    simp only [oneA, VR]
    exact ⟨_, by simp, h2⟩
  | [_], [], h2 => simp only [VRs] at h2
  | [], _ :: _, h2 => simp only [VRs] at h2
  | [_], _ :: _ :: _, h2 => simp only [VRs] at h2; exact h2.2.elim
  | _ :: _ :: _, [], h2 => simp only [VRs] at h2
  | _ :: _ :: _, [_], h2 => simp only [VRs] at h2; exact h2.2.elim

theorem start_sr {M : Nat → Prop} {avs : List AV} {vals : List Value} {H : List AB} {w : World} {ν : Nu} {fn : Func} (hv : VRs ν avs vals) (hH : RH M ν (fun b => H.getD b .gone) w) (hdom : ∀ i b, ν i = some b → i < H.length) :
    SR M w ν (avs ++ List.replicate (fn.ntmps - avs.length) (.v undef)) H { tmps := vals.toArray ++ Array.replicate (fn.ntmps - vals.toArray.size) undef, defers := [] } w ν := by
  have hlen := hv.length
  refine ⟨fun t => ?_, hH, Fr.refl _ _, hdom, ?_, Le.refl _⟩
  · simp only [List.getD_eq_getElem?_getD, Array.getD_eq_getD_getElem?]
    by_cases ht : t < avs.length
    · obtain ⟨y, hy, hr⟩ := hv.get (List.getElem?_eq_getElem ht)
      rw [List.getElem?_append_left ht, List.getElem?_eq_getElem ht]
      rw [Array.getElem?_append_left (by simpa using hlen ▸ ht)]
      simp only [List.getElem?_toArray, hy]
      exact hr
    · rw [List.getElem?_append_right (by omega)]
      by_cases ht2 : t - avs.length < fn.ntmps - avs.length
      · rw [List.getElem?_replicate, if_pos ht2]
        simp only [Option.getD_some, VR]
        rw [Array.getElem?_append_right (by simp; omega), Array.getElem?_replicate]
        simp [hlen ▸ ht2]
      · rw [List.getElem?_replicate, if_neg ht2]
        simp only [Option.getD_none, VR]
  · simp; omega

theorem fin_post {P : Program} {M : Nat → Prop} {w : World} {ν : Nu} {fn : Func} {Kc : AV → List AB → Res} {Q : Ex → List AV → List AB → Prop} {e : Exit} {a' : Act} {w' : World} (hp : post M w ν (finC P fn Kc) Q e a' w') :
    bodyPost P fn (fun e w' => ∃ v av H' ν', e = .returned v ∧ (Kc av H').ok Q ∧ VR ν' av v ∧ RH M ν' (fun b => H'.getD b .gone) w' ∧ Fr M w w' ∧ Le ν ν' ∧ ∀ i b, ν' i = some b → i < H'.length) e a' w' := by
  obtain ⟨e', T', H', ν', rfl, hk, hS', hd⟩ := hp
  have fin : (match resA P T' H' fn.results.toList with | some (vs, ob) => needs ob (Kc (oneA vs) H') | none => .err : Res).ok Q → a'.defers = [] ∧ ∃ v, (results fn a'.tmps).run P w' = .ok v w' ∧ ∃ v' av H' ν', Ending.returned v = .returned v' ∧ (Kc av H').ok Q ∧ VR ν' av v' ∧ RH M ν' (fun b => H'.getD b .gone) w' ∧ Fr M w w' ∧ Le ν ν' ∧ ∀ i b, ν' i = some b → i < H'.length := by
    intro hk
    split at hk
    · rename_i vs ob hres
      obtain ⟨h1, h2⟩ := needs_ok hk
      obtain ⟨v, h3, h4⟩ := results_run hS'.tmps hS'.heap.br hres h1
      exact ⟨hd, v, h3, v, oneA vs, H', ν', rfl, h2, h4, hS'.heap, hS'.fr, hS'.le, hS'.dom⟩
    · exact hk.elim
  cases e' with
  | normal => exact fin hk
  | ret => exact fin hk
  | exit id => exact hk.elim

/-- CODE. -/
theorem execC_sound {P : Program} {Γ : Gam} (hΓ : GamOk P Γ) (hmix : P.follows .mixedOrders = true) (hent : Enters P) : ∀ (n m0 : Nat) (Λ : Nat → Option Sum) (c : Code), LamOk P m0 Λ c → ∀ (M : Nat → Prop) (w0 : World) (ν0 : Nu), (∀ k, w0.heap.size ≤ k → M k) → (∀ i b, ν0 i = some b → i < m0) → ∀ (T : List AV) (H : List AB) (K : Kont) (Q : Ex → List AV → List AB → Prop) (a : Act) (w : World) (ν : Nu),
    (execC P Γ n Λ c T H K).ok Q → SR M w0 ν0 T H a w ν → a.defers = [] → c.wp P (post M w0 ν0 K Q) a w := by
  intro n
  induction n with
  | zero => intro m0 Λ c _ M w0 ν0 hM hm0 T H K Q a w ν h; exact h.elim
  | succ n ih =>
    intro m0 Λ c hL M w0 ν0 hM hm0 T H K Q a w ν h hS hd
    have halt : ∀ e, (K e T H).ok Q → post M w0 ν0 K Q (Ex.to e) a w := fun e hk => ⟨e, T, H, ν, rfl, hk, hS, hd⟩
    cases c with
    | skip => exact wp_skip (halt .normal h)
    | label l => exact wp_label (halt .normal h)
    | region id ops draw =>
      cases draw with
      | true => exact drawQ hΓ hmix hM h hS hd
      | false =>
        refine wp_region ?_
        simp only [execC, cond_false] at h
        have := seqS_sound (Qw := post M w0 ν0 K Q) (all := ops.toList) hΓ hM (Q := Q) (fun g avs H' Kc vals w' ν' hc hv hH hdom hM' => ?_) ops.toList 0 T H a w ν rfl h hS fun T' H' a' w' ν' hk hS' hd' => ⟨.normal, T', H', ν', rfl, hk, hS', hd'.trans hd⟩
        · rw [← List.range_eq_range'] at this
          simpa using this
        · split at hc
          · rename_i fn hf
            split at hc
            · rename_i c' hb
              rw [fcAs_eq] at hc
              refine ⟨fun args w => hent g fn hf (by rw [hb]; rfl) args w, ?_⟩
              refine calls_of_wp hf hb (wp_mono (ih H'.length (fun _ => none) c' (fun _ _ h => by cases h) M w' ν' hM' hdom _ H' (finC P fn Kc) Q _ w' ν' hc (start_sr hv hH hdom) rfl) fun e a' w'' hp => ?_)
              exact fin_post hp
            · exact hc.elim
          · exact hc.elim
    | seq x y =>
      obtain ⟨hx, hy⟩ := lam_seq hL
      refine wp_seq (wp_mono (ih m0 Λ x hx M w0 ν0 hM hm0 T H _ Q a w ν h hS hd) fun e a' w' hp => post_then hp fun T' H' ν' hk hS' hd' => ih m0 Λ y hy M w0 ν0 hM hm0 T' H' K Q a' w' ν' hk hS' hd')
    | cond c x y =>
      obtain ⟨hx, hy⟩ := lam_cond hL
      simp only [execC] at h
      split at h
      · rename_i q hq
        have hv : a.eval c = .bool q := by
          have := evA_sound (T := T) (a := a) (ν := ν) (z := c) fun t _ => hS.tmps t
          rw [hq] at this
          simpa only [VR] using this
        refine wp_cond hv ?_
        rcases cond_ok h with ⟨rfl, h⟩ | ⟨rfl, h⟩
        · rw [setC_same hq] at h
          exact ih m0 Λ x hx M w0 ν0 hM hm0 T H K Q a w ν h hS hd
        · rw [setC_same hq] at h
          exact ih m0 Λ y hy M w0 ν0 hM hm0 T H K Q a w ν h hS hd
      · exact h.elim
    | block id b =>
      obtain ⟨hb, hs⟩ := lam_block hL
      simp only [execC] at h
      split at h
      · rename_i S hΛ
        exact hs S hΛ M w0 ν0 hM hm0 T H K Q a w ν h hS hd
      · exact wp_block (wp_mono (ih m0 Λ b hb M w0 ν0 hM hm0 T H _ Q a w ν h hS hd) fun e a' w' hp => post_exit hp)
    | loop b =>
      have hb := lam_loop hL
      simp only [execC] at h
      refine wp_loop_rounds n ?_
      have key : ∀ (m : Nat) (T : List AV) (H : List AB) (a : Act) (w : World) (ν : Nu), (iter (execC P Γ n Λ b) m T H K).ok Q → SR M w0 ν0 T H a w ν → a.defers = [] → Code.rounds P b (post M w0 ν0 K Q) m a w := by
        intro m
        induction m with
        | zero => intro T H a w ν h; exact h.elim
        | succ m ihm =>
          intro T H a w ν h hS hd
          rw [rounds_succ]
          exact wp_mono (ih m0 Λ b hb M w0 ν0 hM hm0 T H _ Q a w ν h hS hd) fun e a' w' hp => post_then hp fun T' H' ν' hk hS' hd' => ihm T' H' a' w' ν' hk hS' hd'
      exact key n T H a w ν h hS hd
    | exit id => exact wp_exit (halt (.exit id) h)
    | ret => exact wp_ret (halt .ret h)
    | _ => simp only [execC] at h; exact h.elim

/-- A FUNCTION. -/
def execF (P : Program) (Γ : Gam) (Λ : Nat → Option Sum) (n : Nat) (fn : Func) (avs : List AV) (H : List AB) (Kc : AV → List AB → Res) : Res :=
  match fn.body with
  | some c => fcAs (avs ++ List.replicate (fn.ntmps - avs.length) (.v undef)) fun T => execC P Γ n Λ c T H (finC P fn Kc)
  | none => .err

/-- WHAT A CALL COMES TO. -/
theorem calls_exec {P : Program} {Γ : Gam} (hΓ : GamOk P Γ) (hmix : P.follows .mixedOrders = true) (hent : Enters P) {Λ : Nat → Option Sum} {n : Nat} {f : FuncId} {fn : Func} {avs : List AV} {H : List AB} {ν : Nu} {vals : List Value} {w : World} {Q : Ex → List AV → List AB → Prop} {M : Nat → Prop} {Kc : AV → List AB → Res}
    (hf : P.funcs[f]? = some fn) (hL : ∀ c, fn.body = some c → LamOk P H.length Λ c) (hM : ∀ k, w.heap.size ≤ k → M k) (h : (execF P Γ Λ n fn avs H Kc).ok Q) (hv : VRs ν avs vals) (hH : RH M ν (fun b => H.getD b .gone) w) (hdom : ∀ i b, ν i = some b → i < H.length) :
    Calls P f vals.toArray w fun e w' => ∃ v av H' ν', e = .returned v ∧ (Kc av H').ok Q ∧ VR ν' av v ∧ RH M ν' (fun b => H'.getD b .gone) w' ∧ Fr M w w' ∧ Le ν ν' ∧ ∀ i b, ν' i = some b → i < H'.length := by
  unfold execF at h
  split at h
  · rename_i c hc
    rw [fcAs_eq] at h
    exact calls_of_wp hf hc (wp_mono (execC_sound hΓ hmix hent n H.length Λ c (hL c hc) M w ν hM hdom _ H (finC P fn Kc) Q _ w ν h (start_sr hv hH hdom) rfl) fun e a' w' hp => fin_post hp)
  · exact h.elim

end Go.Proofs.Ytkbdppnlojlcdaa
