/- RowValid of both; the program's transform and TransformOf. Conditions: a row of points. -/
import Derived.Test.YtmdcafhnjihckaaZD0
import Derived.Test.YtmdcafhnjihckaaZD1
import Derived.Test.YtmdcafhnjihckaaZD2
import Derived.Test.YtmdcafhnjihckaaZD3
import Derived.Test.YtmdcafhnjihckaaZD4
import Derived.Test.YtmdcafhnjihckaaZD5
import Derived.Test.YtmdcafhnjihckaaZD6
import Derived.RangeFuncNested
import Derived.RangeFuncBound
import Derived.RangeFuncCalls
import Derived.RangeFuncLeaves
import Derived.LoopNIn
import Derived.OrdersIn
import Derived.TacticsIn
/- The abstract machine, 17: the same, in a frame of a round of a loop over a function. No conditions. -/
namespace Go.Proofs.Ytmdcafhnjihckaa
open Go.RowKit

/-- The wide fence, in a round or not. -/
def wideR (r : Option Nat) : Fence := { Fence.wide with round := r }
theorem wideR_none : wideR none = Fence.wide := rfl
theorem wideR_some (l : Nat) : wideR (some l) = Fence.wide.inRound l := rfl
theorem room_wideR (r : Option Nat) (n : Nat) : (wideR r).room n := fun _ h => by cases h

theorem callsIn_wideR {r : Option Nat} {n : Nat} {P : Program} {f : FuncId} {args : Array Value} {w : World} {R : Ending → World → Prop} (h : Calls P f args w R) : CallsIn (wideR r) n P f args w R := by
  cases r with
  | none => exact callsIn_wide.2 h
  | some l => exact CallsIn.inRound l (callsIn_wide.2 h)

theorem stepsIn_wideR {r : Option Nat} {P : Program} {m m' : Machine} (h : Steps P m m') : StepsIn (Machine.fenced P (wideR r)) P m m' := by
  cases r with
  | none => exact stepsIn_wide.2 h
  | some l => exact stepsIn_wide.2 h

theorem rowsIn_wideR {r : Option Nat} {n : Nat} {P : Program} {row : String} {args : Array Value} {w : World} {R : Value → World → Prop} (h : Rows P row args w R) : RowsIn (wideR r) n P row args w R :=
  fun c cs _ => let ⟨v, w', q, s⟩ := h c cs; ⟨v, w', q, stepsIn_wideR s⟩

theorem op_in {r : Option Nat} {n : Nat} {P : Program} {o : Oper} {a : Act} {w : World} {next : Act → World → Prop} {Q : Exit → Act → World → Prop} (hd : ∀ c, o.op ≠ .defer c) (h : o.wp P a w next Q) : o.wpIn (wideR r) n P a w next Q := by
  refine ⟨fun _ _ => trivial, ?_⟩
  have hs : o.semAt (wideR r).round a.eval = execOp a.eval o := by
    cases r with
    | none => exact Oper.semAt_none _ _
    | some l => exact Oper.semAt_some l _ o hd
  rw [hs]
  unfold Oper.wp at h
  generalize (execOp a.eval o).run P w = R at h
  cases R with
  | ok x w' =>
    cases x with
    | value v => exact h
    | skip => exact h
    | defer d => exact h
    | enter f args => exact ⟨fun hdep => (by cases hdep), callsIn_wideR (h.mono fun e w'' he => by cases e <;> exact he)⟩
    | row row args => exact ⟨fun hdep => (by cases hdep), rowsIn_wideR h⟩
    | round => exact h.elim
    | _ => exact h.elim
  | halt x w' =>
    cases x with
    | panic v => exact h
    | _ => exact h.elim

def noDef (ops : Array Oper) : Bool := ops.toList.all fun o => match o.op with
  | .defer _ => false
  | _ => true
theorem noDef_get {ops : Array Oper} (h : noDef ops = true) {i : Nat} {o : Oper} (ho : ops[i]? = some o) : ∀ c, o.op ≠ .defer c := by
  intro c e
  have hm : o ∈ ops.toList := by
    have := Array.getElem?_eq_some_iff.1 ho
    obtain ⟨hlt, e⟩ := this
    rw [← e]
    simp
  have := List.all_eq_true.1 h o hm
  rw [e] at this
  cases this

theorem wpOp_in {r : Option Nat} {n : Nat} {P : Program} {ops : Array Oper} {Q : Exit → Act → World → Prop} (hd : noDef ops = true) (hQ : ¬ LetsOut Q) {i : Nat} {K : Act → World → Prop} {a : Act} {w : World} (h : wpOp P ops Q i K a w) : wpOpIn (wideR r) n P ops Q i K a w := by
  unfold wpOp at h
  unfold wpOpIn
  cases ho : ops[i]? with
  | none => rw [ho] at h; exact h
  | some o =>
    rw [ho] at h
    simp only at h ⊢
    split at h
    · rename_i hw
      rw [if_pos hw]
      rcases h with h | h
      · exact op_in (noDef_get hd ho) h
      · exact (hQ h.2).elim
    · rename_i hw
      rw [if_neg hw]
      exact ⟨fun _ _ => trivial, h⟩

theorem wpOps_in {r : Option Nat} {n : Nat} {P : Program} {ops : Array Oper} {Q : Exit → Act → World → Prop} (hd : noDef ops = true) (hQ : ¬ LetsOut Q) : ∀ {l : List Nat} {a : Act} {w : World}, wpOps P ops Q l a w → wpOpsIn (wideR r) n P ops Q l a w
  | [], a, w, h => h
  | i :: l, a, w, h => by
    rw [wpOps_cons] at h
    rw [wpOpsIn_cons]
    exact wpOpIn_mono (fun a w h => wpOps_in hd hQ h) (wpOp_in hd hQ h)

theorem wpAny_in {r : Option Nat} {n : Nat} {P : Program} {md : Region.Mode} {ops : Array Oper} {Q : Exit → Act → World → Prop} (hd : noDef ops = true) (hQ : ¬ LetsOut Q) : ∀ {fuel : Nat} {listed : Array Bool} {a : Act} {w : World}, wpAny P md ops Q fuel listed a w → wpAnyIn (wideR r) n P md ops Q fuel listed a w
  | 0, _, _, _, h => h
  | _ + 1, _, _, _, h => ⟨h.1, fun i hi => wpOpIn_mono (fun _ _ h => wpAny_in hd hQ h) (wpOp_in hd hQ (h.2 i hi))⟩

/-- What is known where a piece of code ends; the deferred calls stand as they stood. -/
def postD (ds : List Deferred) (M : Nat → Prop) (w0 : World) (ν0 : Nu) (K : Kont) (Q : Ex → List AV → List AB → Prop) : Exit → Act → World → Prop :=
  fun e a w => ∃ e' T H ν, e = Ex.to e' ∧ (K e' T H).ok Q ∧ SR M w0 ν0 T H a w ν ∧ a.defers = ds

theorem postD_out {ds : List Deferred} {M : Nat → Prop} {w0 : World} {ν0 : Nu} {K : Kont} {Q : Ex → List AV → List AB → Prop} : ¬ LetsOut (postD ds M w0 ν0 K Q) := by
  rintro ⟨a, w, e', T, H, ν, h, _⟩
  cases e' <;> cases h

theorem postD_then {ds : List Deferred} {M : Nat → Prop} {w0 : World} {ν0 : Nu} {K : Kont} {k2 : List AV → List AB → Res} {Q : Ex → List AV → List AB → Prop} {Y : Act → World → Prop} {e : Exit} {a : Act} {w : World} (h : postD ds M w0 ν0 (thenK k2 K) Q e a w)
    (hY : ∀ T H ν, (k2 T H).ok Q → SR M w0 ν0 T H a w ν → a.defers = ds → Y a w) : Exit.then Y (postD ds M w0 ν0 K Q) e a w := by
  obtain ⟨e', T, H, ν, rfl, hk, hS, hd⟩ := h
  cases e' with
  | normal => exact hY T H ν hk hS hd
  | exit id => exact ⟨.exit id, T, H, ν, rfl, hk, hS, hd⟩
  | ret => exact ⟨.ret, T, H, ν, rfl, hk, hS, hd⟩

theorem postD_exit {ds : List Deferred} {M : Nat → Prop} {w0 : World} {ν0 : Nu} {K : Kont} {Q : Ex → List AV → List AB → Prop} {id : Nat} {e : Exit} {a : Act} {w : World} (h : postD ds M w0 ν0 (exitK id K) Q e a w) : Exit.inBlock id (postD ds M w0 ν0 K Q) e a w := by
  obtain ⟨e', T, H, ν, rfl, hk, hS, hd⟩ := h
  cases e' with
  | normal => exact ⟨.normal, T, H, ν, rfl, hk, hS, hd⟩
  | ret => exact ⟨.ret, T, H, ν, rfl, hk, hS, hd⟩
  | exit j =>
    simp only [Ex.to, Exit.inBlock]
    simp only [exitK] at hk
    split
    · rename_i hj
      subst hj
      rw [Nat.beq_refl] at hk
      exact ⟨.normal, T, H, ν, rfl, hk, hS, hd⟩
    · rename_i hj
      cases hb : Nat.beq j id with
      | true => exact (hj (Nat.eq_of_beq_eq_true hb)).elim
      | false =>
        rw [hb] at hk
        exact ⟨.exit j, T, H, ν, rfl, hk, hS, hd⟩

theorem postD_noGoto {ds : List Deferred} {M : Nat → Prop} {w0 : World} {ν0 : Nu} {K : Kont} {Q : Ex → List AV → List AB → Prop} {e : Exit} {a : Act} {w : World} (h : postD ds M w0 ν0 K Q e a w) : Exit.noGoto (postD ds M w0 ν0 K Q) e a w := by
  have h' := h
  obtain ⟨e', T, H, ν, rfl, h1, h2, h3⟩ := h
  cases e' with
  | normal => exact h'
  | ret => exact h'
  | exit j => exact h'
theorem stepR_scope {P : Program} {b : Frame} {a : Act} {k : List Go.Item} {cs : List Frame} {w : World} {c : Code} : step P (lone (b.atR a (.code (.scope c) :: k)) cs w) = .next (lone (b.atR a (.code c :: .inScope c :: k)) cs w) :=
  step_lone_go (by simp [stepG, stepG.exec, Frame.atR])
theorem stepR_inScope {P : Program} {b : Frame} {a : Act} {k : List Go.Item} {cs : List Frame} {w : World} {c : Code} : step P (lone (b.atR a (.inScope c :: k)) cs w) = .next (lone (b.atR a k) cs w) :=
  step_lone_go (by simp [stepG, stepG.exec, Frame.atR])
/-- A scope through which the run goes without a jump. -/
theorem wpIn_scope {F : Fence} {n : Nat} {P : Program} {c : Code} {Q : Exit → Act → World → Prop} {a : Act} {w : World} (h : c.wpIn F n P (Exit.noGoto Q) a w) : (Code.scope c).wpIn F n P Q a w := by
  intro b k cs hro hb hr
  have h0 : (lone (b.atR a (.code (.scope c) :: k)) cs w).fenced P F := fenced_calm hb hr rfl
  obtain ⟨e, a₁, w₁, hq, harr⟩ := h b (.inScope c :: k) cs hro hb hr
  cases e with
  | normal => exact ⟨.normal, a₁, w₁, hq, .head h0 stepR_scope (StepsIn.trans harr (.one (fenced_calm hb hr rfl) stepR_inScope))⟩
  | exit id =>
    have hx : exitTo id (.inScope c :: k) = exitTo id k := by simp [exitTo]
    exact ⟨.exit id, a₁, w₁, hq, fun k' hk => .head h0 stepR_scope (harr.1 k' (by rw [hx]; exact hk)),
      fun hr' hk => let ⟨k₁, h1, h2⟩ := harr.2 hr' (by rw [hx]; exact hk); ⟨k₁, h1, .head h0 stepR_scope h2⟩⟩
  | goto l => exact hq.elim
  | ret => exact ⟨_, a₁, w₁, hq, .of_steps (.one h0 stepR_scope) harr⟩
  | panic ch => exact ⟨_, a₁, w₁, hq, .of_steps (.one h0 stepR_scope) harr⟩
  | outgrown => exact ⟨_, a₁, w₁, hq, .of_steps (.one h0 stepR_scope) harr⟩
def codeDef : Code → Bool
  | .region _ ops _ => noDef ops
  | .seq a b => codeDef a && codeDef b
  | .cond _ a b => codeDef a && codeDef b
  | .block _ c => codeDef c
  | .loop c => codeDef c
  | .scope c => codeDef c
  | _ => true

end Go.Proofs.Ytmdcafhnjihckaa

/- The abstract machine, 18: code, in a frame of a round of a loop over a function. Conditions: those of the table of callees. -/
namespace Go.Proofs.Ytmdcafhnjihckaa
open Go.RowKit

theorem execC_in {P : Program} {Γ : Gam} (hΓ : GamOk P Γ) (hmix : P.follows .mixedOrders = true) (hent : Enters P) (r : Option Nat) (nn : Nat) (ds : List Deferred) : ∀ (n : Nat) (c : Code), codeDef c = true → ∀ (M : Nat → Prop) (w0 : World) (ν0 : Nu), (∀ k, w0.heap.size ≤ k → M k) → ∀ (T : List AV) (H : List AB) (K : Kont) (Q : Ex → List AV → List AB → Prop) (a : Act) (w : World) (ν : Nu),
    (execC P Γ n noLam c T H K).ok Q → SR M w0 ν0 T H a w ν → a.defers = ds → c.wpIn (wideR r) nn P (postD ds M w0 ν0 K Q) a w := by
  intro n
  induction n with
  | zero => intro c _ M w0 ν0 hM T H K Q a w ν h; exact h.elim
  | succ n ih =>
    intro c hD M w0 ν0 hM T H K Q a w ν h hS hd
    have halt : ∀ e, (K e T H).ok Q → postD ds M w0 ν0 K Q (Ex.to e) a w := fun e hk => ⟨e, T, H, ν, rfl, hk, hS, hd⟩
    cases c with
    | skip => exact wpIn_skip (halt .normal h)
    | label l => exact wpIn_label (halt .normal h)
    | region id ops draw =>
      cases draw with
      | true =>
        simp only [execC, cond_true] at h
        obtain ⟨es, T', H', r1, h2⟩ := execOps_run h
        rcases cond_ok h2 with ⟨hc, h2⟩ | ⟨_, h2⟩
        · have hB : drawOk ops.toList es = true := by simpa using hc
          refine wpIn_region_any hmix ?_
          have hS' : SR M w0 ν0 T H a { w with drawn := w.drawn + 1 } ν := ⟨hS.tmps, ⟨fun i => (hS.heap.br i).of_block fun _ _ _ => rfl, hS.heap.sep, hS.heap.own, hS.heap.lt⟩, hS.fr.drew, hS.dom, hS.len, hS.le⟩
          have := any_sound (Q := postD ds M w0 ν0 K Q) hΓ hM r1 hB hS' fun a' w' ν' h' hd' => ⟨.normal, T', H', ν', rfl, h2, h', hd'.trans hd⟩
          exact wpAny_in hD postD_out (by simpa using this)
        · exact h2.elim
      | false =>
        refine wpIn_region ?_
        simp only [execC, cond_false] at h
        have := seqS_sound (Qw := postD ds M w0 ν0 K Q) (all := ops.toList) hΓ hM (Q := Q) (fun g avs H' Kc vals w' ν' hc hv hH hdom hM' => ?_) ops.toList 0 T H a w ν rfl h hS fun T' H' a' w' ν' hk hS' hd' => ⟨.normal, T', H', ν', rfl, hk, hS', hd'.trans hd⟩
        · refine wpOps_in hD postD_out ?_
          rw [← List.range_eq_range'] at this
          simpa using this
        · split at hc
          · rename_i fn hf
            split at hc
            · rename_i c' hb
              rw [fcAs_eq] at hc
              refine ⟨fun args w => hent g fn hf (by rw [hb]; rfl) args w, ?_⟩
              refine calls_of_wp hf hb (wp_mono (execC_sound hΓ hmix hent n H'.length (fun _ => none) c' (fun _ _ h => by cases h) M w' ν' hM' hdom _ H' (finC P fn Kc) Q _ w' ν' hc (start_sr hv hH hdom) rfl) fun e a' w'' hp => ?_)
              exact fin_post hp
            · exact hc.elim
          · exact hc.elim
    | seq x y =>
      simp only [codeDef, Bool.and_eq_true] at hD
      exact wpIn_seq (wpIn_mono (ih x hD.1 M w0 ν0 hM T H _ Q a w ν h hS hd) fun e a' w' hp => postD_then hp fun T' H' ν' hk hS' hd' => ih y hD.2 M w0 ν0 hM T' H' K Q a' w' ν' hk hS' hd')
    | cond c x y =>
      simp only [codeDef, Bool.and_eq_true] at hD
      simp only [execC] at h
      split at h
      · rename_i q hq
        have hv : a.eval c = .bool q := by
          have := evA_sound (T := T) (a := a) (ν := ν) (z := c) fun t _ => hS.tmps t
          rw [hq] at this
          simpa only [VR] using this
        refine wpIn_cond hv ?_
        rcases cond_ok h with ⟨rfl, h⟩ | ⟨rfl, h⟩
        · rw [setC_same hq] at h
          exact ih x hD.1 M w0 ν0 hM T H K Q a w ν h hS hd
        · rw [setC_same hq] at h
          exact ih y hD.2 M w0 ν0 hM T H K Q a w ν h hS hd
      · exact h.elim
    | block id b =>
      simp only [codeDef] at hD
      simp only [execC] at h
      exact wpIn_block (wpIn_mono (ih b hD M w0 ν0 hM T H _ Q a w ν h hS hd) fun e a' w' hp => postD_exit hp)
    | scope b =>
      simp only [codeDef] at hD
      simp only [execC] at h
      exact wpIn_scope (wpIn_mono (ih b hD M w0 ν0 hM T H K Q a w ν h hS hd) fun e a' w' hp => postD_noGoto hp)
    | loop b =>
      simp only [codeDef] at hD
      simp only [execC] at h
      refine wpIn_loop_rounds n ?_
      have key : ∀ (m : Nat) (T : List AV) (H : List AB) (a : Act) (w : World) (ν : Nu), (iter (execC P Γ n noLam b) m T H K).ok Q → SR M w0 ν0 T H a w ν → a.defers = ds → Code.roundsIn (wideR r) nn P b (postD ds M w0 ν0 K Q) m a w := by
        intro m
        induction m with
        | zero => intro T H a w ν h; exact h.elim
        | succ m ihm =>
          intro T H a w ν h hS hd
          rw [roundsIn_succ]
          exact wpIn_mono (ih b hD M w0 ν0 hM T H _ Q a w ν h hS hd) fun e a' w' hp => postD_then hp fun T' H' ν' hk hS' hd' => ihm T' H' a' w' ν' hk hS' hd'
      exact key n T H a w ν h hS hd
    | exit id => exact wpIn_exit (halt (.exit id) h)
    | ret => exact wpIn_ret (halt .ret h)
    | _ => simp only [execC] at h; exact h.elim

end Go.Proofs.Ytmdcafhnjihckaa

/- The abstract machine, 19: a loop over a function: the rounds, on the loop's own frame. Conditions: the word of the function that yields. -/
namespace Go.Proofs.Ytmdcafhnjihckaa
open Go.RowKit

/-- What may turn from here on: the own blocks, and what is new. -/
def ownM (w : World) (ν : Nu) (H : List AB) : Nat → Prop := fun k => w.heap.size ≤ k ∨ ∃ i b, (H.getD i .gone).wr = true ∧ ν i = some b ∧ b.n = k

theorem SR.rebase {M : Nat → Prop} {w0 : World} {ν0 : Nu} {T : List AV} {H : List AB} {a : Act} {w : World} {ν : Nu} (h : SR M w0 ν0 T H a w ν) : SR (ownM w ν H) w ν T H a w ν :=
  ⟨h.tmps, ⟨h.heap.br, h.heap.sep, fun i b hw hb => .inr ⟨i, b, hw, hb, rfl⟩, h.heap.lt⟩, Fr.refl _ _, h.dom, h.len, Le.refl _⟩

theorem SR.unbase {M : Nat → Prop} {w0 : World} {ν0 : Nu} {T T' : List AV} {H H' : List AB} {a a' : Act} {w w' : World} {ν ν' : Nu} (hM : ∀ k, w0.heap.size ≤ k → M k) (h : SR M w0 ν0 T H a w ν) (h' : SR (ownM w ν H) w ν T' H' a' w' ν') : SR M w0 ν0 T' H' a' w' ν' := by
  have hsub : ∀ k, ownM w ν H k → M k := by
    rintro k (hk | ⟨i, b, hw, hb, rfl⟩)
    · exact hM k (Nat.le_trans h.fr.size hk)
    · exact h.heap.own i b hw hb
  exact ⟨h'.tmps, ⟨h'.heap.br, h'.heap.sep, fun i b hw hb => hsub _ (h'.heap.own i b hw hb), h'.heap.lt⟩, h.fr.trans (h'.fr.mono fun k _ hk => hsub k hk), h'.dom, h'.len, h.le.trans h'.le⟩

/-- A block that is no cells turns, or new ones are laid. -/
theorem SR.turn {M : Nat → Prop} {w0 : World} {ν0 : Nu} {T : List AV} {H : List AB} {a : Act} {w w' : World} {ν : Nu} {row : Option Nat} (_ : ∀ k, w0.heap.size ≤ k → M k) (h : SR M w0 ν0 T H a w ν) (hg : w.grownBy w' row)
    (hr : ∀ r, row = some r → w0.heap.size ≤ r ∧ ∃ o : Obj, w.heap[r]? = some o ∧ o.isCells = false) : SR M w0 ν0 T H a w' ν := by
  have hb : ∀ i k, ν i = some k → (H.getD i .gone).live = true → w'.heap[k.n]? = w.heap[k.n]? := by
    intro i k hk hl
    refine hg.block _ (h.heap.lt i k hk) fun e => ?_
    obtain ⟨_, o, ho, hc⟩ := hr _ e.symm
    have hbr := h.heap.br i
    cases hH : H.getD i .gone with
    | cells cs t =>
      rw [hH] at hbr
      obtain ⟨b, l, h1, _, h2, _⟩ := hbr
      rw [hk] at h1
      cases h1
      rw [ho] at h2
      cases h2
      cases hc
    | row rw n s g t =>
      rw [hH] at hbr
      rcases hbr with ⟨_, _, h1⟩ | ⟨b, l, t', fz, h1, h2, _⟩
      · rw [hk] at h1; cases h1
      · rw [hk] at h1
        cases h1
        rw [ho] at h2
        cases h2
        cases hc
    | gone => rw [hH] at hl; cases hl
  refine ⟨h.tmps, ⟨fun i => (h.heap.br i).of_block fun k hk hl => hb i k hk hl, h.heap.sep, h.heap.own, fun i b hi => Nat.lt_of_lt_of_le (h.heap.lt i b hi) hg.size⟩, ?_, h.dom, h.len, h.le⟩
  refine ⟨hg.os.trans h.fr.os, hg.tape.trans h.fr.tape, hg.output.trans h.fr.output, Nat.le_trans h.fr.size hg.size, fun k hk hm => ?_⟩
  rw [hg.block k (Nat.lt_of_lt_of_le hk h.fr.size) fun e => ?_]
  · exact h.fr.block k hk hm
  · have := (hr _ e.symm).1
    omega

/-- yield's arguments in the loop's parameters. -/
def parT : List Tmp → List Value → List AV → List AV
  | p :: ps, v :: vs, T => parT ps vs (T.set p (.v v))
  | _, _, T => T

theorem par_sr {ν : Nu} : ∀ {ps : List Tmp} {vs : List Value} {T : List AV} {t : Array Value}, (∀ p ∈ ps, p < T.length) → T.length ≤ t.size → (∀ i, VR ν (T.getD i .dead) (t.getD i undef)) →
    (∀ i, VR ν ((parT ps vs T).getD i .dead) (((ps.zip vs).foldl (fun t (p, v) => t.setIfInBounds p v) t).getD i undef)) ∧ (parT ps vs T).length ≤ ((ps.zip vs).foldl (fun t (p, v) => t.setIfInBounds p v) t).size
  | [], vs, T, t, _, hl, h => ⟨h, hl⟩
  | p :: ps, [], T, t, _, hl, h => ⟨h, hl⟩
  | p :: ps, v :: vs, T, t, hp, hl, h => by
    simp only [parT, List.zip_cons_cons, List.foldl_cons]
    refine par_sr (by simpa using fun q hq => hp q (List.mem_cons_of_mem _ hq)) (by simpa using hl) fun i => ?_
    have hpl := hp p (by simp)
    by_cases e : p = i
    · subst e
      have h1 : p < t.size := Nat.lt_of_lt_of_le hpl hl
      simp [List.getD_eq_getElem?_getD, Array.getD_eq_getD_getElem?, hpl, h1, VR]
    · simpa [List.getD_eq_getElem?_getD, Array.getD_eq_getD_getElem?, List.getElem?_set, Array.getElem?_setIfInBounds, e] using h i

/-- What a round keeps: old blocks that are not the loop's own. -/
def keepR (w : World) (M : Nat → Prop) (W W' : World) : Prop := W.heap.size ≤ W'.heap.size ∧ ∀ (k : Nat) (o : Obj), k < w.heap.size → ¬ M k → W.heap[k]? = some o → W'.heap[k]? = some o

theorem keepR.trans {w : World} {M : Nat → Prop} {A B C : World} (h : keepR w M A B) (k : keepR w M B C) : keepR w M A C := ⟨Nat.le_trans h.1 k.1, fun i o hi hm ho => k.2 i o hi hm (h.2 i o hi hm ho)⟩

theorem keepR.fr {w : World} {M M' : Nat → Prop} {W W' : World} (hs : w.heap.size ≤ W.heap.size) (hsub : ∀ k, k < w.heap.size → M' k → M k) (h : Fr M' W W') : keepR w M W W' :=
  ⟨h.size, fun k _ hk hm ho => (h.block k (by omega) fun hm' => hm (hsub k hk hm')).trans ho⟩

theorem keepR.put {w : World} {M : Nat → Prop} {W : World} {l : Nat} {o : Obj} (hl : w.heap.size ≤ l) : keepR w M W (W.putObj l o) :=
  ⟨by simp [World.putObj], fun k o' hk _ ho => (World.putObj_heap_other (by omega)).trans ho⟩

def deadK (m : Nat) : Kont := leafK (fun _ => []) m
/-- The loop's assignment, and then its body. -/
def andK (P : Program) (Γ : Gam) (n : Nat) (body : Code) (m : Nat) : Kont := fun e T' H' => match e with
  | .normal => execC P Γ n noLam body T' H' (deadK m)
  | _ => .err

def jumpOf : Ex → Code
  | .ret => .ret
  | .exit id => .exit id
  | .normal => .skip

theorem SR.own_cells {M : Nat → Prop} {w0 : World} {ν0 : Nu} {T : List AV} {H : List AB} {a : Act} {w : World} {ν : Nu} (h : SR M w0 ν0 T H a w ν) {l : Nat} {o : Obj} (hl : w.heap[l]? = some o) (ho : o.isCells = false) : ¬ ownM w ν H l := by
  rintro (hk | ⟨i, b, hw, hb, rfl⟩)
  · rw [Array.getElem?_eq_none hk] at hl; cases hl
  · have hbr := h.heap.br i
    cases hH : H.getD i .gone with
    | cells cs t =>
      rw [hH] at hbr
      obtain ⟨b', l, h1, _, h2, _⟩ := hbr
      rw [hb] at h1
      cases h1
      rw [hl] at h2
      cases h2
      cases ho
    | row rw n s g t =>
      rw [hH] at hbr
      rcases hbr with ⟨_, _, h1⟩ | ⟨b', l, t', fz, h1, h2, _⟩
      · rw [hb] at h1; cases h1
      · rw [hb] at h1
        cases h1
        rw [hl] at h2
        cases h2
        cases ho
    | gone => rw [hH] at hw; cases hw

/-- HOW A ROUND MAY END, in blocks. -/
def RoundQ {α : Type} (lv : Ex → Bool) (hp : List α → List AB) (hx : Ex → List α → List AB) (pre : List α) : Ex → List AV → List AB → Prop := fun e _ H' => match e with
  | .normal => Hsim H' (hp pre)
  | e => lv e = true ∧ Hsim H' (hx e pre)

theorem range_law {α : Type} {P : Program} {Γ : Gam} (hΓ : GamOk P Γ) (hmix : P.follows .mixedOrders = true) (hent : Enters P) {g : Operand} {gf : Nat} {lb : Array Value} {encs : α → List Value} {ps : Array Tmp} {assign body : Code} {S Sp : List α → Prop} {N nn n : Nat} {T : List AV} {a : Act} {w : World} {ν : Nu}
    (hg : a.eval g = .func (.func gf) #[] lb) (eg : ∀ args w, (callFunc gf args).run P w = .ok (.enter gf args) w) (lv : Ex → Bool) (hp : List α → List AB) (hx : Ex → List α → List AB) (hD1 : codeDef assign = true) (hD2 : codeDef body = true)
    {m : Nat} (hm : (hp []).length = m) (h0 : SR (ownM w ν (hp [])) w ν T (hp []) a w ν)
    (hseq : SeqStopsK (wideR none) nn P gf lb (fun x => (encs x).toArray) (keepR w (ownM w ν (hp []))) S Sp N w)
    (hps : ∀ x, (encs x).length = ps.size) (hpT : ∀ p ∈ ps.toList, p < T.length)
    (hround : ∀ pre x, pre.length < N → (execC P Γ n noLam assign (parT ps.toList (encs x) T) (hp pre) (andK P Γ n body m)).ok (RoundQ lv hp hx (pre ++ [x])))
    {Q : Exit → Act → World → Prop}
    (hdone : ∀ D xs W ν', w.heap.size ≤ D → S xs → SR (ownM w ν (hp [])) w ν T (hp xs) a W ν' → W.heap[D]? = some (.deferred (some [])) → Q .normal { a with defers := { target := .collected D, args := #[] } :: a.defers } W)
    (hleave : ∀ D e pre W ν', w.heap.size ≤ D → e ≠ .normal → lv e = true → Sp pre → SR (ownM w ν (hp [])) w ν T (hx e pre) a W ν' → W.heap[D]? = some (.deferred (some [])) → Q (Ex.to e) { a with defers := { target := .collected D, args := #[] } :: a.defers } W) :
    (Code.rangeFunc g ps assign body).wpIn (wideR none) (nn + 1) P Q a w := by
  have hM : ∀ k, w.heap.size ≤ k → ownM w ν (hp []) k := fun k hk => .inl hk
  refine wpIn_rangeFunc fun fn hfn => ?_
  obtain ⟨rec, hrec⟩ : ∃ rec : LoopState → Option Code → Loop, rec = fun st pe => { state := st, pending := pe, fn, tmps := a.tmps, params := ps, assign, body, defers := w.heap.size } := ⟨_, rfl⟩
  obtain ⟨W1, hW1⟩ : ∃ W1, (w.alloc (.deferred (some []))).alloc (.loop (rec .ready none)) = W1 := ⟨_, rfl⟩
  have hsz : W1.heap.size = w.heap.size + 2 := by rw [← hW1]; simp
  have hL1 : W1.heap[w.heap.size + 1]? = some (.loop (rec .ready none)) := by
    rw [← hW1]; have := World.alloc_heap_new (w.alloc (.deferred (some []))) (.loop (rec .ready none)); rwa [World.size_alloc] at this
  have hK1 : W1.heap[w.heap.size]? = some (.deferred (some [])) := by
    rw [← hW1]; exact (Below.heap_alloc _ _ _ (by simp)).trans (World.alloc_heap_new w _)
  have hg1 : w.grownBy W1 none := by
    rw [← hW1]
    have e1 := World.grownBy_alloc w (.deferred (some [])) none
    have e2 := World.grownBy_alloc (w.alloc (.deferred (some []))) (.loop (rec .ready none)) none
    exact ⟨e2.os.trans e1.os, e2.tape.trans e1.tape, e2.output.trans e1.output, Nat.le_trans e1.size e2.size, fun k hk hn => (e2.block k (Nat.lt_of_lt_of_le hk e1.size) hn).trans (e1.block k hk hn)⟩
  have hb1 : Below w.heap.size w W1 := ⟨hg1.os, hg1.tape, hg1.output, hg1.size, fun k hk => hg1.block k hk (by simp)⟩
  -- the caller's word: I
  let I : List α → World → Prop := fun pre W => ∃ ν', SR (ownM w ν (hp [])) w ν T (hp pre) a W ν'
  let Ix : Ex → List α → World → Prop := fun e pre W => (e ≠ .normal ∧ lv e = true) ∧ ∃ ν', SR (ownM w ν (hp [])) w ν T (hx e pre) a W ν'
  have hI : ∀ pre W W' row, I pre W → W.grownBy W' row → (∀ r, row = some r → w.heap.size ≤ r ∧ ∃ o : Obj, W.heap[r]? = some o ∧ o.isCells = false) → I pre W' :=
    fun pre W W' row ⟨ν', hs⟩ hg hr => ⟨ν', hs.turn hM hg hr⟩
  have hIx : ∀ e pre W W' row, Ix e pre W → W.grownBy W' row → (∀ r, row = some r → w.heap.size ≤ r ∧ ∃ o : Obj, W.heap[r]? = some o ∧ o.isCells = false) → Ix e pre W' :=
    fun e pre W W' row ⟨hn, ν', hs⟩ hg hr => ⟨hn, ν', hs.turn hM hg hr⟩
  have hI1 : I [] W1 := hI [] w W1 none ⟨ν, h0⟩ hg1 fun r e => by cases e
  have hnw : ∀ {A : World} {row : Option Nat}, (∀ r, row = some r → W1.heap.size ≤ r ∧ ∃ o : Obj, A.heap[r]? = some o ∧ o.isWalk = true) → (∀ r, row = some r → w.heap.size ≤ r ∧ ∃ o : Obj, A.heap[r]? = some o ∧ o.isCells = false) :=
    fun hr r e => by obtain ⟨hB, o, ho, hw⟩ := hr r e; exact ⟨by omega, o, ho, Obj.not_cells_of_walk hw⟩
  refine ⟨w.heap.size + 1, [{ target := .collected w.heap.size, args := #[] }], W1, { target := .fn (.func gf) lb, args := #[.func (.yield (w.heap.size + 1)) #[] #[]] }, W1, gf,
    #[.func (.yield (w.heap.size + 1)) #[] #[]] ++ lb, W1, ?_, ?_, fun _ _ => trivial, ?_, fun h => (by cases h), ?_⟩
  · rw [← hW1, hrec]; exact run_enterLoop_outer _ _ _ _ _
  · simp only [resolve, hg]
    simp [go_sem]
  · simp [invoke, go_sem, eg]
  · refine (hseq (w.heap.size + 1)
      (fun pre W => I pre W ∧ W.heap[w.heap.size + 1]? = some (.loop (rec .ready none)) ∧ W.heap[w.heap.size]? = some (.deferred (some [])))
      (fun pre W => ∃ e, Ix e pre W ∧ W.heap[w.heap.size + 1]? = some (.loop (rec .done (some (jumpOf e)))) ∧ W.heap[w.heap.size]? = some (.deferred (some [])))
      W1 hb1
      (fun s A B row hs hg' hr => ⟨hI s A B row hs.1 hg' (hnw hr), (grownBy_keeps hg' (fun r e => (hr r e).2) hs.2.1 rfl).trans hs.2.1, (grownBy_keeps hg' (fun r e => (hr r e).2) hs.2.2 rfl).trans hs.2.2⟩)
      (fun s A B row hs hg' hr => by
        obtain ⟨e, hc, hl, hk⟩ := hs
        exact ⟨e, hIx e s A B row hc hg' (hnw hr), (grownBy_keeps hg' (fun r e => (hr r e).2) hl rfl).trans hl, (grownBy_keeps hg' (fun r e => (hr r e).2) hk rfl).trans hk⟩)
      ?_ ⟨hI1, hL1, hK1⟩).mono ?_
    · rintro pre x W ⟨⟨ν', hs⟩, hl, hk⟩ hlen
      have hlt : w.heap.size + 1 < W.heap.size := (Array.getElem?_eq_some_iff.1 hl).1
      have hy := run_yield (P := P) (args := (encs x).toArray) hl (by rw [hrec]; simp [hps x])
      rw [hrec] at hy
      refine ⟨fn, _, assign, body, hy, roundIn_of_wpIn hfn ?_⟩
      have hpar := par_sr (ps := ps.toList) (vs := encs x) (T := T) (t := a.tmps) hpT hs.len hs.tmps
      have hfold : (ps.zip (encs x).toArray).foldl (fun t (p, v) => t.setIfInBounds p v) a.tmps = (ps.toList.zip (encs x)).foldl (fun t (p, v) => t.setIfInBounds p v) a.tmps := by
        rw [← Array.foldl_toList, Array.toList_zip]
      have hstart : SR (ownM w ν (hp [])) w ν (parT ps.toList (encs x) T) (hp pre) { tmps := (ps.toList.zip (encs x)).foldl (fun t (p, v) => t.setIfInBounds p v) a.tmps, defers := [] } W ν' :=
        ⟨hpar.1, hs.heap, hs.fr, hs.dom, hpar.2, hs.le⟩
      have hsub1 : ∀ k, k < w.heap.size → ownM W ν' (hp pre) k → ownM w ν (hp []) k := by
        rintro k hk (hk' | ⟨i, b, hw, hb, rfl⟩)
        · have := hs.fr.size; omega
        · exact hs.heap.own i b hw hb
      have run1 := execC_in hΓ hmix hent (some (w.heap.size + 1)) (nn - 1) [] n assign hD1 (ownM W ν' (hp pre)) W ν' (fun k hk => .inl hk) _ _ _ _ _ W ν' (hround pre x hlen) hstart.rebase rfl
      show assign.wpIn (wideR (some (w.heap.size + 1))) (nn - 1) P _ _ W
      simp only [hfold]
      refine wpIn_mono run1 ?_
      rintro e a1 Wa ⟨e1, T1, H1, ν1, rfl, hk1, hS1, hd1⟩
      cases e1 with
      | exit id => exact hk1.elim
      | ret => exact hk1.elim
      | normal =>
        have hlA : Wa.heap[w.heap.size + 1]? = some (.loop (rec .ready none)) := (hS1.fr.block _ hlt (hs.own_cells hl rfl)).trans hl
        have hkA : Wa.heap[w.heap.size]? = some (.deferred (some [])) := (hS1.fr.block _ (by omega) (hs.own_cells hk rfl)).trans hk
        have hSu := hstart.unbase hM hS1
        refine ⟨_, run_beginRound hlA (by rw [hrec]), ?_⟩
        obtain ⟨W2, hW2⟩ : ∃ W2, Wa.putObj (w.heap.size + 1) (.loop { rec .ready none with state := .busy }) = W2 := ⟨_, rfl⟩
        have hl2 : W2.heap[w.heap.size + 1]? = some (.loop { rec .ready none with state := .busy }) := by rw [← hW2]; exact World.putObj_heap_same (Array.getElem?_eq_some_iff.1 hlA).1
        have hk2 : W2.heap[w.heap.size]? = some (.deferred (some [])) := by rw [← hW2]; exact (World.putObj_heap_other (by omega)).trans hkA
        have hS2 : SR (ownM w ν (hp [])) w ν T1 H1 a1 W2 ν1 := by
          rw [← hW2]
          refine hSu.turn hM (grownBy_putObj' Wa _ _) fun r e => ?_
          cases e
          exact ⟨by omega, _, hlA, rfl⟩
        have hkp2 : keepR w (ownM w ν (hp [])) W W2 := by
          rw [← hW2]
          exact (keepR.fr (hs.fr.size) hsub1 hS1.fr).trans (keepR.put (by omega))
        rw [hW2]
        have hsub2 : ∀ k, k < w.heap.size → ownM W2 ν1 H1 k → ownM w ν (hp []) k := by
          rintro k hk (hk' | ⟨i, b, hw, hb, rfl⟩)
          · have := hS2.fr.size; omega
          · exact hS2.heap.own i b hw hb
        have run2 := execC_in hΓ hmix hent (some (w.heap.size + 1)) (nn - 1) [] n body hD2 (ownM W2 ν1 H1) W2 ν1 (fun k hk => .inl hk) _ _ _ _ a1 W2 ν1 hk1 hS2.rebase hd1
        refine wpIn_mono run2 ?_
        rintro e a2 W3 ⟨e2, T2, H2, ν2, rfl, hk3, hS3, hd3⟩
        have hl3 : W3.heap[w.heap.size + 1]? = some (.loop { rec .ready none with state := .busy }) := (hS3.fr.block _ (Array.getElem?_eq_some_iff.1 hl2).1 (hS2.own_cells hl2 rfl)).trans hl2
        have hk3' : W3.heap[w.heap.size]? = some (.deferred (some [])) := (hS3.fr.block _ (Array.getElem?_eq_some_iff.1 hk2).1 (hS2.own_cells hk2 rfl)).trans hk2
        have hS4 := hS2.unbase hM hS3
        have hkp3 := hkp2.trans (keepR.fr hS2.fr.size hsub2 hS3.fr)
        unfold deadK leafK at hk3
        split at hk3
        · rename_i p hwk
          have hS5 := weak_sound hwk hS4 (by rw [← hm]; exact h0.dom)
          have fin : ∀ (jump : Option Code), (Instr.endRound (w.heap.size + 1) jump).run P W3 = .ok (.bool jump.isNone) (W3.putObj (w.heap.size + 1) (.loop (rec (if jump.isNone then .ready else .done) jump))) ∧
              (W3.putObj (w.heap.size + 1) (.loop (rec (if jump.isNone then .ready else .done) jump))).heap[w.heap.size + 1]? = some (.loop (rec (if jump.isNone then .ready else .done) jump)) ∧
              (W3.putObj (w.heap.size + 1) (.loop (rec (if jump.isNone then .ready else .done) jump))).heap[w.heap.size]? = some (.deferred (some [])) ∧ ∀ HH ν3, SR (ownM w ν (hp [])) w ν p.1 HH a2 W3 ν3 → SR (ownM w ν (hp [])) w ν T HH a (W3.putObj (w.heap.size + 1) (.loop (rec (if jump.isNone then .ready else .done) jump))) ν3 := fun jump => by
            have := run_endRound (P := P) jump hl3
            rw [hrec] at this ⊢
            refine ⟨this, World.putObj_heap_same (Array.getElem?_eq_some_iff.1 hl3).1, (World.putObj_heap_other (by omega)).trans hk3', fun HH ν3 hh => ?_⟩
            have h1 : SR (ownM w ν (hp [])) w ν T HH a W3 ν3 := ⟨fun t => (h0.tmps t).le hh.le, hh.heap, hh.fr, hh.dom, h0.len, hh.le⟩
            refine h1.turn hM (grownBy_putObj' W3 _ _) fun r e => ?_
            cases e
            exact ⟨by omega, _, hl3, rfl⟩
          cases e2 with
          | normal =>
            obtain ⟨f1, f2, f3, f4⟩ := fin none
            exact ⟨_, _, f1, .inl ⟨rfl, ⟨⟨_, f4 _ _ (hS5.sim hk3)⟩, f2, f3⟩, hkp3.trans (keepR.put (by omega))⟩⟩
          | ret =>
            obtain ⟨f1, f2, f3, f4⟩ := fin (some .ret)
            exact ⟨_, _, f1, .inr ⟨rfl, .ret, ⟨⟨(by simp), hk3.1⟩, _, f4 _ _ (hS5.sim hk3.2)⟩, f2, f3⟩⟩
          | exit id =>
            obtain ⟨f1, f2, f3, f4⟩ := fin (some (.exit id))
            exact ⟨_, _, f1, .inr ⟨rfl, .exit id, ⟨⟨(by simp), hk3.1⟩, _, f4 _ _ (hS5.sim hk3.2)⟩, f2, f3⟩⟩
        · exact hk3.elim
    · rintro e W2 ⟨⟨v, rfl⟩, (⟨xs, hS, ⟨ν', hi⟩, hl, hk⟩ | ⟨pre, hSp, e, ⟨hne, ν', hi⟩, hl, hk⟩)⟩
      · have hend := run_endLoop (P := P) hl (by rw [hrec]; simp)
        rw [hrec] at hend
        refine ⟨none, _, hend, hdone _ xs _ ν' (Nat.le_refl _) hS (hi.turn hM (grownBy_putObj' W2 _ _) fun r e => ?_) ((World.putObj_heap_other (by omega)).trans hk)⟩
        cases e
        exact ⟨by omega, _, hl, rfl⟩
      · have hend := run_endLoop (P := P) hl (by rw [hrec]; simp)
        rw [hrec] at hend
        have hi' := hi.turn (w' := W2.putObj (w.heap.size + 1) (.loop { rec .done (some (jumpOf e)) with state := .exhausted })) hM (grownBy_putObj' W2 _ _) fun r e => by
          cases e
          exact ⟨by omega, _, hl, rfl⟩
        have hk' : (W2.putObj (w.heap.size + 1) (.loop { rec .done (some (jumpOf e)) with state := .exhausted })).heap[w.heap.size]? = some (.deferred (some [])) := (World.putObj_heap_other (by omega)).trans hk
        rw [hrec] at hi' hk'
        refine ⟨_, _, hend, ?_⟩
        cases e with
        | normal => exact (hne.1 rfl).elim
        | ret => exact wpIn_ret (hleave _ .ret pre _ ν' (Nat.le_refl _) hne.1 hne.2 hSp hi' hk')
        | exit id => exact wpIn_exit (hleave _ (.exit id) pre _ ν' (Nat.le_refl _) hne.1 hne.2 hSp hi' hk')

end Go.Proofs.Ytmdcafhnjihckaa

/- The abstract machine, 21: a function whose body holds a loop over a function. Conditions: the word of the function that yields. -/
namespace Go.Proofs.Ytmdcafhnjihckaa
open Go.RowKit

def nestL : List Code → Code → Code
  | [], z => z
  | c :: cs, z => .seq c (nestL cs z)
def execL (P : Program) (Γ : Gam) (n : Nat) : List Code → List AV → List AB → Kont → Res
  | [], T, H, K => K .normal T H
  | c :: cs, T, H, K => execC P Γ n noLam c T H (fun e T' H' => match e with
    | .normal => execL P Γ n cs T' H' K
    | _ => .err)

theorem execL_in {P : Program} {Γ : Gam} (hΓ : GamOk P Γ) (hmix : P.follows .mixedOrders = true) (hent : Enters P) (nn n : Nat) {M : Nat → Prop} {w0 : World} {ν0 : Nu} (hM : ∀ k, w0.heap.size ≤ k → M k) {K : Kont} {Q : Ex → List AV → List AB → Prop} {z : Code} {Qw : Exit → Act → World → Prop}
    (hz : ∀ T H a w ν, (K .normal T H).ok Q → SR M w0 ν0 T H a w ν → a.defers = [] → z.wpIn (wideR none) nn P Qw a w) :
    ∀ (cs : List Code), cs.all codeDef = true → ∀ T H a w ν, (execL P Γ n cs T H K).ok Q → SR M w0 ν0 T H a w ν → a.defers = [] → (nestL cs z).wpIn (wideR none) nn P Qw a w
  | [], _, T, H, a, w, ν, h, hS, hd => hz T H a w ν h hS hd
  | c :: cs, hD, T, H, a, w, ν, h, hS, hd => by
    simp only [List.all_cons, Bool.and_eq_true] at hD
    refine wpIn_seq (wpIn_mono (execC_in hΓ hmix hent none nn [] n c hD.1 M w0 ν0 hM T H _ Q a w ν h hS hd) ?_)
    rintro e a' w' ⟨e', T', H', ν', rfl, hk, hS', hd'⟩
    cases e' with
    | normal => exact execL_in hΓ hmix hent nn n hM hz cs hD.2 T' H' a' w' ν' hk hS' hd'
    | exit id => exact hk.elim
    | ret => exact hk.elim

/-- Less is known. -/
theorem SR.less {M : Nat → Prop} {w0 : World} {ν0 : Nu} {T T' : List AV} {H H' : List AB} {a : Act} {w : World} {ν : Nu} (h : SR M w0 ν0 T H a w ν) (hl : T'.length = T.length) (hT : ∀ t, T'.getD t .dead = T.getD t .dead ∨ T'.getD t .dead = .dead) (hn : H'.length = H.length) (hH : ∀ i, H'.getD i .gone = H.getD i .gone ∨ H'.getD i .gone = .gone) : SR M w0 ν0 T' H' a w ν := by
  refine ⟨fun t => ?_, ⟨fun i => ?_, fun i j b b' hne hw hlv => ?_, fun i b hw => ?_, h.heap.lt⟩, h.fr, fun i b hb => by rw [hn]; exact h.dom i b hb, by rw [hl]; exact h.len, h.le⟩
  · rcases hT t with e | e
    · rw [e]; exact h.tmps t
    · rw [e]; simp only [VR]
  · rcases hH i with e | e
    · simp only [e]; exact h.heap.br i
    · simp only [e]; trivial
  · refine h.heap.sep i j b b' hne ?_ ?_
    · rcases hH i with e | e
      · rw [e] at hw; exact hw
      · rw [e] at hw; cases hw
    · rcases hH j with e | e
      · rw [e] at hlv; exact hlv
      · rw [e] at hlv; cases hlv
  · refine h.heap.own i b ?_
    rcases hH i with e | e
    · rw [e] at hw; exact hw
    · rw [e] at hw; cases hw

theorem mask_less {T TT : List AV} {live : List Nat} (h : T = maskT live 0 TT) (t : Nat) : T.getD t .dead = TT.getD t .dead ∨ T.getD t .dead = .dead := by
  subst h
  rw [maskT_get]
  split
  · exact .inl rfl
  · exact .inr rfl

/-- Behind the loop. -/
def behind (P : Program) (Γ : Gam) (n : Nat) (fn : Func) (id : Nat) (rest : Code) (Kc : AV → List AB → Res) : Kont :=
  exitK id (thenK (fun T H => execC P Γ n noLam rest T H (finC P fn Kc)) (finC P fn Kc))

theorem calls_range {α : Type} {P : Program} {Γ : Gam} (hΓ : GamOk P Γ) (hmix : P.follows .mixedOrders = true) (hent : Enters P) {f : FuncId} {fn : Func} (hf : P.funcs[f]? = some fn) {pre : List Code} {p2 rest assign body : Code} {id : Nat} {g : Operand} {ps : Array Tmp}
    (hb : fn.body = some (nestL pre (.seq (.seq p2 (.block id (.rangeFunc g ps assign body))) rest))) (hDp : pre.all codeDef = true) (hD2 : codeDef p2 = true) (hDr : codeDef rest = true) (hDa : codeDef assign = true) (hDb : codeDef body = true) {n nn : Nat}
    {avs : List AV} {TT : List AV} {HH H0 : List AB} {lvp : Ex → List Nat} {gf : Nat} {cs : List AV} {encs : α → List Value} {S Sp : List α → Prop} {N : Nat} {Q : Ex → List AV → List AB → Prop}
    (hpre : (execL P Γ n (pre ++ [p2]) (avs ++ List.replicate (fn.ntmps - avs.length) (.v undef)) H0 (leafK lvp H0.length)).ok (fun e T' H' => e = .normal ∧ T' = TT ∧ H' = HH)) (hg : evA TT g = .fn gf cs)
    (T : List AV) (hTl : T.length = TT.length) (hT : ∀ t, T.getD t .dead = TT.getD t .dead ∨ T.getD t .dead = .dead) (lv : Ex → Bool) (hp : List α → List AB) (hx : Ex → List α → List AB) (hHl : (hp []).length = HH.length) (hH : ∀ i, (hp []).getD i .gone = HH.getD i .gone ∨ (hp []).getD i .gone = .gone)
    (eg : ∀ args w, (callFunc gf args).run P w = .ok (.enter gf args) w)
    (hIter : ∀ W ν1 a1 lb, SR (ownM W ν1 HH) W ν1 TT HH a1 W ν1 → VRs ν1 cs lb → SeqStopsK (wideR none) nn P gf lb.toArray (fun x => (encs x).toArray) (keepR W (ownM W ν1 (hp []))) S Sp N W)
    (hps : ∀ x, (encs x).length = ps.size) (hpT : ∀ p ∈ ps.toList, p < T.length)
    (hround : ∀ pre x, pre.length < N → (execC P Γ n noLam assign (parT ps.toList (encs x) T) (hp pre) (andK P Γ n body HH.length)).ok (RoundQ lv hp hx (pre ++ [x])))
    (hdone : ∀ xs, S xs → (behind P Γ n fn id rest (packK H0.length) .normal T (hp xs)).ok Q)
    (hleave : ∀ e pre, e ≠ .normal → lv e = true → Sp pre → (behind P Γ n fn id rest (packK H0.length) e T (hx e pre)).ok Q) :
    ∀ (M : Nat → Prop) (vals : List Value) (w : World) (ν : Nu), (∀ k, w.heap.size ≤ k → M k) → VRs ν avs vals → RH M ν (fun b => H0.getD b .gone) w → (∀ i b, ν i = some b → i < H0.length) →
      Calls P f vals.toArray w (RetG Q M ν w) := by
  intro M vals w ν hM hv hR hdom
  rw [← callsIn_wide (n := nn + 1), ← wideR_none]
  refine callsIn_of_wp_marks hf hb trivial ?_
  have hst := start_sr (fn := fn) hv hR hdom
  -- the end of the function, deferred calls and all
  have leave : ∀ (e : Exit) (e' : Ex) (D : Nat) (T' : List AV) (H' : List AB) (a' : Act) (w' : World) (ν' : Nu), (e = .normal ∨ e = .ret) → a'.defers = [{ target := .collected D, args := #[] }] → (finC P fn (packK H0.length) .ret T' H').ok Q → SR M w ν T' H' a' w' ν' → w.heap.size ≤ D → w'.heap[D]? = some (.deferred (some [])) →
      bodyPostM (wideR none) (nn + 1) P fn (RetG Q M ν w) e a' w' := by
    intro e e' D T' H' a' w' ν' he hd hk hS hDl hDd
    have key : LeavesInM (wideR none) (nn + 1) P fn a'.tmps (RetG Q M ν w) a'.defers .returning w' := by
      rw [hd]
      refine ⟨by simp, .inl ⟨D, _, rfl, run_takeDeferred hDd, ?_⟩⟩
      have hS' := hS.turn (w' := w'.putObj D (.deferred none)) hM (grownBy_putObj' w' D _) fun r e => by
        cases e
        exact ⟨hDl, _, hDd, rfl⟩
      simp only [finC] at hk
      split at hk
      · rename_i vs ob hres
        obtain ⟨h1, h2⟩ := needs_ok hk
        obtain ⟨v, h3, h4⟩ := results_run hS'.tmps hS'.heap.br hres h1
        refine ⟨v, h3, ?_⟩
        unfold packK at h2
        split at h2
        · rename_i p hp'
          have hSo : SR M w ν [oneA vs] H' { tmps := #[v], defers := [] } (w'.putObj D (.deferred none)) ν' := by
            refine ⟨fun t => ?_, hS'.heap, hS'.fr, hS'.dom, by simp, hS'.le⟩
            cases t with
            | zero => simpa using h4
            | succ t => simp only [List.getD_cons_succ, List.getD_nil, VR]
          have hW := weak_sound hp' hSo hdom
          have hp1 : p.1.length = 1 := by
            have := hp'
            unfold weak at this
            split at this
            · rename_i T1 H1 hT hH1
              cases hc : (nodupB (keepOf H0.length (maskT [0] 0 [oneA vs]) H') && (keepOf H0.length (maskT [0] 0 [oneA vs]) H').take H0.length == upN 0 H0.length) with
              | false => rw [hc] at this; cases this
              | true =>
                rw [hc] at this
                cases this
                have := renAs_length hT
                simpa [maskT] using this
            · cases this
          match hp2 : p.1, hp1 with
          | [av'], _ =>
            rw [hp2] at h2 hW
            exact ⟨v, av', p.2, _, rfl, h2, by simpa using hW.tmps 0, hW.heap, hW.fr, hW.le, hW.dom⟩
        · exact h2.elim
      · exact hk.elim
    rcases he with rfl | rfl
    · exact key
    · exact key
  -- behind the loop: from what holds there
  have after : ∀ (e : Ex) (D : Nat) (T' : List AV) (H' : List AB) (a' : Act) (w' : World) (ν' : Nu), a'.defers = [{ target := .collected D, args := #[] }] → (behind P Γ n fn id rest (packK H0.length) e T' H').ok Q → SR M w ν T' H' a' w' ν' → w.heap.size ≤ D → w'.heap[D]? = some (.deferred (some [])) →
      Exit.inBlock id (Exit.then (rest.wpIn (wideR none) (nn + 1) P (bodyPostM (wideR none) (nn + 1) P fn (RetG Q M ν w))) (bodyPostM (wideR none) (nn + 1) P fn (RetG Q M ν w))) (Ex.to e) a' w' := by
    intro e D T' H' a' w' ν' hd hk hS hDl hDd
    have run : (execC P Γ n noLam rest T' H' (finC P fn (packK H0.length))).ok Q → rest.wpIn (wideR none) (nn + 1) P (bodyPostM (wideR none) (nn + 1) P fn (RetG Q M ν w)) a' w' := by
      intro hk
      refine wpIn_mono (execC_in hΓ hmix hent none (nn + 1) _ n rest hDr (ownM w' ν' H') w' ν' (fun k hk => .inl hk) T' H' _ Q a' w' ν' hk hS.rebase hd) ?_
      rintro e a2 w2 ⟨e2, T2, H2, ν2, rfl, hk2, hS2, hd2⟩
      have hD2 : w2.heap[D]? = some (.deferred (some [])) := (hS2.fr.block D (Array.getElem?_eq_some_iff.1 hDd).1 (hS.own_cells hDd rfl)).trans hDd
      have hS3 := hS.unbase hM hS2
      cases e2 with
      | normal => exact leave _ .normal D T2 H2 a2 w2 ν2 (.inl rfl) hd2 hk2 hS3 hDl hD2
      | ret => exact leave _ .ret D T2 H2 a2 w2 ν2 (.inr rfl) hd2 hk2 hS3 hDl hD2
      | exit j => exact hk2.elim
    cases e with
    | normal => exact run hk
    | ret => exact leave .ret .ret D T' H' a' w' ν' (.inr rfl) hd hk hS hDl hDd
    | exit j =>
      simp only [behind, exitK] at hk
      simp only [Ex.to, Exit.inBlock]
      cases hj : Nat.beq j id with
      | true =>
        rw [hj] at hk
        rw [if_pos (Nat.eq_of_beq_eq_true hj)]
        exact run hk
      | false =>
        rw [hj] at hk
        exact hk.elim
  have hpre' : (execL P Γ n pre (avs ++ List.replicate (fn.ntmps - avs.length) (.v undef)) H0 (fun e T' H' => match e with
      | .normal => execL P Γ n [p2] T' H' (leafK lvp H0.length)
      | _ => .err)).ok (fun e T' H' => e = .normal ∧ T' = TT ∧ H' = HH) := by
    have app : ∀ (l : List Code) (T : List AV) (H : List AB), execL P Γ n (l ++ [p2]) T H (leafK lvp H0.length) = execL P Γ n l T H (fun e T' H' => match e with
      | .normal => execL P Γ n [p2] T' H' (leafK lvp H0.length)
      | _ => .err) := by
      intro l
      induction l with
      | nil => intro T H; rfl
      | cons c l ih =>
        intro T H
        simp only [List.cons_append, execL]
        congr 1
        funext e T' H'
        cases e with
        | normal => exact ih T' H'
        | _ => rfl
    rw [← app]
    exact hpre
  refine execL_in hΓ hmix hent (nn + 1) n hM (fun T2 H2 a2 w2 ν2 hk2 hS2 hd2 => ?_) pre hDp _ _ _ _ _ hpre' hst rfl
  refine wpIn_seq (wpIn_seq (wpIn_mono (execC_in hΓ hmix hent none (nn + 1) [] n p2 hD2 M w ν hM T2 H2 _ _ a2 w2 ν2 hk2 hS2 hd2) ?_))
  rintro e a3 w3 ⟨e3, T3, H3, ν3, rfl, hk3, hS3, hd3⟩
  cases e3 with
  | exit j => exact hk3.elim
  | ret => exact hk3.elim
  | normal =>
    simp only [execL] at hk3
    unfold leafK at hk3
    split at hk3
    · rename_i p hwk
      obtain ⟨_, hp1, hp2⟩ := hk3
      have hS4 := weak_sound hwk hS3 hdom
      rw [hp1, hp2] at hS4
      generalize keepNu (keepOf H0.length (maskT (lvp .normal) 0 T3) H3) ν3 = ν4 at hS4
      have hSr := hS4.rebase
      have hgv : VR ν4 (.fn gf cs) (a3.eval g) := by
        have := evA_sound (T := TT) (a := a3) (ν := ν4) (z := g) fun t _ => hS4.tmps t
        rw [hg] at this
        exact this
      simp only [VR] at hgv
      obtain ⟨lb, hlb, hvs⟩ := hgv
      have hS5 : SR (ownM w3 ν4 (hp [])) w3 ν4 T (hp []) a3 w3 ν4 := (hS4.less (T' := T) (H' := hp []) hTl hT hHl hH).rebase
      have hS5M : SR M w ν T (hp []) a3 w3 ν4 := hS4.less (T' := T) (H' := hp []) hTl hT hHl hH
      show (Code.block id (.rangeFunc g ps assign body)).wpIn (wideR none) (nn + 1) P _ a3 w3
      refine wpIn_block ?_
      have sz := hS4.fr.size
      refine range_law hΓ hmix hent hlb eg lv hp hx hDa hDb hHl hS5 (hIter w3 ν4 a3 lb hSr hvs) hps hpT hround (fun D xs W ν' hD hs hS hDd => ?_) (fun D e pre W ν' hD hne hlv hs hS hDd => ?_)
      · refine after .normal D T (hp xs) _ W ν' (by rw [← hd3]) (hdone xs hs) ?_ (by omega) hDd
        have := hS5M.unbase hM hS
        exact ⟨this.tmps, this.heap, this.fr, this.dom, this.len, this.le⟩
      · refine after e D T (hx e pre) _ W ν' (by rw [← hd3]) (hleave e pre hne hlv hs) ?_ (by omega) hDd
        have := hS5M.unbase hM hS
        exact ⟨this.tmps, this.heap, this.fr, this.dom, this.len, this.le⟩
    · exact hk3.elim

end Go.Proofs.Ytmdcafhnjihckaa

/- The abstract machine, 20: a region that draws its order, up to an operation behind which all is in line. Conditions: those of the table of callees. -/
namespace Go.Proofs.Ytmdcafhnjihckaa
open Go.RowKit

/-- From k on each operation stands behind all of the first k. -/
def tailOk (k : Nat) (all : List Oper) : Bool := (List.range all.length).all fun i => Nat.blt i k || (List.range k).all fun j => ((befL all []).getD i 0).testBit j
def cutL (k n : Nat) : Array Bool := ((List.range n).map fun j => decide (j < k)).toArray

theorem cut_count : ∀ {k n : Nat}, k ≤ n → (((List.range n).map fun j => decide (j < k)).toArray.toList).count false = n - k := by
  intro k n
  induction n with
  | zero => intro h; simp
  | succ n ih =>
    intro h
    simp only [List.range_succ, List.map_append, List.map_cons, List.map_nil, List.count_append] at ih ⊢
    by_cases hk : k ≤ n
    · rw [ih hk, decide_eq_false (by omega)]
      simp
      omega
    · have : k = n + 1 := by omega
      subst this
      have h0 : ((List.range n).map fun j => decide (j < n + 1)).count false = 0 := by
        rw [List.count_eq_zero]
        intro hm
        obtain ⟨j, hj, e⟩ := List.mem_map.1 hm
        have := List.mem_range.1 hj
        simp at e
        omega
      rw [h0, decide_eq_true (by omega)]
      simp

theorem zip_take : ∀ (l : List Oper) (es : List Ent), List.zipWith Item.mk (l.take es.length) es = List.zipWith Item.mk l es
  | [], es => by simp
  | o :: l, [] => by simp
  | o :: l, e :: es => by simp [zip_take l es]

theorem any_cut {P : Program} {Γ : Gam} (hΓ : GamOk P Γ) {nn k : Nat} {all : List Oper} {es : List Ent} {M : Nat → Prop} {w0 : World} {ν0 : Nu} (hM : ∀ k, w0.heap.size ≤ k → M k) {T : List AV} {H : List AB} {T' : List AV} {H' : List AB} (r : RunOk P Γ all (all.take k) es T H T' H') (hkl : k ≤ all.length) (hnd : noDef all.toArray = true) (hB : drawOk all es = true) (hC : tailOk k all = true)
    {a : Act} {w : World} {ν : Nu} {Q : Exit → Act → World → Prop} (hQo : ¬ LetsOut Q) (h : SR M w0 ν0 T H a w ν) (hQ : ∀ a' w' ν', SR M w0 ν0 T' H' a' w' ν' → a'.defers = a.defers → wpAnyIn (wideR none) nn P .any all.toArray Q (all.length - k) (cutL k all.length) a' w') : wpAnyIn (wideR none) nn P .any all.toArray Q all.length (Array.replicate all.length false) a w := by
  have rl : es.length = k := by rw [run_len r]; simp; omega
  have hitems : items (all.take k) es = items all es := by
    simp only [items]
    rw [← rl]
    exact zip_take all es
  have ra : RunAt P Γ all all es T H T' H' := by
    have r0 := run_at r
    have := r0.at_
    exact ⟨by omega, r0.lenT, r0.lenH, by rw [← hitems]; exact r0.at_, by rw [← hitems]; exact r0.endT, by rw [← hitems]; exact r0.endH, by rw [← hitems]; exact r0.base, by rw [← hitems]; exact r0.apart, by rw [← hitems]; exact r0.lt⟩
  have hlen : (items all es).length = k := by simp [items, rl]; omega
  simp only [drawOk, Bool.and_eq_true] at hB
  obtain ⟨hB1, hB2⟩ := hB
  have edges : ∀ (i : Nat) o, all[i]? = some o → ∀ e ∈ o.after, Region.binds .any e = true → e.on < i := fun i o ho e he hb => by simpa using edgesOk_spec hB1 i o ho e he hb
  have races : ∀ (i j : Nat) x y, i < j → (items all es)[i]? = some x → (items all es)[j]? = some y → ((befL all []).getD j 0).testBit i = true ∨ apartI all.toArray x y = true := fun i j x y hij hx hy => raceFree_spec hB2 j y hy i x (by simpa using hij) (by simpa using hx)
  have key : ∀ (f : Nat) (listed : Array Bool) (a' : Act) (w' : World) (ν' : Nu), listed.size = all.length → listed.toList.count false = f → Closed all (fun j => listed.getD j false) → (∀ j, k ≤ j → listed.getD j false = false) →
      Stage M w0 ν0 T.length H.length (fun t => T.getD t .dead) (fun b => H.getD b .gone) (items all es) (fun j => listed.getD j false) a' w' ν' → a'.defers = a.defers → wpAnyIn (wideR none) nn P .any all.toArray Q f listed a' w' := by
    intro f
    have fin : ∀ (f : Nat) (listed : Array Bool) (a' : Act) (w' : World) (ν' : Nu), listed.size = all.length → listed.toList.count false = f → (∀ j, k ≤ j → listed.getD j false = false) →
        Stage M w0 ν0 T.length H.length (fun t => T.getD t .dead) (fun b => H.getD b .gone) (items all es) (fun j => listed.getD j false) a' w' ν' → a'.defers = a.defers → (∀ j, j < k → listed.getD j false = true) → wpAnyIn (wideR none) nn P .any all.toArray Q f listed a' w' := by
      intro f listed a' w' ν' hs hcnt hno st hd allT
      have e1 : listed = cutL k all.length := by
        apply Array.ext
        · simp [cutL, hs]
        · intro j hj1 hj2
          simp only [cutL, List.getElem_toArray, List.getElem_map, List.getElem_range]
          have h1 : listed.getD j false = listed[j] := by simp [Array.getD, hj1]
          rw [← h1]
          by_cases hjk : j < k
          · rw [allT j hjk, decide_eq_true hjk]
          · rw [hno j (by omega), decide_eq_false hjk]
      have e2 : f = all.length - k := by
        rw [← hcnt, e1]
        simp only [cutL]
        exact cut_count hkl
      rw [e2, e1]
      exact hQ a' w' ν' (stage_end ra st fun j hj => allT j (by omega)) hd
    induction f with
    | zero =>
      intro listed a' w' ν' hs hcnt hc hno st hd
      refine fin 0 listed a' w' ν' hs hcnt hno st hd fun j hj => ?_
      have hjs : j < listed.size := by omega
      have hne : false ∉ listed.toList := List.count_eq_zero.1 hcnt
      have : listed[j] ≠ false := fun e => hne (by rw [← e]; simp)
      simp [Array.getD, hjs]
      simpa using this
    | succ f ih =>
      intro listed a' w' ν' hs hcnt hc hno st hd
      by_cases hall : ∀ j, j < k → listed.getD j false = true
      · exact fin (f + 1) listed a' w' ν' hs hcnt hno st hd hall
      refine ⟨fun hnil => (hall fun j hj => ?_).elim, fun i hi => wpOp_in hnd hQo ?_⟩
      · induction j using Nat.strongRecOn with
        | _ j jh =>
          cases hl : listed.getD j false with
          | true => rfl
          | false =>
            have : j ∈ Region.ready .any all.toArray listed := by
              rw [mem_ready]
              refine ⟨by rw [getD_bool (by omega) true false]; exact hl, all[j], by simp [show j < all.length by omega], fun e he hb => ?_⟩
              have hlt := edges j all[j] (by simp [show j < all.length by omega]) e he hb
              exact jh e.on hlt (by omega)
            rw [hnil] at this
            cases this
      · obtain ⟨h1, o, ho, he⟩ := mem_ready.1 hi
        have hil : i < all.length := by simpa using (Array.getElem?_eq_some_iff.1 ho).1
        have hoa : all[i]? = some o := by simpa using ho
        have hS0 : listed.getD i false = false := by rw [getD_bool (by omega) false true]; exact h1
        have hik : i < k := by
          rcases Nat.lt_or_ge i k with h | h
          · exact h
          · exfalso
            have anc0 : ∀ q, ((befL all []).getD i 0).testBit q = true → listed.getD q false = true := befL_spec (S := fun j => listed.getD j false) (r := all) (acc := []) hc rfl (fun j o hj => by simp at hj) i o hoa he
            have := List.all_eq_true.1 hC i (by simpa using hil)
            rcases Bool.or_eq_true_iff.1 this with h' | h'
            · rw [Nat.blt_eq] at h'; omega
            · exact hall fun j hj => anc0 j (List.all_eq_true.1 h' j (by simpa using hj))
        have hix : (items all es)[i]? = some (items all es)[i] := List.getElem?_eq_getElem (by omega)
        generalize hxg : (items all es)[i] = x at hix
        have hxo : x.o = o := by
          simp only [items, List.getElem?_zipWith] at hix
          split at hix
          · rename_i o' e' h1' h2'
            cases hix
            rw [hoa] at h1'
            cases h1'
            rfl
          · cases hix
        -- ancestors of i are listed; those of a listed one are listed
        have anc : ∀ q, ((befL all []).getD i 0).testBit q = true → listed.getD q false = true := befL_spec (S := fun j => listed.getD j false) (r := all) (acc := []) hc rfl (fun j o hj => by simp at hj) i o hoa he
        have anc' : ∀ j, listed.getD j false = true → j < all.length → ∀ q, ((befL all []).getD j 0).testBit q = true → listed.getD q false = true := by
          intro j hj hjl
          have hjx : all[j]? = some all[j] := List.getElem?_eq_getElem hjl
          exact befL_spec (S := fun j => listed.getD j false) (r := all) (acc := []) hc rfl (fun j o hj => by simp at hj) j _ hjx (hc.cl j _ hjx hj)
        have before : ∀ (j : Nat) y, j < i → (items all es)[j]? = some y → apartI all.toArray y x = true ∨ listed.getD j false = true := by
          intro j y hj hy
          rcases races j i y x hj hy hix with h | h
          · exact .inr (anc j h)
          · exact .inl h
        have after' : ∀ (j : Nat) y, i < j → (items all es)[j]? = some y → apartI all.toArray x y = true ∨ listed.getD j false = false := by
          intro j y hj hy
          rcases races i j x y hj hix hy with h | h
          · right
            cases hl : listed.getD j false with
            | false => rfl
            | true =>
              have hjl : j < all.length := by
                have := (List.getElem?_eq_some_iff.1 hy).1
                omega
              have := anc' j hl hjl i h
              rw [hS0] at this
              cases this
          · exact .inl h
        refine stage_step hΓ hM ra hix st hS0 (fun t ht => ?_) (fun b hb => ?_) (fun t ht j y hj hy hdy => ?_) (fun b hb j y hj hy hwy => ?_) fun a'' w'' ν'' st' hd' => ?_
        · refine foldT_congr rfl fun j y hy hdy => ?_
          simp only [Nat.zero_add]
          rcases Nat.lt_trichotomy j i with hj | hj | hj
          · rw [decide_eq_true hj]
            exact (before j y hj hy).resolve_left fun ha => ((apartI_tmps ha).1 t hdy).1 ht
          · subst hj
            rw [hS0]
            simp
          · rw [decide_eq_false (by omega)]
            exact (after' j y hj hy).resolve_left fun ha => (apartI_tmps ha).2 t hdy ht
        · refine foldH_congr rfl fun j y hy hdy => ?_
          simp only [Nat.zero_add]
          rcases Nat.lt_trichotomy j i with hj | hj | hj
          · rw [decide_eq_true hj]
            exact (before j y hj hy).resolve_left fun ha => ((apartI_blocks ha).1 b hdy).1 hb
          · subst hj
            rw [hS0]
            simp
          · rw [decide_eq_false (by omega)]
            exact (after' j y hj hy).resolve_left fun ha => (apartI_blocks ha).2 b hdy hb
        · rcases after' j y hj hy with h | h
          · exact absurd hdy ((apartI_tmps h).1 t ht).2
          · exact h
        · rcases after' j y hj hy with h | h
          · exact absurd hwy ((apartI_blocks h).1 b hb).2
          · exact h
        · have hset : (fun j => (listed.setIfInBounds i true).getD j false) = also (fun j => listed.getD j false) i := by
            funext j
            simp only [also]
            by_cases e : i = j
            · subst e
              simp [Array.getD, show i < listed.size by omega]
            · rw [getD_set_ne false e]
              have : (j == i) = false := by simp; exact fun h => e h.symm
              rw [this, Bool.or_false]
          refine ih (listed.setIfInBounds i true) a'' w'' ν'' (by simpa using hs) ?_ ⟨fun j o' ho' hj e he' hb => ?_⟩ (fun j hj => by rw [getD_set_ne false (by omega)]; exact hno j hj) (by rw [hset]; exact st') (hd'.trans hd)
          · have hi' : i < listed.toList.length := by simp; omega
            have hval : listed.toList[i] = false := by
              have : i < listed.size := by omega
              simp [Array.getD, this] at hS0
              simpa using hS0
            simp only [Array.toList_setIfInBounds]
            rw [List.count_set hi']
            simp [hval, hcnt]
          · have hset' : ∀ j, (listed.setIfInBounds i true).getD j false = also (fun j => listed.getD j false) i j := congrFun hset
            rw [hset'] at hj ⊢
            simp only [also, Bool.or_eq_true, beq_iff_eq] at hj ⊢
            rcases hj with hj | rfl
            · exact .inl (hc.cl j o' ho' hj e he' hb)
            · rw [hoa] at ho'
              cases ho'
              exact .inl (he e he' hb)
  have rep : ∀ j, (Array.replicate all.length false).getD j false = false := by
    intro j
    rw [Array.getD_eq_getD_getElem?, Array.getElem?_replicate]
    split <;> rfl
  refine key all.length _ a w ν (by simp) (by simp) ⟨fun j o ho hj => ?_⟩ (fun j _ => rep j) (stage_start h _ fun j => rep j) rfl
  rw [rep j] at hj
  cases hj

end Go.Proofs.Ytmdcafhnjihckaa

/- The function that yields the sides of a polygon: its word. Conditions: the list holds points. -/
namespace Go.Proofs.Ytmdcafhnjihckaa
open Go.RowKit
set_option maxRecDepth 100000

abbrev rowC (a : Nat → Nat → Int) : Nat → List Value := fun j => [i64 (a j 0), i64 (a j 1), i64 (a j 2), i64 (a j 3), i64 (a j 4), i64 (a j 5), i64 (a j 6), i64 (a j 7)]
/-- A side, as yield is handed it. -/
abbrev pairV (p q : Nat → Int) : Value := .agg #[i64 (p 0), i64 (p 1), i64 (p 2), i64 (p 3), i64 (p 4), i64 (p 5), i64 (p 6), i64 (p 7), i64 (q 0), i64 (q 1), i64 (q 2), i64 (q 3), i64 (q 4), i64 (q 5), i64 (q 6), i64 (q 7)]

def outK : Kont := fun e T H => .out e T H
abbrev yv (l : Nat) : Value := .func (.yield l) #[] #[]
abbrev slI (m c : Nat) : AV := .sl 1 8 0 0 m (some c)
abbrev hpI (a : Nat → Nat → Int) (m c : Nat) (tB tr : TypeId) : List AB := [.cells [slI m c] tB, .row false m 8 (rowC a) tr]
def stI (l m c i : Nat) : List AV := mkT 0 26 [(0, .v (yv l)), (1, .ptr 0 1 0 0), (5, slI m c), (6, .v (i64 m)), (7, .v (i64 i))]

def sqA : Code → Code | .seq a _ => a | c => c
def sqB : Code → Code | .seq _ b => b | c => c
def blB : Code → Code | .block _ b => b | c => c
theorem leaf_post {ds : List Deferred} {M : Nat → Prop} {w0 : World} {ν0 : Nu} {lv : Ex → List Nat} {m : Nat} {Q : Ex → List AV → List AB → Prop} {e : Exit} {a : Act} {w : World} (h : postD ds M w0 ν0 (leafK lv m) Q e a w) (hν : ∀ i b, ν0 i = some b → i < m) :
    ∃ e' T H ν, e = Ex.to e' ∧ Q e' T H ∧ SR M w0 ν0 T H a w ν ∧ a.defers = ds := by
  obtain ⟨e', T, H, ν, rfl, hk, hS, hd⟩ := h
  unfold leafK at hk
  split at hk
  · rename_i p hp
    exact ⟨e', p.1, p.2, _, rfl, hk, weak_sound hp hS hν, hd⟩
  · exact hk.elim

theorem yield_op {nn : Nat} {P : Program} {ops : Array Oper} {Q : Exit → Act → World → Prop} {i l : Nat} {o : Oper} {x y : Operand} {ts : Array TypeId} {K : Act → World → Prop} {R : Ending → World → Prop} {a : Act} {w : World} {v : Value} (ho : ops[i]? = some o) (hop : o.op = .call ⟨.value x, #[y], ts⟩) (hgu : o.guard = none)
    (hx : a.eval x = yv l) (hy : a.eval y = v) (h : YieldAt (wideR none) (nn - 1) P l #[v] w R) (hR : ∀ e w', R e w' → ∃ b, e = .returned b ∧ K (a.put o.dst b) w') : wpOpIn (wideR none) nn P ops Q i K a w := by
  unfold wpOpIn
  rw [ho]
  simp only
  rw [if_pos (by simp [Region.wanted, hgu])]
  refine ⟨fun _ _ => trivial, ?_⟩
  obtain ⟨fn, tmps, assign, body, e, hr⟩ := h
  have hs : (o.semAt (wideR none).round a.eval).run P w = .ok (.round l fn tmps assign body) w := by
    rw [show (wideR none).round = none from rfl, Oper.semAt_none]
    cases o with
    | mk dst op ty pos after guard =>
      simp only at hop
      subst hop
      simp [execOp, resolve, hx, hy, Deferred.ofValue, invoke, e]
  rw [hs, Oper.uponIn_round]
  refine ⟨fun h => (by cases h), hr.mono fun e w' he => ?_⟩
  obtain ⟨b, rfl, hk⟩ := hR e w' he
  exact hk

theorem not_op {nn : Nat} {P : Program} {ops : Array Oper} {Q : Exit → Act → World → Prop} {i : Nat} {t : TypeId} {o : Oper} {x : Operand} {K : Act → World → Prop} {a : Act} {w : World} {b : Bool} (ho : ops[i]? = some o) (hop : o.op = .unOp .not t x) (hgu : o.guard = none)
    (hx : a.eval x = .bool b) (hK : K (a.put o.dst (.bool (!b))) w) : wpOpIn (wideR none) nn P ops Q i K a w := by
  unfold wpOpIn
  rw [ho]
  simp only
  rw [if_pos (by simp [Region.wanted, hgu])]
  refine ⟨fun _ _ => trivial, ?_⟩
  have hs : (o.semAt (wideR none).round a.eval).run P w = .ok (.value (.bool (!b))) w := by
    rw [show (wideR none).round = none from rfl, Oper.semAt_none]
    cases o with
    | mk dst op ty pos after guard =>
      simp only at hop
      subst hop
      have he : execOp a.eval ⟨dst, .unOp .not t x, ty, pos, after, guard⟩ = (do pure (.value (← Op.unary .not (a.eval x)))) := rfl
      rw [he, hx]
      simp [Op.unary]
  rw [hs]
  exact hK

end Go.Proofs.Ytmdcafhnjihckaa

/- The function that yields the sides of a polygon: its word. Conditions: the list holds points. -/
namespace Go.Proofs.Ytmdcafhnjihckaa
open Go.RowKit
set_option maxRecDepth 100000

abbrev MI (W : World) (bB : Nat) : Nat → Prop := fun k => W.heap.size ≤ k ∨ k = bB

theorem box_val {ν : Nu} {a : Nat → Nat → Int} {m c bB cB : Nat} {bL : Bk} {tB tr : TypeId} {X : World} (h : BR ν 0 ((hpI a m c tB tr).getD 0 .gone) X) (h0 : ν 0 = some ⟨bB, 0, cB⟩) (h1 : ν 1 = some bL) (hm : 0 < m) :
    X.heap[bB]? = some (.cells #[.slice (some ⟨bL.n, bL.o, none⟩) m c] tB (0, 0)) := by
  simp only [hpI, List.getD_cons_zero] at h
  obtain ⟨b, l, e1, e2, e3, e4⟩ := h
  rw [h0] at e1
  cases e1
  rw [e3]
  cases l with
  | nil => simp only [VRs] at e4
  | cons y ys =>
    cases ys with
    | cons => simp only [VRs] at e4; exact e4.2.elim
    | nil =>
      simp only [VRs, VR, and_true] at e4
      obtain ⟨p, cc, rfl, h2, h3, h4⟩ := e4
      have := h2 c rfl
      subst this
      obtain ⟨b', h5, h6⟩ := h4 (by omega)
      rw [h1] at h5
      cases h5
      rw [h6]
      simp

end Go.Proofs.Ytmdcafhnjihckaa

/- The abstract machine at the small functions on surds. No conditions. -/
namespace Go.Proofs.Ytmdcafhnjihckaa
open Go.RowKit
set_option maxRecDepth 100000

def f_scaled : List Value → Option (Value × List Bool)
  | [.agg ⟨[.int .i64 a0, .int .i64 a1, .int .i64 a2, .int .i64 a3, .int .i64 a4, .int .i64 a5, .int .i64 a6, .int .i64 a7]⟩, .int .i64 n] => some (cyv (scaledF (v8 a0 a1 a2 a3 a4 a5 a6 a7) n), [])
  | _ => none

theorem ok_scaled : SpecOk Try.prog 140 (specV f_scaled) := by
  refine mkV (n := 100) gm_l2Mirror_ok Try.func140 rfl fun vs x ob hF ho => ?_
  unfold f_scaled at hF
  split at hF
  · rename_i a0 a1 a2 a3 a4 a5 a6 a7 n
    simp only [Option.some.injEq, Prod.mk.injEq] at hF
    obtain ⟨rfl, rfl⟩ := hF
    exact one (by kernel_rfl)
  · cases hF

def gm_scaled : Gam := ext gm_l2Mirror 140 (specV f_scaled)
theorem gm_scaled_ok : GamOk Try.prog gm_scaled := ext_ok gm_l2Mirror_ok ok_scaled

def f_minus : List Value → Option (Value × List Bool)
  | [.agg ⟨[.int .i64 a0, .int .i64 a1, .int .i64 a2, .int .i64 a3, .int .i64 a4, .int .i64 a5, .int .i64 a6, .int .i64 a7]⟩, .agg ⟨[.int .i64 b0, .int .i64 b1, .int .i64 b2, .int .i64 b3, .int .i64 b4, .int .i64 b5, .int .i64 b6, .int .i64 b7]⟩] => some (cyv (plusF (v8 a0 a1 a2 a3 a4 a5 a6 a7) (scaledF (v8 b0 b1 b2 b3 b4 b5 b6 b7) (-1))), [])
  | _ => none

def f_splus : List Value → Option (Value × List Bool)
  | [.agg ⟨[.int .i64 s0, .int .i64 s1, .int .i64 s2, .int .i64 s3]⟩, .agg ⟨[.int .i64 t0, .int .i64 t1, .int .i64 t2, .int .i64 t3]⟩] => some (sdv (fun k => W ((v4 s0 s1 s2 s3) k + (v4 t0 t1 t2 t3) k)), [])
  | _ => none

def f_sscaled : List Value → Option (Value × List Bool)
  | [.agg ⟨[.int .i64 s0, .int .i64 s1, .int .i64 s2, .int .i64 s3]⟩, .int .i64 n] => some (sdv (fun k => W (n * (v4 s0 s1 s2 s3) k)), [])
  | _ => none

def f_coslo : List Value → Option (Value × List Bool)
  | [.int .i64 n] => some (sdv (cosT n.toNat), [decide (0 ≤ n), decide (n ≤ (12 : Nat))])
  | _ => none

def f_cosine : List Value → Option (Value × List Bool)
  | [.int .i64 n] => some (sdv (cosT n.toNat), [decide (0 ≤ n), decide (n ≤ (23 : Nat))])
  | _ => none

def f_im : List Value → Option (Value × List Bool)
  | [.agg ⟨[.int .i64 a0, .int .i64 a1, .int .i64 a2, .int .i64 a3, .int .i64 a4, .int .i64 a5, .int .i64 a6, .int .i64 a7]⟩] => some (sdv (imF (v8 a0 a1 a2 a3 a4 a5 a6 a7)), [])
  | _ => none

def f_re : List Value → Option (Value × List Bool)
  | [.agg ⟨[.int .i64 a0, .int .i64 a1, .int .i64 a2, .int .i64 a3, .int .i64 a4, .int .i64 a5, .int .i64 a6, .int .i64 a7]⟩] => some (sdv (reF (v8 a0 a1 a2 a3 a4 a5 a6 a7)), [])
  | _ => none

def f_cross : List Value → Option (Value × List Bool)
  | [.agg ⟨[.int .i64 a0, .int .i64 a1, .int .i64 a2, .int .i64 a3, .int .i64 a4, .int .i64 a5, .int .i64 a6, .int .i64 a7]⟩, .agg ⟨[.int .i64 b0, .int .i64 b1, .int .i64 b2, .int .i64 b3, .int .i64 b4, .int .i64 b5, .int .i64 b6, .int .i64 b7]⟩] => some (sdv (imF (mulF (mirF (v8 a0 a1 a2 a3 a4 a5 a6 a7)) (v8 b0 b1 b2 b3 b4 b5 b6 b7))), [])
  | _ => none

def f_along : List Value → Option (Value × List Bool)
  | [.agg ⟨[.int .i64 a0, .int .i64 a1, .int .i64 a2, .int .i64 a3, .int .i64 a4, .int .i64 a5, .int .i64 a6, .int .i64 a7]⟩, .agg ⟨[.int .i64 b0, .int .i64 b1, .int .i64 b2, .int .i64 b3, .int .i64 b4, .int .i64 b5, .int .i64 b6, .int .i64 b7]⟩] => some (sdv (reF (mulF (mirF (v8 a0 a1 a2 a3 a4 a5 a6 a7)) (v8 b0 b1 b2 b3 b4 b5 b6 b7))), [])
  | _ => none

def f_l2Turned : List Value → Option (Value × List Bool)
  | [.agg ⟨[.int .i64 a0, .int .i64 a1, .int .i64 a2, .int .i64 a3, .int .i64 a4, .int .i64 a5, .int .i64 a6, .int .i64 a7]⟩, .int .i64 n] => some (cyv (turnedF (v8 a0 a1 a2 a3 a4 a5 a6 a7) n.toNat), [decide (0 ≤ n), decide (n ≤ (23 : Nat))])
  | _ => none

def f_l3Im : List Value → Option (Value × List Bool)
  | [.agg ⟨[.int .i64 a0, .int .i64 a1, .int .i64 a2, .int .i64 a3, .int .i64 a4, .int .i64 a5, .int .i64 a6, .int .i64 a7]⟩] => some (sdv (imF (v8 a0 a1 a2 a3 a4 a5 a6 a7)), [])
  | _ => none

def f_l3Re : List Value → Option (Value × List Bool)
  | [.agg ⟨[.int .i64 a0, .int .i64 a1, .int .i64 a2, .int .i64 a3, .int .i64 a4, .int .i64 a5, .int .i64 a6, .int .i64 a7]⟩] => some (sdv (reF (v8 a0 a1 a2 a3 a4 a5 a6 a7)), [])
  | _ => none

def f_l8Cross : List Value → Option (Value × List Bool)
  | [.agg ⟨[.int .i64 a0, .int .i64 a1, .int .i64 a2, .int .i64 a3, .int .i64 a4, .int .i64 a5, .int .i64 a6, .int .i64 a7]⟩, .agg ⟨[.int .i64 b0, .int .i64 b1, .int .i64 b2, .int .i64 b3, .int .i64 b4, .int .i64 b5, .int .i64 b6, .int .i64 b7]⟩] => some (sdv (imF (mulF (mirF (v8 a0 a1 a2 a3 a4 a5 a6 a7)) (v8 b0 b1 b2 b3 b4 b5 b6 b7))), [])
  | _ => none

def f_l3Sum : List Value → Option (Value × List Bool)
  | [.agg ⟨[.int .i64 s0, .int .i64 s1, .int .i64 s2, .int .i64 s3]⟩, .int .i64 n, .agg ⟨[.int .i64 t0, .int .i64 t1, .int .i64 t2, .int .i64 t3]⟩] => some (sdv (fun k => W ((v4 s0 s1 s2 s3) k + W (n * (v4 t0 t1 t2 t3) k))), [])
  | _ => none

end Go.Proofs.Ytmdcafhnjihckaa

/- steps: the steps of a polygon. Conditions: a list of points, not empty. -/
namespace Go.Proofs.Ytmdcafhnjihckaa
open Go.RowKit
set_option maxRecDepth 100000

/-- Rows of points. -/
def isC : List Value → Bool
  | [.int .i64 _, .int .i64 _, .int .i64 _, .int .i64 _, .int .i64 _, .int .i64 _, .int .i64 _, .int .i64 _] => true
  | _ => false
def itC (g : Nat → List Value) : Nat → Nat → Int := fun j k => intOf ((g j).getD k undef)
def allC (m : Nat) (g : Nat → List Value) : Bool := (List.range m).all fun j => isC (g j)
theorem allC_get {m : Nat} {g : Nat → List Value} (h : allC m g = true) (j : Nat) (hj : j < m) : g j = rowC (itC g) j := by
  have := List.all_eq_true.1 h j (by simpa using hj)
  simp only [rowC, itC, i64]
  unfold isC at this
  split at this
  · rename_i e; rw [e]; rfl
  · cases this
theorem allC_of {m : Nat} {a : Nat → Nat → Int} {g : Nat → List Value} (h : ∀ j, j < m → g j = rowC a j) : allC m g = true := List.all_eq_true.2 fun j hj => by
  rw [h j (by simpa using hj)]; rfl

def rfA : Code → Code | .rangeFunc _ _ a _ => a | c => c
def rfB : Code → Code | .rangeFunc _ _ _ b => b | c => c
abbrev zC : Nat → List Value := fun _ => [i64 0, i64 0, i64 0, i64 0, i64 0, i64 0, i64 0, i64 0]
abbrev hhSt (a : Nat → Nat → Int) (m : Nat) (t : TypeId) : List AB := [.row false m 8 (rowC a) t, .cells [.own 3 0] 48, .cells [.sl 0 8 0 0 m none] 48, .row true 0 8 zC 31]
/-- One more element. -/
def snocR (G : Nat → List Value) (n w : Nat) (r : List Value) : Nat → List Value := fun k => mergeL (Nat.blt k n) (G k) r
theorem snocR_lt {G : Nat → List Value} {n w k : Nat} {r : List Value} (h : k < n) : snocR G n w r k = G k := by
  have : Nat.blt k n = true := by rw [Nat.blt_eq]; exact h
  simp [snocR, mergeL_eq, this]
theorem snocR_eq {G : Nat → List Value} {n w : Nat} {r : List Value} (_ : r.length = w) : snocR G n w r n = r := by
  have : Nat.blt n n = false := by
    cases hb : Nat.blt n n with
    | false => rfl
    | true => rw [Nat.blt_eq] at hb; omega
  simp only [snocR, mergeL_eq, this, cond_false]

def stepsF (a : Nat → Nat → Int) (m : Nat) : Nat → Nat → Int := fun j => plusF (a ((j + 1) % m)) (scaledF (a j) (-1))
def rowX {m : Nat} (f : Nat → Nat → Int) (xs : List (Fin m)) : Nat → List Value := fun j => match xs[j]? with | some x => rowC f x | none => []
theorem rowX_snoc {m : Nat} {f : Nat → Nat → Int} {xs : List (Fin m)} {x : Fin m} {j : Nat} (hj : j < xs.length + 1) : snocR (rowX f xs) xs.length 8 (rowC f x) j = rowX f (xs ++ [x]) j := by
  rcases Nat.lt_or_ge j xs.length with h | h
  · rw [snocR_lt h]
    simp only [rowX]
    rw [List.getElem?_append_left h]
  · have : j = xs.length := by omega
    subst this
    rw [snocR_eq (w := 8) (by simp)]
    simp [rowX]
theorem rowX_all {m : Nat} {f : Nat → Nat → Int} {j : Nat} (hj : j < m) : rowX f (List.finRange m) j = rowC f j := by
  simp [rowX, hj]

noncomputable abbrev blkSt (a : Nat → Nat → Int) (m : Nat) (t : TypeId) (n : Nat) (G : Nat → List Value) : List AB := [.row false m 8 (rowC a) t, .cells [.own 4 n] 48, .gone, .gone, .row true n 8 G 31]
noncomputable def hpSt (a : Nat → Nat → Int) {m : Nat} (t : TypeId) (xs : List (Fin m)) : List AB := match xs with
  | [] => [.row false m 8 (rowC a) t, .cells [.own 3 0] 48, .gone, .row true 0 8 zC 31]
  | x :: ys => blkSt a m t (x :: ys).length (rowX (stepsF a m) (x :: ys))
theorem hpSt_snoc (a : Nat → Nat → Int) {m : Nat} (t : TypeId) (xs : List (Fin m)) (x : Fin m) : hpSt a t (xs ++ [x]) = blkSt a m t (xs.length + 1) (rowX (stepsF a m) (xs ++ [x])) := by
  cases xs with
  | nil => rfl
  | cons y ys => simp [hpSt]

abbrev ttL : List AV := mkT 0 20 [(3, .ptr 1 0 0 0)]
abbrev deadL (n : Nat) : List AV := mkT 0 n []

theorem enters_of' {f : FuncId} {fn : Func} (hf : Try.prog.funcs[f]? = some fn) (hb : fn.body.isSome = true) : ∀ args w, (callFunc f args).run Try.prog w = .ok (.enter f args) w := fun args w => enters f fn hf hb args w

def md_steps : List Md := [.rd 8 31]
def F_steps : List SA → Option FR
  | [.row m g] => some { val := .own 0 m, new := [.row true m 8 (rowC (stepsF (itC g) m)) 31], obl := [allC m g, decide (0 < m), decide (m ≤ 2 ^ 38)] }
  | _ => none

theorem finRange_cons {m : Nat} (h : 0 < m) : ∃ x xs, List.finRange m = x :: xs := by
  cases hl : List.finRange m with
  | nil => have := congrArg List.length hl; simp at this; omega
  | cons x xs => exact ⟨x, xs, rfl⟩

end Go.Proofs.Ytmdcafhnjihckaa

/- A list of points that came in. No conditions. -/
namespace Go.Proofs.Ytmdcafhnjihckaa
open Go.ChangeShapes Go.WideShapes Go.ChangeAt Go.RowKit Go.Deep
set_option maxRecDepth 100000

section
variable {H : Type} {enc : TypeId × Value → H} {W : World}
theorem cyc_elem (n : Nat) (cs : List Value) (x : DataW H × List MemPlace) (hl : cs.length = 8) (h : DataW.trod enc Try.prog W 0 (fun _ => true) true n 107 cs = some x) :
    ∃ f : Nat → Int, True ∧ cs = [i64 (f 0), i64 (f 1), i64 (f 2), i64 (f 3), i64 (f 4), i64 (f 5), i64 (f 6), i64 (f 7)] := by
  obtain ⟨xs, n', _, _, _, hlen, hg⟩ := DataW.trod_struct Try.underlying107 h
  have h0 : DataW.trod enc Try.prog W 0 (fun _ => true) true n' 29 ((cs.drop 0).take (Try.prog.cellsOf 29)) = xs[0]? := hg 0 _ rfl
  have hx0 : xs[0]? = some (xs[0]'(by rw [hlen]; decide)) := List.getElem?_eq_getElem _
  rw [hx0] at h0
  obtain ⟨ys, n2, _, _, _, hlen2, hg2⟩ := DataW.trod_array Try.underlying29 h0
  have c44 : Try.prog.cellsOf 29 = 8 := by kernel_rfl
  have c3 : Try.prog.cellsOf 3 = 1 := by kernel_rfl
  simp only [c44, c3, List.drop_zero, Nat.mul_one, List.take_of_length_le (Nat.le_of_eq hl)] at hg2
  have each : ∀ i, i < 8 → ∃ k, (cs.drop i).take 1 = [i64 k] := by
    intro i hi
    have h1 := hg2 i hi
    have hy : ys[i]? = some (ys[i]'(by omega)) := List.getElem?_eq_getElem _
    rw [hy] at h1
    obtain ⟨k, e1, _, _⟩ := DataW.trod_int Try.underlying3 h1
    exact ⟨k, e1⟩
  match cs, hl with
  | [c0, c1, c2, c3, c4, c5, c6, c7], _ =>
    obtain ⟨k0, e0⟩ := each 0 (by omega)
    obtain ⟨k1, e1⟩ := each 1 (by omega)
    obtain ⟨k2, e2⟩ := each 2 (by omega)
    obtain ⟨k3, e3⟩ := each 3 (by omega)
    obtain ⟨k4, e4⟩ := each 4 (by omega)
    obtain ⟨k5, e5⟩ := each 5 (by omega)
    obtain ⟨k6, e6⟩ := each 6 (by omega)
    obtain ⟨k7, e7⟩ := each 7 (by omega)
    simp at e0 e1 e2 e3 e4 e5 e6 e7
    subst e0 e1 e2 e3 e4 e5 e6 e7
    exact ⟨v8 k0 k1 k2 k3 k4 k5 k6 k7, trivial, rfl⟩
end

/-- A law over a list of points: what it comes to, whatever came in. -/
theorem contractC {f : FuncId} {fn : Func} {spec : ChangeSpec} (hf : Try.prog.funcs[f]? = some fn) (hp : fn.params = #[68]) (hr : fn.resultTypes = #[4]) (hvars : spec.vars = []) (hspec : ∀ (H : Type) (d : DataW H), spec.fn H [d] = { results := [.lit (.bool true)], args := [d] })
    (yes : ∀ (m : Nat) (a : Nat → Nat → Int), m ≤ 9223372036854775807 → ∃ Γ n, GamOk Try.prog Γ ∧ GoodQ (execF Try.prog Γ noLam n fn [.sl 0 8 0 0 m none] [.row false m 8 (rowC a) 31] (packK 1)) SaysYes)
    (H : Type) (enc : TypeId × Value → H) (W : World) (base : Nat) (args : Array Value) (ds gs : List (DataW H)) (before : List MemPlace)
    (hval : ∀ (j : Nat) t v, fn.params[j]? = some t → args[j]? = some v → Value.okWide Try.prog W .any base t v)
    (hW : DataW.Whole enc Try.prog fn.params.toList spec.vars false W args.toList ds gs before) :
    Calls Try.prog f args W fun e W' => ∃ v, e = .returned v ∧ spec.post enc Try.prog fn false true false false W args v W' := by
  have hW' := hW
  obtain ⟨p, q, hA0, hV, rfl, hfz, hnd⟩ := hW
  have hA : DataW.TrodAll enc Try.prog W 0 (fun _ => true) true fn.params.toList args.toList ds p := hA0
  rw [hp] at hA hval
  rw [hvars] at hV
  obtain ⟨v0, vs0, d0, ds0, p0, q0, hargs, rfl, rfl, h0, r0⟩ := trodAll_cons hA
  obtain ⟨rfl, rfl, rfl⟩ := trodAll_nil r0
  obtain rfl : args = #[v0] := by cases args; simp_all
  obtain ⟨rfl, rfl⟩ := trodVars_none hV
  clear hA0 hA r0
  obtain ⟨m, ν, g, hm, _, hvr, hRH, hdom⟩ := arg_row (H := H) Try.underlying68 (by kernel_rfl) (by omega) (hval 0 68 v0 rfl rfl) h0 (fun f => [i64 (f 0), i64 (f 1), i64 (f 2), i64 (f 3), i64 (f 4), i64 (f 5), i64 (f 6), i64 (f 7)]) (fun _ => True) (fun f => ⟨rfl, by simp [Value.oneCell']⟩) cyc_elem 31
  obtain ⟨Γ, n, hΓ, hgood⟩ := yes m g hm
  have hcall := yes_calls hΓ (n := n) (vals := [v0]) (w := W) hf (Λ := noLam) (fun c _ => noLam_ok _ _ _) hgood (by simp only [VRs, and_true]; exact hvr) hRH hdom
  refine hcall.mono fun e W' ⟨he, hb⟩ => ?_
  subst he
  have hlt : ∀ x ∈ p0, x.block < W.heap.size := fun x hx => by simpa using hW'.lt x (by simpa using hx)
  refine ⟨_, rfl, post_below (pa := p0) (pv := []) hW' ?_ ?_ ?_ (by simp) hb ?_⟩
  · intro b sp hd
    rw [hr]
    simp only [List.append_nil, hspec]
    exact trodAll_cons_mk (shut_bool Try.underlying4 _) trodAll_mk0
  · intro sp hsp
    rw [hp]
    simp only [List.append_nil, hspec]
    refine trodAll_mk1 (WideElems.Trod_stays laidOut (by kernel_rfl) (of_decide_eq_true (by kernel_rfl)) h0 (fun x hx => hb.same (hlt x hx)) fun x hx => hsp x (by simpa using hx))
  · intro sp _
    rw [hvars]
    simp only [List.append_nil, hspec]
    rfl
  · exact ok_one hr rfl (okWide_bool_mk Try.underlying4 _)

end Go.Proofs.Ytmdcafhnjihckaa

/- Rows of points. No conditions. -/
namespace Go.Proofs.Ytmdcafhnjihckaa
open Go.RowKit
set_option maxRecDepth 100000

abbrev row8 (f : Nat → Nat → Int) : Nat → List Value := fun j => [i64 (f j 0), i64 (f j 1), i64 (f j 2), i64 (f j 3), i64 (f j 4), i64 (f j 5), i64 (f j 6), i64 (f j 7)]
def is8 : List Value → Bool
  | [.int .i64 _, .int .i64 _, .int .i64 _, .int .i64 _, .int .i64 _, .int .i64 _, .int .i64 _, .int .i64 _] => true
  | _ => false
def it8 (g : Nat → List Value) : Nat → Nat → Int := fun j k => intOf ((g j).getD k undef)
def all8 (m : Nat) (g : Nat → List Value) : Bool := (List.range m).all fun j => is8 (g j)
theorem all8_get {m : Nat} {g : Nat → List Value} (h : all8 m g = true) (j : Nat) (hj : j < m) : g j = row8 (it8 g) j := by
  have := List.all_eq_true.1 h j (by simpa using hj)
  simp only [row8, it8, i64]
  unfold is8 at this
  split at this
  · rename_i e; rw [e]; rfl
  · cases this
theorem all8_row (m : Nat) (f : Nat → Nat → Int) : all8 m (row8 f) = true := List.all_eq_true.2 fun _ _ => rfl
theorem row8_it8 (f : Nat → Nat → Int) : row8 (it8 (row8 f)) = row8 f := rfl
theorem row80 (f : Nat → Nat → Int) : (fun q => row8 f (0 + q)) = row8 f := by
  funext q
  rw [Nat.zero_add]
def listC (f : Nat → Nat → Int) (m : Nat) : List Cy := (List.range m).map fun j => cyOf (f j)
def cfun (L : List Cy) : Nat → Nat → Int := fun j k => match L[j]? with
  | some c => c.f k
  | none => 0
theorem listC_length (f : Nat → Nat → Int) (m : Nat) : (listC f m).length = m := by simp [listC]
theorem listC_get (f : Nat → Nat → Int) {m j : Nat} (hj : j < m) : (listC f m)[j]? = some (cyOf (f j)) := by simp [listC, hj]
theorem listC_fun (L : List Cy) : listC (cfun L) L.length = L := by
  apply List.ext_getElem?
  intro j
  by_cases hj : j < L.length
  · rw [listC_get _ hj, List.getElem?_eq_getElem hj]
    have : cfun L j = L[j].f := by
      funext k
      simp only [cfun, List.getElem?_eq_getElem hj]
    rw [this, cyOf_f]
  · rw [List.getElem?_eq_none (by rw [listC_length]; omega), List.getElem?_eq_none (by omega)]
theorem listC_it8 (f : Nat → Nat → Int) (m : Nat) : listC (it8 (row8 f)) m = listC f m := rfl
theorem listC_me (L : List Cy) : listC (it8 (row8 (cfun L))) L.length = L := by rw [listC_it8, listC_fun]
theorem listC_succ (f : Nat → Nat → Int) (m : Nat) : listC f (m + 1) = listC f m ++ [cyOf (f m)] := by simp [listC, List.range_succ]
theorem row8_congr {f g : Nat → Nat → Int} {j : Nat} (h : ∀ k, k < 8 → f j k = g j k) : row8 f j = row8 g j := by
  simp only [row8, h 0 (by omega), h 1 (by omega), h 2 (by omega), h 3 (by omega), h 4 (by omega), h 5 (by omega), h 6 (by omega), h 7 (by omega)]
theorem cfun_get {L : List Cy} {j : Nat} (hj : j < L.length) : cfun L j = L[j].f := by
  funext k
  simp only [cfun, List.getElem?_eq_getElem hj]
theorem row8_list (f : Nat → Nat → Int) {m j : Nat} (hj : j < m) : row8 (cfun (listC f m)) j = row8 f j := by
  refine row8_congr fun k hk => ?_
  simp only [cfun, listC_get f hj]
  rcases (by omega : k = 0 ∨ k = 1 ∨ k = 2 ∨ k = 3 ∨ k = 4 ∨ k = 5 ∨ k = 6 ∨ k = 7) with rfl | rfl | rfl | rfl | rfl | rfl | rfl | rfl <;> rfl

end Go.Proofs.Ytmdcafhnjihckaa

/- A word for a callee that hands back an own list of points or none: read as one. Conditions: those of its two cases. -/
namespace Go.Proofs.Ytmdcafhnjihckaa
open Go.RowKit
set_option maxRecDepth 100000

/-- The points, or none. -/
structure PtR where
  b : Bool
  T : List Cy
  obl : List Bool
abbrev newG (T : List Cy) : List AB := [.row true T.length 8 (row8 (cfun T)) 31]
abbrev valG (T : List Cy) : AV := .tup [.own 0 T.length, .v (.bool true)]
def specG (mds : List Md) (U : List SA → Option PtR) : Spec := fun avs H base =>
  match saAll H mds avs with
  | some xs => match U (xs.map (·.sa)) with
    | some u => some { val := .tup [.sl base 8 0 0 u.T.length none, .v (.bool u.b)], rd := (ixC mds xs).filterMap id, put := [], new := [.row false u.T.length 8 (row8 (cfun u.T)) 31], obl := xs.flatMap (·.ob) ++ u.obl }
    | none => none
  | none => none

theorem specG_ok {P : Program} {f : FuncId} {mds : List Md} {FY FN : List SA → Option FR} {U : List SA → Option PtR} (hw : hasWr mds = false) (hY : SpecOk P f (specR mds FY)) (hN : SpecOk P f (specR mds FN))
    (h : ∀ sas u, U sas = some u → obls u.obl = true → Nat.beq (abP mds sas []).length (abC mds sas).length = true ∧ ((u.b = true ∧ ∃ ob, FY sas = some { val := valG u.T, new := newG u.T, obl := ob } ∧ obls ob = true) ∨ (u.b = false ∧ u.T = [] ∧ ∃ ob, FN sas = some { val := valN, obl := ob } ∧ obls ob = true))) : SpecOk P f (specG mds U) := by
  refine ⟨hY.1, fun avs H base δ ν vals w hS ho hv hr hlt hfree hsep => ?_⟩
  unfold specG at hS
  split at hS
  case h_2 => cases hS
  rename_i xs hxs
  split at hS
  case h_2 => cases hS
  rename_i u hu
  simp only [Option.some.injEq] at hS
  subst hS
  have ho' : obls (xs.flatMap (·.ob)) = true ∧ obls u.obl = true := by simpa [obls, List.all_append] using ho
  obtain ⟨hl, hc⟩ := h _ _ hu ho'.2
  have hput : putC (ixC mds xs) (abP mds (xs.map (·.sa)) []) = [] := putC_nil _ _ fun b hb => abP_rd hw b hb
  rcases hc with ⟨hb, ob, e1, e2⟩ | ⟨hb, hT, ob, e1, e2⟩
  · have hS2 : specR mds FY avs H base = some { val := .tup [.own base u.T.length, .v (.bool true)], rd := (ixC mds xs).filterMap id, put := [], new := newG u.T, obl := xs.flatMap (·.ob) ++ ob } := by
      unfold specR
      rw [hxs]
      simp only [e1]
      show cond _ _ _ = _
      rw [hw, hl, hput]
      rfl
    refine (hY.2 avs H base _ ν vals w hS2 (by simpa [obls, List.all_append] using And.intro ho'.1 e2) hv hr hlt hfree (fun i o j b b' hp => by cases hp)).mono ?_
    rintro e w' ⟨v, ν', rfl, d⟩
    have hnew := d.new 0 _ rfl
    have hv2 : VR ν' (.tup [.sl base 8 0 0 u.T.length none, .v (.bool u.b)]) v := by
      have := d.val
      simp only [VR, VRs] at this ⊢
      obtain ⟨l, e1, e2⟩ := this
      match l, e2 with
      | [a, c], ⟨⟨b0, hb0, ha⟩, hbb, _⟩ =>
        refine ⟨[a, c], e1, ⟨some ⟨b0.n, b0.o, none⟩, b0.c, ha, fun c' hc' => (by cases hc'), ?_, fun _ => ⟨b0, hb0, by simp⟩⟩, by rw [hb]; exact hbb, trivial⟩
        rcases hnew with ⟨h1, _, _⟩ | ⟨k, l, t', fz, h1, _, _, h4, _⟩
        · cases h1
        · rw [Nat.add_zero] at h1
          rw [hb0] at h1
          cases h1
          exact h4
    refine ⟨v, ν', rfl, d.le, d.dom, hv2, fun i b hl => (by cases hl), fun j b hj => ?_, d.os, d.tape, d.output, d.size, d.block, d.fresh, d.apart⟩
    match j with
    | 0 =>
      simp only [List.getElem?_cons_zero, Option.some.injEq] at hj
      subst hj
      rcases hnew with ⟨h1, _, _⟩ | ⟨k, l, t', fz, h1, h2, _, h4, h5⟩
      · cases h1
      · exact .inr ⟨k, l, t', fz, h1, h2, fun h => (by cases h), h4, h5⟩
    | j + 1 => simp at hj
  · have hS2 : specR mds FN avs H base = some { val := valN, rd := (ixC mds xs).filterMap id, put := [], new := [], obl := xs.flatMap (·.ob) ++ ob } := by
      unfold specR
      rw [hxs]
      simp only [e1]
      show cond _ _ _ = _
      rw [hw, hl, hput]
      rfl
    refine (hN.2 avs H base _ ν vals w hS2 (by simpa [obls, List.all_append] using And.intro ho'.1 e2) hv hr hlt (fun j hj => absurd hj (Nat.not_lt_zero _)) (fun i o j b b' hp => by cases hp)).mono ?_
    rintro e w' ⟨v, ν', rfl, d⟩
    have hnone : ν' base = none := by
      have h0 : ν base = none := hfree 0 (Nat.zero_lt_one)
      cases hq : ν' base with
      | none => rfl
      | some b =>
        have := d.dom base h0 (by rw [hq]; simp)
        simp at this
    have hv0 : VR ν' (.tup [.sl base 8 0 0 0 none, .v (.bool false)]) v := by
      have := d.val
      simp only [VR, VRs] at this ⊢
      obtain ⟨l, e1, e2⟩ := this
      match l, e2 with
      | [a, b], ⟨ha, hbb, _⟩ => exact ⟨[a, b], e1, ⟨none, 0, ha, fun c' hc' => (by cases hc'), Nat.le_refl _, fun hc => absurd hc (Nat.lt_irrefl 0)⟩, hbb, trivial⟩
    refine ⟨v, ν', rfl, d.le, fun i h1 h2 => ?_, by rw [hb, hT]; exact hv0, fun i b hl => (by cases hl), fun j b hj => ?_, d.os, d.tape, d.output, d.size, d.block, fun j b hj hq => ?_, fun j j' b b' hne hj hj' => ?_⟩
    · have := d.dom i h1 h2
      simp at this
      omega
    · match j with
      | 0 =>
        simp only [List.getElem?_cons_zero, Option.some.injEq] at hj
        subst hj
        rw [hT]
        exact .inl ⟨rfl, rfl, hnone⟩
      | j + 1 => simp at hj
    · have hj : j < 1 := hj
      have : j = 0 := by omega
      subst this
      rw [Nat.add_zero, hnone] at hq
      cases hq
    · have hj : j < 1 := hj
      have hj' : j' < 1 := hj'
      omega

end Go.Proofs.Ytmdcafhnjihckaa

/- RowOf of both: trees. Conditions: a list of wheels, a number. -/
namespace Go.Proofs.Ytmdcafhnjihckaa
open Go.RowKit
set_option maxRecDepth 100000

noncomputable abbrev fRI : Func := Try.f31
def gmRO (dv : (Nat → Nat → Int) → Int → Nat → Nat → Int) (dk : (Nat → Nat → Int) → Int → Nat → Bool) : Gam := ext (ext g0 18 (specR md_wv (FDAo dv dk))) 75 (specR md_wv (FDAo dv dk))
def gmRV (okd : List Wh → Bool) : Gam := ext (ext gm_l6In 58 (specR md_ws (FdvO okd))) 61 (specR md_ws (FdvO okd))
abbrev hpRO (m : Nat) (f : Nat → Nat → Int) (i : Nat) (h : Nat → Nat → Int) : List AB := [.row false m 9 (row9 f) 46, .row true i 8 (row8 h) 31]
abbrev hpR1 (m : Nat) (f : Nat → Nat → Int) : List AB := [.row false m 9 (row9 f) 46]
abbrev lvRI : Ex → List Nat := lv3 [0, 1, 6, 20, 21] [6] [4, 5]
abbrev stRI (m n i : Nat) : List AV := [.sl 0 9 0 0 m none, .v (i64 n), .own 1 i, .v (i64 n), .v (i64 i)]
theorem rndRI (dv : (Nat → Nat → Int) → Int → Nat → Nat → Int) (dk : (Nat → Nat → Int) → Int → Nat → Bool) (m : Nat) (f : Nat → Nat → Int) (n : Nat) (h : Nat → Nat → Int) (i : Nat) : execC Try.prog (gmRO dv dk) 100 noLam (loopAt 0 fRI) (mkT 0 41 ((lvRI .normal).zip (stRI m n i))) (hpRO m f i h) (leafV 41 lvRI 1)
    = bif decide ((↑i : Int) < (↑n : Int)) then needs [!decide ((↑n : Int) = (0 : Int)), Nat.ble ((0 : Nat) + m) m, allW m fun q ↦ row9 f ((0 : Nat) + q), decide (m ≤ (274877906944 : Nat))] (bif !dk (itW fun q ↦ row9 f ((0 : Nat) + q)) (IntKind.wrap IntKind.i64 ((↑i : Int) * IntKind.wrap IntKind.i64 (Int.tdiv (24 : Int) (↑n : Int)))) m then Res.out Ex.ret [AV.v (Value.slice none (0 : Nat) (0 : Nat)), AV.v (Value.bool false)] [AB.row false m (9 : Nat) (row9 f) (46 : TypeId)] else needs [Nat.ble i i, Nat.ble (i + (1 : Nat)) (549755813888 : Nat)] (Res.out Ex.normal [AV.sl (0 : Nat) (9 : Nat) (0 : Nat) (0 : Nat) m none, AV.v (Value.int IntKind.i64 (↑n : Int)), AV.own (1 : Nat) (i + (1 : Nat)), AV.v (Value.int IntKind.i64 (↑n : Int)), AV.v (Value.int IntKind.i64 (IntKind.wrap IntKind.i64 ((↑i : Int) + (1 : Int))))] [AB.row false m (9 : Nat) (row9 f) (46 : TypeId), AB.row true (i + (1 : Nat)) (8 : Nat) (fun q ↦ [Value.int IntKind.i64 (bif Nat.blt q i then h q (0 : Nat) else dv (itW fun q ↦ row9 f ((0 : Nat) + q)) (IntKind.wrap IntKind.i64 ((↑i : Int) * IntKind.wrap IntKind.i64 (Int.tdiv (24 : Int) (↑n : Int)))) m (0 : Nat)), Value.int IntKind.i64 (bif Nat.blt q i then h q (1 : Nat) else dv (itW fun q ↦ row9 f ((0 : Nat) + q)) (IntKind.wrap IntKind.i64 ((↑i : Int) * IntKind.wrap IntKind.i64 (Int.tdiv (24 : Int) (↑n : Int)))) m (1 : Nat)), Value.int IntKind.i64 (bif Nat.blt q i then h q (2 : Nat) else dv (itW fun q ↦ row9 f ((0 : Nat) + q)) (IntKind.wrap IntKind.i64 ((↑i : Int) * IntKind.wrap IntKind.i64 (Int.tdiv (24 : Int) (↑n : Int)))) m (2 : Nat)), Value.int IntKind.i64 (bif Nat.blt q i then h q (3 : Nat) else dv (itW fun q ↦ row9 f ((0 : Nat) + q)) (IntKind.wrap IntKind.i64 ((↑i : Int) * IntKind.wrap IntKind.i64 (Int.tdiv (24 : Int) (↑n : Int)))) m (3 : Nat)), Value.int IntKind.i64 (bif Nat.blt q i then h q (4 : Nat) else dv (itW fun q ↦ row9 f ((0 : Nat) + q)) (IntKind.wrap IntKind.i64 ((↑i : Int) * IntKind.wrap IntKind.i64 (Int.tdiv (24 : Int) (↑n : Int)))) m (4 : Nat)), Value.int IntKind.i64 (bif Nat.blt q i then h q (5 : Nat) else dv (itW fun q ↦ row9 f ((0 : Nat) + q)) (IntKind.wrap IntKind.i64 ((↑i : Int) * IntKind.wrap IntKind.i64 (Int.tdiv (24 : Int) (↑n : Int)))) m (5 : Nat)), Value.int IntKind.i64 (bif Nat.blt q i then h q (6 : Nat) else dv (itW fun q ↦ row9 f ((0 : Nat) + q)) (IntKind.wrap IntKind.i64 ((↑i : Int) * IntKind.wrap IntKind.i64 (Int.tdiv (24 : Int) (↑n : Int)))) m (6 : Nat)), Value.int IntKind.i64 (bif Nat.blt q i then h q (7 : Nat) else dv (itW fun q ↦ row9 f ((0 : Nat) + q)) (IntKind.wrap IntKind.i64 ((↑i : Int) * IntKind.wrap IntKind.i64 (Int.tdiv (24 : Int) (↑n : Int)))) m (7 : Nat))]) (31 : Nat)])) else Res.out (Ex.exit (0 : Nat)) [AV.own (1 : Nat) i] [AB.row false m (9 : Nat) (row9 f) (46 : TypeId), AB.row true i (8 : Nat) (row8 h) (31 : TypeId)] := by kernel_rfl

noncomputable abbrev lamRI (m : Nat) (f : Nat → Nat → Int) (n : Nat) (c : Bool) (h : Nat → Nat → Int) : Nat → Option Sum := oneL 0 (atS 41 (lvRI .normal) 1 (stRI m n 0) (hpRO m f 0 fun _ _ => 0) (fun K => cond c (K .normal (mkT 0 41 [(6, .own 1 n)]) (hpRO m f n h)) (K .ret (mkT 0 41 [(4, .v (.slice none 0 0)), (5, .v (.bool false))]) (hpR1 m f))))
theorem treeRI (okd : List Wh → Bool) (m : Nat) (f : Nat → Nat → Int) (x : Int) (n : Nat) (c : Bool) (h : Nat → Nat → Int) : execF Try.prog (gmRV okd) (lamRI m f n c h) 100 fRI [.sl 0 9 0 0 m none, .v (i64 x)] (hpR1 m f) (packK 1)
    = bif decide (x ≥ (1 : Int)) then needs [!decide (x = (0 : Int))] (bif !Int.tmod (24 : Int) x == (0 : Int) then Res.out Ex.ret [AV.tup [AV.v (Value.slice none (0 : Nat) (0 : Nat)), AV.v (Value.bool false)]] [AB.row false m (9 : Nat) (row9 f) (46 : TypeId)] else needs [Nat.ble ((0 : Nat) + m) m, allW m fun q ↦ row9 f ((0 : Nat) + q), decide (m ≤ (549755813888 : Nat))] (bif !okd (listW (itW fun q ↦ row9 f ((0 : Nat) + q)) m) then Res.out Ex.ret [AV.tup [AV.v (Value.slice none (0 : Nat) (0 : Nat)), AV.v (Value.bool false)]] [AB.row false m (9 : Nat) (row9 f) (46 : TypeId)] else needs [decide ((0 : Int) ≤ x), decide (x ≤ (1099511627776 : Int)), chk ([AV.sl (0 : Nat) (9 : Nat) (0 : Nat) (0 : Nat) m none, AV.v (Value.int IntKind.i64 x), AV.own (1 : Nat) (0 : Nat), AV.v (Value.int IntKind.i64 x), AV.v (Value.int IntKind.i64 (0 : Int))] = stRI m n (0 : Nat) ∧ Hsim [AB.row false m (9 : Nat) (row9 f) (46 : TypeId), AB.row true (0 : Nat) (8 : Nat) (fun _ ↦ [Value.int IntKind.i64 (0 : Int), Value.int IntKind.i64 (0 : Int), Value.int IntKind.i64 (0 : Int), Value.int IntKind.i64 (0 : Int), Value.int IntKind.i64 (0 : Int), Value.int IntKind.i64 (0 : Int), Value.int IntKind.i64 (0 : Int), Value.int IntKind.i64 (0 : Int)]) (31 : Nat)] (hpRO m f (0 : Nat) fun x x_1 ↦ (0 : Int)))] (bif c then Res.out Ex.ret [AV.tup [AV.own (1 : Nat) n, AV.v (Value.bool true)]] [AB.row false m (9 : Nat) (row9 f) (46 : TypeId), AB.row true n (8 : Nat) (row8 h) (31 : TypeId)] else Res.out Ex.ret [AV.tup [AV.v (Value.slice none (0 : Nat) (0 : Nat)), AV.v (Value.bool false)]] [AB.row false m (9 : Nat) (row9 f) (46 : TypeId)]))) else Res.out Ex.ret [AV.tup [AV.v (Value.slice none (0 : Nat) (0 : Nat)), AV.v (Value.bool false)]] [AB.row false m (9 : Nat) (row9 f) (46 : TypeId)] := by kernel_rfl

abbrev lvRS : Ex → List Nat := lv3 [0, 1, 6, 7] [6] [4, 5]
abbrev stRS (m n i : Nat) : List AV := [.sl 0 9 0 0 m none, .v (i64 n), .own 1 i, .v (i64 i)]
noncomputable abbrev lamRS (m : Nat) (f : Nat → Nat → Int) (n : Nat) (c : Bool) (h : Nat → Nat → Int) : Nat → Option Sum := oneL 0 (atS 42 (lvRS .normal) 1 (stRS m n 0) (hpRO m f 0 fun _ _ => 0) (fun K => cond c (K .normal (mkT 0 42 [(6, .own 1 n)]) (hpRO m f n h)) (K .ret (mkT 0 42 [(4, .own 1 0), (5, .v (.bool false))]) (hpRO m f 0 fun _ _ => 0))))
end Go.Proofs.Ytmdcafhnjihckaa

/- RowOf of both: its word. Conditions: a list of wheels, a number. -/
namespace Go.Proofs.Ytmdcafhnjihckaa
open Go.RowKit
set_option maxRecDepth 100000

/-- The points in turn. -/
def roF (f : Nat → Nat → Int) (m : Nat) (x : Int) : Nat → Nat → Int := fun j => daV f ((j : Int) * Int.tdiv 24 x) m
def rwB (f : Nat → Nat → Int) (m : Nat) (x : Int) (j : Nat) : Bool := !daOk f ((j : Int) * Int.tdiv 24 x) m
def roV (x : Int) : Bool := decide (x ≥ 1) && (decide (x ≤ 24) && (Int.tmod 24 x == 0))
def roK (f : Nat → Nat → Int) (m : Nat) (x : Int) : Bool := roV x && (okD (listW f m) && noneTo (rwB f m x) x.toNat)
def roT (f : Nat → Nat → Int) (m : Nat) (x : Int) : List Cy := bif roK f m x then listC (roF f m x) x.toNat else []
theorem roV_in {x : Int} (h : roV x = true) : 1 ≤ x ∧ x ≤ 24 := by
  rw [roV, Bool.and_eq_true, Bool.and_eq_true, decide_eq_true_eq, decide_eq_true_eq] at h
  exact ⟨h.1, h.2.1⟩
theorem tdiv24 {n : Nat} (h0 : 1 ≤ n) (h1 : n ≤ 24) : 0 ≤ Int.tdiv 24 (n : Int) ∧ Int.tdiv 24 (n : Int) ≤ 24 := by
  rw [Int.tdiv_eq_ediv_of_nonneg (by omega)]
  exact ⟨Int.ediv_nonneg (by omega) (by omega), Int.ediv_le_self _ (by omega)⟩
theorem ro_mul {i n : Nat} (hi : i < n) (hn : n ≤ 24) : IntKind.wrap IntKind.i64 ((i : Int) * IntKind.wrap IntKind.i64 (Int.tdiv 24 (n : Int))) = (i : Int) * Int.tdiv 24 (n : Int) := by
  have h := tdiv24 (n := n) (by omega) hn
  have hm := mul_bd (x := (i : Int)) (y := Int.tdiv 24 (n : Int)) (A := 24) (B := 24) (by omega) (by omega) (by omega) h.2
  rw [wr_in (x := Int.tdiv 24 (n : Int)) (by omega), wr_in (by omega)]
theorem gmRO_ok : GamOk Try.prog (gmRO daV daOk) := by
  refine ext_ok (ext_ok g0_ok ok_DAI) ?_
  rw [FDAo_eq]
  exact ok_DA
theorem gmRV_ok : GamOk Try.prog (gmRV okD) := by
  unfold gmRV
  rw [FdvO_eq]
  exact ext_ok (ext_ok gm_l6In_ok ok_dvI) ok_dv
theorem ro_row (f : Nat → Nat → Int) (m n i : Nat) (o : Nat → Nat → Int) (ho : ∀ j, j < i → o j = roF f m n j) (j : Nat) (hj : j < i + 1) : [i64 (bif Nat.blt j i then o j 0 else daV f ((i : Int) * Int.tdiv 24 (n : Int)) m 0), i64 (bif Nat.blt j i then o j 1 else daV f ((i : Int) * Int.tdiv 24 (n : Int)) m 1), i64 (bif Nat.blt j i then o j 2 else daV f ((i : Int) * Int.tdiv 24 (n : Int)) m 2), i64 (bif Nat.blt j i then o j 3 else daV f ((i : Int) * Int.tdiv 24 (n : Int)) m 3), i64 (bif Nat.blt j i then o j 4 else daV f ((i : Int) * Int.tdiv 24 (n : Int)) m 4), i64 (bif Nat.blt j i then o j 5 else daV f ((i : Int) * Int.tdiv 24 (n : Int)) m 5), i64 (bif Nat.blt j i then o j 6 else daV f ((i : Int) * Int.tdiv 24 (n : Int)) m 6), i64 (bif Nat.blt j i then o j 7 else daV f ((i : Int) * Int.tdiv 24 (n : Int)) m 7)] = row8 (roF f m n) j := by
  by_cases h : j < i
  · rw [blt_yes h]
    simp only [cond_true, ho j h]
  · have : j = i := by omega
    subst this
    rw [blt_no]
    rfl
theorem sumRI (m : Nat) (f : Nat → Nat → Int) (n : Nat) (hm : m ≤ 2 ^ 38) (hn : n ≤ 24) :
    SumOk Try.prog 1 (.block 0 (.loop (loopAt 0 fRI))) (atS 41 (lvRI .normal) 1 (stRI m n 0) (hpRO m f 0 fun _ _ => 0) (fun K => cond (noneTo (rwB f m n) n) (K .normal (mkT 0 41 [(6, .own 1 n)]) (hpRO m f n (roF f m n))) (K .ret (mkT 0 41 [(4, .v (.slice none 0 0)), (5, .v (.bool false))]) (hpR1 m f)))) := by
  refine for_at gmRO_ok (n := 100) (m := 1) (lv := lvRI) (fun i => stRI m n i) (fun i => hpRO m f i (bif Nat.beq i 0 then (fun _ _ => 0) else roF f m n)) (fun i => noneTo (rwB f m n) i = true) n (fun _ => noLam) (lv3_ris rfl rfl rfl) (Nat.le_refl _) rfl fun K Q hk i hno hi => ⟨noLam_ok _ _ _, ?_⟩
  have ho : ∀ j, j < i → (bif Nat.beq i 0 then (fun _ _ => (0 : Int)) else roF f m n) j = roF f m n j := by
    intro j hj
    cases i with
    | zero => exact absurd hj (Nat.not_lt_zero _)
    | succ i => rfl
  rw [rndRI]
  simp only [row0, daOk_row, daV_row]
  refine good_cond (fun c1 => ?_) fun c1 => ?_
  · have c1 := of_decide_eq_true c1
    have c1' : i < n := by omega
    rw [ro_mul c1' hn, wr_in (x := (i : Int) + 1) (by omega)]
    refine good_needs (by simp only [ob_cons, ob_nil, and_true, Bool.not_eq_true', decide_eq_false_iff_not, decide_eq_true_eq, Nat.ble_eq, allW_row, true_and]; omega) (good_cond (fun q => ?_) fun q => good_needs (by simp only [ob_cons, ob_nil, and_true, decide_eq_true_eq, Nat.ble_eq]; omega) (good_out ⟨i + 1, ⟨rfl, c1', noneTo_succ hno q⟩, rfl, .cons (ABeq.refl _) (.cons (ABeq.row fun j hj => ?_) .nil)⟩))
    · refine good_out ⟨_, Hsim.refl _, ?_⟩
      rw [noneTo_no c1' q] at hk
      exact hk
    · exact ro_row f m n i _ ho j hj
  · have c1 := of_decide_eq_false c1
    have : i = n := by omega
    subst this
    refine good_out ⟨hpRO m f i (roF f m i), .cons (ABeq.refl _) (.cons (ABeq.row fun j hj => row8_congr fun k _ => by rw [ho j hj]) .nil), ?_⟩
    rw [if_pos rfl]
    rw [hno] at hk
    exact hk
def FroY : List SA → Option FR
  | [.row m g, .v (.int .i64 x)] => some { val := valG (roT (itW g) m x), new := newG (roT (itW g) m x), obl := [allW m g, decide (m ≤ 2 ^ 38), roK (itW g) m x] }
  | _ => none
def FroN : List SA → Option FR
  | [.row m g, .v (.int .i64 x)] => some { val := valN, obl := [allW m g, decide (m ≤ 2 ^ 38), !roK (itW g) m x] }
  | _ => none
def UroO (rk : (Nat → Nat → Int) → Nat → Int → Bool) (rt : (Nat → Nat → Int) → Nat → Int → List Cy) : List SA → Option PtR
  | [.row m g, .v (.int .i64 x)] => some ⟨rk (itW g) m x, rt (itW g) m x, [allW m g, decide (m ≤ 2 ^ 38)]⟩
  | _ => none
def FroS (rk : (Nat → Nat → Int) → Nat → Int → Bool) (rt : (Nat → Nat → Int) → Nat → Int → List Cy) : List SA → Option FR
  | [.row m g, .v (.int .i64 x)] => some { val := .tup [.own 0 (rt (itW g) m x).length, .v (.bool (rk (itW g) m x))], new := newG (rt (itW g) m x), obl := [allW m g, decide (m ≤ 2 ^ 38)] }
  | _ => none
theorem roK_parts {f : Nat → Nat → Int} {m : Nat} {x : Int} (h : roK f m x = true) : roV x = true ∧ okD (listW f m) = true ∧ noneTo (rwB f m x) x.toNat = true := by
  rw [roK, Bool.and_eq_true, Bool.and_eq_true] at h
  exact ⟨h.1, h.2.1, h.2.2⟩
theorem roV_parts {x : Int} (h : roV x = true) : decide (x ≥ 1) = true ∧ decide (x ≤ 24) = true ∧ (Int.tmod 24 x == 0) = true := by
  rw [roV, Bool.and_eq_true, Bool.and_eq_true] at h
  exact ⟨h.1, h.2.1, h.2.2⟩
theorem roT_yes {f : Nat → Nat → Int} {m : Nat} {x : Int} (h : roK f m x = true) : roT f m x = listC (roF f m x) x.toNat := by rw [roT, h]; rfl
theorem roT_no {f : Nat → Nat → Int} {m : Nat} {x : Int} (h : roK f m x = false) : roT f m x = [] := by rw [roT, h]; rfl
theorem roT_len (f : Nat → Nat → Int) (m : Nat) (x : Int) : (roT f m x).length ≤ 24 := by
  cases h : roK f m x with
  | true =>
    have := roV_in (roK_parts h).1
    rw [roT_yes h, listC_length]
    omega
  | false => rw [roT_no h]; exact Nat.zero_le _
theorem rs_le {x : Int} (h0 : x ≥ 1) (h : Int.tmod 24 x = 0) : x ≤ 24 := by
  by_cases hx : x ≤ 24
  · exact hx
  · exfalso
    rw [Int.tmod_eq_emod_of_nonneg (by omega), Int.emod_eq_of_lt (by omega) (by omega)] at h
    omega
theorem roI_run {m : Nat} {f : Nat → Nat → Int} {x : Int} {Q : Ex → List AV → List AB → Prop} (n : Nat) (hn : n ≤ 24) (hx : roV x = true → x = n) (hm : m ≤ 2 ^ 38)
    (yes : roK f m x = true → GoodQ (.out .ret [.tup [.own 1 n, .v (.bool true)]] (hpRO m f n (roF f m n))) Q) (no : roK f m x = false → GoodQ (.out .ret [.tup [.v (.slice none 0 0), .v (.bool false)]] (hpR1 m f)) Q) :
    GoodQ (execF Try.prog (gmRV okD) (lamRI m f n (noneTo (rwB f m n) n) (roF f m n)) 100 fRI [.sl 0 9 0 0 m none, .v (i64 x)] (hpR1 m f) (packK 1)) Q := by
  rw [treeRI]
  simp only [row0, listW_itW]
  refine good_cond (fun c1 => ?_) fun c1 => no (by rw [roK, roV, c1]; rfl)
  have c1' := of_decide_eq_true c1
  refine good_needs (by simp only [ob_cons, ob_nil, and_true, Bool.not_eq_true', decide_eq_false_iff_not]; omega) (good_cond (fun c2 => no ?_) fun c2 => ?_)
  · have c2 : (Int.tmod 24 x == 0) = false := by simpa using c2
    rw [roK, roV, c2, Bool.and_false, Bool.and_false]
    rfl
  · have c2 : (Int.tmod 24 x == 0) = true := by simpa using c2
    have hv : roV x = true := by rw [roV, c1, c2, decide_eq_true (rs_le c1' (beq_iff_eq.1 c2))]; rfl
    have e := hx hv
    subst e
    refine good_needs (by simp only [ob_cons, ob_nil, and_true, decide_eq_true_eq, Nat.ble_eq, allW_row, true_and]; omega) (good_cond (fun c3 => no ?_) fun c3 => good_needs ?_ (good_cond (fun c4 => yes ?_) fun c4 => no ?_))
    · have c3 : okD (listW f m) = false := by simpa using c3
      rw [roK, c3, hv]
      rfl
    · simp only [ob_cons, ob_nil, and_true, decide_eq_true_eq]
      exact ⟨by omega, by omega, chk_of ⟨rfl, .cons (ABeq.refl _) (.cons (ABeq.row fun j hj => absurd hj (Nat.not_lt_zero _)) .nil)⟩⟩
    · have c3 : okD (listW f m) = true := by simpa using c3
      rw [roK, c3, hv, Int.toNat_natCast, c4]
      rfl
    · have c3 : okD (listW f m) = true := by simpa using c3
      rw [roK, c3, hv, Int.toNat_natCast, c4]
      rfl
theorem ro_fin {m : Nat} {g : Nat → List Value} {x : Int} {n : Nat} (h1 : allW m g = true) (hk : roK (itW g) m x = true) (hx : x = n) : Hsim (hpRO m (itW g) n (roF (itW g) m n)) ([.row false m 9 g 46] ++ newG (roT (itW g) m x)) ∧ (roT (itW g) m x).length = n := by
  subst hx
  have e := roT_yes hk
  rw [Int.toNat_natCast] at e
  have hl : (roT (itW g) m n).length = n := by rw [e, listC_length]
  refine ⟨.cons (ABeq.row fun j hj => (allW_get h1 j hj).symm) ?_, hl⟩
  show Hsim _ [.row true (roT (itW g) m n).length 8 (row8 (cfun (roT (itW g) m n))) 31]
  rw [hl, e]
  exact .cons (ABeq.row fun j hj => (row8_list _ hj).symm) .nil
theorem ok_roY : SpecOk Try.prog 31 (specR md_wv FroY) := by
  refine specR_hr gmRV_ok Try.func31 rfl fun sas fr hF ho => ?_
  unfold FroY at hF
  split at hF
  · rename_i m g x
    cases hF
    simp only [ob_cons] at ho
    obtain ⟨h1, h2, h3, _⟩ := ho
    have hm := of_decide_eq_true h2
    have hv := roV_in (roK_parts h3).1
    obtain ⟨n, hn⟩ : ∃ n : Nat, x = n := ⟨x.toNat, by omega⟩
    refine ⟨hpR1 m (itW g), lamRI m (itW g) n (noneTo (rwB (itW g) m n) n) (roF (itW g) m n), 100, .cons (ABeq.row fun j hj => allW_get h1 j hj) .nil, lam1 (by kernel_rfl) (sumRI m (itW g) n hm (by omega)), ?_⟩
    refine roI_run n (by omega) (fun _ => hn) hm (fun hk => ?_) fun hk => by rw [h3] at hk; cases hk
    obtain ⟨e1, e2⟩ := ro_fin h1 hk hn
    exact good_out ⟨_, rfl, by rw [e2]; rfl, e1⟩
  · cases hF
theorem ok_roN : SpecOk Try.prog 31 (specR md_wv FroN) := by
  refine specR_hr gmRV_ok Try.func31 rfl fun sas fr hF ho => ?_
  unfold FroN at hF
  split at hF
  · rename_i m g x
    cases hF
    simp only [ob_cons] at ho
    obtain ⟨h1, h2, h3, _⟩ := ho
    have hm := of_decide_eq_true h2
    have h3 : roK (itW g) m x = false := by simpa using h3
    obtain ⟨n, hn, hn2⟩ : ∃ n : Nat, n ≤ 24 ∧ (roV x = true → x = n) := by
      cases hv : roV x with
      | true => have := roV_in hv; exact ⟨x.toNat, by omega, fun _ => by omega⟩
      | false => exact ⟨0, by omega, fun h => by cases h⟩
    refine ⟨hpR1 m (itW g), lamRI m (itW g) n (noneTo (rwB (itW g) m n) n) (roF (itW g) m n), 100, .cons (ABeq.row fun j hj => allW_get h1 j hj) .nil, lam1 (by kernel_rfl) (sumRI m (itW g) n hm hn), ?_⟩
    refine roI_run n hn hn2 hm (fun hk => by rw [h3] at hk; cases hk) fun _ => ?_
    exact good_out ⟨_, rfl, rfl, .cons (ABeq.row fun j hj => (allW_get h1 j hj).symm) .nil⟩
  · cases hF
theorem ok_Uro : SpecOk Try.prog 31 (specG md_wv (UroO roK roT)) := by
  refine specG_ok rfl ok_roY ok_roN fun sas u hu ho => ?_
  unfold UroO at hu
  split at hu
  · rename_i m g x
    cases hu
    simp only [ob_cons] at ho
    obtain ⟨h1, h2, _⟩ := ho
    refine ⟨rfl, ?_⟩
    cases hv : roK (itW g) m x with
    | true =>
      left
      refine ⟨rfl, [allW m g, decide (m ≤ 2 ^ 38), roK (itW g) m x], rfl, ?_⟩
      simp only [ob_cons, ob_nil, and_true]
      exact ⟨h1, h2, hv⟩
    | false =>
      right
      refine ⟨rfl, roT_no hv, [allW m g, decide (m ≤ 2 ^ 38), !roK (itW g) m x], rfl, ?_⟩
      simp only [ob_cons, ob_nil, and_true]
      exact ⟨h1, h2, by rw [hv]; rfl⟩
  · cases hu
end Go.Proofs.Ytmdcafhnjihckaa

/- The program's RowShift, of a valid row. Conditions: a valid row, a number. -/
namespace Go.Proofs.Ytmdcafhnjihckaa
open Go.RowKit
set_option maxRecDepth 100000

noncomputable abbrev fIC : Func := Try.f175
abbrev fnIy : AV := .v (.func (.func 160) ⟨[]⟩ ⟨[]⟩)
abbrev lvIy : Ex → List Nat := lv3 [0, 1, 7, 8] [] [4]
abbrev hpIy (m : Nat) (f : Nat → Nat → Int) : List AB := [.row false m 8 (row8 f) 31]
def gmIy (ok : (Nat → Int) → Bool) : Gam := ext g0 66 (specV (fOkc ok))
theorem rndIy (ok : (Nat → Int) → Bool) (m : Nat) (f : Nat → Nat → Int) (i : Nat) : execC Try.prog (gmIy ok) 100 noLam (loopAt 0 fIC) (mkT 0 19 ((lvIy .normal).zip [.sl 0 8 0 0 m none, fnIy, .v (i64 m), .v (i64 i)])) (hpIy m f) (leafV 19 lvIy 1)
    = bif decide ((↑i : Int) < (↑m : Int)) then needs [decide ((↑i : Int) < (↑m : Int)), decide ((0 : Nat) + Int.toNat (↑i : Int) < m)] (bif !ok (w8 (f ((0 : Nat) + Int.toNat (↑i : Int)))) then Res.out Ex.ret [AV.v (Value.int IntKind.i64 (↑i : Int))] [AB.row false m (8 : Nat) (row8 f) (31 : TypeId)] else Res.out Ex.normal [AV.sl (0 : Nat) (8 : Nat) (0 : Nat) (0 : Nat) m none, AV.v (Value.func (Fn.func (160 : FuncId)) (Array.mk []) (Array.mk [])), AV.v (Value.int IntKind.i64 (↑m : Int)), AV.v (Value.int IntKind.i64 (IntKind.wrap IntKind.i64 ((↑i : Int) + (1 : Int))))] [AB.row false m (8 : Nat) (row8 f) (31 : TypeId)]) else Res.out (Ex.exit (0 : Nat)) [] [AB.row false m (8 : Nat) (row8 f) (31 : TypeId)] := by kernel_rfl

noncomputable abbrev lamIy (m : Nat) (f : Nat → Nat → Int) : Nat → Option Sum := oneL 0 (atS 19 (lvIy .normal) 1 [.sl 0 8 0 0 m none, fnIy, .v (i64 m), .v (i64 (0 : Nat))] (hpIy m f) (fun K => K .normal (mkT 0 19 []) (hpIy m f)))
theorem treeIy (m : Nat) (f : Nat → Nat → Int) : execF Try.prog g0 (lamIy m f) 100 fIC [.sl 0 8 0 0 m none, fnIy] (hpIy m f) (packK 1)
    = needs [chk ([AV.sl (0 : Nat) (8 : Nat) (0 : Nat) (0 : Nat) m none, AV.v (Value.func (Fn.func (160 : FuncId)) (Array.mk []) (Array.mk [])), AV.v (Value.int IntKind.i64 (↑m : Int)), AV.v (Value.int IntKind.i64 (0 : Int))] = [AV.sl (0 : Nat) (8 : Nat) (0 : Nat) (0 : Nat) m none, fnIy, AV.v (Value.int IntKind.i64 (↑m : Int)), AV.v (Value.int IntKind.i64 (0 : Int))] ∧ Hsim [AB.row false m (8 : Nat) (row8 f) (31 : TypeId)] (hpIy m f))] (Res.out Ex.ret [AV.v (Value.int IntKind.i64 (-1 : Int))] [AB.row false m (8 : Nat) (row8 f) (31 : TypeId)]) := by kernel_rfl

/-- Where all points are valid, none is found. -/
def FidY (ok : (Nat → Int) → Bool) : List SA → Option FR
  | [.row m g, .v (.func (.func f) ⟨[]⟩ ⟨[]⟩)] => some { val := .v (i64 (-1)), obl := [Nat.beq f 160, all8 m g, decide (m ≤ 2 ^ 38), (List.range m).all fun j => ok (it8 g j)] }
  | _ => none
def md_ic : List Md := [.rd 8 31, .val]
abbrev lvRh : Ex → List Nat := lv3 [0, 1, 6, 20, 21] [6] [4, 5]
abbrev stRh (m : Nat) (x : Int) (i : Nat) : List AV := [.sl 0 8 0 0 m none, .v (i64 x), .own 1 i, .v (i64 m), .v (i64 i)]
abbrev hpRh (m : Nat) (f : Nat → Nat → Int) (i : Nat) (h : Nat → Nat → Int) : List AB := [.row false m 8 (row8 f) 31, .row true i 8 (row8 h) 31]
noncomputable abbrev lamRh (m : Nat) (f : Nat → Nat → Int) (x : Int) (h : Nat → Nat → Int) : Nat → Option Sum := oneL 0 (atS 38 (lvRh .normal) 1 (stRh m x 0) (hpRh m f 0 fun _ _ => 0) (fun K => K .normal (mkT 0 38 [(6, .own 1 m)]) (hpRh m f m h)))
def gmRh (ok : (Nat → Int) → Bool) : Gam := ext gm_within 175 (specR md_ic (FidY ok))
end Go.Proofs.Ytmdcafhnjihckaa

/- The program's RowShift, of a valid row: its word. Conditions: a valid row, a number. -/
namespace Go.Proofs.Ytmdcafhnjihckaa
open Go.RowKit
set_option maxRecDepth 100000

def cvB (f : Nat → Nat → Int) (m : Nat) : Bool := (List.range m).all fun j => cyOk (cyOf (f j))
theorem cvB_at {f : Nat → Nat → Int} {m i : Nat} (h : cvB f m = true) (hi : i < m) : cyOk (cyOf (f i)) = true := List.all_eq_true.1 h i (by simpa using hi)
theorem gmIy_ok : GamOk Try.prog (gmIy (fun v => cyOk (cyOf v))) := by
  unfold gmIy
  rw [fOkc_eq]
  exact ext_ok g0_ok ok_cvI
theorem sumIy (m : Nat) (f : Nat → Nat → Int) (hm : m ≤ 2 ^ 40) (hv : cvB f m = true) :
    SumOk Try.prog 1 (.block 0 (.loop (loopAt 0 fIC))) (atS 19 (lvIy .normal) 1 [.sl 0 8 0 0 m none, fnIy, .v (i64 m), .v (i64 (0 : Nat))] (hpIy m f) (fun K => K .normal (mkT 0 19 []) (hpIy m f))) := by
  refine for_at gmIy_ok (n := 100) (m := 1) (lv := lvIy) (fun i => [.sl 0 8 0 0 m none, fnIy, .v (i64 m), .v (i64 (i : Nat))]) (fun _ => hpIy m f) (fun _ => True) m (fun _ => noLam) (lv3_ris rfl rfl rfl) (Nat.le_refl _) trivial fun K Q hk i _ hi => ⟨noLam_ok _ _ _, ?_⟩
  rw [rndIy]
  refine good_cond (fun c1 => ?_) fun c1 => ?_
  · have c1 := of_decide_eq_true c1
    have c1' : i < m := by omega
    rw [show 0 + Int.toNat (i : Int) = i by omega, wr_in (x := (i : Int) + 1) (by omega)]
    refine good_needs (by simp only [ob_cons, ob_nil, and_true, decide_eq_true_eq]; omega) (good_false ?_ (good_out ⟨i + 1, ⟨rfl, c1', trivial⟩, rfl, Hsim.refl _⟩))
    have := cvB_at hv c1'
    show (!cyOk (cyOf (f i))) = false
    rw [this]
    rfl
  · have c1 := of_decide_eq_false c1
    have : i = m := by omega
    subst this
    refine good_out ⟨_, Hsim.refl _, ?_⟩
    rw [if_pos rfl]
    exact hk
theorem ok_idY : SpecOk Try.prog 175 (specR md_ic (FidY fun v => cyOk (cyOf v))) := by
  refine specR_hr g0_ok Try.func175 rfl fun sas fr hF ho => ?_
  unfold FidY at hF
  split at hF
  · rename_i m g fi
    cases hF
    simp only [ob_cons] at ho
    obtain ⟨h0, h1, h2, h3, _⟩ := ho
    have h0 := Nat.eq_of_beq_eq_true h0
    subst h0
    have hm := of_decide_eq_true h2
    refine ⟨hpIy m (it8 g), lamIy m (it8 g), 100, .cons (ABeq.row fun j hj => all8_get h1 j hj) .nil, lam1 (by kernel_rfl) (sumIy m (it8 g) (by omega) h3), ?_⟩
    show GoodQ (execF Try.prog g0 (lamIy m (it8 g)) 100 fIC [.sl 0 8 0 0 m none, fnIy] (hpIy m (it8 g)) (packK 1)) _
    rw [treeIy]
    exact good_needs (by rw [ob_cons]; exact ⟨chk_of ⟨rfl, Hsim.refl _⟩, rfl⟩) (good_out ⟨_, rfl, rfl, .cons (ABeq.row fun j hj => (all8_get h1 j hj).symm) .nil⟩)
  · cases hF
/-- The row that begins further on. -/
def rhF (f : Nat → Nat → Int) (m : Nat) (x : Int) : Nat → Nat → Int := fun j => f (Int.tmod ((j : Int) + x) m).toNat
/-- A valid row, shifted. -/
def FrhY (rv : (Nat → Nat → Int) → Nat → Bool) (rh : (Nat → Nat → Int) → Nat → Int → Nat → Nat → Int) : List SA → Option FR
  | [.row m g, .v (.int .i64 x)] => some { val := .tup [.own 0 m, .v (.bool true)], new := [.row true m 8 (row8 (rh (it8 g) m x)) 31], obl := [all8 m g, rv (it8 g) m, inR x 0 23] }
  | _ => none
def rvB (f : Nat → Nat → Int) (m : Nat) : Bool := roV m && cvB f m
def md_cv : List Md := [.rd 8 31, .val]
theorem gmRh_ok : GamOk Try.prog (gmRh (fun v => cyOk (cyOf v))) := ext_ok gm_within_ok ok_idY
end Go.Proofs.Ytmdcafhnjihckaa

/- The program's transform: what is turned, what is added. Conditions: a row of points, numbers. -/
namespace Go.Proofs.Ytmdcafhnjihckaa
open Go.RowKit
set_option maxRecDepth 100000

noncomputable abbrev fT1 : Func := Try.f162
abbrev hpT (m : Nat) (f : Nat → Nat → Int) (d j n : Int) : List AB := [.cells [.sl 4 8 0 0 m none] 48, .cells [.v (i64 d)] 3, .cells [.v (i64 j)] 3, .cells [.v (i64 n)] 3, .row false m 8 (row8 f) 31]
def gmTf1 (tu : (Nat → Int) → Int → Nat → Int) : Gam := ext g0 72 (specR [.val, .val] (FtuI tu))
theorem treeT1 (tu : (Nat → Int) → Int → Nat → Int) (m : Nat) (f : Nat → Nat → Int) (d j n : Int) (k : Nat) : execF Try.prog (gmTf1 tu) noLam 100 fT1 [.v (i64 k), .ptr 0 0 0 0, .ptr 1 0 0 0, .ptr 2 0 0 0, .ptr 3 0 0 0] (hpT m f d j n) (packK 5)
    = needs [decide ((↑k : Int) < (↑m : Int)), decide ((0 : Nat) + Int.toNat (↑k : Int) < m), !decide (n = (0 : Int)), !decide (n = (0 : Int)), inB (w8 (f ((0 : Nat) + Int.toNat (↑k : Int)))), inR (IntKind.wrap IntKind.i64 (Int.tmod (IntKind.wrap IntKind.i64 (IntKind.wrap IntKind.i64 (d * j) * (↑k : Int))) n * IntKind.wrap IntKind.i64 (Int.tdiv (24 : Int) n))) (-9223372036854775808 : Int) (9223372036854775807 : Int)] (Res.out Ex.ret [AV.agg [AV.v (Value.int IntKind.i64 (tu (w8 (f ((0 : Nat) + Int.toNat (↑k : Int)))) (IntKind.wrap IntKind.i64 (Int.tmod (IntKind.wrap IntKind.i64 (IntKind.wrap IntKind.i64 (d * j) * (↑k : Int))) n * IntKind.wrap IntKind.i64 (Int.tdiv (24 : Int) n))) (0 : Nat))), AV.v (Value.int IntKind.i64 (tu (w8 (f ((0 : Nat) + Int.toNat (↑k : Int)))) (IntKind.wrap IntKind.i64 (Int.tmod (IntKind.wrap IntKind.i64 (IntKind.wrap IntKind.i64 (d * j) * (↑k : Int))) n * IntKind.wrap IntKind.i64 (Int.tdiv (24 : Int) n))) (1 : Nat))), AV.v (Value.int IntKind.i64 (tu (w8 (f ((0 : Nat) + Int.toNat (↑k : Int)))) (IntKind.wrap IntKind.i64 (Int.tmod (IntKind.wrap IntKind.i64 (IntKind.wrap IntKind.i64 (d * j) * (↑k : Int))) n * IntKind.wrap IntKind.i64 (Int.tdiv (24 : Int) n))) (2 : Nat))), AV.v (Value.int IntKind.i64 (tu (w8 (f ((0 : Nat) + Int.toNat (↑k : Int)))) (IntKind.wrap IntKind.i64 (Int.tmod (IntKind.wrap IntKind.i64 (IntKind.wrap IntKind.i64 (d * j) * (↑k : Int))) n * IntKind.wrap IntKind.i64 (Int.tdiv (24 : Int) n))) (3 : Nat))), AV.v (Value.int IntKind.i64 (tu (w8 (f ((0 : Nat) + Int.toNat (↑k : Int)))) (IntKind.wrap IntKind.i64 (Int.tmod (IntKind.wrap IntKind.i64 (IntKind.wrap IntKind.i64 (d * j) * (↑k : Int))) n * IntKind.wrap IntKind.i64 (Int.tdiv (24 : Int) n))) (4 : Nat))), AV.v (Value.int IntKind.i64 (tu (w8 (f ((0 : Nat) + Int.toNat (↑k : Int)))) (IntKind.wrap IntKind.i64 (Int.tmod (IntKind.wrap IntKind.i64 (IntKind.wrap IntKind.i64 (d * j) * (↑k : Int))) n * IntKind.wrap IntKind.i64 (Int.tdiv (24 : Int) n))) (5 : Nat))), AV.v (Value.int IntKind.i64 (tu (w8 (f ((0 : Nat) + Int.toNat (↑k : Int)))) (IntKind.wrap IntKind.i64 (Int.tmod (IntKind.wrap IntKind.i64 (IntKind.wrap IntKind.i64 (d * j) * (↑k : Int))) n * IntKind.wrap IntKind.i64 (Int.tdiv (24 : Int) n))) (6 : Nat))), AV.v (Value.int IntKind.i64 (tu (w8 (f ((0 : Nat) + Int.toNat (↑k : Int)))) (IntKind.wrap IntKind.i64 (Int.tmod (IntKind.wrap IntKind.i64 (IntKind.wrap IntKind.i64 (d * j) * (↑k : Int))) n * IntKind.wrap IntKind.i64 (Int.tdiv (24 : Int) n))) (7 : Nat)))]] [AB.cells [AV.sl (4 : Nat) (8 : Nat) (0 : Nat) (0 : Nat) m none] (48 : TypeId), AB.cells [AV.v (Value.int IntKind.i64 d)] (3 : TypeId), AB.cells [AV.v (Value.int IntKind.i64 j)] (3 : TypeId), AB.cells [AV.v (Value.int IntKind.i64 n)] (3 : TypeId), AB.row false m (8 : Nat) (row8 f) (31 : TypeId)]) := by kernel_rfl

end Go.Proofs.Ytmdcafhnjihckaa

/- A callee that leaves what it reads as it was: its word, by its view, without a way back for its memory. No conditions. -/
namespace Go.Proofs.Ytmdcafhnjihckaa
open Go.RowKit

mutual
/-- Its slices are not empty. -/
def posA : AV → Bool
  | .sl _ _ _ _ len _ => Nat.blt 0 len
  | .agg cs => posAs cs
  | .tup cs => posAs cs
  | .fn _ cs => posAs cs
  | _ => true
def posAs : List AV → Bool
  | [] => true
  | a :: al => posA a && posAs al
end
def posB : AB → Bool
  | .cells cs _ => posAs cs
  | _ => true
mutual
theorem VR.unren {keep : List Nat} {ν ν' : Nu} (h : ∀ j b, keepNu keep ν j = some b → ν' j = some b) : ∀ {a a' : AV} {x y : Value}, renA keep a = some a' → posA a = true → VR ν a x → VR ν' a' y → VR ν a y
  | .v _, a', _, _, hs, _, _, hv => by
    simp only [renA, Option.some.injEq] at hs
    subst hs
    simpa only [VR] using hv
  | .ptr .., a', _, _, hs, _, hx, hv => by
    simp only [renA, Option.map_eq_some_iff] at hs
    obtain ⟨q, hq, rfl⟩ := hs
    simp only [VR] at hx hv ⊢
    obtain ⟨b, h1, h2⟩ := hv
    obtain ⟨c, h3, _⟩ := hx
    have := h q c (by simp [keepNu, idxOf_get hq, h3])
    rw [h1, Option.some.injEq] at this
    subst this
    exact ⟨b, h3, h2⟩
  | .sl .., a', _, _, hs, hp, hx, hv => by
    simp only [renA, Option.map_eq_some_iff] at hs
    obtain ⟨q, hq, rfl⟩ := hs
    simp only [posA, Nat.blt_eq] at hp
    simp only [VR] at hx hv ⊢
    obtain ⟨p, c, h1, h2, h3, h4⟩ := hv
    obtain ⟨_, c0, _, _, g3, g4⟩ := hx
    refine ⟨p, c, h1, h2, h3, fun hc => ?_⟩
    obtain ⟨b, h5, h6⟩ := h4 hc
    obtain ⟨b0, g5, _⟩ := g4 (by omega)
    have := h q b0 (by simp [keepNu, idxOf_get hq, g5])
    rw [h5, Option.some.injEq] at this
    subst this
    exact ⟨b, g5, h6⟩
  | .own .., a', _, _, hs, _, hx, hv => by
    simp only [renA, Option.map_eq_some_iff] at hs
    obtain ⟨q, hq, rfl⟩ := hs
    simp only [VR] at hx hv ⊢
    obtain ⟨b, h1, h2⟩ := hv
    obtain ⟨c, h3, _⟩ := hx
    have := h q c (by simp [keepNu, idxOf_get hq, h3])
    rw [h1, Option.some.injEq] at this
    subst this
    exact ⟨b, h3, h2⟩
  | .agg _, a', _, _, hs, hp, hx, hv => by
    simp only [renA, Option.map_eq_some_iff] at hs
    obtain ⟨q, hq, rfl⟩ := hs
    simp only [posA] at hp
    simp only [VR] at hx hv ⊢
    obtain ⟨l, h1, h2⟩ := hv
    obtain ⟨l0, _, h3⟩ := hx
    exact ⟨l, h1, VRs.unren h hq hp h3 h2⟩
  | .tup _, a', _, _, hs, hp, hx, hv => by
    simp only [renA, Option.map_eq_some_iff] at hs
    obtain ⟨q, hq, rfl⟩ := hs
    simp only [posA] at hp
    simp only [VR] at hx hv ⊢
    obtain ⟨l, h1, h2⟩ := hv
    obtain ⟨l0, _, h3⟩ := hx
    exact ⟨l, h1, VRs.unren h hq hp h3 h2⟩
  | .fn _ _, a', _, _, hs, hp, hx, hv => by
    simp only [renA, Option.map_eq_some_iff] at hs
    obtain ⟨q, hq, rfl⟩ := hs
    simp only [posA] at hp
    simp only [VR] at hx hv ⊢
    obtain ⟨l, h1, h2⟩ := hv
    obtain ⟨l0, _, h3⟩ := hx
    exact ⟨l, h1, VRs.unren h hq hp h3 h2⟩
  | .dead, _, _, _, _, _, _, _ => by simp only [VR]
theorem VRs.unren {keep : List Nat} {ν ν' : Nu} (h : ∀ j b, keepNu keep ν j = some b → ν' j = some b) : ∀ {al al' : List AV} {xs ys : List Value}, renAs keep al = some al' → posAs al = true → VRs ν al xs → VRs ν' al' ys → VRs ν al ys
  | [], al', _, ys, hs, _, _, hv => by
    simp only [renAs, Option.some.injEq] at hs
    subst hs
    cases ys with
    | nil => simp only [VRs]
    | cons => simp only [VRs] at hv
  | a :: al, al', xs, ys, hs, hp, hx, hv => by
    simp only [renAs] at hs
    split at hs
    case h_2 => cases hs
    rename_i x xs' h1 h2
    cases hs
    cases ys with
    | nil => simp only [VRs] at hv
    | cons y ys =>
      cases xs with
      | nil => simp only [VRs] at hx
      | cons x0 xs =>
        simp only [VRs] at hx hv ⊢
        simp only [posAs, Bool.and_eq_true] at hp
        exact ⟨VR.unren h h1 hp.1 hx.1 hv.1, VRs.unren h h2 hp.2 hx.2 hv.2⟩
end

structure QRd where
  val : AV
  obl : List Bool := []
/-- A callee's word, by its view: its memory is as it was. -/
def specQ (ros : List Bool) (F : List AV → List AB → Option QRd) : Spec := fun avs H _ =>
  match viewH ros avs H with
  | some q => match F q.2.1 q.2.2 with
    | some kr => match mapA (fun _ => none) kr.val with
      | some v => some { val := v, rd := q.1, put := putH q.1 q.2.2 (q.1.map fun i => H.getD i .gone), new := [], obl := kr.obl ++ q.1.map fun i => posB (H.getD i .gone) }
      | none => none
    | none => none
  | none => none
def GivQ (kr : QRd) (H : List AB) : Ex → List AV → List AB → Prop := fun _ l He => l = [kr.val] ∧ Hsim He H
theorem specQ_ok {Γ : Gam} (hΓ : GamOk Try.prog Γ) {f : FuncId} {fn : Func} {ros : List Bool} {F : List AV → List AB → Option QRd} (hf : Try.prog.funcs[f]? = some fn) (hb : fn.body.isSome = true)
    (h : ∀ avs H kr, F avs H = some kr → obls kr.obl = true → ∃ (H0 : List AB) (Λ : Nat → Option Sum) (n : Nat), Hsim H H0 ∧ (∀ c, fn.body = some c → LamOk Try.prog H0.length Λ c) ∧ GoodQ (execF Try.prog Γ Λ n fn avs H0 (packK H0.length)) (GivQ kr H)) : SpecOk Try.prog f (specQ ros F) := by
  refine ⟨fun args w => enters f fn hf hb args w, fun avs H base δ ν vals w hS ho hv hbr hlt hfree hsep => ?_⟩
  unfold specQ at hS
  split at hS
  case h_2 => cases hS
  rename_i q hq
  split at hS
  case h_2 => cases hS
  rename_i hr hF
  split at hS
  case h_2 => cases hS
  rename_i v hval
  simp only [Option.some.injEq] at hS
  subst hS
  unfold viewH at hq
  generalize reach H 400 [] (idxAs avs) = keep at *
  split at hq
  case h_2 => cases hq
  rename_i avs' H1 hra hrb
  cases hnd : nodupB keep with
  | false => rw [hnd] at hq; cases hq
  | true =>
  rw [hnd] at hq
  simp only [cond_true, Option.some.injEq] at hq
  subst hq
  simp only at hval hF hbr hsep ho hfree ⊢
  have ho2 : obls hr.obl = true ∧ obls (keep.map fun i => posB (H.getD i .gone)) = true := by
    unfold obls at ho ⊢
    rw [List.all_append, Bool.and_eq_true] at ho
    exact ho
  obtain ⟨ho, hpos⟩ := ho2
  obtain ⟨hl1, hg1⟩ := renBs_get hrb
  have hlHc : (roL ros H1).length = keep.length := by rw [roL_length, hl1]
  have nuAt : ∀ {j i}, keep[j]? = some i → keepNu keep ν j = ν i := fun hj => by simp [keepNu, hj]
  have ofNu : ∀ {j b}, keepNu keep ν j = some b → ∃ i, keep[j]? = some i ∧ ν i = some b := by
    intro j b hb
    unfold keepNu at hb
    split at hb
    · rename_i i hi; exact ⟨i, hi, hb⟩
    · cases hb
  have ren_marks : ∀ {b b' : AB}, renB keep b = some b' → b'.wr = b.wr ∧ b'.live = b.live := by
    intro b b' hb
    cases b with
    | cells cs t => simp only [renB, Option.map_eq_some_iff] at hb; obtain ⟨q, _, rfl⟩ := hb; exact ⟨rfl, rfl⟩
    | row => simp only [renB, Option.some.injEq] at hb; subst hb; exact ⟨rfl, rfl⟩
    | gone => simp only [renB, Option.some.injEq] at hb; subst hb; exact ⟨rfl, rfl⟩
  -- the callee's block j is the caller's block keep j
  have view : ∀ {j i}, keep[j]? = some i → ∃ b1, H1[j]? = some b1 ∧ renB keep (H.getD i .gone) = some b1 ∧ (roL ros H1)[j]? = some (roB (ros.getD j false) b1) := by
    intro j i hj
    obtain ⟨b1, e1, e2⟩ := hg1 j i hj
    exact ⟨b1, e1, e2, by rw [roL_get, e1]; rfl⟩
  have wrOf : ∀ {j i}, keep[j]? = some i → ((roL ros H1).getD j .gone).wr = true → (H.getD i .gone).wr = true := by
    intro j i hj hw
    obtain ⟨b1, _, e2, e3⟩ := view hj
    have : (roL ros H1).getD j .gone = roB (ros.getD j false) b1 := by simp [List.getD_eq_getElem?_getD, e3]
    rw [this] at hw
    rw [← (ren_marks e2).1]
    exact roB_wr hw
  have liveOf : ∀ {j i}, keep[j]? = some i → ((roL ros H1).getD j .gone).live = true → (H.getD i .gone).live = true := by
    intro j i hj hw
    obtain ⟨b1, _, e2, e3⟩ := view hj
    have : (roL ros H1).getD j .gone = roB (ros.getD j false) b1 := by simp [List.getD_eq_getElem?_getD, e3]
    rw [this, roB_live] at hw
    rw [← (ren_marks e2).2]
    exact hw
  have roSame : ∀ {r : Bool} {b : AB}, (roB r b).wr = true → roB r b = b := by
    intro r b hw
    cases b with
    | cells => cases r <;> rfl
    | gone => cases r <;> rfl
    | row rw n wd g t => cases r <;> cases rw <;> first | rfl | cases hw
  have inPut : ∀ {j i}, keep[j]? = some i → ((roL ros H1).getD j .gone).wr = true → (i, H.getD i .gone) ∈ putH keep (roL ros H1) (keep.map fun i => H.getD i .gone) := by
    intro j i hj hw
    have hjl : j < keep.length := (List.getElem?_eq_some_iff.1 hj).1
    have hh : (roL ros H1)[j]? = some ((roL ros H1)[j]'(by omega)) := List.getElem?_eq_getElem _
    refine putH_of hj hh (by rw [List.getElem?_map, hj]; rfl) ?_
    have : (roL ros H1).getD j .gone = (roL ros H1)[j]'(by omega) := by simp [List.getD_eq_getElem?_getD, hh]
    rw [← this]; exact hw
  let M : Nat → Prop := fun k => w.heap.size ≤ k ∨ ∃ j b, ((roL ros H1).getD j .gone).wr = true ∧ keepNu keep ν j = some b ∧ b.n = k
  have hRH : RH M (keepNu keep ν) (fun b => (roL ros H1).getD b .gone) w := by
    refine ⟨fun j => ?_, fun i j b b' hne hw hlv hb hb' => ?_, fun i b hw hb => .inr ⟨i, b, hw, hb, rfl⟩, fun i b hb => ?_⟩
    · cases hj : keep[j]? with
      | none =>
        have : (roL ros H1).getD j .gone = .gone := by
          rw [List.getD_eq_getElem?_getD, List.getElem?_eq_none]
          · rfl
          · rw [hlHc]
            exact List.getElem?_eq_none_iff.1 hj
        simp only [this]
        trivial
      | some i =>
        obtain ⟨b1, e1, e2, e3⟩ := view hj
        have : (roL ros H1).getD j .gone = roB (ros.getD j false) b1 := by simp [List.getD_eq_getElem?_getD, e3]
        simp only [this]
        refine roB_br ?_
        have hbi := hbr i (List.mem_of_getElem? hj)
        have hν := nuAt hj
        cases hi : H.getD i .gone with
        | cells cs t =>
          rw [hi] at e2 hbi
          simp only [renB, Option.map_eq_some_iff] at e2
          obtain ⟨cs', h1, h2⟩ := e2
          rw [← h2]
          obtain ⟨b, l, g1, g2, g3, g4⟩ := hbi
          exact ⟨b, l, by rw [hν]; exact g1, g2, g3, g4.ren h1⟩
        | row rw' n wd g t =>
          rw [hi] at e2 hbi
          simp only [renB, Option.some.injEq] at e2
          rw [← e2]
          rcases hbi with ⟨g1, g2, g3⟩ | ⟨b, l, t', fz, g1, g2⟩
          · exact .inl ⟨g1, g2, by rw [hν]; exact g3⟩
          · exact .inr ⟨b, l, t', fz, by rw [hν]; exact g1, g2⟩
        | gone =>
          rw [hi] at e2
          simp only [renB, Option.some.injEq] at e2
          rw [← e2]
          trivial
    · obtain ⟨i', hi, e1⟩ := ofNu hb
      obtain ⟨j', hj, e2⟩ := ofNu hb'
      have hp := inPut hi hw
      refine hsep i' _ j' b b' hp (List.mem_of_getElem? hj) (fun e => ?_) (liveOf hj hlv) e1 e2
      subst e
      exact hne (nodupB_ne hnd i j i' hi hj)
    · obtain ⟨i', _, e1⟩ := ofNu hb
      exact hlt i' b e1
  obtain ⟨H0, Λ, n, hsim, hL, hG⟩ := h avs' (roL ros H1) hr hF ho
  have hl0 : H0.length = keep.length := by rw [← hsim.length, hlHc]
  have hdom0 : ∀ i b, keepNu keep ν i = some b → i < H0.length := by
    intro i b hb
    obtain ⟨i', hi, _⟩ := ofNu hb
    rw [hl0]
    exact (List.getElem?_eq_some_iff.1 hi).1
  refine (calls_pack hΓ mixed enters hf hL (fun k hk => Or.inl hk) hG.out (hv.ren hra) (hRH.sim hsim) hdom0).mono ?_
  rintro e w' ⟨vv, av, He, ν', rfl, ⟨hav, hHe⟩, hvr, hRH', hfr, hle, hdom'⟩
  simp only [List.cons.injEq, and_true] at hav
  subst hav
  have hRH2 := hRH'.sim hHe
  -- a block that may be written has a place
  have wrNu : ∀ {j : Nat}, ((roL ros H1).getD j .gone).wr = true → ∃ b, keepNu keep ν j = some b := by
    intro j hw
    have : BR (keepNu keep ν) j ((roL ros H1).getD j .gone) w := hRH.br j
    cases hb : (roL ros H1).getD j .gone with
    | cells cs t => rw [hb] at this; obtain ⟨b, l, e1, _⟩ := this; exact ⟨b, e1⟩
    | row rw' n wd g t =>
      rw [hb] at this hw
      rcases this with ⟨e1, _⟩ | ⟨b, l, t', fz, e1, _⟩
      · simp only [AB.wr] at hw
        rw [e1] at hw
        cases hw
      · exact ⟨b, e1⟩
    | gone => rw [hb] at hw; cases hw
  have mp : ∀ i i' b, (fun _ : Nat => (none : Option Nat)) i = some i' → ν' i = some b → ν i' = some b := fun i i' b h1 _ => by cases h1
  refine ⟨vv, ν, rfl, ⟨fun i b hb => hb, fun i h1 h2 => (h2 h1).elim, hvr.map mp hval, fun i b hl => ?_, fun j b hj => by simp at hj, hfr.os, hfr.tape, hfr.output, hfr.size, fun k hk hne => ?_, fun j b hj _ => absurd hj (Nat.not_lt_zero _), fun j j' b b' hne hj => absurd hj (Nat.not_lt_zero _)⟩⟩
  · obtain ⟨j, hh, e1, e2, e3, e4⟩ := putH_mem (lookB_mem hl)
    rw [List.getElem?_map, e1] at e3
    simp only [Option.map_some, Option.some.injEq] at e3
    subst e3
    obtain ⟨b1, _, v2, v3⟩ := view e1
    rw [e2, Option.some.injEq] at v3
    subst v3
    have hb1 := roSame e4
    rw [hb1] at e2
    have hout : BR ν' j b1 w' := by
      have := hRH2.br j
      simp only [List.getD_eq_getElem?_getD, e2, Option.getD_some] at this
      exact this
    have hin := hbr i (List.mem_of_getElem? e1)
    have hp : posB (H.getD i .gone) = true := by
      unfold obls at hpos
      rw [List.all_eq_true] at hpos
      exact hpos _ (List.mem_map.2 ⟨i, List.mem_of_getElem? e1, rfl⟩)
    rw [hb1] at e4
    have back : ∀ {b}, ν i = some b → ν' j = some b := fun hb => hle _ _ (by rw [nuAt e1]; exact hb)
    cases hi : H.getD i .gone with
    | cells cs t =>
      rw [hi] at v2 hin hp
      simp only [renB, Option.map_eq_some_iff] at v2
      obtain ⟨cs', h1, h2⟩ := v2
      rw [← h2] at hout
      obtain ⟨b, l, g1, g2, g3, g4⟩ := hin
      obtain ⟨b', l', f1, f2, f3, f4⟩ := hout
      have := back g1
      rw [f1, Option.some.injEq] at this
      subst this
      exact ⟨b', l', g1, f2, f3, VRs.unren hle h1 hp g4 f4⟩
    | row rw' n wd g t =>
      rw [hi] at v2 hin
      simp only [renB, Option.some.injEq] at v2
      rw [← v2] at hout e4
      simp only [AB.wr] at e4
      rcases hin with ⟨g1, _⟩ | ⟨b, l, t', fz, g1, _⟩
      · rw [g1] at e4; cases e4
      · rcases hout with ⟨f1, _⟩ | ⟨b', l', t2, fz2, f1, f2⟩
        · rw [f1] at e4; cases e4
        · have := back g1
          rw [f1, Option.some.injEq] at this
          subst this
          exact .inr ⟨b', l', t2, fz2, g1, f2⟩
    | gone =>
      rw [hi] at v2
      simp only [renB, Option.some.injEq] at v2
      rw [← v2] at e4
      cases e4
  · refine hfr.block k hk fun hM => ?_
    rcases hM with hM | ⟨j, b, hw, hb, e⟩
    · omega
    · obtain ⟨i, hi, e1⟩ := ofNu hb
      exact hne _ b (inPut hi hw) e1 e

end Go.Proofs.Ytmdcafhnjihckaa

/- The program's transform: trees. Conditions: a row of points, numbers. -/
namespace Go.Proofs.Ytmdcafhnjihckaa
open Go.RowKit
set_option maxRecDepth 100000

/-- What the closure turns: the word's angle is a whole number. -/
def agC (n j k : Int) : Int := -(j * k) * Int.tdiv 24 n
def Ft1O (tu : (Nat → Int) → Int → Nat → Int) : List AV → List AB → Option QRd
  | [.v (.int .i64 k), .ptr 0 0 0 0, .ptr 1 0 0 0, .ptr 2 0 0 0, .ptr 3 0 0 0], [.cells [.sl 4 8 0 0 m none] ta, .cells [.v (.int .i64 d)] tb, .cells [.v (.int .i64 j)] tc, .cells [.v (.int .i64 n)] td, .row false m2 8 g te] =>
    some { val := .agg (cyC (tu (w8 (it8 g k.toNat)) (agC n j k))), obl := [decide (0 ≤ k), decide (k < m), decide (k ≤ 23), Nat.beq m m2, all8 m g, (List.range m).all fun i => inB (w8 (it8 g i)), decide (d = -1), inR j 0 23, roV n, Nat.beq ta 48, Nat.beq tb 3, Nat.beq tc 3, Nat.beq td 3, Nat.beq te 31] }
  | _, _ => none
noncomputable abbrev fSO : Func := Try.f161
def gmSO (tu : (Nat → Int) → Int → Nat → Int) (ad : (Nat → Int) → (Nat → Int) → Nat → Int) (ok : (Nat → Int) → Bool) : Gam := ext (ext (ext g0 162 (specQ [] (Ft1O tu))) 67 (specV (fAdd2 ad))) 66 (specV (fOkc ok))
abbrev fnT1 : AV := .fn 162 [.ptr 0 0 0 0, .ptr 1 0 0 0, .ptr 2 0 0 0, .ptr 3 0 0 0]
abbrev lvSO : Ex → List Nat := lv3 [1, 4, 6, 9, 10] [4, 6] [4, 5]
abbrev stSO (n : Int) (i : Nat) : List AV := [fnT1, .ptr 5 0 0 0, .ptr 6 0 0 0, .v (i64 n), .v (i64 i)]
abbrev hpSOt (m : Nat) (f : Nat → Nat → Int) (d j n : Int) (z s : Nat → Int) : List AB := [.cells [.sl 4 8 0 0 m none] 48, .cells [.v (i64 d)] 3, .cells [.v (i64 j)] 3, .cells [.v (i64 n)] 3, .row false m 8 (row8 f) 31, .cells (cyC z) 31, .cells (cyC s) 31]
theorem rndSO (tu : (Nat → Int) → Int → Nat → Int) (ad : (Nat → Int) → (Nat → Int) → Nat → Int) (ok : (Nat → Int) → Bool) (m : Nat) (f : Nat → Nat → Int) (d j n : Int) (s : Nat → Int) (i : Nat) : execC Try.prog (gmSO tu ad ok) 100 noLam (loopAt 0 fSO) (mkT 0 26 ((lvSO .normal).zip (stSO n i))) (hpSOt m f d j n (fun _ => 0) s) (leafV 26 lvSO 5)
    = bif decide ((↑i : Int) < n) then needs [decide ((↑i : Int) < (↑m : Int)), decide ((↑i : Int) ≤ (23 : Int)), Nat.beq m m, all8 m (row8 f), List.all (List.range m) fun i ↦ inB (w8 (it8 (row8 f) i)), decide (d = (-1 : Int)), inR j (0 : Int) (23 : Int), roV n, Nat.blt (0 : Nat) m && true] (bif !ok (w8 (ad (w8 s) (w8 (tu (w8 (it8 (row8 f) (Int.toNat (↑i : Int)))) (agC n j (↑i : Int)))))) then Res.out Ex.ret [AV.ptr (5 : Nat) (0 : Nat) (0 : Nat) (0 : Nat), AV.v (Value.bool false)] [AB.cells [AV.sl (4 : Nat) (8 : Nat) (0 : Nat) (0 : Nat) m none] (48 : TypeId), AB.cells [AV.v (Value.int IntKind.i64 d)] (3 : TypeId), AB.cells [AV.v (Value.int IntKind.i64 j)] (3 : TypeId), AB.cells [AV.v (Value.int IntKind.i64 n)] (3 : TypeId), AB.row false m (8 : Nat) (row8 f) (31 : TypeId), AB.cells [AV.v (Value.int IntKind.i64 (0 : Int)), AV.v (Value.int IntKind.i64 (0 : Int)), AV.v (Value.int IntKind.i64 (0 : Int)), AV.v (Value.int IntKind.i64 (0 : Int)), AV.v (Value.int IntKind.i64 (0 : Int)), AV.v (Value.int IntKind.i64 (0 : Int)), AV.v (Value.int IntKind.i64 (0 : Int)), AV.v (Value.int IntKind.i64 (0 : Int))] (31 : TypeId)] else Res.out Ex.normal [AV.fn (162 : FuncId) [AV.ptr (0 : Nat) (0 : Nat) (0 : Nat) (0 : Nat), AV.ptr (1 : Nat) (0 : Nat) (0 : Nat) (0 : Nat), AV.ptr (2 : Nat) (0 : Nat) (0 : Nat) (0 : Nat), AV.ptr (3 : Nat) (0 : Nat) (0 : Nat) (0 : Nat)], AV.ptr (5 : Nat) (0 : Nat) (0 : Nat) (0 : Nat), AV.ptr (6 : Nat) (0 : Nat) (0 : Nat) (0 : Nat), AV.v (Value.int IntKind.i64 n), AV.v (Value.int IntKind.i64 (IntKind.wrap IntKind.i64 ((↑i : Int) + (1 : Int))))] [AB.cells [AV.sl (4 : Nat) (8 : Nat) (0 : Nat) (0 : Nat) m none] (48 : TypeId), AB.cells [AV.v (Value.int IntKind.i64 d)] (3 : TypeId), AB.cells [AV.v (Value.int IntKind.i64 j)] (3 : TypeId), AB.cells [AV.v (Value.int IntKind.i64 n)] (3 : TypeId), AB.row false m (8 : Nat) (row8 f) (31 : TypeId), AB.cells [AV.v (Value.int IntKind.i64 (0 : Int)), AV.v (Value.int IntKind.i64 (0 : Int)), AV.v (Value.int IntKind.i64 (0 : Int)), AV.v (Value.int IntKind.i64 (0 : Int)), AV.v (Value.int IntKind.i64 (0 : Int)), AV.v (Value.int IntKind.i64 (0 : Int)), AV.v (Value.int IntKind.i64 (0 : Int)), AV.v (Value.int IntKind.i64 (0 : Int))] (31 : TypeId), AB.cells [AV.v (Value.int IntKind.i64 (ad (w8 s) (w8 (tu (w8 (it8 (row8 f) (Int.toNat (↑i : Int)))) (agC n j (↑i : Int)))) (0 : Nat))), AV.v (Value.int IntKind.i64 (ad (w8 s) (w8 (tu (w8 (it8 (row8 f) (Int.toNat (↑i : Int)))) (agC n j (↑i : Int)))) (1 : Nat))), AV.v (Value.int IntKind.i64 (ad (w8 s) (w8 (tu (w8 (it8 (row8 f) (Int.toNat (↑i : Int)))) (agC n j (↑i : Int)))) (2 : Nat))), AV.v (Value.int IntKind.i64 (ad (w8 s) (w8 (tu (w8 (it8 (row8 f) (Int.toNat (↑i : Int)))) (agC n j (↑i : Int)))) (3 : Nat))), AV.v (Value.int IntKind.i64 (ad (w8 s) (w8 (tu (w8 (it8 (row8 f) (Int.toNat (↑i : Int)))) (agC n j (↑i : Int)))) (4 : Nat))), AV.v (Value.int IntKind.i64 (ad (w8 s) (w8 (tu (w8 (it8 (row8 f) (Int.toNat (↑i : Int)))) (agC n j (↑i : Int)))) (5 : Nat))), AV.v (Value.int IntKind.i64 (ad (w8 s) (w8 (tu (w8 (it8 (row8 f) (Int.toNat (↑i : Int)))) (agC n j (↑i : Int)))) (6 : Nat))), AV.v (Value.int IntKind.i64 (ad (w8 s) (w8 (tu (w8 (it8 (row8 f) (Int.toNat (↑i : Int)))) (agC n j (↑i : Int)))) (7 : Nat)))] (31 : TypeId)]) else Res.out (Ex.exit (0 : Nat)) [AV.ptr (5 : Nat) (0 : Nat) (0 : Nat) (0 : Nat), AV.ptr (6 : Nat) (0 : Nat) (0 : Nat) (0 : Nat)] [AB.cells [AV.sl (4 : Nat) (8 : Nat) (0 : Nat) (0 : Nat) m none] (48 : TypeId), AB.cells [AV.v (Value.int IntKind.i64 d)] (3 : TypeId), AB.cells [AV.v (Value.int IntKind.i64 j)] (3 : TypeId), AB.cells [AV.v (Value.int IntKind.i64 n)] (3 : TypeId), AB.row false m (8 : Nat) (row8 f) (31 : TypeId), AB.cells [AV.v (Value.int IntKind.i64 (0 : Int)), AV.v (Value.int IntKind.i64 (0 : Int)), AV.v (Value.int IntKind.i64 (0 : Int)), AV.v (Value.int IntKind.i64 (0 : Int)), AV.v (Value.int IntKind.i64 (0 : Int)), AV.v (Value.int IntKind.i64 (0 : Int)), AV.v (Value.int IntKind.i64 (0 : Int)), AV.v (Value.int IntKind.i64 (0 : Int))] (31 : TypeId), AB.cells [AV.v (Value.int IntKind.i64 (s (0 : Nat))), AV.v (Value.int IntKind.i64 (s (1 : Nat))), AV.v (Value.int IntKind.i64 (s (2 : Nat))), AV.v (Value.int IntKind.i64 (s (3 : Nat))), AV.v (Value.int IntKind.i64 (s (4 : Nat))), AV.v (Value.int IntKind.i64 (s (5 : Nat))), AV.v (Value.int IntKind.i64 (s (6 : Nat))), AV.v (Value.int IntKind.i64 (s (7 : Nat)))] (31 : TypeId)] := by kernel_rfl

noncomputable abbrev lamSO (m : Nat) (f : Nat → Nat → Int) (d j n : Int) (c : Bool) (s : Nat → Int) : Nat → Option Sum := oneL 0 (atS 26 (lvSO .normal) 5 (stSO n 0) (hpSOt m f d j n (fun _ => 0) fun _ => 0) (fun K => cond c (K .normal (mkT 0 26 [(4, .ptr 5 0 0 0), (6, .ptr 6 0 0 0)]) (hpSOt m f d j n (fun _ => 0) s)) (K .ret (mkT 0 26 [(4, .ptr 5 0 0 0), (5, .v (.bool false))]) [.cells [.sl 4 8 0 0 m none] 48, .cells [.v (i64 d)] 3, .cells [.v (i64 j)] 3, .cells [.v (i64 n)] 3, .row false m 8 (row8 f) 31, .cells (cyC fun _ => 0) 31])))
theorem treeSO (m : Nat) (f : Nat → Nat → Int) (d j n : Int) (c : Bool) (s : Nat → Int) : execF Try.prog g0 (lamSO m f d j n c s) 100 fSO [.v (i64 n), fnT1] (hpT m f d j n) (packK 5)
    = needs [chk ([AV.fn (162 : FuncId) [AV.ptr (0 : Nat) (0 : Nat) (0 : Nat) (0 : Nat), AV.ptr (1 : Nat) (0 : Nat) (0 : Nat) (0 : Nat), AV.ptr (2 : Nat) (0 : Nat) (0 : Nat) (0 : Nat), AV.ptr (3 : Nat) (0 : Nat) (0 : Nat) (0 : Nat)], AV.ptr (5 : Nat) (0 : Nat) (0 : Nat) (0 : Nat), AV.ptr (6 : Nat) (0 : Nat) (0 : Nat) (0 : Nat), AV.v (Value.int IntKind.i64 n), AV.v (Value.int IntKind.i64 (0 : Int))] = stSO n (0 : Nat) ∧ Hsim [AB.cells [AV.sl (4 : Nat) (8 : Nat) (0 : Nat) (0 : Nat) m none] (48 : TypeId), AB.cells [AV.v (Value.int IntKind.i64 d)] (3 : TypeId), AB.cells [AV.v (Value.int IntKind.i64 j)] (3 : TypeId), AB.cells [AV.v (Value.int IntKind.i64 n)] (3 : TypeId), AB.row false m (8 : Nat) (row8 f) (31 : TypeId), AB.cells [AV.v (Value.int IntKind.i64 (0 : Int)), AV.v (Value.int IntKind.i64 (0 : Int)), AV.v (Value.int IntKind.i64 (0 : Int)), AV.v (Value.int IntKind.i64 (0 : Int)), AV.v (Value.int IntKind.i64 (0 : Int)), AV.v (Value.int IntKind.i64 (0 : Int)), AV.v (Value.int IntKind.i64 (0 : Int)), AV.v (Value.int IntKind.i64 (0 : Int))] (31 : Nat), AB.cells [AV.v (Value.int IntKind.i64 (0 : Int)), AV.v (Value.int IntKind.i64 (0 : Int)), AV.v (Value.int IntKind.i64 (0 : Int)), AV.v (Value.int IntKind.i64 (0 : Int)), AV.v (Value.int IntKind.i64 (0 : Int)), AV.v (Value.int IntKind.i64 (0 : Int)), AV.v (Value.int IntKind.i64 (0 : Int)), AV.v (Value.int IntKind.i64 (0 : Int))] (31 : Nat)] (hpSOt m f d j n (fun _ ↦ (0 : Int)) fun _ ↦ (0 : Int)))] (bif c then Res.out Ex.ret [AV.tup [AV.agg [AV.v (Value.int IntKind.i64 (s (0 : Nat))), AV.v (Value.int IntKind.i64 (s (1 : Nat))), AV.v (Value.int IntKind.i64 (s (2 : Nat))), AV.v (Value.int IntKind.i64 (s (3 : Nat))), AV.v (Value.int IntKind.i64 (s (4 : Nat))), AV.v (Value.int IntKind.i64 (s (5 : Nat))), AV.v (Value.int IntKind.i64 (s (6 : Nat))), AV.v (Value.int IntKind.i64 (s (7 : Nat)))], AV.v (Value.bool true)]] [AB.cells [AV.sl (4 : Nat) (8 : Nat) (0 : Nat) (0 : Nat) m none] (48 : TypeId), AB.cells [AV.v (Value.int IntKind.i64 d)] (3 : TypeId), AB.cells [AV.v (Value.int IntKind.i64 j)] (3 : TypeId), AB.cells [AV.v (Value.int IntKind.i64 n)] (3 : TypeId), AB.row false m (8 : Nat) (row8 f) (31 : TypeId)] else Res.out Ex.ret [AV.tup [AV.agg [AV.v (Value.int IntKind.i64 (0 : Int)), AV.v (Value.int IntKind.i64 (0 : Int)), AV.v (Value.int IntKind.i64 (0 : Int)), AV.v (Value.int IntKind.i64 (0 : Int)), AV.v (Value.int IntKind.i64 (0 : Int)), AV.v (Value.int IntKind.i64 (0 : Int)), AV.v (Value.int IntKind.i64 (0 : Int)), AV.v (Value.int IntKind.i64 (0 : Int))], AV.v (Value.bool false)]] [AB.cells [AV.sl (4 : Nat) (8 : Nat) (0 : Nat) (0 : Nat) m none] (48 : TypeId), AB.cells [AV.v (Value.int IntKind.i64 d)] (3 : TypeId), AB.cells [AV.v (Value.int IntKind.i64 j)] (3 : TypeId), AB.cells [AV.v (Value.int IntKind.i64 n)] (3 : TypeId), AB.row false m (8 : Nat) (row8 f) (31 : TypeId)]) := by kernel_rfl

def FsoO (tv : (Nat → Nat → Int) → Int → Int → Nat → Int) (tk : (Nat → Nat → Int) → Int → Int → Bool) : List AV → List AB → Option QRd
  | [.v (.int .i64 n'), .fn 162 [.ptr 0 0 0 0, .ptr 1 0 0 0, .ptr 2 0 0 0, .ptr 3 0 0 0]], [.cells [.sl 4 8 0 0 m none] ta, .cells [.v (.int .i64 d)] tb, .cells [.v (.int .i64 j)] tc, .cells [.v (.int .i64 n)] td, .row false m2 8 g te] =>
    some { val := .tup [.agg (cyC (tv (it8 g) n j)), .v (.bool (tk (it8 g) n j))], obl := [decide (n' = n), decide (n = m), Nat.beq m m2, all8 m g, (List.range m).all fun i => inB (w8 (it8 g i)), decide (d = -1), inR j 0 23, roV n, Nat.beq ta 48, Nat.beq tb 3, Nat.beq tc 3, Nat.beq td 3, Nat.beq te 31] }
  | _, _ => none
noncomputable abbrev fTr : Func := Try.f138
def gmTr (tv : (Nat → Nat → Int) → Int → Int → Nat → Int) (tk : (Nat → Nat → Int) → Int → Int → Bool) : Gam := ext g0 161 (specQ [] (FsoO tv tk))
abbrev lvTr : Ex → List Nat := lv3 [2, 3, 6, 7, 15, 16] [7] [4, 5]
abbrev stTr (n : Int) (i : Nat) : List AV := [.ptr 1 0 0 0, .ptr 2 0 0 0, .ptr 3 0 0 0, .own 4 i, .v (i64 n), .v (i64 i)]
abbrev hpTr8 (m : Nat) (f : Nat → Nat → Int) (d n : Int) (i : Nat) (h : Nat → Nat → Int) : List AB := [.row false m 8 (row8 f) 31, .cells [.sl 0 8 0 0 m none] 48, .cells [.v (i64 d)] 3, .cells [.v (i64 n)] 3, .row true i 8 (row8 h) 31]
theorem rndTr8 (tv : (Nat → Nat → Int) → Int → Int → Nat → Int) (tk : (Nat → Nat → Int) → Int → Int → Bool) (m : Nat) (f : Nat → Nat → Int) (d n : Int) (h : Nat → Nat → Int) (i : Nat) : execC Try.prog (gmTr tv tk) 100 noLam (loopAt 0 fTr) (mkT 0 33 ((lvTr .normal).zip (stTr n i))) (hpTr8 m f d n i h) (leafV 33 lvTr 1)
    = bif decide ((↑i : Int) < n) then needs [decide (n = n), decide (n = (↑m : Int)), Nat.beq m m, all8 m (row8 f), List.all (List.range m) fun i ↦ inB (w8 (it8 (row8 f) i)), decide (d = (-1 : Int)), inR (↑i : Int) (0 : Int) (23 : Int), roV n, Nat.blt (0 : Nat) m && true] (bif !tk (it8 (row8 f)) n (↑i : Int) then Res.out Ex.ret [AV.v (Value.slice none (0 : Nat) (0 : Nat)), AV.v (Value.bool false)] [AB.row false m (8 : Nat) (row8 f) (31 : TypeId)] else needs [Nat.ble i i, Nat.ble (i + (1 : Nat)) (549755813888 : Nat)] (Res.out Ex.normal [AV.ptr (1 : Nat) (0 : Nat) (0 : Nat) (0 : Nat), AV.ptr (2 : Nat) (0 : Nat) (0 : Nat) (0 : Nat), AV.ptr (3 : Nat) (0 : Nat) (0 : Nat) (0 : Nat), AV.own (4 : Nat) (i + (1 : Nat)), AV.v (Value.int IntKind.i64 n), AV.v (Value.int IntKind.i64 (IntKind.wrap IntKind.i64 ((↑i : Int) + (1 : Int))))] [AB.row false m (8 : Nat) (row8 f) (31 : TypeId), AB.cells [AV.sl (0 : Nat) (8 : Nat) (0 : Nat) (0 : Nat) m none] (48 : TypeId), AB.cells [AV.v (Value.int IntKind.i64 d)] (3 : TypeId), AB.cells [AV.v (Value.int IntKind.i64 n)] (3 : TypeId), AB.row true (i + (1 : Nat)) (8 : Nat) (fun q ↦ [Value.int IntKind.i64 (bif Nat.blt q i then h q (0 : Nat) else tv (it8 (row8 f)) n (↑i : Int) (0 : Nat)), Value.int IntKind.i64 (bif Nat.blt q i then h q (1 : Nat) else tv (it8 (row8 f)) n (↑i : Int) (1 : Nat)), Value.int IntKind.i64 (bif Nat.blt q i then h q (2 : Nat) else tv (it8 (row8 f)) n (↑i : Int) (2 : Nat)), Value.int IntKind.i64 (bif Nat.blt q i then h q (3 : Nat) else tv (it8 (row8 f)) n (↑i : Int) (3 : Nat)), Value.int IntKind.i64 (bif Nat.blt q i then h q (4 : Nat) else tv (it8 (row8 f)) n (↑i : Int) (4 : Nat)), Value.int IntKind.i64 (bif Nat.blt q i then h q (5 : Nat) else tv (it8 (row8 f)) n (↑i : Int) (5 : Nat)), Value.int IntKind.i64 (bif Nat.blt q i then h q (6 : Nat) else tv (it8 (row8 f)) n (↑i : Int) (6 : Nat)), Value.int IntKind.i64 (bif Nat.blt q i then h q (7 : Nat) else tv (it8 (row8 f)) n (↑i : Int) (7 : Nat))]) (31 : Nat)])) else Res.out (Ex.exit (0 : Nat)) [AV.own (1 : Nat) i] [AB.row false m (8 : Nat) (row8 f) (31 : TypeId), AB.row true i (8 : Nat) (row8 h) (31 : TypeId)] := by kernel_rfl

noncomputable abbrev lamTr (m : Nat) (f : Nat → Nat → Int) (d n : Int) (q : Nat) (h : Nat → Nat → Int) (c : Bool) : Nat → Option Sum := oneL 0 (atS 33 (lvTr .normal) 1 (stTr n 0) (hpTr8 m f d n 0 fun _ _ => 0) (fun K => cond c (K .normal (mkT 0 33 [(7, .own 1 q)]) [.row false m 8 (row8 f) 31, .row true q 8 (row8 h) 31]) (K .ret (mkT 0 33 [(4, .v (.slice none 0 0)), (5, .v (.bool false))]) [.row false m 8 (row8 f) 31])))
theorem treeTr8 (m : Nat) (f : Nat → Nat → Int) (d n : Int) (q : Nat) (h : Nat → Nat → Int) (c : Bool) : execF Try.prog g0 (lamTr m f d n q h c) 100 fTr [.sl 0 8 0 0 m none, .v (i64 d)] [.row false m 8 (row8 f) 31] (packK 1)
    = needs [decide ((↑m : Int) ≤ (1099511627776 : Int)), chk ([AV.ptr (1 : Nat) (0 : Nat) (0 : Nat) (0 : Nat), AV.ptr (2 : Nat) (0 : Nat) (0 : Nat) (0 : Nat), AV.ptr (3 : Nat) (0 : Nat) (0 : Nat) (0 : Nat), AV.own (4 : Nat) (0 : Nat), AV.v (Value.int IntKind.i64 (↑m : Int)), AV.v (Value.int IntKind.i64 (0 : Int))] = stTr n (0 : Nat) ∧ Hsim [AB.row false m (8 : Nat) (row8 f) (31 : TypeId), AB.cells [AV.sl (0 : Nat) (8 : Nat) (0 : Nat) (0 : Nat) m none] (48 : Nat), AB.cells [AV.v (Value.int IntKind.i64 d)] (3 : Nat), AB.cells [AV.v (Value.int IntKind.i64 (↑m : Int))] (3 : Nat), AB.row true (0 : Nat) (8 : Nat) (fun _ ↦ [Value.int IntKind.i64 (0 : Int), Value.int IntKind.i64 (0 : Int), Value.int IntKind.i64 (0 : Int), Value.int IntKind.i64 (0 : Int), Value.int IntKind.i64 (0 : Int), Value.int IntKind.i64 (0 : Int), Value.int IntKind.i64 (0 : Int), Value.int IntKind.i64 (0 : Int)]) (31 : Nat)] (hpTr8 m f d n (0 : Nat) fun x x_1 ↦ (0 : Int)))] (bif c then Res.out Ex.ret [AV.tup [AV.own (1 : Nat) q, AV.v (Value.bool true)]] [AB.row false m (8 : Nat) (row8 f) (31 : TypeId), AB.row true q (8 : Nat) (row8 h) (31 : TypeId)] else Res.out Ex.ret [AV.tup [AV.v (Value.slice none (0 : Nat) (0 : Nat)), AV.v (Value.bool false)]] [AB.row false m (8 : Nat) (row8 f) (31 : TypeId)]) := by kernel_rfl

end Go.Proofs.Ytmdcafhnjihckaa

/- The program's transform: the closure, and sums of turned points. Conditions: a row of points, numbers. -/
namespace Go.Proofs.Ytmdcafhnjihckaa
open Go.RowKit
set_option maxRecDepth 100000

/-- Two ways to the angle. -/
theorem ag_eq {n j k : Int} (hn : roV n = true) (hj : 0 ≤ j ∧ j ≤ 23) (hk : 0 ≤ k ∧ k ≤ 23) :
    IntKind.wrap IntKind.i64 (Int.tmod (IntKind.wrap IntKind.i64 (IntKind.wrap IntKind.i64 (-1 * j) * k)) n * IntKind.wrap IntKind.i64 (Int.tdiv 24 n)) % 24 = agC n j k % 24
    ∧ inR (IntKind.wrap IntKind.i64 (Int.tmod (IntKind.wrap IntKind.i64 (IntKind.wrap IntKind.i64 (-1 * j) * k)) n * IntKind.wrap IntKind.i64 (Int.tdiv 24 n))) (-9223372036854775808) 9223372036854775807 = true := by
  have hv := roV_in hn
  have hz := (roV_parts hn).2.2
  have hz : Int.tmod 24 n = 0 := by simpa using hz
  obtain ⟨n', rfl⟩ := Int.eq_ofNat_of_zero_le (show 0 ≤ n by omega)
  have hq := tdiv24 (n := n') (by omega) (by omega)
  have h24 : (n' : Int) * Int.tdiv 24 n' = 24 := by
    have := Int.tmod_add_mul_tdiv 24 (n' : Int)
    omega
  have hjk := mul_bd (x := j) (y := k) (A := 23) (B := 23) (by omega) hj.2 (by omega) hk.2
  have hjk0 := Int.mul_nonneg hj.1 hk.1
  rw [wr_in (x := -1 * j) (by omega), show -1 * j * k = -(j * k) by rw [Int.neg_mul, Int.one_mul, Int.neg_mul], wr_in (x := -(j * k)) (by omega), wr_in (x := Int.tdiv 24 (n' : Int)) (by omega)]
  have e1 := Int.tmod_add_mul_tdiv (-(j * k)) (n' : Int)
  have e2 : Int.tmod (-(j * k)) n' = -(Int.tmod (j * k) n') := Int.neg_tmod ..
  have b1 : 0 ≤ Int.tmod (j * k) n' ∧ Int.tmod (j * k) n' < n' := by
    rw [Int.tmod_eq_emod_of_nonneg hjk0]
    exact ⟨Int.emod_nonneg _ (by omega), Int.emod_lt_of_pos _ (by omega)⟩
  have b2 := mul_bd (x := Int.tmod (j * k) n') (y := Int.tdiv 24 (n' : Int)) (A := 24) (B := 24) (by omega) (by omega) (by omega) hq.2
  have e3 : Int.tmod (-(j * k)) n' * Int.tdiv 24 n' = -(Int.tmod (j * k) n' * Int.tdiv 24 n') := by rw [e2, Int.neg_mul]
  rw [wr_in (by omega)]
  refine ⟨?_, inR_iff.2 (by omega)⟩
  unfold agC
  rw [show -(j * k) * Int.tdiv 24 n' = Int.tmod (-(j * k)) n' * Int.tdiv 24 n' + 24 * Int.tdiv (-(j * k)) n' by
    conv => lhs; rw [← e1]
    rw [Int.add_mul, Int.mul_assoc, Int.mul_comm (Int.tdiv (-(j * k)) n') (Int.tdiv 24 n'), ← Int.mul_assoc, h24]]
  rw [Int.add_mul_emod_self_left]
theorem ok_t1 : SpecOk Try.prog 162 (specQ [] (Ft1O tuF)) := by
  refine specQ_ok (Γ := gmTf1 tuF) (ext_ok g0_ok ok_tuI) Try.func162 rfl fun avs H kr hF ho => ?_
  unfold Ft1O at hF
  split at hF
  · rename_i k m ta d tb j tc n td m2 g te
    cases hF
    simp only [ob_cons] at ho
    obtain ⟨h1, h2, h3, h4, h5, h6, h7, h8, h9, t1, t2, t3, t4, t5, _⟩ := ho
    have h1 := of_decide_eq_true h1
    have h2 := of_decide_eq_true h2
    have h3 := of_decide_eq_true h3
    have h4 := Nat.eq_of_beq_eq_true h4
    have h7 := of_decide_eq_true h7
    have h8 := inR_iff.1 h8
    have t1 := Nat.eq_of_beq_eq_true t1
    have t2 := Nat.eq_of_beq_eq_true t2
    have t3 := Nat.eq_of_beq_eq_true t3
    have t4 := Nat.eq_of_beq_eq_true t4
    have t5 := Nat.eq_of_beq_eq_true t5
    subst h4 h7 t1 t2 t3 t4 t5
    obtain ⟨k, rfl⟩ := Int.eq_ofNat_of_zero_le h1
    have hkm : k < m := by omega
    have hv := roV_in h9
    have ha := ag_eq h9 ⟨h8.1, h8.2⟩ (k := (k : Int)) ⟨by omega, h3⟩
    refine ⟨hpT m (it8 g) (-1) j n, noLam, 100, .cons (ABeq.refl _) (.cons (ABeq.refl _) (.cons (ABeq.refl _) (.cons (ABeq.refl _) (.cons (ABeq.row fun j hj => all8_get h5 j hj) .nil)))), noLam' _, ?_⟩
    show GoodQ (execF Try.prog (gmTf1 tuF) noLam 100 fT1 [.v (i64 (k : Nat)), .ptr 0 0 0 0, .ptr 1 0 0 0, .ptr 2 0 0 0, .ptr 3 0 0 0] (hpT m (it8 g) (-1) j n) (packK 5)) _
    rw [treeT1]
    simp only [Int.toNat_natCast, Nat.zero_add]
    have hin : inB (w8 (it8 g k)) = true := List.all_eq_true.1 h6 k (List.mem_range.2 hkm)
    refine good_needs ?_ (good_out ⟨?_, .cons (ABeq.refl _) (.cons (ABeq.refl _) (.cons (ABeq.refl _) (.cons (ABeq.refl _) (.cons (ABeq.row fun j hj => (all8_get h5 j hj).symm) .nil))))⟩)
    · simp only [ob_cons, ob_nil, and_true, Bool.not_eq_true', decide_eq_false_iff_not, decide_eq_true_eq]
      exact ⟨by omega, hkm, by omega, by omega, hin, ha.2⟩
    · show [AV.agg (cyC (turnedF (w8 (it8 g k)) _))] = [AV.agg (cyC (turnedF (w8 (it8 g k)) _))]
      rw [ha.1]
  · cases hF

/-- Sums of turned points, so far. -/
def trS (f : Nat → Nat → Int) (n j : Int) : Nat → Nat → Int
  | 0 => fun _ => 0
  | k + 1 => plusF (w8 (trS f n j k)) (w8 (tuF (w8 (f k)) (agC n j k)))
def trB (f : Nat → Nat → Int) (n j : Int) (k : Nat) : Bool := !cyOk (cyOf (trS f n j (k + 1)))
def trK (f : Nat → Nat → Int) (n j : Int) : Bool := noneTo (trB f n j) n.toNat
def trV (f : Nat → Nat → Int) (n j : Int) : Nat → Int := bif trK f n j then trS f n j n.toNat else fun _ => 0
theorem trS_row (f : Nat → Nat → Int) (n j : Int) : ∀ k, trS (it8 (row8 f)) n j k = trS f n j k
  | 0 => rfl
  | k + 1 => by rw [trS, trS, trS_row f n j k]; rfl
theorem trK_row (f : Nat → Nat → Int) (n j : Int) : trK (it8 (row8 f)) n j = trK f n j := by
  unfold trK trB
  simp only [trS_row]
theorem trV_row (f : Nat → Nat → Int) (n j : Int) : trV (it8 (row8 f)) n j = trV f n j := by
  unfold trV
  rw [trK_row, trS_row]
theorem gmSO_ok : GamOk Try.prog (gmSO tuF plusF fun v => cyOk (cyOf v)) := by
  have e2 : fAdd2 plusF = f_plus := by funext l; rfl
  unfold gmSO
  rw [fOkc_eq, e2]
  exact ext_ok (ext_ok (ext_ok g0_ok ok_t1) ok_plus) ok_cvI
theorem sumSO (f : Nat → Nat → Int) (j : Int) (n : Nat) (hj : inR j 0 23 = true) (hn : roV n = true) (hin : ∀ i, i < n → inB (w8 (f i)) = true) :
    SumOk Try.prog 5 (.block 0 (.loop (loopAt 0 fSO))) (atS 26 (lvSO .normal) 5 (stSO n 0) (hpSOt n f (-1) j n (fun _ => 0) fun _ => 0) (fun K => cond (trK f n j) (K .normal (mkT 0 26 [(4, .ptr 5 0 0 0), (6, .ptr 6 0 0 0)]) (hpSOt n f (-1) j n (fun _ => 0) (trS f n j n))) (K .ret (mkT 0 26 [(4, .ptr 5 0 0 0), (5, .v (.bool false))]) [.cells [.sl 4 8 0 0 n none] 48, .cells [.v (i64 (-1))] 3, .cells [.v (i64 j)] 3, .cells [.v (i64 n)] 3, .row false n 8 (row8 f) 31, .cells (cyC fun _ => 0) 31]))) := by
  refine for_at gmSO_ok (n := 100) (m := 5) (lv := lvSO) (fun i => stSO n i) (fun i => hpSOt n f (-1) j n (fun _ => 0) (trS f n j i)) (fun i => noneTo (trB f n j) i = true) n (fun _ => noLam) (lv3_ris rfl rfl rfl) (Nat.le_refl _) rfl fun K Q hk i hi him => ⟨noLam_ok _ _ _, ?_⟩
  have hv := roV_in hn
  rw [rndSO]
  refine good_cond (fun c1 => ?_) fun c1 => ?_
  · have c1 := of_decide_eq_true c1
    have c1' : i < n := by omega
    rw [wr_in (x := (i : Int) + 1) (by omega)]
    have hall : ((List.range n).all fun i => inB (w8 (it8 (row8 f) i))) = true := List.all_eq_true.2 fun i hi => hin i (List.mem_range.1 hi)
    refine good_needs ?_ (good_cond (fun q => ?_) fun q => ?_)
    · simp only [ob_cons, ob_nil, and_true, Bool.and_true, decide_eq_true_eq, Nat.blt_eq, beq_me, all8_row, hall, hj, hn, true_and]
      omega
    · refine good_out ⟨_, Hsim.refl _, ?_⟩
      have hb : trB f n j i = true := q
      have : trK f n j = false := by
        rw [trK, Int.toNat_natCast]
        exact noneTo_no c1' hb
      rw [this] at hk
      exact hk
    · exact good_out ⟨i + 1, ⟨rfl, c1', noneTo_succ hi q⟩, rfl, Hsim.refl _⟩
  · have c1 := of_decide_eq_false c1
    have : i = n := by omega
    subst this
    refine good_out ⟨_, Hsim.refl _, ?_⟩
    rw [if_pos rfl]
    have : trK f i j = true := by
      rw [trK, Int.toNat_natCast]
      exact hi
    rw [this] at hk
    exact hk
theorem ok_so : SpecOk Try.prog 161 (specQ [] (FsoO trV trK)) := by
  refine specQ_ok g0_ok Try.func161 rfl fun avs H kr hF ho => ?_
  unfold FsoO at hF
  split at hF
  · rename_i n' m ta d tb j tc n td m2 g te
    cases hF
    simp only [ob_cons] at ho
    obtain ⟨h1, h2, h3, h4, h5, h6, h7, h8, t1, t2, t3, t4, t5, _⟩ := ho
    have h1 := of_decide_eq_true h1
    have h2 := of_decide_eq_true h2
    have h3 := Nat.eq_of_beq_eq_true h3
    have h6 := of_decide_eq_true h6
    have t1 := Nat.eq_of_beq_eq_true t1
    have t2 := Nat.eq_of_beq_eq_true t2
    have t3 := Nat.eq_of_beq_eq_true t3
    have t4 := Nat.eq_of_beq_eq_true t4
    have t5 := Nat.eq_of_beq_eq_true t5
    subst h1 h2 h3 h6 t1 t2 t3 t4 t5
    refine ⟨hpT m (it8 g) (-1) j m, lamSO m (it8 g) (-1) j m (trK (it8 g) m j) (trS (it8 g) m j m), 100, .cons (ABeq.refl _) (.cons (ABeq.refl _) (.cons (ABeq.refl _) (.cons (ABeq.refl _) (.cons (ABeq.row fun j hj => all8_get h4 j hj) .nil)))), lam1 (by kernel_rfl) (sumSO (it8 g) j m h7 h8 fun i hi => List.all_eq_true.1 h5 i (List.mem_range.2 hi)), ?_⟩
    show GoodQ (execF Try.prog g0 (lamSO m (it8 g) (-1) j m (trK (it8 g) m j) (trS (it8 g) m j m)) 100 fSO [.v (i64 (m : Nat)), fnT1] (hpT m (it8 g) (-1) j m) (packK 5)) _
    rw [treeSO]
    refine good_needs (by rw [ob_cons]; exact ⟨chk_of ⟨rfl, Hsim.refl _⟩, rfl⟩) (good_cond (fun q => ?_) fun q => ?_)
    · refine good_out ⟨?_, .cons (ABeq.refl _) (.cons (ABeq.refl _) (.cons (ABeq.refl _) (.cons (ABeq.refl _) (.cons (ABeq.row fun j hj => (all8_get h4 j hj).symm) .nil))))⟩
      rw [trV, q]
      rfl
    · refine good_out ⟨?_, .cons (ABeq.refl _) (.cons (ABeq.refl _) (.cons (ABeq.refl _) (.cons (ABeq.refl _) (.cons (ABeq.row fun j hj => (all8_get h4 j hj).symm) .nil))))⟩
      rw [trV, q]
      rfl
  · cases hF

end Go.Proofs.Ytmdcafhnjihckaa

/- Single points of both. Conditions: a point. -/
namespace Go.Proofs.Ytmdcafhnjihckaa
open Go.RowKit
set_option maxRecDepth 100000

/-- The roots, as single numbers. -/
def rtR : Nat → Nat
  | 0 => 1065353216
  | 1 => 1064781546
  | 2 => 1063105495
  | 3 => 1060439283
  | 4 => 1056964608
  | 5 => 1048871918
  | 6 => 0
  | _ => 3196355566
def rtM : Nat → Nat
  | 0 => 0
  | 1 => 1048871918
  | 2 => 1056964608
  | 3 => 1060439283
  | 4 => 1063105495
  | 5 => 1064781546
  | 6 => 1065353216
  | _ => 1064781546
def pdR (a : Nat → Int) (k : Nat) : Option Nat := FloatKind.f32.format.mul (FloatKind.f32.nearest (a k)) (rtR k)
def pdM (a : Nat → Int) (k : Nat) : Option Nat := FloatKind.f32.format.mul (FloatKind.f32.nearest (a k)) (rtM k)
def smR (a : Nat → Int) : Nat → Nat
  | 0 => 0
  | k + 1 => (FloatKind.f32.format.add (smR a k) ((pdR a k).getD 0)).getD 0
def smM (a : Nat → Int) : Nat → Nat
  | 0 => 0
  | k + 1 => (FloatKind.f32.format.add (smM a k) ((pdM a k).getD 0)).getD 0
def obS (a : Nat → Int) : List Bool := (List.range 8).flatMap fun k => [(pdR a k).isSome, (pdM a k).isSome, (FloatKind.f32.format.add (smR a k) ((pdR a k).getD 0)).isSome, (FloatKind.f32.format.add (smM a k) ((pdM a k).getD 0)).isSome]
theorem exSg (a : Nat → Int) : execF Try.prog g0 noLam 100 Try.f88 [.v (cyv a)] [] valK = needs (obS a) (.out .ret [.v (.complex .f32 (smR a 8) (smM a 8))] []) := by kernel_rfl
def gmCv (ok : (Nat → Int) → Bool) : Gam := ext g0 121 (specV (fOkc ok))
theorem exSp (ok : (Nat → Int) → Bool) (a : Nat → Int) : execF Try.prog (gmCv ok) noLam 100 Try.f90 [.v (cyv a)] [] (packK 0) = cond (!ok (w8 a)) (.out .ret [.tup [.v (.complex .f32 0 0), .v (.bool false)]] []) (needs (obS a) (.out .ret [.tup [.v (.complex .f32 (smR a 8) (smM a 8)), .v (.bool true)]] [])) := by kernel_rfl

end Go.Proofs.Ytmdcafhnjihckaa

/- RowValid, TransformOf of both: trees. Conditions: a row of points. -/
namespace Go.Proofs.Ytmdcafhnjihckaa
open Go.RowKit
set_option maxRecDepth 100000

noncomputable abbrev lamIg (m : Nat) (f : Nat → Nat → Int) (c : Bool) (x : Int) : Nat → Option Sum := oneL 0 (atS 19 (lvIy .normal) 1 [.sl 0 8 0 0 m none, fnIy, .v (i64 m), .v (i64 (0 : Nat))] (hpIy m f) (fun K => cond c (K .normal (mkT 0 19 []) (hpIy m f)) (K .ret (mkT 0 19 [(4, .v (i64 x))]) (hpIy m f))))
theorem treeIg (m : Nat) (f : Nat → Nat → Int) (c : Bool) (x : Int) : execF Try.prog g0 (lamIg m f c x) 100 fIC [.sl 0 8 0 0 m none, fnIy] (hpIy m f) (packK 1)
    = needs [chk ([AV.sl (0 : Nat) (8 : Nat) (0 : Nat) (0 : Nat) m none, AV.v (Value.func (Fn.func (160 : FuncId)) (Array.mk []) (Array.mk [])), AV.v (Value.int IntKind.i64 (↑m : Int)), AV.v (Value.int IntKind.i64 (0 : Int))] = [AV.sl (0 : Nat) (8 : Nat) (0 : Nat) (0 : Nat) m none, fnIy, AV.v (Value.int IntKind.i64 (↑m : Int)), AV.v (Value.int IntKind.i64 (0 : Int))] ∧ Hsim [AB.row false m (8 : Nat) (row8 f) (31 : TypeId)] (hpIy m f))] (bif c then Res.out Ex.ret [AV.v (Value.int IntKind.i64 (-1 : Int))] [AB.row false m (8 : Nat) (row8 f) (31 : TypeId)] else Res.out Ex.ret [AV.v (Value.int IntKind.i64 x)] [AB.row false m (8 : Nat) (row8 f) (31 : TypeId)]) := by kernel_rfl

def FicO (o : (Nat → Nat → Int) → Nat → Int) : List SA → Option FR
  | [.row m g, .v (.func (.func f) ⟨[]⟩ ⟨[]⟩)] => some { val := .v (i64 (o (it8 g) m)), obl := [Nat.beq f 160, all8 m g, decide (m ≤ 2 ^ 38)] }
  | _ => none
def gmRvI (o : (Nat → Nat → Int) → Nat → Int) : Gam := ext gm_within 175 (specR md_ic (FicO o))
theorem treeRvI (o : (Nat → Nat → Int) → Nat → Int) (m : Nat) (f : Nat → Nat → Int) : execF Try.prog (gmRvI o) noLam 100 Try.f137 [.sl 0 8 0 0 m none] (hpIy m f) (packK 1)
    = bif decide ((↑m : Int) ≥ (1 : Int)) then needs [!decide ((↑m : Int) = (0 : Int))] (bif Int.tmod (24 : Int) (↑m : Int) == (0 : Int) then needs [Nat.ble ((0 : Nat) + m) m, all8 m fun q ↦ row8 f ((0 : Nat) + q), decide (m ≤ (274877906944 : Nat))] (Res.out Ex.ret [AV.v (Value.bool !decide (o (it8 fun q ↦ row8 f ((0 : Nat) + q)) m ≥ (0 : Int)))] [AB.row false m (8 : Nat) (row8 f) (31 : TypeId)]) else Res.out Ex.ret [AV.v (Value.bool false)] [AB.row false m (8 : Nat) (row8 f) (31 : TypeId)]) else Res.out Ex.ret [AV.v (Value.bool false)] [AB.row false m (8 : Nat) (row8 f) (31 : TypeId)] := by kernel_rfl

def md_c8 : List Md := [.rd 8 31]
def FrvO (rv : (Nat → Nat → Int) → Nat → Bool) : List SA → Option FR
  | [.row m g] => some { val := .v (.bool (rv (it8 g) m)), obl := [all8 m g, decide (m ≤ 2 ^ 38)] }
  | _ => none
noncomputable abbrev fRvS : Func := Try.f163
abbrev lvRv : Ex → List Nat := lv3 [0, 3] [0] [2]
theorem rndRvS (ok : (Nat → Int) → Bool) (m : Nat) (f : Nat → Nat → Int) (i : Nat) : execC Try.prog (gmCv ok) 100 noLam (loopAt 0 fRvS) (mkT 0 19 ((lvRv .normal).zip [.sl 0 8 0 0 m none, .v (i64 i)])) (hpIy m f) (leafV 19 lvRv 1)
    = bif decide ((↑i : Int) < (↑m : Int)) then needs [decide ((↑i : Int) < (↑m : Int)), decide ((0 : Nat) + Int.toNat (↑i : Int) < m)] (bif !ok (w8 (f ((0 : Nat) + Int.toNat (↑i : Int)))) then Res.out Ex.ret [AV.v (Value.bool false)] [AB.row false m (8 : Nat) (row8 f) (31 : TypeId)] else Res.out Ex.normal [AV.sl (0 : Nat) (8 : Nat) (0 : Nat) (0 : Nat) m none, AV.v (Value.int IntKind.i64 (IntKind.wrap IntKind.i64 ((↑i : Int) + (1 : Int))))] [AB.row false m (8 : Nat) (row8 f) (31 : TypeId)]) else Res.out (Ex.exit (0 : Nat)) [AV.sl (0 : Nat) (8 : Nat) (0 : Nat) (0 : Nat) m none] [AB.row false m (8 : Nat) (row8 f) (31 : TypeId)] := by kernel_rfl

noncomputable abbrev lamRv (m : Nat) (f : Nat → Nat → Int) (c : Bool) : Nat → Option Sum := oneL 0 (atS 19 (lvRv .normal) 1 [.sl 0 8 0 0 m none, .v (i64 (0 : Nat))] (hpIy m f) (fun K => cond c (K .normal (mkT 0 19 [(0, .sl 0 8 0 0 m none)]) (hpIy m f)) (K .ret (mkT 0 19 [(2, .v (.bool false))]) (hpIy m f))))
theorem treeRvS (m : Nat) (f : Nat → Nat → Int) (c : Bool) : execF Try.prog gm_l6In (lamRv m f c) 100 fRvS [.sl 0 8 0 0 m none] (hpIy m f) (packK 1)
    = needs [chk ([AV.sl (0 : Nat) (8 : Nat) (0 : Nat) (0 : Nat) m none, AV.v (Value.int IntKind.i64 (0 : Int))] = [AV.sl (0 : Nat) (8 : Nat) (0 : Nat) (0 : Nat) m none, AV.v (Value.int IntKind.i64 (0 : Int))] ∧ Hsim [AB.row false m (8 : Nat) (row8 f) (31 : TypeId)] (hpIy m f))] (bif c then bif decide ((↑m : Int) ≥ (1 : Int)) then bif decide ((↑m : Int) ≤ (24 : Int)) then needs [!decide ((↑m : Int) = (0 : Int))] (Res.out Ex.ret [AV.v (Value.bool (Int.tmod (24 : Int) (↑m : Int) == (0 : Int)))] [AB.row false m (8 : Nat) (row8 f) (31 : TypeId)]) else Res.out Ex.ret [AV.v (Value.bool false)] [AB.row false m (8 : Nat) (row8 f) (31 : TypeId)] else Res.out Ex.ret [AV.v (Value.bool false)] [AB.row false m (8 : Nat) (row8 f) (31 : TypeId)] else Res.out Ex.ret [AV.v (Value.bool false)] [AB.row false m (8 : Nat) (row8 f) (31 : TypeId)]) := by kernel_rfl

def FtrY (rv tk : (Nat → Nat → Int) → Nat → Bool) (tT : (Nat → Nat → Int) → Nat → List Cy) : List SA → Option FR
  | [.row m g, .v (.int .i64 d)] => some { val := valG (tT (it8 g) m), new := newG (tT (it8 g) m), obl := [all8 m g, decide (d = -1), rv (it8 g) m, tk (it8 g) m] }
  | _ => none
def FtrN (rv tk : (Nat → Nat → Int) → Nat → Bool) : List SA → Option FR
  | [.row m g, .v (.int .i64 d)] => some { val := valN, obl := [all8 m g, decide (d = -1), rv (it8 g) m, !tk (it8 g) m] }
  | _ => none
def gmToY (rv tk : (Nat → Nat → Int) → Nat → Bool) (tT : (Nat → Nat → Int) → Nat → List Cy) : Gam := ext (ext g0 137 (specR md_c8 (FrvO rv))) 138 (specR md_cv (FtrY rv tk tT))
def gmToN (rv tk : (Nat → Nat → Int) → Nat → Bool) : Gam := ext (ext g0 137 (specR md_c8 (FrvO rv))) 138 (specR md_cv (FtrN rv tk))
theorem treeToY (rv tk : (Nat → Nat → Int) → Nat → Bool) (tT : (Nat → Nat → Int) → Nat → List Cy) (m : Nat) (f : Nat → Nat → Int) : execF Try.prog (gmToY rv tk tT) noLam 100 Try.f85 [.sl 0 8 0 0 m none] (hpIy m f) (packK 1)
    = needs [Nat.ble ((0 : Nat) + m) m, all8 m fun q ↦ row8 f ((0 : Nat) + q), decide (m ≤ (274877906944 : Nat))] (bif !rv (it8 fun q ↦ row8 f ((0 : Nat) + q)) m then Res.out Ex.ret [AV.tup [AV.v (Value.slice none (0 : Nat) (0 : Nat)), AV.v (Value.bool false)]] [AB.row false m (8 : Nat) (row8 f) (31 : TypeId)] else needs [Nat.ble ((0 : Nat) + m) m, all8 m fun q ↦ row8 f ((0 : Nat) + q), rv (it8 fun q ↦ row8 f ((0 : Nat) + q)) m, tk (it8 fun q ↦ row8 f ((0 : Nat) + q)) m] (Res.out Ex.ret [AV.tup [AV.own (1 : Nat) (List.length (tT (it8 fun q ↦ row8 f ((0 : Nat) + q)) m)), AV.v (Value.bool true)]] [AB.row false m (8 : Nat) (row8 f) (31 : TypeId), AB.row true (List.length (tT (it8 fun q ↦ row8 f ((0 : Nat) + q)) m)) (8 : Nat) (row8 (cfun (tT (it8 fun q ↦ row8 f ((0 : Nat) + q)) m))) (31 : TypeId)])) := by kernel_rfl

theorem treeToN (rv tk : (Nat → Nat → Int) → Nat → Bool) (m : Nat) (f : Nat → Nat → Int) : execF Try.prog (gmToN rv tk) noLam 100 Try.f85 [.sl 0 8 0 0 m none] (hpIy m f) (packK 1)
    = needs [Nat.ble ((0 : Nat) + m) m, all8 m fun q ↦ row8 f ((0 : Nat) + q), decide (m ≤ (274877906944 : Nat))] (bif !rv (it8 fun q ↦ row8 f ((0 : Nat) + q)) m then Res.out Ex.ret [AV.tup [AV.v (Value.slice none (0 : Nat) (0 : Nat)), AV.v (Value.bool false)]] [AB.row false m (8 : Nat) (row8 f) (31 : TypeId)] else needs [Nat.ble ((0 : Nat) + m) m, all8 m fun q ↦ row8 f ((0 : Nat) + q), rv (it8 fun q ↦ row8 f ((0 : Nat) + q)) m, !tk (it8 fun q ↦ row8 f ((0 : Nat) + q)) m] (Res.out Ex.ret [AV.tup [AV.v (Value.slice none (0 : Nat) (0 : Nat)), AV.v (Value.bool false)]] [AB.row false m (8 : Nat) (row8 f) (31 : TypeId)])) := by kernel_rfl

noncomputable abbrev fTs : Func := Try.f139
def gmTs2 (md : Int → Int) (tu : (Nat → Int) → Int → Nat → Int) (ad : (Nat → Int) → Int → (Nat → Int) → Nat → Int) (ok : (Nat → Int) → Bool) : Gam := ext (ext (ext (ext g0 76 (specV (fMd md))) 77 (specR [.val, .val] (FtuO tu))) 121 (specV (fOkc ok))) 152 (specV (fAdd3 ad))
abbrev lvTs2 : Ex → List Nat := lv3 [0, 1, 6, 7, 8, 9, 10] [0, 1, 6, 7, 8, 9] [4, 5]
abbrev stTs2 (m : Nat) (d : Int) (i : Nat) (k : Nat) : List AV := [.sl 0 8 0 0 m none, .v (i64 d), .own 1 i, .v (i64 m), .v (i64 i), .ptr 2 0 0 0, .v (i64 k)]
abbrev hpTs2 (m : Nat) (f : Nat → Nat → Int) (i : Nat) (h : Nat → Nat → Int) (s : Nat → Int) : List AB := [.row false m 8 (row8 f) 31, .row true i 8 (row8 h) 31, .cells (cyC s) 31]
theorem rndTs2 (md : Int → Int) (tu : (Nat → Int) → Int → Nat → Int) (ad : (Nat → Int) → Int → (Nat → Int) → Nat → Int) (ok : (Nat → Int) → Bool) (m : Nat) (f : Nat → Nat → Int) (d : Int) (i : Nat) (h : Nat → Nat → Int) (s : Nat → Int) (k : Nat) : execC Try.prog (gmTs2 md tu ad ok) 100 noLam (loopAt 2 fTs) (mkT 0 54 ((lvTs2 .normal).zip (stTs2 m d i k))) (hpTs2 m f i h s) (leafV 54 lvTs2 1)
    = bif decide ((↑k : Int) < (↑m : Int)) then needs [decide ((↑k : Int) < (↑m : Int)), decide ((0 : Nat) + Int.toNat (↑k : Int) < m), !decide ((↑m : Int) = (0 : Int)), decide (md (IntKind.wrap IntKind.i64 (IntKind.wrap IntKind.i64 (IntKind.wrap IntKind.i64 (d * (↑i : Int)) * (↑k : Int)) * IntKind.wrap IntKind.i64 (Int.tdiv (24 : Int) (↑m : Int)))) ≤ (1099511627776 : Int))] (bif !ok (w8 (ad (w8 s) (1 : Int) (w8 (tu (w8 (f ((0 : Nat) + Int.toNat (↑k : Int)))) (md (IntKind.wrap IntKind.i64 (IntKind.wrap IntKind.i64 (IntKind.wrap IntKind.i64 (d * (↑i : Int)) * (↑k : Int)) * IntKind.wrap IntKind.i64 (Int.tdiv (24 : Int) (↑m : Int))))))))) then Res.out Ex.ret [AV.own (1 : Nat) (0 : Nat), AV.v (Value.bool false)] [AB.row false m (8 : Nat) (row8 f) (31 : TypeId), AB.row true (0 : Nat) (8 : Nat) (fun _ ↦ []) (31 : Nat)] else Res.out Ex.normal [AV.sl (0 : Nat) (8 : Nat) (0 : Nat) (0 : Nat) m none, AV.v (Value.int IntKind.i64 d), AV.own (1 : Nat) i, AV.v (Value.int IntKind.i64 (↑m : Int)), AV.v (Value.int IntKind.i64 (↑i : Int)), AV.ptr (2 : Nat) (0 : Nat) (0 : Nat) (0 : Nat), AV.v (Value.int IntKind.i64 (IntKind.wrap IntKind.i64 ((↑k : Int) + (1 : Int))))] [AB.row false m (8 : Nat) (row8 f) (31 : TypeId), AB.row true i (8 : Nat) (row8 h) (31 : TypeId), AB.cells [AV.v (Value.int IntKind.i64 (ad (w8 s) (1 : Int) (w8 (tu (w8 (f ((0 : Nat) + Int.toNat (↑k : Int)))) (md (IntKind.wrap IntKind.i64 (IntKind.wrap IntKind.i64 (IntKind.wrap IntKind.i64 (d * (↑i : Int)) * (↑k : Int)) * IntKind.wrap IntKind.i64 (Int.tdiv (24 : Int) (↑m : Int))))))) (0 : Nat))), AV.v (Value.int IntKind.i64 (ad (w8 s) (1 : Int) (w8 (tu (w8 (f ((0 : Nat) + Int.toNat (↑k : Int)))) (md (IntKind.wrap IntKind.i64 (IntKind.wrap IntKind.i64 (IntKind.wrap IntKind.i64 (d * (↑i : Int)) * (↑k : Int)) * IntKind.wrap IntKind.i64 (Int.tdiv (24 : Int) (↑m : Int))))))) (1 : Nat))), AV.v (Value.int IntKind.i64 (ad (w8 s) (1 : Int) (w8 (tu (w8 (f ((0 : Nat) + Int.toNat (↑k : Int)))) (md (IntKind.wrap IntKind.i64 (IntKind.wrap IntKind.i64 (IntKind.wrap IntKind.i64 (d * (↑i : Int)) * (↑k : Int)) * IntKind.wrap IntKind.i64 (Int.tdiv (24 : Int) (↑m : Int))))))) (2 : Nat))), AV.v (Value.int IntKind.i64 (ad (w8 s) (1 : Int) (w8 (tu (w8 (f ((0 : Nat) + Int.toNat (↑k : Int)))) (md (IntKind.wrap IntKind.i64 (IntKind.wrap IntKind.i64 (IntKind.wrap IntKind.i64 (d * (↑i : Int)) * (↑k : Int)) * IntKind.wrap IntKind.i64 (Int.tdiv (24 : Int) (↑m : Int))))))) (3 : Nat))), AV.v (Value.int IntKind.i64 (ad (w8 s) (1 : Int) (w8 (tu (w8 (f ((0 : Nat) + Int.toNat (↑k : Int)))) (md (IntKind.wrap IntKind.i64 (IntKind.wrap IntKind.i64 (IntKind.wrap IntKind.i64 (d * (↑i : Int)) * (↑k : Int)) * IntKind.wrap IntKind.i64 (Int.tdiv (24 : Int) (↑m : Int))))))) (4 : Nat))), AV.v (Value.int IntKind.i64 (ad (w8 s) (1 : Int) (w8 (tu (w8 (f ((0 : Nat) + Int.toNat (↑k : Int)))) (md (IntKind.wrap IntKind.i64 (IntKind.wrap IntKind.i64 (IntKind.wrap IntKind.i64 (d * (↑i : Int)) * (↑k : Int)) * IntKind.wrap IntKind.i64 (Int.tdiv (24 : Int) (↑m : Int))))))) (5 : Nat))), AV.v (Value.int IntKind.i64 (ad (w8 s) (1 : Int) (w8 (tu (w8 (f ((0 : Nat) + Int.toNat (↑k : Int)))) (md (IntKind.wrap IntKind.i64 (IntKind.wrap IntKind.i64 (IntKind.wrap IntKind.i64 (d * (↑i : Int)) * (↑k : Int)) * IntKind.wrap IntKind.i64 (Int.tdiv (24 : Int) (↑m : Int))))))) (6 : Nat))), AV.v (Value.int IntKind.i64 (ad (w8 s) (1 : Int) (w8 (tu (w8 (f ((0 : Nat) + Int.toNat (↑k : Int)))) (md (IntKind.wrap IntKind.i64 (IntKind.wrap IntKind.i64 (IntKind.wrap IntKind.i64 (d * (↑i : Int)) * (↑k : Int)) * IntKind.wrap IntKind.i64 (Int.tdiv (24 : Int) (↑m : Int))))))) (7 : Nat)))] (31 : TypeId)]) else Res.out (Ex.exit (2 : Nat)) [AV.sl (0 : Nat) (8 : Nat) (0 : Nat) (0 : Nat) m none, AV.v (Value.int IntKind.i64 d), AV.own (1 : Nat) i, AV.v (Value.int IntKind.i64 (↑m : Int)), AV.v (Value.int IntKind.i64 (↑i : Int)), AV.ptr (2 : Nat) (0 : Nat) (0 : Nat) (0 : Nat)] [AB.row false m (8 : Nat) (row8 f) (31 : TypeId), AB.row true i (8 : Nat) (row8 h) (31 : TypeId), AB.cells [AV.v (Value.int IntKind.i64 (s (0 : Nat))), AV.v (Value.int IntKind.i64 (s (1 : Nat))), AV.v (Value.int IntKind.i64 (s (2 : Nat))), AV.v (Value.int IntKind.i64 (s (3 : Nat))), AV.v (Value.int IntKind.i64 (s (4 : Nat))), AV.v (Value.int IntKind.i64 (s (5 : Nat))), AV.v (Value.int IntKind.i64 (s (6 : Nat))), AV.v (Value.int IntKind.i64 (s (7 : Nat)))] (31 : TypeId)] := by kernel_rfl

end Go.Proofs.Ytmdcafhnjihckaa

/- RowValid of both; the program's transform and TransformOf. Conditions: a row of points. -/
namespace Go.Proofs.Ytmdcafhnjihckaa
open Go.RowKit
set_option maxRecDepth 100000

def bdC (f : Nat → Nat → Int) (i : Nat) : Bool := !cyOk (cyOf (f i))
theorem bdC_cv (f : Nat → Nat → Int) (m : Nat) : noneTo (bdC f) m = cvB f m := by
  unfold noneTo cvB bdC
  simp only [Bool.not_not]
theorem bdC_row (f : Nat → Nat → Int) (m : Nat) : fstAt (bdC (it8 (row8 f))) m = fstAt (bdC f) m := fstAt_congr fun _ _ => rfl
theorem cvB_row (f : Nat → Nat → Int) (m : Nat) : cvB (it8 (row8 f)) m = cvB f m := rfl
theorem rvB_row (f : Nat → Nat → Int) (m : Nat) : rvB (it8 (row8 f)) m = rvB f m := rfl
theorem sumIg (m : Nat) (f : Nat → Nat → Int) (hm : m ≤ 2 ^ 40) :
    SumOk Try.prog 1 (.block 0 (.loop (loopAt 0 fIC))) (atS 19 (lvIy .normal) 1 [.sl 0 8 0 0 m none, fnIy, .v (i64 m), .v (i64 (0 : Nat))] (hpIy m f) (fun K => cond (noneTo (bdC f) m) (K .normal (mkT 0 19 []) (hpIy m f)) (K .ret (mkT 0 19 [(4, .v (i64 (fstAt (bdC f) m)))]) (hpIy m f)))) := by
  refine for_at gmIy_ok (n := 100) (m := 1) (lv := lvIy) (fun i => [.sl 0 8 0 0 m none, fnIy, .v (i64 m), .v (i64 (i : Nat))]) (fun _ => hpIy m f) (fun i => noneTo (bdC f) i = true) m (fun _ => noLam) (lv3_ris rfl rfl rfl) (Nat.le_refl _) rfl fun K Q hk i hi him => ⟨noLam_ok _ _ _, ?_⟩
  rw [rndIy]
  simp only [Int.toNat_natCast, Nat.zero_add]
  refine good_cond (fun c1 => ?_) fun c1 => ?_
  · have c1 := of_decide_eq_true c1
    have c1' : i < m := by omega
    rw [wr_in (x := (i : Int) + 1) (by omega)]
    refine good_needs (by simp only [ob_cons, ob_nil, and_true, decide_eq_true_eq]; omega) (good_cond (fun q => ?_) fun q => ?_)
    · have hb : bdC f i = true := q
      refine good_out ⟨_, Hsim.refl _, ?_⟩
      rw [noneTo_no c1' hb, fstAt_at hi c1' hb] at hk
      exact hk
    · have hb : bdC f i = false := q
      exact good_out ⟨i + 1, ⟨rfl, c1', noneTo_succ hi hb⟩, rfl, Hsim.refl _⟩
  · have c1 := of_decide_eq_false c1
    have : i = m := by omega
    subst this
    refine good_out ⟨_, Hsim.refl _, ?_⟩
    rw [if_pos rfl]
    rw [hi] at hk
    exact hk
theorem ok_ic : SpecOk Try.prog 175 (specR md_ic (FicO fun f m => fstAt (bdC f) m)) := by
  refine specR_hr g0_ok Try.func175 rfl fun sas fr hF ho => ?_
  unfold FicO at hF
  split at hF
  · rename_i m g fi
    cases hF
    simp only [ob_cons] at ho
    obtain ⟨h0, h1, h2, _⟩ := ho
    have h0 := Nat.eq_of_beq_eq_true h0
    subst h0
    have hm := of_decide_eq_true h2
    refine ⟨hpIy m (it8 g), lamIg m (it8 g) (noneTo (bdC (it8 g)) m) (fstAt (bdC (it8 g)) m), 100, .cons (ABeq.row fun j hj => all8_get h1 j hj) .nil, lam1 (by kernel_rfl) (sumIg m (it8 g) (by omega)), ?_⟩
    show GoodQ (execF Try.prog g0 (lamIg m (it8 g) (noneTo (bdC (it8 g)) m) (fstAt (bdC (it8 g)) m)) 100 fIC [.sl 0 8 0 0 m none, fnIy] (hpIy m (it8 g)) (packK 1)) _
    rw [treeIg]
    refine good_needs (by rw [ob_cons]; exact ⟨chk_of ⟨rfl, Hsim.refl _⟩, rfl⟩) (good_cond (fun q => ?_) fun q => ?_)
    · exact good_out ⟨_, rfl, by show [AV.v (i64 (-1))] = [AV.v (i64 (fstAt (bdC (it8 g)) m))]; rw [fstAt_no q], .cons (ABeq.row fun j hj => (all8_get h1 j hj).symm) .nil⟩
    · exact good_out ⟨_, rfl, rfl, .cons (ABeq.row fun j hj => (all8_get h1 j hj).symm) .nil⟩
  · cases hF
theorem ok_rvI : SpecOk Try.prog 137 (specR md_c8 (FrvO rvB)) := by
  refine specR_hr (Γ := gmRvI fun f m => fstAt (bdC f) m) (ext_ok gm_within_ok ok_ic) Try.func137 rfl fun sas fr hF ho => ?_
  unfold FrvO at hF
  split at hF
  · rename_i m g
    cases hF
    simp only [ob_cons] at ho
    obtain ⟨h1, h2, _⟩ := ho
    have hm := of_decide_eq_true h2
    have fin : ∀ b, rvB (it8 g) m = b → GoodQ (.out .ret [.v (.bool b)] (hpIy m (it8 g))) (GivR (abP md_c8 [.row m g] []) { val := .v (.bool (rvB (it8 g) m)), obl := [all8 m g, decide (m ≤ 2 ^ 38)] }) := fun b hb =>
      good_out ⟨_, rfl, by rw [hb], .cons (ABeq.row fun j hj => (all8_get h1 j hj).symm) .nil⟩
    refine ⟨hpIy m (it8 g), noLam, 100, .cons (ABeq.row fun j hj => all8_get h1 j hj) .nil, noLam' _, ?_⟩
    show GoodQ (execF Try.prog (gmRvI fun f m => fstAt (bdC f) m) noLam 100 Try.f137 [.sl 0 8 0 0 m none] (hpIy m (it8 g)) (packK 1)) _
    rw [treeRvI]
    simp only [row80, bdC_row]
    refine good_cond (fun c1 => ?_) fun c1 => fin false (by rw [rvB, roV, c1]; rfl)
    have c1' := of_decide_eq_true c1
    refine good_needs (by simp only [ob_cons, ob_nil, and_true, Bool.not_eq_true', decide_eq_false_iff_not]; omega) (good_cond (fun c2 => ?_) fun c2 => fin false (by rw [rvB, roV, c2, Bool.and_false, Bool.and_false]; rfl))
    refine good_needs (by simp only [ob_cons, ob_nil, and_true, decide_eq_true_eq, Nat.ble_eq, all8_row, true_and]; omega) (fin _ ?_)
    rw [fstAt_ge, Bool.not_not, bdC_cv, rvB, roV, c1, c2, decide_eq_true (rs_le c1' (beq_iff_eq.1 c2))]
    rfl
  · cases hF
theorem gmCv_ok : GamOk Try.prog (gmCv fun v => cyOk (cyOf v)) := by
  unfold gmCv
  rw [fOkc_eq]
  exact ext_ok g0_ok ok_cv
theorem sumRv (m : Nat) (f : Nat → Nat → Int) (hm : m ≤ 2 ^ 40) :
    SumOk Try.prog 1 (.block 0 (.loop (loopAt 0 fRvS))) (atS 19 (lvRv .normal) 1 [.sl 0 8 0 0 m none, .v (i64 (0 : Nat))] (hpIy m f) (fun K => cond (noneTo (bdC f) m) (K .normal (mkT 0 19 [(0, .sl 0 8 0 0 m none)]) (hpIy m f)) (K .ret (mkT 0 19 [(2, .v (.bool false))]) (hpIy m f)))) := by
  refine for_at gmCv_ok (n := 100) (m := 1) (lv := lvRv) (fun i => [.sl 0 8 0 0 m none, .v (i64 (i : Nat))]) (fun _ => hpIy m f) (fun i => noneTo (bdC f) i = true) m (fun _ => noLam) (lv3_ris rfl rfl rfl) (Nat.le_refl _) rfl fun K Q hk i hi him => ⟨noLam_ok _ _ _, ?_⟩
  rw [rndRvS]
  simp only [Int.toNat_natCast, Nat.zero_add]
  refine good_cond (fun c1 => ?_) fun c1 => ?_
  · have c1 := of_decide_eq_true c1
    have c1' : i < m := by omega
    rw [wr_in (x := (i : Int) + 1) (by omega)]
    refine good_needs (by simp only [ob_cons, ob_nil, and_true, decide_eq_true_eq]; omega) (good_cond (fun q => ?_) fun q => ?_)
    · have hb : bdC f i = true := q
      refine good_out ⟨_, Hsim.refl _, ?_⟩
      rw [noneTo_no c1' hb] at hk
      exact hk
    · have hb : bdC f i = false := q
      exact good_out ⟨i + 1, ⟨rfl, c1', noneTo_succ hi hb⟩, rfl, Hsim.refl _⟩
  · have c1 := of_decide_eq_false c1
    have : i = m := by omega
    subst this
    refine good_out ⟨_, Hsim.refl _, ?_⟩
    rw [if_pos rfl]
    rw [hi] at hk
    exact hk
theorem ok_rvS : SpecOk Try.prog 163 (specR md_c8 (FrvO rvB)) := by
  refine specR_hr gm_l6In_ok Try.func163 rfl fun sas fr hF ho => ?_
  unfold FrvO at hF
  split at hF
  · rename_i m g
    cases hF
    simp only [ob_cons] at ho
    obtain ⟨h1, h2, _⟩ := ho
    have hm := of_decide_eq_true h2
    have fin : ∀ b, rvB (it8 g) m = b → GoodQ (.out .ret [.v (.bool b)] (hpIy m (it8 g))) (GivR (abP md_c8 [.row m g] []) { val := .v (.bool (rvB (it8 g) m)), obl := [all8 m g, decide (m ≤ 2 ^ 38)] }) := fun b hb =>
      good_out ⟨_, rfl, by rw [hb], .cons (ABeq.row fun j hj => (all8_get h1 j hj).symm) .nil⟩
    refine ⟨hpIy m (it8 g), lamRv m (it8 g) (noneTo (bdC (it8 g)) m), 100, .cons (ABeq.row fun j hj => all8_get h1 j hj) .nil, lam1 (by kernel_rfl) (sumRv m (it8 g) (by omega)), ?_⟩
    show GoodQ (execF Try.prog gm_l6In (lamRv m (it8 g) (noneTo (bdC (it8 g)) m)) 100 fRvS [.sl 0 8 0 0 m none] (hpIy m (it8 g)) (packK 1)) _
    rw [treeRvS]
    refine good_needs (by rw [ob_cons]; exact ⟨chk_of ⟨rfl, Hsim.refl _⟩, rfl⟩) (good_cond (fun q => ?_) fun q => fin false (by rw [rvB, ← bdC_cv, q, Bool.and_false]))
    have e : rvB (it8 g) m = roV m := by rw [rvB, ← bdC_cv, q, Bool.and_true]
    refine good_cond (fun c1 => ?_) fun c1 => fin false (by rw [e, roV, c1]; rfl)
    have c1' := of_decide_eq_true c1
    refine good_cond (fun c2 => ?_) fun c2 => fin false (by rw [e, roV, c1, c2]; rfl)
    exact good_needs (by simp only [ob_cons, ob_nil, and_true, Bool.not_eq_true', decide_eq_false_iff_not]; omega) (fin _ (by rw [e, roV, c1, c2]; rfl))
  · cases hF

def trF (f : Nat → Nat → Int) (n : Int) : Nat → Nat → Int := fun j => trV f n j
theorem trF_row (f : Nat → Nat → Int) (n : Int) : trF (it8 (row8 f)) n = trF f n := by
  funext j
  exact trV_row f n j
/-- All sums are points. -/
def tbK (f : Nat → Nat → Int) (m : Nat) (j : Nat) : Bool := !trK f m j
def tkB (f : Nat → Nat → Int) (m : Nat) : Bool := noneTo (tbK f m) m
def tTf (f : Nat → Nat → Int) (m : Nat) : List Cy := listC (trF f m) m
def toK (f : Nat → Nat → Int) (m : Nat) : Bool := rvB f m && tkB f m
def toT (f : Nat → Nat → Int) (m : Nat) : List Cy := bif toK f m then tTf f m else []
theorem tkB_row (f : Nat → Nat → Int) (m : Nat) : tkB (it8 (row8 f)) m = tkB f m := by
  unfold tkB tbK
  simp only [trK_row]
theorem tTf_row (f : Nat → Nat → Int) (m : Nat) : tTf (it8 (row8 f)) m = tTf f m := by
  unfold tTf
  rw [trF_row]
theorem cv_inB {f : Nat → Nat → Int} {m : Nat} (h : cvB f m = true) (i : Nat) (hi : i < m) : inB (w8 (f i)) = true := smallF_iff.2 fun k hk => by
  have := smallF_iff.1 (cvB_at h hi) k hk
  have e : (cyOf (f i)).f k = w8 (f i) k := by
    match k, hk with
    | 0, _ => rfl
    | 1, _ => rfl
    | 2, _ => rfl
    | 3, _ => rfl
    | 4, _ => rfl
    | 5, _ => rfl
    | 6, _ => rfl
    | 7, _ => rfl
  omega
theorem rvB_parts {f : Nat → Nat → Int} {m : Nat} (h : rvB f m = true) : roV m = true ∧ cvB f m = true := by
  rw [rvB, Bool.and_eq_true] at h
  exact h
theorem tr_row (f : Nat → Nat → Int) (m i : Nat) (o : Nat → Nat → Int) (ho : ∀ j, j < i → o j = trF f m j) (j : Nat) (hj : j < i + 1) : [i64 (bif Nat.blt j i then o j 0 else trV f m i 0), i64 (bif Nat.blt j i then o j 1 else trV f m i 1), i64 (bif Nat.blt j i then o j 2 else trV f m i 2), i64 (bif Nat.blt j i then o j 3 else trV f m i 3), i64 (bif Nat.blt j i then o j 4 else trV f m i 4), i64 (bif Nat.blt j i then o j 5 else trV f m i 5), i64 (bif Nat.blt j i then o j 6 else trV f m i 6), i64 (bif Nat.blt j i then o j 7 else trV f m i 7)] = row8 (trF f m) j := by
  by_cases h : j < i
  · rw [blt_yes h]
    simp only [cond_true, ho j h]
  · have : j = i := by omega
    subst this
    rw [blt_no]
    rfl
theorem sumTr (f : Nat → Nat → Int) (n : Nat) (hv : rvB f n = true) :
    SumOk Try.prog 1 (.block 0 (.loop (loopAt 0 fTr))) (atS 33 (lvTr .normal) 1 (stTr n 0) (hpTr8 n f (-1) n 0 fun _ _ => 0) (fun K => cond (tkB f n) (K .normal (mkT 0 33 [(7, .own 1 n)]) [.row false n 8 (row8 f) 31, .row true n 8 (row8 (trF f n)) 31]) (K .ret (mkT 0 33 [(4, .v (.slice none 0 0)), (5, .v (.bool false))]) [.row false n 8 (row8 f) 31]))) := by
  have hg : GamOk Try.prog (gmTr trV trK) := ext_ok g0_ok ok_so
  refine for_at hg (n := 100) (m := 1) (lv := lvTr) (fun i => stTr n i) (fun i => hpTr8 n f (-1) n i (bif Nat.beq i 0 then (fun _ _ => 0) else trF f n)) (fun i => noneTo (tbK f n) i = true) n (fun _ => noLam) (lv3_ris rfl rfl rfl) (Nat.le_refl _) rfl fun K Q hk i hno hi => ⟨noLam_ok _ _ _, ?_⟩
  have hv2 := rvB_parts hv
  have hn := roV_in hv2.1
  have ho : ∀ j, j < i → (bif Nat.beq i 0 then (fun _ _ => (0 : Int)) else trF f n) j = trF f n j := by
    intro j hj
    cases i with
    | zero => exact absurd hj (Nat.not_lt_zero _)
    | succ i => rfl
  rw [rndTr8]
  simp only [trK_row, trV_row]
  refine good_cond (fun c1 => ?_) fun c1 => ?_
  · have c1 := of_decide_eq_true c1
    have c1' : i < n := by omega
    rw [wr_in (x := (i : Int) + 1) (by omega)]
    have hall : ((List.range n).all fun i => inB (w8 (it8 (row8 f) i))) = true := List.all_eq_true.2 fun i hi => cv_inB hv2.2 i (List.mem_range.1 hi)
    have hj : inR (i : Int) 0 23 = true := inR_iff.2 (by omega)
    refine good_needs ?_ (good_cond (fun q => ?_) fun q => good_needs (by simp only [ob_cons, ob_nil, and_true, Nat.ble_eq]; omega) (good_out ⟨i + 1, ⟨rfl, c1', noneTo_succ hno q⟩, rfl, .cons (ABeq.refl _) (.cons (ABeq.refl _) (.cons (ABeq.refl _) (.cons (ABeq.refl _) (.cons (ABeq.row fun j hj => ?_) .nil))))⟩))
    · simp only [ob_cons, ob_nil, and_true, Bool.and_true, decide_eq_true_eq, Nat.blt_eq, beq_me, all8_row, hall, hj, hv2.1, true_and]
      omega
    · refine good_out ⟨_, Hsim.refl _, ?_⟩
      have hb : tbK f n i = true := q
      rw [show tkB f n = false from noneTo_no c1' hb] at hk
      exact hk
    · exact tr_row f n i _ ho j hj
  · have c1 := of_decide_eq_false c1
    have : i = n := by omega
    subst this
    refine good_out ⟨[.row false i 8 (row8 f) 31, .row true i 8 (row8 (trF f i)) 31], .cons (ABeq.refl _) (.cons (ABeq.row fun j hj => row8_congr fun k _ => by rw [ho j hj]) .nil), ?_⟩
    rw [if_pos rfl]
    rw [show tkB f i = true from hno] at hk
    exact hk
theorem tr_run {f : Nat → Nat → Int} {m : Nat} {Q : Ex → List AV → List AB → Prop} (hv : rvB f m = true)
    (yes : tkB f m = true → GoodQ (.out .ret [.tup [.own 1 m, .v (.bool true)]] [.row false m 8 (row8 f) 31, .row true m 8 (row8 (trF f m)) 31]) Q) (no : tkB f m = false → GoodQ (.out .ret [.tup [.v (.slice none 0 0), .v (.bool false)]] [.row false m 8 (row8 f) 31]) Q) :
    GoodQ (execF Try.prog g0 (lamTr m f (-1) m m (trF f m) (tkB f m)) 100 fTr [.sl 0 8 0 0 m none, .v (i64 (-1))] [.row false m 8 (row8 f) 31] (packK 1)) Q := by
  have hn := roV_in (rvB_parts hv).1
  rw [treeTr8]
  refine good_needs ?_ (good_cond yes no)
  simp only [ob_cons, ob_nil, and_true, decide_eq_true_eq]
  exact ⟨by omega, chk_of ⟨rfl, .cons (ABeq.refl _) (.cons (ABeq.refl _) (.cons (ABeq.refl _) (.cons (ABeq.refl _) (.cons (ABeq.row fun j hj => absurd hj (Nat.not_lt_zero _)) .nil))))⟩⟩
theorem ok_trY : SpecOk Try.prog 138 (specR md_cv (FtrY rvB tkB tTf)) := by
  refine specR_hr g0_ok Try.func138 rfl fun sas fr hF ho => ?_
  unfold FtrY at hF
  split at hF
  · rename_i m g d
    cases hF
    simp only [ob_cons] at ho
    obtain ⟨h1, h2, h3, h4, _⟩ := ho
    have h2 := of_decide_eq_true h2
    subst h2
    refine ⟨hpIy m (it8 g), lamTr m (it8 g) (-1) m m (trF (it8 g) m) (tkB (it8 g) m), 100, .cons (ABeq.row fun j hj => all8_get h1 j hj) .nil, lam1 (by kernel_rfl) (sumTr (it8 g) m h3), ?_⟩
    refine tr_run h3 (fun _ => ?_) fun q => by rw [h4] at q; cases q
    have hl : (tTf (it8 g) m).length = m := by rw [tTf, listC_length]
    refine good_out ⟨_, rfl, by rw [hl]; rfl, .cons (ABeq.row fun j hj => (all8_get h1 j hj).symm) ?_⟩
    show Hsim _ [.row true (tTf (it8 g) m).length 8 (row8 (cfun (tTf (it8 g) m))) 31]
    rw [hl]
    exact .cons (ABeq.row fun j hj => (row8_list _ hj).symm) .nil
  · cases hF
theorem ok_trN : SpecOk Try.prog 138 (specR md_cv (FtrN rvB tkB)) := by
  refine specR_hr g0_ok Try.func138 rfl fun sas fr hF ho => ?_
  unfold FtrN at hF
  split at hF
  · rename_i m g d
    cases hF
    simp only [ob_cons] at ho
    obtain ⟨h1, h2, h3, h4, _⟩ := ho
    have h2 := of_decide_eq_true h2
    subst h2
    have h4 : tkB (it8 g) m = false := by simpa using h4
    refine ⟨hpIy m (it8 g), lamTr m (it8 g) (-1) m m (trF (it8 g) m) (tkB (it8 g) m), 100, .cons (ABeq.row fun j hj => all8_get h1 j hj) .nil, lam1 (by kernel_rfl) (sumTr (it8 g) m h3), ?_⟩
    refine tr_run h3 (fun q => by rw [h4] at q; cases q) fun _ => ?_
    exact good_out ⟨_, rfl, rfl, .cons (ABeq.row fun j hj => (all8_get h1 j hj).symm) .nil⟩
  · cases hF

def FtoY : List SA → Option FR
  | [.row m g] => some { val := valG (toT (it8 g) m), new := newG (toT (it8 g) m), obl := [all8 m g, decide (m ≤ 2 ^ 38), toK (it8 g) m] }
  | _ => none
def FtoN : List SA → Option FR
  | [.row m g] => some { val := valN, obl := [all8 m g, decide (m ≤ 2 ^ 38), !toK (it8 g) m] }
  | _ => none
def UtoO (rk : (Nat → Nat → Int) → Nat → Bool) (rt : (Nat → Nat → Int) → Nat → List Cy) : List SA → Option PtR
  | [.row m g] => some ⟨rk (it8 g) m, rt (it8 g) m, [all8 m g, decide (m ≤ 2 ^ 38)]⟩
  | _ => none
theorem toT_no {f : Nat → Nat → Int} {m : Nat} (h : toK f m = false) : toT f m = [] := by rw [toT, h]; rfl
theorem toT_yes {f : Nat → Nat → Int} {m : Nat} (h : toK f m = true) : toT f m = tTf f m := by rw [toT, h]; rfl
theorem ok_toY : SpecOk Try.prog 85 (specR md_c8 FtoY) := by
  refine specR_hr (Γ := gmToY rvB tkB tTf) (ext_ok (ext_ok g0_ok ok_rvI) ok_trY) Try.func85 rfl fun sas fr hF ho => ?_
  unfold FtoY at hF
  split at hF
  · rename_i m g
    cases hF
    simp only [ob_cons] at ho
    obtain ⟨h1, h2, h3, _⟩ := ho
    have hm := of_decide_eq_true h2
    refine ⟨hpIy m (it8 g), noLam, 100, .cons (ABeq.row fun j hj => all8_get h1 j hj) .nil, noLam' _, ?_⟩
    show GoodQ (execF Try.prog (gmToY rvB tkB tTf) noLam 100 Try.f85 [.sl 0 8 0 0 m none] (hpIy m (it8 g)) (packK 1)) _
    rw [treeToY]
    simp only [row80, rvB_row, tkB_row, tTf_row]
    have h3' := h3
    rw [toK, Bool.and_eq_true] at h3'
    refine good_needs (by simp only [ob_cons, ob_nil, and_true, decide_eq_true_eq, Nat.ble_eq, all8_row, true_and]; omega) (good_false (by rw [h3'.1]; rfl) (good_needs (by simp only [ob_cons, ob_nil, and_true, decide_eq_true_eq, Nat.ble_eq, all8_row, true_and, h3'.1, h3'.2]; omega) (good_out ⟨_, rfl, ?_, .cons (ABeq.row fun j hj => (all8_get h1 j hj).symm) ?_⟩)))
    · rw [toT_yes h3]
      rfl
    · show Hsim _ [.row true (toT (it8 g) m).length 8 (row8 (cfun (toT (it8 g) m))) 31]
      rw [toT_yes h3]
      exact Hsim.refl _
  · cases hF
theorem ok_toN : SpecOk Try.prog 85 (specR md_c8 FtoN) := by
  refine specR_hr (Γ := gmToN rvB tkB) (ext_ok (ext_ok g0_ok ok_rvI) ok_trN) Try.func85 rfl fun sas fr hF ho => ?_
  unfold FtoN at hF
  split at hF
  · rename_i m g
    cases hF
    simp only [ob_cons] at ho
    obtain ⟨h1, h2, h3, _⟩ := ho
    have hm := of_decide_eq_true h2
    have h3 : toK (it8 g) m = false := by simpa using h3
    refine ⟨hpIy m (it8 g), noLam, 100, .cons (ABeq.row fun j hj => all8_get h1 j hj) .nil, noLam' _, ?_⟩
    show GoodQ (execF Try.prog (gmToN rvB tkB) noLam 100 Try.f85 [.sl 0 8 0 0 m none] (hpIy m (it8 g)) (packK 1)) _
    rw [treeToN]
    simp only [row80, rvB_row, tkB_row]
    refine good_needs (by simp only [ob_cons, ob_nil, and_true, decide_eq_true_eq, Nat.ble_eq, all8_row, true_and]; omega) (good_cond (fun _ => good_out ⟨_, rfl, rfl, .cons (ABeq.row fun j hj => (all8_get h1 j hj).symm) .nil⟩) fun q => ?_)
    have q : rvB (it8 g) m = true := by simpa using q
    rw [toK, q, Bool.true_and] at h3
    exact good_needs (by simp only [ob_cons, ob_nil, and_true, decide_eq_true_eq, Nat.ble_eq, all8_row, true_and, q, h3, Bool.not_false]; omega) (good_out ⟨_, rfl, rfl, .cons (ABeq.row fun j hj => (all8_get h1 j hj).symm) .nil⟩)
  · cases hF
theorem ok_Uto : SpecOk Try.prog 85 (specG md_c8 (UtoO toK toT)) := by
  refine specG_ok rfl ok_toY ok_toN fun sas u hu ho => ?_
  unfold UtoO at hu
  split at hu
  · rename_i m g
    cases hu
    simp only [ob_cons] at ho
    obtain ⟨h1, h2, _⟩ := ho
    refine ⟨rfl, ?_⟩
    cases hv : toK (it8 g) m with
    | true =>
      left
      refine ⟨rfl, [all8 m g, decide (m ≤ 2 ^ 38), toK (it8 g) m], rfl, ?_⟩
      simp only [ob_cons, ob_nil, and_true]
      exact ⟨h1, h2, hv⟩
    | false =>
      right
      refine ⟨rfl, toT_no hv, [all8 m g, decide (m ≤ 2 ^ 38), !toK (it8 g) m], rfl, ?_⟩
      simp only [ob_cons, ob_nil, and_true]
      exact ⟨h1, h2, by rw [hv]; rfl⟩
  · cases hu

end Go.Proofs.Ytmdcafhnjihckaa
