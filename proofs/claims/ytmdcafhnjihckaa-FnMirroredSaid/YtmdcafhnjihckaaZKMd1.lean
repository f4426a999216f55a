/- DesignAkin of the reference: trees. Conditions: two lists of wheels. -/
import Derived.Test.YtmdcafhnjihckaaZD0
import Derived.Test.YtmdcafhnjihckaaZD1
import Derived.Test.YtmdcafhnjihckaaZD2
import Derived.Test.YtmdcafhnjihckaaZD3
import Derived.Test.YtmdcafhnjihckaaZD4
import Derived.Test.YtmdcafhnjihckaaZD5
import Derived.Test.YtmdcafhnjihckaaZD6
import Derived.Test.YtmdcafhnjihckaaZKMd0
import Derived.RangeFuncNested
import Derived.RangeFuncBound
import Derived.RangeFuncCalls
import Derived.RangeFuncLeaves
import Derived.LoopNIn
import Derived.OrdersIn
import Derived.TacticsIn
/- The abstract machine, 17: the same, in a frame of a round of a loop over a function. No conditions. -/
namespace Go.Proofs.Ytmdcafhnjihckaa
open Go.RowKit

/-- The wide fence, in a round or not. -/
def wideR (r : Option Nat) : Fence := { Fence.wide with round := r }
theorem wideR_none : wideR none = Fence.wide := rfl
theorem wideR_some (l : Nat) : wideR (some l) = Fence.wide.inRound l := rfl
theorem room_wideR (r : Option Nat) (n : Nat) : (wideR r).room n := fun _ h => by cases h

theorem callsIn_wideR {r : Option Nat} {n : Nat} {P : Program} {f : FuncId} {args : Array Value} {w : World} {R : Ending → World → Prop} (h : Calls P f args w R) : CallsIn (wideR r) n P f args w R := by
  cases r with
  | none => exact callsIn_wide.2 h
  | some l => exact CallsIn.inRound l (callsIn_wide.2 h)

theorem stepsIn_wideR {r : Option Nat} {P : Program} {m m' : Machine} (h : Steps P m m') : StepsIn (Machine.fenced P (wideR r)) P m m' := by
  cases r with
  | none => exact stepsIn_wide.2 h
  | some l => exact stepsIn_wide.2 h

theorem rowsIn_wideR {r : Option Nat} {n : Nat} {P : Program} {row : String} {args : Array Value} {w : World} {R : Value → World → Prop} (h : Rows P row args w R) : RowsIn (wideR r) n P row args w R :=
  fun c cs _ => let ⟨v, w', q, s⟩ := h c cs; ⟨v, w', q, stepsIn_wideR s⟩

theorem op_in {r : Option Nat} {n : Nat} {P : Program} {o : Oper} {a : Act} {w : World} {next : Act → World → Prop} {Q : Exit → Act → World → Prop} (hd : ∀ c, o.op ≠ .defer c) (h : o.wp P a w next Q) : o.wpIn (wideR r) n P a w next Q := by
  refine ⟨fun _ _ => trivial, ?_⟩
  have hs : o.semAt (wideR r).round a.eval = execOp a.eval o := by
    cases r with
    | none => exact Oper.semAt_none _ _
    | some l => exact Oper.semAt_some l _ o hd
  rw [hs]
  unfold Oper.wp at h
  generalize (execOp a.eval o).run P w = R at h
  cases R with
  | ok x w' =>
    cases x with
    | value v => exact h
    | skip => exact h
    | defer d => exact h
    | enter f args => exact ⟨fun hdep => (by cases hdep), callsIn_wideR (h.mono fun e w'' he => by cases e <;> exact he)⟩
    | row row args => exact ⟨fun hdep => (by cases hdep), rowsIn_wideR h⟩
    | round => exact h.elim
    | _ => exact h.elim
  | halt x w' =>
    cases x with
    | panic v => exact h
    | _ => exact h.elim

def noDef (ops : Array Oper) : Bool := ops.toList.all fun o => match o.op with
  | .defer _ => false
  | _ => true
theorem noDef_get {ops : Array Oper} (h : noDef ops = true) {i : Nat} {o : Oper} (ho : ops[i]? = some o) : ∀ c, o.op ≠ .defer c := by
  intro c e
  have hm : o ∈ ops.toList := by
    have := Array.getElem?_eq_some_iff.1 ho
    obtain ⟨hlt, e⟩ := this
    rw [← e]
    simp
  have := List.all_eq_true.1 h o hm
  rw [e] at this
  cases this

theorem wpOp_in {r : Option Nat} {n : Nat} {P : Program} {ops : Array Oper} {Q : Exit → Act → World → Prop} (hd : noDef ops = true) (hQ : ¬ LetsOut Q) {i : Nat} {K : Act → World → Prop} {a : Act} {w : World} (h : wpOp P ops Q i K a w) : wpOpIn (wideR r) n P ops Q i K a w := by
  unfold wpOp at h
  unfold wpOpIn
  cases ho : ops[i]? with
  | none => rw [ho] at h; exact h
  | some o =>
    rw [ho] at h
    simp only at h ⊢
    split at h
    · rename_i hw
      rw [if_pos hw]
      rcases h with h | h
      · exact op_in (noDef_get hd ho) h
      · exact (hQ h.2).elim
    · rename_i hw
      rw [if_neg hw]
      exact ⟨fun _ _ => trivial, h⟩

theorem wpOps_in {r : Option Nat} {n : Nat} {P : Program} {ops : Array Oper} {Q : Exit → Act → World → Prop} (hd : noDef ops = true) (hQ : ¬ LetsOut Q) : ∀ {l : List Nat} {a : Act} {w : World}, wpOps P ops Q l a w → wpOpsIn (wideR r) n P ops Q l a w
  | [], a, w, h => h
  | i :: l, a, w, h => by
    rw [wpOps_cons] at h
    rw [wpOpsIn_cons]
    exact wpOpIn_mono (fun a w h => wpOps_in hd hQ h) (wpOp_in hd hQ h)

theorem wpAny_in {r : Option Nat} {n : Nat} {P : Program} {md : Region.Mode} {ops : Array Oper} {Q : Exit → Act → World → Prop} (hd : noDef ops = true) (hQ : ¬ LetsOut Q) : ∀ {fuel : Nat} {listed : Array Bool} {a : Act} {w : World}, wpAny P md ops Q fuel listed a w → wpAnyIn (wideR r) n P md ops Q fuel listed a w
  | 0, _, _, _, h => h
  | _ + 1, _, _, _, h => ⟨h.1, fun i hi => wpOpIn_mono (fun _ _ h => wpAny_in hd hQ h) (wpOp_in hd hQ (h.2 i hi))⟩

/-- What is known where a piece of code ends; the deferred calls stand as they stood. -/
def postD (ds : List Deferred) (M : Nat → Prop) (w0 : World) (ν0 : Nu) (K : Kont) (Q : Ex → List AV → List AB → Prop) : Exit → Act → World → Prop :=
  fun e a w => ∃ e' T H ν, e = Ex.to e' ∧ (K e' T H).ok Q ∧ SR M w0 ν0 T H a w ν ∧ a.defers = ds

theorem postD_out {ds : List Deferred} {M : Nat → Prop} {w0 : World} {ν0 : Nu} {K : Kont} {Q : Ex → List AV → List AB → Prop} : ¬ LetsOut (postD ds M w0 ν0 K Q) := by
  rintro ⟨a, w, e', T, H, ν, h, _⟩
  cases e' <;> cases h

theorem postD_then {ds : List Deferred} {M : Nat → Prop} {w0 : World} {ν0 : Nu} {K : Kont} {k2 : List AV → List AB → Res} {Q : Ex → List AV → List AB → Prop} {Y : Act → World → Prop} {e : Exit} {a : Act} {w : World} (h : postD ds M w0 ν0 (thenK k2 K) Q e a w)
    (hY : ∀ T H ν, (k2 T H).ok Q → SR M w0 ν0 T H a w ν → a.defers = ds → Y a w) : Exit.then Y (postD ds M w0 ν0 K Q) e a w := by
  obtain ⟨e', T, H, ν, rfl, hk, hS, hd⟩ := h
  cases e' with
  | normal => exact hY T H ν hk hS hd
  | exit id => exact ⟨.exit id, T, H, ν, rfl, hk, hS, hd⟩
  | ret => exact ⟨.ret, T, H, ν, rfl, hk, hS, hd⟩

theorem postD_exit {ds : List Deferred} {M : Nat → Prop} {w0 : World} {ν0 : Nu} {K : Kont} {Q : Ex → List AV → List AB → Prop} {id : Nat} {e : Exit} {a : Act} {w : World} (h : postD ds M w0 ν0 (exitK id K) Q e a w) : Exit.inBlock id (postD ds M w0 ν0 K Q) e a w := by
  obtain ⟨e', T, H, ν, rfl, hk, hS, hd⟩ := h
  cases e' with
  | normal => exact ⟨.normal, T, H, ν, rfl, hk, hS, hd⟩
  | ret => exact ⟨.ret, T, H, ν, rfl, hk, hS, hd⟩
  | exit j =>
    simp only [Ex.to, Exit.inBlock]
    simp only [exitK] at hk
    split
    · rename_i hj
      subst hj
      rw [Nat.beq_refl] at hk
      exact ⟨.normal, T, H, ν, rfl, hk, hS, hd⟩
    · rename_i hj
      cases hb : Nat.beq j id with
      | true => exact (hj (Nat.eq_of_beq_eq_true hb)).elim
      | false =>
        rw [hb] at hk
        exact ⟨.exit j, T, H, ν, rfl, hk, hS, hd⟩

theorem postD_noGoto {ds : List Deferred} {M : Nat → Prop} {w0 : World} {ν0 : Nu} {K : Kont} {Q : Ex → List AV → List AB → Prop} {e : Exit} {a : Act} {w : World} (h : postD ds M w0 ν0 K Q e a w) : Exit.noGoto (postD ds M w0 ν0 K Q) e a w := by
  have h' := h
  obtain ⟨e', T, H, ν, rfl, h1, h2, h3⟩ := h
  cases e' with
  | normal => exact h'
  | ret => exact h'
  | exit j => exact h'
theorem stepR_scope {P : Program} {b : Frame} {a : Act} {k : List Go.Item} {cs : List Frame} {w : World} {c : Code} : step P (lone (b.atR a (.code (.scope c) :: k)) cs w) = .next (lone (b.atR a (.code c :: .inScope c :: k)) cs w) :=
  step_lone_go (by simp [stepG, stepG.exec, Frame.atR])
theorem stepR_inScope {P : Program} {b : Frame} {a : Act} {k : List Go.Item} {cs : List Frame} {w : World} {c : Code} : step P (lone (b.atR a (.inScope c :: k)) cs w) = .next (lone (b.atR a k) cs w) :=
  step_lone_go (by simp [stepG, stepG.exec, Frame.atR])
/-- A scope through which the run goes without a jump. -/
theorem wpIn_scope {F : Fence} {n : Nat} {P : Program} {c : Code} {Q : Exit → Act → World → Prop} {a : Act} {w : World} (h : c.wpIn F n P (Exit.noGoto Q) a w) : (Code.scope c).wpIn F n P Q a w := by
  intro b k cs hro hb hr
  have h0 : (lone (b.atR a (.code (.scope c) :: k)) cs w).fenced P F := fenced_calm hb hr rfl
  obtain ⟨e, a₁, w₁, hq, harr⟩ := h b (.inScope c :: k) cs hro hb hr
  cases e with
  | normal => exact ⟨.normal, a₁, w₁, hq, .head h0 stepR_scope (StepsIn.trans harr (.one (fenced_calm hb hr rfl) stepR_inScope))⟩
  | exit id =>
    have hx : exitTo id (.inScope c :: k) = exitTo id k := by simp [exitTo]
    exact ⟨.exit id, a₁, w₁, hq, fun k' hk => .head h0 stepR_scope (harr.1 k' (by rw [hx]; exact hk)),
      fun hr' hk => let ⟨k₁, h1, h2⟩ := harr.2 hr' (by rw [hx]; exact hk); ⟨k₁, h1, .head h0 stepR_scope h2⟩⟩
  | goto l => exact hq.elim
  | ret => exact ⟨_, a₁, w₁, hq, .of_steps (.one h0 stepR_scope) harr⟩
  | panic ch => exact ⟨_, a₁, w₁, hq, .of_steps (.one h0 stepR_scope) harr⟩
  | outgrown => exact ⟨_, a₁, w₁, hq, .of_steps (.one h0 stepR_scope) harr⟩
def codeDef : Code → Bool
  | .region _ ops _ => noDef ops
  | .seq a b => codeDef a && codeDef b
  | .cond _ a b => codeDef a && codeDef b
  | .block _ c => codeDef c
  | .loop c => codeDef c
  | .scope c => codeDef c
  | _ => true

end Go.Proofs.Ytmdcafhnjihckaa

/- The abstract machine, 18: code, in a frame of a round of a loop over a function. Conditions: those of the table of callees. -/
namespace Go.Proofs.Ytmdcafhnjihckaa
open Go.RowKit

theorem execC_in {P : Program} {Γ : Gam} (hΓ : GamOk P Γ) (hmix : P.follows .mixedOrders = true) (hent : Enters P) (r : Option Nat) (nn : Nat) (ds : List Deferred) : ∀ (n : Nat) (c : Code), codeDef c = true → ∀ (M : Nat → Prop) (w0 : World) (ν0 : Nu), (∀ k, w0.heap.size ≤ k → M k) → ∀ (T : List AV) (H : List AB) (K : Kont) (Q : Ex → List AV → List AB → Prop) (a : Act) (w : World) (ν : Nu),
    (execC P Γ n noLam c T H K).ok Q → SR M w0 ν0 T H a w ν → a.defers = ds → c.wpIn (wideR r) nn P (postD ds M w0 ν0 K Q) a w := by
  intro n
  induction n with
  | zero => intro c _ M w0 ν0 hM T H K Q a w ν h; exact h.elim
  | succ n ih =>
    intro c hD M w0 ν0 hM T H K Q a w ν h hS hd
    have halt : ∀ e, (K e T H).ok Q → postD ds M w0 ν0 K Q (Ex.to e) a w := fun e hk => ⟨e, T, H, ν, rfl, hk, hS, hd⟩
    cases c with
    | skip => exact wpIn_skip (halt .normal h)
    | label l => exact wpIn_label (halt .normal h)
    | region id ops draw =>
      cases draw with
      | true =>
        simp only [execC, cond_true] at h
        obtain ⟨es, T', H', r1, h2⟩ := execOps_run h
        rcases cond_ok h2 with ⟨hc, h2⟩ | ⟨_, h2⟩
        · have hB : drawOk ops.toList es = true := by simpa using hc
          refine wpIn_region_any hmix ?_
          have hS' : SR M w0 ν0 T H a { w with drawn := w.drawn + 1 } ν := ⟨hS.tmps, ⟨fun i => (hS.heap.br i).of_block fun _ _ _ => rfl, hS.heap.sep, hS.heap.own, hS.heap.lt⟩, hS.fr.drew, hS.dom, hS.len, hS.le⟩
          have := any_sound (Q := postD ds M w0 ν0 K Q) hΓ hM r1 hB hS' fun a' w' ν' h' hd' => ⟨.normal, T', H', ν', rfl, h2, h', hd'.trans hd⟩
          exact wpAny_in hD postD_out (by simpa using this)
        · exact h2.elim
      | false =>
        refine wpIn_region ?_
        simp only [execC, cond_false] at h
        have := seqS_sound (Qw := postD ds M w0 ν0 K Q) (all := ops.toList) hΓ hM (Q := Q) (fun g avs H' Kc vals w' ν' hc hv hH hdom hM' => ?_) ops.toList 0 T H a w ν rfl h hS fun T' H' a' w' ν' hk hS' hd' => ⟨.normal, T', H', ν', rfl, hk, hS', hd'.trans hd⟩
        · refine wpOps_in hD postD_out ?_
          rw [← List.range_eq_range'] at this
          simpa using this
        · split at hc
          · rename_i fn hf
            split at hc
            · rename_i c' hb
              rw [fcAs_eq] at hc
              refine ⟨fun args w => hent g fn hf (by rw [hb]; rfl) args w, ?_⟩
              refine calls_of_wp hf hb (wp_mono (execC_sound hΓ hmix hent n H'.length (fun _ => none) c' (fun _ _ h => by cases h) M w' ν' hM' hdom _ H' (finC P fn Kc) Q _ w' ν' hc (start_sr hv hH hdom) rfl) fun e a' w'' hp => ?_)
              exact fin_post hp
            · exact hc.elim
          · exact hc.elim
    | seq x y =>
      simp only [codeDef, Bool.and_eq_true] at hD
      exact wpIn_seq (wpIn_mono (ih x hD.1 M w0 ν0 hM T H _ Q a w ν h hS hd) fun e a' w' hp => postD_then hp fun T' H' ν' hk hS' hd' => ih y hD.2 M w0 ν0 hM T' H' K Q a' w' ν' hk hS' hd')
    | cond c x y =>
      simp only [codeDef, Bool.and_eq_true] at hD
      simp only [execC] at h
      split at h
      · rename_i q hq
        have hv : a.eval c = .bool q := by
          have := evA_sound (T := T) (a := a) (ν := ν) (z := c) fun t _ => hS.tmps t
          rw [hq] at this
          simpa only [VR] using this
        refine wpIn_cond hv ?_
        rcases cond_ok h with ⟨rfl, h⟩ | ⟨rfl, h⟩
        · rw [setC_same hq] at h
          exact ih x hD.1 M w0 ν0 hM T H K Q a w ν h hS hd
        · rw [setC_same hq] at h
          exact ih y hD.2 M w0 ν0 hM T H K Q a w ν h hS hd
      · exact h.elim
    | block id b =>
      simp only [codeDef] at hD
      simp only [execC] at h
      exact wpIn_block (wpIn_mono (ih b hD M w0 ν0 hM T H _ Q a w ν h hS hd) fun e a' w' hp => postD_exit hp)
    | scope b =>
      simp only [codeDef] at hD
      simp only [execC] at h
      exact wpIn_scope (wpIn_mono (ih b hD M w0 ν0 hM T H K Q a w ν h hS hd) fun e a' w' hp => postD_noGoto hp)
    | loop b =>
      simp only [codeDef] at hD
      simp only [execC] at h
      refine wpIn_loop_rounds n ?_
      have key : ∀ (m : Nat) (T : List AV) (H : List AB) (a : Act) (w : World) (ν : Nu), (iter (execC P Γ n noLam b) m T H K).ok Q → SR M w0 ν0 T H a w ν → a.defers = ds → Code.roundsIn (wideR r) nn P b (postD ds M w0 ν0 K Q) m a w := by
        intro m
        induction m with
        | zero => intro T H a w ν h; exact h.elim
        | succ m ihm =>
          intro T H a w ν h hS hd
          rw [roundsIn_succ]
          exact wpIn_mono (ih b hD M w0 ν0 hM T H _ Q a w ν h hS hd) fun e a' w' hp => postD_then hp fun T' H' ν' hk hS' hd' => ihm T' H' a' w' ν' hk hS' hd'
      exact key n T H a w ν h hS hd
    | exit id => exact wpIn_exit (halt (.exit id) h)
    | ret => exact wpIn_ret (halt .ret h)
    | _ => simp only [execC] at h; exact h.elim

end Go.Proofs.Ytmdcafhnjihckaa

/- The abstract machine, 19: a loop over a function: the rounds, on the loop's own frame. Conditions: the word of the function that yields. -/
namespace Go.Proofs.Ytmdcafhnjihckaa
open Go.RowKit

/-- What may turn from here on: the own blocks, and what is new. -/
def ownM (w : World) (ν : Nu) (H : List AB) : Nat → Prop := fun k => w.heap.size ≤ k ∨ ∃ i b, (H.getD i .gone).wr = true ∧ ν i = some b ∧ b.n = k

theorem SR.rebase {M : Nat → Prop} {w0 : World} {ν0 : Nu} {T : List AV} {H : List AB} {a : Act} {w : World} {ν : Nu} (h : SR M w0 ν0 T H a w ν) : SR (ownM w ν H) w ν T H a w ν :=
  ⟨h.tmps, ⟨h.heap.br, h.heap.sep, fun i b hw hb => .inr ⟨i, b, hw, hb, rfl⟩, h.heap.lt⟩, Fr.refl _ _, h.dom, h.len, Le.refl _⟩

theorem SR.unbase {M : Nat → Prop} {w0 : World} {ν0 : Nu} {T T' : List AV} {H H' : List AB} {a a' : Act} {w w' : World} {ν ν' : Nu} (hM : ∀ k, w0.heap.size ≤ k → M k) (h : SR M w0 ν0 T H a w ν) (h' : SR (ownM w ν H) w ν T' H' a' w' ν') : SR M w0 ν0 T' H' a' w' ν' := by
  have hsub : ∀ k, ownM w ν H k → M k := by
    rintro k (hk | ⟨i, b, hw, hb, rfl⟩)
    · exact hM k (Nat.le_trans h.fr.size hk)
    · exact h.heap.own i b hw hb
  exact ⟨h'.tmps, ⟨h'.heap.br, h'.heap.sep, fun i b hw hb => hsub _ (h'.heap.own i b hw hb), h'.heap.lt⟩, h.fr.trans (h'.fr.mono fun k _ hk => hsub k hk), h'.dom, h'.len, h.le.trans h'.le⟩

/-- A block that is no cells turns, or new ones are laid. -/
theorem SR.turn {M : Nat → Prop} {w0 : World} {ν0 : Nu} {T : List AV} {H : List AB} {a : Act} {w w' : World} {ν : Nu} {row : Option Nat} (_ : ∀ k, w0.heap.size ≤ k → M k) (h : SR M w0 ν0 T H a w ν) (hg : w.grownBy w' row)
    (hr : ∀ r, row = some r → w0.heap.size ≤ r ∧ ∃ o : Obj, w.heap[r]? = some o ∧ o.isCells = false) : SR M w0 ν0 T H a w' ν := by
  have hb : ∀ i k, ν i = some k → (H.getD i .gone).live = true → w'.heap[k.n]? = w.heap[k.n]? := by
    intro i k hk hl
    refine hg.block _ (h.heap.lt i k hk) fun e => ?_
    obtain ⟨_, o, ho, hc⟩ := hr _ e.symm
    have hbr := h.heap.br i
    cases hH : H.getD i .gone with
    | cells cs t =>
      rw [hH] at hbr
      obtain ⟨b, l, h1, _, h2, _⟩ := hbr
      rw [hk] at h1
      cases h1
      rw [ho] at h2
      cases h2
      cases hc
    | row rw n s g t =>
      rw [hH] at hbr
      rcases hbr with ⟨_, _, h1⟩ | ⟨b, l, t', fz, h1, h2, _⟩
      · rw [hk] at h1; cases h1
      · rw [hk] at h1
        cases h1
        rw [ho] at h2
        cases h2
        cases hc
    | gone => rw [hH] at hl; cases hl
  refine ⟨h.tmps, ⟨fun i => (h.heap.br i).of_block fun k hk hl => hb i k hk hl, h.heap.sep, h.heap.own, fun i b hi => Nat.lt_of_lt_of_le (h.heap.lt i b hi) hg.size⟩, ?_, h.dom, h.len, h.le⟩
  refine ⟨hg.os.trans h.fr.os, hg.tape.trans h.fr.tape, hg.output.trans h.fr.output, Nat.le_trans h.fr.size hg.size, fun k hk hm => ?_⟩
  rw [hg.block k (Nat.lt_of_lt_of_le hk h.fr.size) fun e => ?_]
  · exact h.fr.block k hk hm
  · have := (hr _ e.symm).1
    omega

/-- yield's arguments in the loop's parameters. -/
def parT : List Tmp → List Value → List AV → List AV
  | p :: ps, v :: vs, T => parT ps vs (T.set p (.v v))
  | _, _, T => T

theorem par_sr {ν : Nu} : ∀ {ps : List Tmp} {vs : List Value} {T : List AV} {t : Array Value}, (∀ p ∈ ps, p < T.length) → T.length ≤ t.size → (∀ i, VR ν (T.getD i .dead) (t.getD i undef)) →
    (∀ i, VR ν ((parT ps vs T).getD i .dead) (((ps.zip vs).foldl (fun t (p, v) => t.setIfInBounds p v) t).getD i undef)) ∧ (parT ps vs T).length ≤ ((ps.zip vs).foldl (fun t (p, v) => t.setIfInBounds p v) t).size
  | [], vs, T, t, _, hl, h => ⟨h, hl⟩
  | p :: ps, [], T, t, _, hl, h => ⟨h, hl⟩
  | p :: ps, v :: vs, T, t, hp, hl, h => by
    simp only [parT, List.zip_cons_cons, List.foldl_cons]
    refine par_sr (by simpa using fun q hq => hp q (List.mem_cons_of_mem _ hq)) (by simpa using hl) fun i => ?_
    have hpl := hp p (by simp)
    by_cases e : p = i
    · subst e
      have h1 : p < t.size := Nat.lt_of_lt_of_le hpl hl
      simp [List.getD_eq_getElem?_getD, Array.getD_eq_getD_getElem?, hpl, h1, VR]
    · simpa [List.getD_eq_getElem?_getD, Array.getD_eq_getD_getElem?, List.getElem?_set, Array.getElem?_setIfInBounds, e] using h i

/-- What a round keeps: old blocks that are not the loop's own. -/
def keepR (w : World) (M : Nat → Prop) (W W' : World) : Prop := W.heap.size ≤ W'.heap.size ∧ ∀ (k : Nat) (o : Obj), k < w.heap.size → ¬ M k → W.heap[k]? = some o → W'.heap[k]? = some o

theorem keepR.trans {w : World} {M : Nat → Prop} {A B C : World} (h : keepR w M A B) (k : keepR w M B C) : keepR w M A C := ⟨Nat.le_trans h.1 k.1, fun i o hi hm ho => k.2 i o hi hm (h.2 i o hi hm ho)⟩

theorem keepR.fr {w : World} {M M' : Nat → Prop} {W W' : World} (hs : w.heap.size ≤ W.heap.size) (hsub : ∀ k, k < w.heap.size → M' k → M k) (h : Fr M' W W') : keepR w M W W' :=
  ⟨h.size, fun k _ hk hm ho => (h.block k (by omega) fun hm' => hm (hsub k hk hm')).trans ho⟩

theorem keepR.put {w : World} {M : Nat → Prop} {W : World} {l : Nat} {o : Obj} (hl : w.heap.size ≤ l) : keepR w M W (W.putObj l o) :=
  ⟨by simp [World.putObj], fun k o' hk _ ho => (World.putObj_heap_other (by omega)).trans ho⟩

def deadK (m : Nat) : Kont := leafK (fun _ => []) m
/-- The loop's assignment, and then its body. -/
def andK (P : Program) (Γ : Gam) (n : Nat) (body : Code) (m : Nat) : Kont := fun e T' H' => match e with
  | .normal => execC P Γ n noLam body T' H' (deadK m)
  | _ => .err

def jumpOf : Ex → Code
  | .ret => .ret
  | .exit id => .exit id
  | .normal => .skip

theorem SR.own_cells {M : Nat → Prop} {w0 : World} {ν0 : Nu} {T : List AV} {H : List AB} {a : Act} {w : World} {ν : Nu} (h : SR M w0 ν0 T H a w ν) {l : Nat} {o : Obj} (hl : w.heap[l]? = some o) (ho : o.isCells = false) : ¬ ownM w ν H l := by
  rintro (hk | ⟨i, b, hw, hb, rfl⟩)
  · rw [Array.getElem?_eq_none hk] at hl; cases hl
  · have hbr := h.heap.br i
    cases hH : H.getD i .gone with
    | cells cs t =>
      rw [hH] at hbr
      obtain ⟨b', l, h1, _, h2, _⟩ := hbr
      rw [hb] at h1
      cases h1
      rw [hl] at h2
      cases h2
      cases ho
    | row rw n s g t =>
      rw [hH] at hbr
      rcases hbr with ⟨_, _, h1⟩ | ⟨b', l, t', fz, h1, h2, _⟩
      · rw [hb] at h1; cases h1
      · rw [hb] at h1
        cases h1
        rw [hl] at h2
        cases h2
        cases ho
    | gone => rw [hH] at hw; cases hw

/-- HOW A ROUND MAY END, in blocks. -/
def RoundQ {α : Type} (lv : Ex → Bool) (hp : List α → List AB) (hx : Ex → List α → List AB) (pre : List α) : Ex → List AV → List AB → Prop := fun e _ H' => match e with
  | .normal => Hsim H' (hp pre)
  | e => lv e = true ∧ Hsim H' (hx e pre)

theorem range_law {α : Type} {P : Program} {Γ : Gam} (hΓ : GamOk P Γ) (hmix : P.follows .mixedOrders = true) (hent : Enters P) {g : Operand} {gf : Nat} {lb : Array Value} {encs : α → List Value} {ps : Array Tmp} {assign body : Code} {S Sp : List α → Prop} {N nn n : Nat} {T : List AV} {a : Act} {w : World} {ν : Nu}
    (hg : a.eval g = .func (.func gf) #[] lb) (eg : ∀ args w, (callFunc gf args).run P w = .ok (.enter gf args) w) (lv : Ex → Bool) (hp : List α → List AB) (hx : Ex → List α → List AB) (hD1 : codeDef assign = true) (hD2 : codeDef body = true)
    {m : Nat} (hm : (hp []).length = m) (h0 : SR (ownM w ν (hp [])) w ν T (hp []) a w ν)
    (hseq : SeqStopsK (wideR none) nn P gf lb (fun x => (encs x).toArray) (keepR w (ownM w ν (hp []))) S Sp N w)
    (hps : ∀ x, (encs x).length = ps.size) (hpT : ∀ p ∈ ps.toList, p < T.length)
    (hround : ∀ pre x, pre.length < N → (execC P Γ n noLam assign (parT ps.toList (encs x) T) (hp pre) (andK P Γ n body m)).ok (RoundQ lv hp hx (pre ++ [x])))
    {Q : Exit → Act → World → Prop}
    (hdone : ∀ D xs W ν', w.heap.size ≤ D → S xs → SR (ownM w ν (hp [])) w ν T (hp xs) a W ν' → W.heap[D]? = some (.deferred (some [])) → Q .normal { a with defers := { target := .collected D, args := #[] } :: a.defers } W)
    (hleave : ∀ D e pre W ν', w.heap.size ≤ D → e ≠ .normal → lv e = true → Sp pre → SR (ownM w ν (hp [])) w ν T (hx e pre) a W ν' → W.heap[D]? = some (.deferred (some [])) → Q (Ex.to e) { a with defers := { target := .collected D, args := #[] } :: a.defers } W) :
    (Code.rangeFunc g ps assign body).wpIn (wideR none) (nn + 1) P Q a w := by
  have hM : ∀ k, w.heap.size ≤ k → ownM w ν (hp []) k := fun k hk => .inl hk
  refine wpIn_rangeFunc fun fn hfn => ?_
  obtain ⟨rec, hrec⟩ : ∃ rec : LoopState → Option Code → Loop, rec = fun st pe => { state := st, pending := pe, fn, tmps := a.tmps, params := ps, assign, body, defers := w.heap.size } := ⟨_, rfl⟩
  obtain ⟨W1, hW1⟩ : ∃ W1, (w.alloc (.deferred (some []))).alloc (.loop (rec .ready none)) = W1 := ⟨_, rfl⟩
  have hsz : W1.heap.size = w.heap.size + 2 := by rw [← hW1]; simp
  have hL1 : W1.heap[w.heap.size + 1]? = some (.loop (rec .ready none)) := by
    rw [← hW1]; have := World.alloc_heap_new (w.alloc (.deferred (some []))) (.loop (rec .ready none)); rwa [World.size_alloc] at this
  have hK1 : W1.heap[w.heap.size]? = some (.deferred (some [])) := by
    rw [← hW1]; exact (Below.heap_alloc _ _ _ (by simp)).trans (World.alloc_heap_new w _)
  have hg1 : w.grownBy W1 none := by
    rw [← hW1]
    have e1 := World.grownBy_alloc w (.deferred (some [])) none
    have e2 := World.grownBy_alloc (w.alloc (.deferred (some []))) (.loop (rec .ready none)) none
    exact ⟨e2.os.trans e1.os, e2.tape.trans e1.tape, e2.output.trans e1.output, Nat.le_trans e1.size e2.size, fun k hk hn => (e2.block k (Nat.lt_of_lt_of_le hk e1.size) hn).trans (e1.block k hk hn)⟩
  have hb1 : Below w.heap.size w W1 := ⟨hg1.os, hg1.tape, hg1.output, hg1.size, fun k hk => hg1.block k hk (by simp)⟩
  -- the caller's word: I
  let I : List α → World → Prop := fun pre W => ∃ ν', SR (ownM w ν (hp [])) w ν T (hp pre) a W ν'
  let Ix : Ex → List α → World → Prop := fun e pre W => (e ≠ .normal ∧ lv e = true) ∧ ∃ ν', SR (ownM w ν (hp [])) w ν T (hx e pre) a W ν'
  have hI : ∀ pre W W' row, I pre W → W.grownBy W' row → (∀ r, row = some r → w.heap.size ≤ r ∧ ∃ o : Obj, W.heap[r]? = some o ∧ o.isCells = false) → I pre W' :=
    fun pre W W' row ⟨ν', hs⟩ hg hr => ⟨ν', hs.turn hM hg hr⟩
  have hIx : ∀ e pre W W' row, Ix e pre W → W.grownBy W' row → (∀ r, row = some r → w.heap.size ≤ r ∧ ∃ o : Obj, W.heap[r]? = some o ∧ o.isCells = false) → Ix e pre W' :=
    fun e pre W W' row ⟨hn, ν', hs⟩ hg hr => ⟨hn, ν', hs.turn hM hg hr⟩
  have hI1 : I [] W1 := hI [] w W1 none ⟨ν, h0⟩ hg1 fun r e => by cases e
  have hnw : ∀ {A : World} {row : Option Nat}, (∀ r, row = some r → W1.heap.size ≤ r ∧ ∃ o : Obj, A.heap[r]? = some o ∧ o.isWalk = true) → (∀ r, row = some r → w.heap.size ≤ r ∧ ∃ o : Obj, A.heap[r]? = some o ∧ o.isCells = false) :=
    fun hr r e => by obtain ⟨hB, o, ho, hw⟩ := hr r e; exact ⟨by omega, o, ho, Obj.not_cells_of_walk hw⟩
  refine ⟨w.heap.size + 1, [{ target := .collected w.heap.size, args := #[] }], W1, { target := .fn (.func gf) lb, args := #[.func (.yield (w.heap.size + 1)) #[] #[]] }, W1, gf,
    #[.func (.yield (w.heap.size + 1)) #[] #[]] ++ lb, W1, ?_, ?_, fun _ _ => trivial, ?_, fun h => (by cases h), ?_⟩
  · rw [← hW1, hrec]; exact run_enterLoop_outer _ _ _ _ _
  · simp only [resolve, hg]
    simp [go_sem]
  · simp [invoke, go_sem, eg]
  · refine (hseq (w.heap.size + 1)
      (fun pre W => I pre W ∧ W.heap[w.heap.size + 1]? = some (.loop (rec .ready none)) ∧ W.heap[w.heap.size]? = some (.deferred (some [])))
      (fun pre W => ∃ e, Ix e pre W ∧ W.heap[w.heap.size + 1]? = some (.loop (rec .done (some (jumpOf e)))) ∧ W.heap[w.heap.size]? = some (.deferred (some [])))
      W1 hb1
      (fun s A B row hs hg' hr => ⟨hI s A B row hs.1 hg' (hnw hr), (grownBy_keeps hg' (fun r e => (hr r e).2) hs.2.1 rfl).trans hs.2.1, (grownBy_keeps hg' (fun r e => (hr r e).2) hs.2.2 rfl).trans hs.2.2⟩)
      (fun s A B row hs hg' hr => by
        obtain ⟨e, hc, hl, hk⟩ := hs
        exact ⟨e, hIx e s A B row hc hg' (hnw hr), (grownBy_keeps hg' (fun r e => (hr r e).2) hl rfl).trans hl, (grownBy_keeps hg' (fun r e => (hr r e).2) hk rfl).trans hk⟩)
      ?_ ⟨hI1, hL1, hK1⟩).mono ?_
    · rintro pre x W ⟨⟨ν', hs⟩, hl, hk⟩ hlen
      have hlt : w.heap.size + 1 < W.heap.size := (Array.getElem?_eq_some_iff.1 hl).1
      have hy := run_yield (P := P) (args := (encs x).toArray) hl (by rw [hrec]; simp [hps x])
      rw [hrec] at hy
      refine ⟨fn, _, assign, body, hy, roundIn_of_wpIn hfn ?_⟩
      have hpar := par_sr (ps := ps.toList) (vs := encs x) (T := T) (t := a.tmps) hpT hs.len hs.tmps
      have hfold : (ps.zip (encs x).toArray).foldl (fun t (p, v) => t.setIfInBounds p v) a.tmps = (ps.toList.zip (encs x)).foldl (fun t (p, v) => t.setIfInBounds p v) a.tmps := by
        rw [← Array.foldl_toList, Array.toList_zip]
      have hstart : SR (ownM w ν (hp [])) w ν (parT ps.toList (encs x) T) (hp pre) { tmps := (ps.toList.zip (encs x)).foldl (fun t (p, v) => t.setIfInBounds p v) a.tmps, defers := [] } W ν' :=
        ⟨hpar.1, hs.heap, hs.fr, hs.dom, hpar.2, hs.le⟩
      have hsub1 : ∀ k, k < w.heap.size → ownM W ν' (hp pre) k → ownM w ν (hp []) k := by
        rintro k hk (hk' | ⟨i, b, hw, hb, rfl⟩)
        · have := hs.fr.size; omega
        · exact hs.heap.own i b hw hb
      have run1 := execC_in hΓ hmix hent (some (w.heap.size + 1)) (nn - 1) [] n assign hD1 (ownM W ν' (hp pre)) W ν' (fun k hk => .inl hk) _ _ _ _ _ W ν' (hround pre x hlen) hstart.rebase rfl
      show assign.wpIn (wideR (some (w.heap.size + 1))) (nn - 1) P _ _ W
      simp only [hfold]
      refine wpIn_mono run1 ?_
      rintro e a1 Wa ⟨e1, T1, H1, ν1, rfl, hk1, hS1, hd1⟩
      cases e1 with
      | exit id => exact hk1.elim
      | ret => exact hk1.elim
      | normal =>
        have hlA : Wa.heap[w.heap.size + 1]? = some (.loop (rec .ready none)) := (hS1.fr.block _ hlt (hs.own_cells hl rfl)).trans hl
        have hkA : Wa.heap[w.heap.size]? = some (.deferred (some [])) := (hS1.fr.block _ (by omega) (hs.own_cells hk rfl)).trans hk
        have hSu := hstart.unbase hM hS1
        refine ⟨_, run_beginRound hlA (by rw [hrec]), ?_⟩
        obtain ⟨W2, hW2⟩ : ∃ W2, Wa.putObj (w.heap.size + 1) (.loop { rec .ready none with state := .busy }) = W2 := ⟨_, rfl⟩
        have hl2 : W2.heap[w.heap.size + 1]? = some (.loop { rec .ready none with state := .busy }) := by rw [← hW2]; exact World.putObj_heap_same (Array.getElem?_eq_some_iff.1 hlA).1
        have hk2 : W2.heap[w.heap.size]? = some (.deferred (some [])) := by rw [← hW2]; exact (World.putObj_heap_other (by omega)).trans hkA
        have hS2 : SR (ownM w ν (hp [])) w ν T1 H1 a1 W2 ν1 := by
          rw [← hW2]
          refine hSu.turn hM (grownBy_putObj' Wa _ _) fun r e => ?_
          cases e
          exact ⟨by omega, _, hlA, rfl⟩
        have hkp2 : keepR w (ownM w ν (hp [])) W W2 := by
          rw [← hW2]
          exact (keepR.fr (hs.fr.size) hsub1 hS1.fr).trans (keepR.put (by omega))
        rw [hW2]
        have hsub2 : ∀ k, k < w.heap.size → ownM W2 ν1 H1 k → ownM w ν (hp []) k := by
          rintro k hk (hk' | ⟨i, b, hw, hb, rfl⟩)
          · have := hS2.fr.size; omega
          · exact hS2.heap.own i b hw hb
        have run2 := execC_in hΓ hmix hent (some (w.heap.size + 1)) (nn - 1) [] n body hD2 (ownM W2 ν1 H1) W2 ν1 (fun k hk => .inl hk) _ _ _ _ a1 W2 ν1 hk1 hS2.rebase hd1
        refine wpIn_mono run2 ?_
        rintro e a2 W3 ⟨e2, T2, H2, ν2, rfl, hk3, hS3, hd3⟩
        have hl3 : W3.heap[w.heap.size + 1]? = some (.loop { rec .ready none with state := .busy }) := (hS3.fr.block _ (Array.getElem?_eq_some_iff.1 hl2).1 (hS2.own_cells hl2 rfl)).trans hl2
        have hk3' : W3.heap[w.heap.size]? = some (.deferred (some [])) := (hS3.fr.block _ (Array.getElem?_eq_some_iff.1 hk2).1 (hS2.own_cells hk2 rfl)).trans hk2
        have hS4 := hS2.unbase hM hS3
        have hkp3 := hkp2.trans (keepR.fr hS2.fr.size hsub2 hS3.fr)
        unfold deadK leafK at hk3
        split at hk3
        · rename_i p hwk
          have hS5 := weak_sound hwk hS4 (by rw [← hm]; exact h0.dom)
          have fin : ∀ (jump : Option Code), (Instr.endRound (w.heap.size + 1) jump).run P W3 = .ok (.bool jump.isNone) (W3.putObj (w.heap.size + 1) (.loop (rec (if jump.isNone then .ready else .done) jump))) ∧
              (W3.putObj (w.heap.size + 1) (.loop (rec (if jump.isNone then .ready else .done) jump))).heap[w.heap.size + 1]? = some (.loop (rec (if jump.isNone then .ready else .done) jump)) ∧
              (W3.putObj (w.heap.size + 1) (.loop (rec (if jump.isNone then .ready else .done) jump))).heap[w.heap.size]? = some (.deferred (some [])) ∧ ∀ HH ν3, SR (ownM w ν (hp [])) w ν p.1 HH a2 W3 ν3 → SR (ownM w ν (hp [])) w ν T HH a (W3.putObj (w.heap.size + 1) (.loop (rec (if jump.isNone then .ready else .done) jump))) ν3 := fun jump => by
            have := run_endRound (P := P) jump hl3
            rw [hrec] at this ⊢
            refine ⟨this, World.putObj_heap_same (Array.getElem?_eq_some_iff.1 hl3).1, (World.putObj_heap_other (by omega)).trans hk3', fun HH ν3 hh => ?_⟩
            have h1 : SR (ownM w ν (hp [])) w ν T HH a W3 ν3 := ⟨fun t => (h0.tmps t).le hh.le, hh.heap, hh.fr, hh.dom, h0.len, hh.le⟩
            refine h1.turn hM (grownBy_putObj' W3 _ _) fun r e => ?_
            cases e
            exact ⟨by omega, _, hl3, rfl⟩
          cases e2 with
          | normal =>
            obtain ⟨f1, f2, f3, f4⟩ := fin none
            exact ⟨_, _, f1, .inl ⟨rfl, ⟨⟨_, f4 _ _ (hS5.sim hk3)⟩, f2, f3⟩, hkp3.trans (keepR.put (by omega))⟩⟩
          | ret =>
            obtain ⟨f1, f2, f3, f4⟩ := fin (some .ret)
            exact ⟨_, _, f1, .inr ⟨rfl, .ret, ⟨⟨(by simp), hk3.1⟩, _, f4 _ _ (hS5.sim hk3.2)⟩, f2, f3⟩⟩
          | exit id =>
            obtain ⟨f1, f2, f3, f4⟩ := fin (some (.exit id))
            exact ⟨_, _, f1, .inr ⟨rfl, .exit id, ⟨⟨(by simp), hk3.1⟩, _, f4 _ _ (hS5.sim hk3.2)⟩, f2, f3⟩⟩
        · exact hk3.elim
    · rintro e W2 ⟨⟨v, rfl⟩, (⟨xs, hS, ⟨ν', hi⟩, hl, hk⟩ | ⟨pre, hSp, e, ⟨hne, ν', hi⟩, hl, hk⟩)⟩
      · have hend := run_endLoop (P := P) hl (by rw [hrec]; simp)
        rw [hrec] at hend
        refine ⟨none, _, hend, hdone _ xs _ ν' (Nat.le_refl _) hS (hi.turn hM (grownBy_putObj' W2 _ _) fun r e => ?_) ((World.putObj_heap_other (by omega)).trans hk)⟩
        cases e
        exact ⟨by omega, _, hl, rfl⟩
      · have hend := run_endLoop (P := P) hl (by rw [hrec]; simp)
        rw [hrec] at hend
        have hi' := hi.turn (w' := W2.putObj (w.heap.size + 1) (.loop { rec .done (some (jumpOf e)) with state := .exhausted })) hM (grownBy_putObj' W2 _ _) fun r e => by
          cases e
          exact ⟨by omega, _, hl, rfl⟩
        have hk' : (W2.putObj (w.heap.size + 1) (.loop { rec .done (some (jumpOf e)) with state := .exhausted })).heap[w.heap.size]? = some (.deferred (some [])) := (World.putObj_heap_other (by omega)).trans hk
        rw [hrec] at hi' hk'
        refine ⟨_, _, hend, ?_⟩
        cases e with
        | normal => exact (hne.1 rfl).elim
        | ret => exact wpIn_ret (hleave _ .ret pre _ ν' (Nat.le_refl _) hne.1 hne.2 hSp hi' hk')
        | exit id => exact wpIn_exit (hleave _ (.exit id) pre _ ν' (Nat.le_refl _) hne.1 hne.2 hSp hi' hk')

end Go.Proofs.Ytmdcafhnjihckaa

/- The abstract machine, 21: a function whose body holds a loop over a function. Conditions: the word of the function that yields. -/
namespace Go.Proofs.Ytmdcafhnjihckaa
open Go.RowKit

def nestL : List Code → Code → Code
  | [], z => z
  | c :: cs, z => .seq c (nestL cs z)
def execL (P : Program) (Γ : Gam) (n : Nat) : List Code → List AV → List AB → Kont → Res
  | [], T, H, K => K .normal T H
  | c :: cs, T, H, K => execC P Γ n noLam c T H (fun e T' H' => match e with
    | .normal => execL P Γ n cs T' H' K
    | _ => .err)

theorem execL_in {P : Program} {Γ : Gam} (hΓ : GamOk P Γ) (hmix : P.follows .mixedOrders = true) (hent : Enters P) (nn n : Nat) {M : Nat → Prop} {w0 : World} {ν0 : Nu} (hM : ∀ k, w0.heap.size ≤ k → M k) {K : Kont} {Q : Ex → List AV → List AB → Prop} {z : Code} {Qw : Exit → Act → World → Prop}
    (hz : ∀ T H a w ν, (K .normal T H).ok Q → SR M w0 ν0 T H a w ν → a.defers = [] → z.wpIn (wideR none) nn P Qw a w) :
    ∀ (cs : List Code), cs.all codeDef = true → ∀ T H a w ν, (execL P Γ n cs T H K).ok Q → SR M w0 ν0 T H a w ν → a.defers = [] → (nestL cs z).wpIn (wideR none) nn P Qw a w
  | [], _, T, H, a, w, ν, h, hS, hd => hz T H a w ν h hS hd
  | c :: cs, hD, T, H, a, w, ν, h, hS, hd => by
    simp only [List.all_cons, Bool.and_eq_true] at hD
    refine wpIn_seq (wpIn_mono (execC_in hΓ hmix hent none nn [] n c hD.1 M w0 ν0 hM T H _ Q a w ν h hS hd) ?_)
    rintro e a' w' ⟨e', T', H', ν', rfl, hk, hS', hd'⟩
    cases e' with
    | normal => exact execL_in hΓ hmix hent nn n hM hz cs hD.2 T' H' a' w' ν' hk hS' hd'
    | exit id => exact hk.elim
    | ret => exact hk.elim

/-- Less is known. -/
theorem SR.less {M : Nat → Prop} {w0 : World} {ν0 : Nu} {T T' : List AV} {H H' : List AB} {a : Act} {w : World} {ν : Nu} (h : SR M w0 ν0 T H a w ν) (hl : T'.length = T.length) (hT : ∀ t, T'.getD t .dead = T.getD t .dead ∨ T'.getD t .dead = .dead) (hn : H'.length = H.length) (hH : ∀ i, H'.getD i .gone = H.getD i .gone ∨ H'.getD i .gone = .gone) : SR M w0 ν0 T' H' a w ν := by
  refine ⟨fun t => ?_, ⟨fun i => ?_, fun i j b b' hne hw hlv => ?_, fun i b hw => ?_, h.heap.lt⟩, h.fr, fun i b hb => by rw [hn]; exact h.dom i b hb, by rw [hl]; exact h.len, h.le⟩
  · rcases hT t with e | e
    · rw [e]; exact h.tmps t
    · rw [e]; simp only [VR]
  · rcases hH i with e | e
    · simp only [e]; exact h.heap.br i
    · simp only [e]; trivial
  · refine h.heap.sep i j b b' hne ?_ ?_
    · rcases hH i with e | e
      · rw [e] at hw; exact hw
      · rw [e] at hw; cases hw
    · rcases hH j with e | e
      · rw [e] at hlv; exact hlv
      · rw [e] at hlv; cases hlv
  · refine h.heap.own i b ?_
    rcases hH i with e | e
    · rw [e] at hw; exact hw
    · rw [e] at hw; cases hw

theorem mask_less {T TT : List AV} {live : List Nat} (h : T = maskT live 0 TT) (t : Nat) : T.getD t .dead = TT.getD t .dead ∨ T.getD t .dead = .dead := by
  subst h
  rw [maskT_get]
  split
  · exact .inl rfl
  · exact .inr rfl

/-- Behind the loop. -/
def behind (P : Program) (Γ : Gam) (n : Nat) (fn : Func) (id : Nat) (rest : Code) (Kc : AV → List AB → Res) : Kont :=
  exitK id (thenK (fun T H => execC P Γ n noLam rest T H (finC P fn Kc)) (finC P fn Kc))

theorem calls_range {α : Type} {P : Program} {Γ : Gam} (hΓ : GamOk P Γ) (hmix : P.follows .mixedOrders = true) (hent : Enters P) {f : FuncId} {fn : Func} (hf : P.funcs[f]? = some fn) {pre : List Code} {p2 rest assign body : Code} {id : Nat} {g : Operand} {ps : Array Tmp}
    (hb : fn.body = some (nestL pre (.seq (.seq p2 (.block id (.rangeFunc g ps assign body))) rest))) (hDp : pre.all codeDef = true) (hD2 : codeDef p2 = true) (hDr : codeDef rest = true) (hDa : codeDef assign = true) (hDb : codeDef body = true) {n nn : Nat}
    {avs : List AV} {TT : List AV} {HH H0 : List AB} {lvp : Ex → List Nat} {gf : Nat} {cs : List AV} {encs : α → List Value} {S Sp : List α → Prop} {N : Nat} {Q : Ex → List AV → List AB → Prop}
    (hpre : (execL P Γ n (pre ++ [p2]) (avs ++ List.replicate (fn.ntmps - avs.length) (.v undef)) H0 (leafK lvp H0.length)).ok (fun e T' H' => e = .normal ∧ T' = TT ∧ H' = HH)) (hg : evA TT g = .fn gf cs)
    (T : List AV) (hTl : T.length = TT.length) (hT : ∀ t, T.getD t .dead = TT.getD t .dead ∨ T.getD t .dead = .dead) (lv : Ex → Bool) (hp : List α → List AB) (hx : Ex → List α → List AB) (hHl : (hp []).length = HH.length) (hH : ∀ i, (hp []).getD i .gone = HH.getD i .gone ∨ (hp []).getD i .gone = .gone)
    (eg : ∀ args w, (callFunc gf args).run P w = .ok (.enter gf args) w)
    (hIter : ∀ W ν1 a1 lb, SR (ownM W ν1 HH) W ν1 TT HH a1 W ν1 → VRs ν1 cs lb → SeqStopsK (wideR none) nn P gf lb.toArray (fun x => (encs x).toArray) (keepR W (ownM W ν1 (hp []))) S Sp N W)
    (hps : ∀ x, (encs x).length = ps.size) (hpT : ∀ p ∈ ps.toList, p < T.length)
    (hround : ∀ pre x, pre.length < N → (execC P Γ n noLam assign (parT ps.toList (encs x) T) (hp pre) (andK P Γ n body HH.length)).ok (RoundQ lv hp hx (pre ++ [x])))
    (hdone : ∀ xs, S xs → (behind P Γ n fn id rest (packK H0.length) .normal T (hp xs)).ok Q)
    (hleave : ∀ e pre, e ≠ .normal → lv e = true → Sp pre → (behind P Γ n fn id rest (packK H0.length) e T (hx e pre)).ok Q) :
    ∀ (M : Nat → Prop) (vals : List Value) (w : World) (ν : Nu), (∀ k, w.heap.size ≤ k → M k) → VRs ν avs vals → RH M ν (fun b => H0.getD b .gone) w → (∀ i b, ν i = some b → i < H0.length) →
      Calls P f vals.toArray w (RetG Q M ν w) := by
  intro M vals w ν hM hv hR hdom
  rw [← callsIn_wide (n := nn + 1), ← wideR_none]
  refine callsIn_of_wp_marks hf hb trivial ?_
  have hst := start_sr (fn := fn) hv hR hdom
  -- the end of the function, deferred calls and all
  have leave : ∀ (e : Exit) (e' : Ex) (D : Nat) (T' : List AV) (H' : List AB) (a' : Act) (w' : World) (ν' : Nu), (e = .normal ∨ e = .ret) → a'.defers = [{ target := .collected D, args := #[] }] → (finC P fn (packK H0.length) .ret T' H').ok Q → SR M w ν T' H' a' w' ν' → w.heap.size ≤ D → w'.heap[D]? = some (.deferred (some [])) →
      bodyPostM (wideR none) (nn + 1) P fn (RetG Q M ν w) e a' w' := by
    intro e e' D T' H' a' w' ν' he hd hk hS hDl hDd
    have key : LeavesInM (wideR none) (nn + 1) P fn a'.tmps (RetG Q M ν w) a'.defers .returning w' := by
      rw [hd]
      refine ⟨by simp, .inl ⟨D, _, rfl, run_takeDeferred hDd, ?_⟩⟩
      have hS' := hS.turn (w' := w'.putObj D (.deferred none)) hM (grownBy_putObj' w' D _) fun r e => by
        cases e
        exact ⟨hDl, _, hDd, rfl⟩
      simp only [finC] at hk
      split at hk
      · rename_i vs ob hres
        obtain ⟨h1, h2⟩ := needs_ok hk
        obtain ⟨v, h3, h4⟩ := results_run hS'.tmps hS'.heap.br hres h1
        refine ⟨v, h3, ?_⟩
        unfold packK at h2
        split at h2
        · rename_i p hp'
          have hSo : SR M w ν [oneA vs] H' { tmps := #[v], defers := [] } (w'.putObj D (.deferred none)) ν' := by
            refine ⟨fun t => ?_, hS'.heap, hS'.fr, hS'.dom, by simp, hS'.le⟩
            cases t with
            | zero => simpa using h4
            | succ t => simp only [List.getD_cons_succ, List.getD_nil, VR]
          have hW := weak_sound hp' hSo hdom
          have hp1 : p.1.length = 1 := by
            have := hp'
            unfold weak at this
            split at this
            · rename_i T1 H1 hT hH1
              cases hc : (nodupB (keepOf H0.length (maskT [0] 0 [oneA vs]) H') && (keepOf H0.length (maskT [0] 0 [oneA vs]) H').take H0.length == upN 0 H0.length) with
              | false => rw [hc] at this; cases this
              | true =>
                rw [hc] at this
                cases this
                have := renAs_length hT
                simpa [maskT] using this
            · cases this
          match hp2 : p.1, hp1 with
          | [av'], _ =>
            rw [hp2] at h2 hW
            exact ⟨v, av', p.2, _, rfl, h2, by simpa using hW.tmps 0, hW.heap, hW.fr, hW.le, hW.dom⟩
        · exact h2.elim
      · exact hk.elim
    rcases he with rfl | rfl
    · exact key
    · exact key
  -- behind the loop: from what holds there
  have after : ∀ (e : Ex) (D : Nat) (T' : List AV) (H' : List AB) (a' : Act) (w' : World) (ν' : Nu), a'.defers = [{ target := .collected D, args := #[] }] → (behind P Γ n fn id rest (packK H0.length) e T' H').ok Q → SR M w ν T' H' a' w' ν' → w.heap.size ≤ D → w'.heap[D]? = some (.deferred (some [])) →
      Exit.inBlock id (Exit.then (rest.wpIn (wideR none) (nn + 1) P (bodyPostM (wideR none) (nn + 1) P fn (RetG Q M ν w))) (bodyPostM (wideR none) (nn + 1) P fn (RetG Q M ν w))) (Ex.to e) a' w' := by
    intro e D T' H' a' w' ν' hd hk hS hDl hDd
    have run : (execC P Γ n noLam rest T' H' (finC P fn (packK H0.length))).ok Q → rest.wpIn (wideR none) (nn + 1) P (bodyPostM (wideR none) (nn + 1) P fn (RetG Q M ν w)) a' w' := by
      intro hk
      refine wpIn_mono (execC_in hΓ hmix hent none (nn + 1) _ n rest hDr (ownM w' ν' H') w' ν' (fun k hk => .inl hk) T' H' _ Q a' w' ν' hk hS.rebase hd) ?_
      rintro e a2 w2 ⟨e2, T2, H2, ν2, rfl, hk2, hS2, hd2⟩
      have hD2 : w2.heap[D]? = some (.deferred (some [])) := (hS2.fr.block D (Array.getElem?_eq_some_iff.1 hDd).1 (hS.own_cells hDd rfl)).trans hDd
      have hS3 := hS.unbase hM hS2
      cases e2 with
      | normal => exact leave _ .normal D T2 H2 a2 w2 ν2 (.inl rfl) hd2 hk2 hS3 hDl hD2
      | ret => exact leave _ .ret D T2 H2 a2 w2 ν2 (.inr rfl) hd2 hk2 hS3 hDl hD2
      | exit j => exact hk2.elim
    cases e with
    | normal => exact run hk
    | ret => exact leave .ret .ret D T' H' a' w' ν' (.inr rfl) hd hk hS hDl hDd
    | exit j =>
      simp only [behind, exitK] at hk
      simp only [Ex.to, Exit.inBlock]
      cases hj : Nat.beq j id with
      | true =>
        rw [hj] at hk
        rw [if_pos (Nat.eq_of_beq_eq_true hj)]
        exact run hk
      | false =>
        rw [hj] at hk
        exact hk.elim
  have hpre' : (execL P Γ n pre (avs ++ List.replicate (fn.ntmps - avs.length) (.v undef)) H0 (fun e T' H' => match e with
      | .normal => execL P Γ n [p2] T' H' (leafK lvp H0.length)
      | _ => .err)).ok (fun e T' H' => e = .normal ∧ T' = TT ∧ H' = HH) := by
    have app : ∀ (l : List Code) (T : List AV) (H : List AB), execL P Γ n (l ++ [p2]) T H (leafK lvp H0.length) = execL P Γ n l T H (fun e T' H' => match e with
      | .normal => execL P Γ n [p2] T' H' (leafK lvp H0.length)
      | _ => .err) := by
      intro l
      induction l with
      | nil => intro T H; rfl
      | cons c l ih =>
        intro T H
        simp only [List.cons_append, execL]
        congr 1
        funext e T' H'
        cases e with
        | normal => exact ih T' H'
        | _ => rfl
    rw [← app]
    exact hpre
  refine execL_in hΓ hmix hent (nn + 1) n hM (fun T2 H2 a2 w2 ν2 hk2 hS2 hd2 => ?_) pre hDp _ _ _ _ _ hpre' hst rfl
  refine wpIn_seq (wpIn_seq (wpIn_mono (execC_in hΓ hmix hent none (nn + 1) [] n p2 hD2 M w ν hM T2 H2 _ _ a2 w2 ν2 hk2 hS2 hd2) ?_))
  rintro e a3 w3 ⟨e3, T3, H3, ν3, rfl, hk3, hS3, hd3⟩
  cases e3 with
  | exit j => exact hk3.elim
  | ret => exact hk3.elim
  | normal =>
    simp only [execL] at hk3
    unfold leafK at hk3
    split at hk3
    · rename_i p hwk
      obtain ⟨_, hp1, hp2⟩ := hk3
      have hS4 := weak_sound hwk hS3 hdom
      rw [hp1, hp2] at hS4
      generalize keepNu (keepOf H0.length (maskT (lvp .normal) 0 T3) H3) ν3 = ν4 at hS4
      have hSr := hS4.rebase
      have hgv : VR ν4 (.fn gf cs) (a3.eval g) := by
        have := evA_sound (T := TT) (a := a3) (ν := ν4) (z := g) fun t _ => hS4.tmps t
        rw [hg] at this
        exact this
      simp only [VR] at hgv
      obtain ⟨lb, hlb, hvs⟩ := hgv
      have hS5 : SR (ownM w3 ν4 (hp [])) w3 ν4 T (hp []) a3 w3 ν4 := (hS4.less (T' := T) (H' := hp []) hTl hT hHl hH).rebase
      have hS5M : SR M w ν T (hp []) a3 w3 ν4 := hS4.less (T' := T) (H' := hp []) hTl hT hHl hH
      show (Code.block id (.rangeFunc g ps assign body)).wpIn (wideR none) (nn + 1) P _ a3 w3
      refine wpIn_block ?_
      have sz := hS4.fr.size
      refine range_law hΓ hmix hent hlb eg lv hp hx hDa hDb hHl hS5 (hIter w3 ν4 a3 lb hSr hvs) hps hpT hround (fun D xs W ν' hD hs hS hDd => ?_) (fun D e pre W ν' hD hne hlv hs hS hDd => ?_)
      · refine after .normal D T (hp xs) _ W ν' (by rw [← hd3]) (hdone xs hs) ?_ (by omega) hDd
        have := hS5M.unbase hM hS
        exact ⟨this.tmps, this.heap, this.fr, this.dom, this.len, this.le⟩
      · refine after e D T (hx e pre) _ W ν' (by rw [← hd3]) (hleave e pre hne hlv hs) ?_ (by omega) hDd
        have := hS5M.unbase hM hS
        exact ⟨this.tmps, this.heap, this.fr, this.dom, this.len, this.le⟩
    · exact hk3.elim

end Go.Proofs.Ytmdcafhnjihckaa

/- The abstract machine, 32: a function whose body holds a loop over a function, within a scope. Conditions: the word of the function that yields. -/
namespace Go.Proofs.Ytmdcafhnjihckaa
open Go.RowKit

theorem calls_rangeS {α : Type} {P : Program} {Γ : Gam} (hΓ : GamOk P Γ) (hmix : P.follows .mixedOrders = true) (hent : Enters P) {f : FuncId} {fn : Func} (hf : P.funcs[f]? = some fn) {pre0 pre : List Code} {p2 rest assign body : Code} {id : Nat} {g : Operand} {ps : Array Tmp}
    (hb : fn.body = some (nestL pre0 (.scope (nestL pre (.seq (.seq p2 (.block id (.rangeFunc g ps assign body))) rest))))) (hDp0 : pre0.all codeDef = true) (hDp : pre.all codeDef = true) (hD2 : codeDef p2 = true) (hDr : codeDef rest = true) (hDa : codeDef assign = true) (hDb : codeDef body = true) {n nn : Nat}
    {avs : List AV} {TT : List AV} {HH H0 : List AB} {lvp : Ex → List Nat} {gf : Nat} {cs : List AV} {encs : α → List Value} {S Sp : List α → Prop} {N : Nat} {Q : Ex → List AV → List AB → Prop}
    (hpre : (execL P Γ n (pre0 ++ (pre ++ [p2])) (avs ++ List.replicate (fn.ntmps - avs.length) (.v undef)) H0 (leafK lvp H0.length)).ok (fun e T' H' => e = .normal ∧ T' = TT ∧ H' = HH)) (hg : evA TT g = .fn gf cs)
    (T : List AV) (hTl : T.length = TT.length) (hT : ∀ t, T.getD t .dead = TT.getD t .dead ∨ T.getD t .dead = .dead) (lv : Ex → Bool) (hp : List α → List AB) (hx : Ex → List α → List AB) (hHl : (hp []).length = HH.length) (hH : ∀ i, (hp []).getD i .gone = HH.getD i .gone ∨ (hp []).getD i .gone = .gone)
    (eg : ∀ args w, (callFunc gf args).run P w = .ok (.enter gf args) w)
    (hIter : ∀ W ν1 a1 lb, SR (ownM W ν1 HH) W ν1 TT HH a1 W ν1 → VRs ν1 cs lb → SeqStopsK (wideR none) nn P gf lb.toArray (fun x => (encs x).toArray) (keepR W (ownM W ν1 (hp []))) S Sp N W)
    (hps : ∀ x, (encs x).length = ps.size) (hpT : ∀ p ∈ ps.toList, p < T.length)
    (hround : ∀ pre x, pre.length < N → (execC P Γ n noLam assign (parT ps.toList (encs x) T) (hp pre) (andK P Γ n body HH.length)).ok (RoundQ lv hp hx (pre ++ [x])))
    (hdone : ∀ xs, S xs → (behind P Γ n fn id rest (packK H0.length) .normal T (hp xs)).ok Q)
    (hleave : ∀ e pre, e ≠ .normal → lv e = true → Sp pre → (behind P Γ n fn id rest (packK H0.length) e T (hx e pre)).ok Q) :
    ∀ (M : Nat → Prop) (vals : List Value) (w : World) (ν : Nu), (∀ k, w.heap.size ≤ k → M k) → VRs ν avs vals → RH M ν (fun b => H0.getD b .gone) w → (∀ i b, ν i = some b → i < H0.length) →
      Calls P f vals.toArray w (RetG Q M ν w) := by
  intro M vals w ν hM hv hR hdom
  rw [← callsIn_wide (n := nn + 1), ← wideR_none]
  refine callsIn_of_wp_marks hf hb trivial ?_
  have hst := start_sr (fn := fn) hv hR hdom
  -- the end of the function, deferred calls and all
  have leave : ∀ (e : Exit) (e' : Ex) (D : Nat) (T' : List AV) (H' : List AB) (a' : Act) (w' : World) (ν' : Nu), (e = .normal ∨ e = .ret) → a'.defers = [{ target := .collected D, args := #[] }] → (finC P fn (packK H0.length) .ret T' H').ok Q → SR M w ν T' H' a' w' ν' → w.heap.size ≤ D → w'.heap[D]? = some (.deferred (some [])) →
      Exit.noGoto (bodyPostM (wideR none) (nn + 1) P fn (RetG Q M ν w)) e a' w' := by
    intro e e' D T' H' a' w' ν' he hd hk hS hDl hDd
    have key : LeavesInM (wideR none) (nn + 1) P fn a'.tmps (RetG Q M ν w) a'.defers .returning w' := by
      rw [hd]
      refine ⟨by simp, .inl ⟨D, _, rfl, run_takeDeferred hDd, ?_⟩⟩
      have hS' := hS.turn (w' := w'.putObj D (.deferred none)) hM (grownBy_putObj' w' D _) fun r e => by
        cases e
        exact ⟨hDl, _, hDd, rfl⟩
      simp only [finC] at hk
      split at hk
      · rename_i vs ob hres
        obtain ⟨h1, h2⟩ := needs_ok hk
        obtain ⟨v, h3, h4⟩ := results_run hS'.tmps hS'.heap.br hres h1
        refine ⟨v, h3, ?_⟩
        unfold packK at h2
        split at h2
        · rename_i p hp'
          have hSo : SR M w ν [oneA vs] H' { tmps := #[v], defers := [] } (w'.putObj D (.deferred none)) ν' := by
            refine ⟨fun t => ?_, hS'.heap, hS'.fr, hS'.dom, by simp, hS'.le⟩
            cases t with
            | zero => simpa using h4
            | succ t => simp only [List.getD_cons_succ, List.getD_nil, VR]
          have hW := weak_sound hp' hSo hdom
          have hp1 : p.1.length = 1 := by
            have := hp'
            unfold weak at this
            split at this
            · rename_i T1 H1 hT hH1
              cases hc : (nodupB (keepOf H0.length (maskT [0] 0 [oneA vs]) H') && (keepOf H0.length (maskT [0] 0 [oneA vs]) H').take H0.length == upN 0 H0.length) with
              | false => rw [hc] at this; cases this
              | true =>
                rw [hc] at this
                cases this
                have := renAs_length hT
                simpa [maskT] using this
            · cases this
          match hp2 : p.1, hp1 with
          | [av'], _ =>
            rw [hp2] at h2 hW
            exact ⟨v, av', p.2, _, rfl, h2, by simpa using hW.tmps 0, hW.heap, hW.fr, hW.le, hW.dom⟩
        · exact h2.elim
      · exact hk.elim
    rcases he with rfl | rfl
    · exact key
    · exact key
  -- behind the loop: from what holds there
  have after : ∀ (e : Ex) (D : Nat) (T' : List AV) (H' : List AB) (a' : Act) (w' : World) (ν' : Nu), a'.defers = [{ target := .collected D, args := #[] }] → (behind P Γ n fn id rest (packK H0.length) e T' H').ok Q → SR M w ν T' H' a' w' ν' → w.heap.size ≤ D → w'.heap[D]? = some (.deferred (some [])) →
      Exit.inBlock id (Exit.then (rest.wpIn (wideR none) (nn + 1) P (Exit.noGoto (bodyPostM (wideR none) (nn + 1) P fn (RetG Q M ν w)))) (Exit.noGoto (bodyPostM (wideR none) (nn + 1) P fn (RetG Q M ν w)))) (Ex.to e) a' w' := by
    intro e D T' H' a' w' ν' hd hk hS hDl hDd
    have run : (execC P Γ n noLam rest T' H' (finC P fn (packK H0.length))).ok Q → rest.wpIn (wideR none) (nn + 1) P (Exit.noGoto (bodyPostM (wideR none) (nn + 1) P fn (RetG Q M ν w))) a' w' := by
      intro hk
      refine wpIn_mono (execC_in hΓ hmix hent none (nn + 1) _ n rest hDr (ownM w' ν' H') w' ν' (fun k hk => .inl hk) T' H' _ Q a' w' ν' hk hS.rebase hd) ?_
      rintro e a2 w2 ⟨e2, T2, H2, ν2, rfl, hk2, hS2, hd2⟩
      have hD2 : w2.heap[D]? = some (.deferred (some [])) := (hS2.fr.block D (Array.getElem?_eq_some_iff.1 hDd).1 (hS.own_cells hDd rfl)).trans hDd
      have hS3 := hS.unbase hM hS2
      cases e2 with
      | normal => exact leave _ .normal D T2 H2 a2 w2 ν2 (.inl rfl) hd2 hk2 hS3 hDl hD2
      | ret => exact leave _ .ret D T2 H2 a2 w2 ν2 (.inr rfl) hd2 hk2 hS3 hDl hD2
      | exit j => exact hk2.elim
    cases e with
    | normal => exact run hk
    | ret => exact leave .ret .ret D T' H' a' w' ν' (.inr rfl) hd hk hS hDl hDd
    | exit j =>
      simp only [behind, exitK] at hk
      simp only [Ex.to, Exit.inBlock]
      cases hj : Nat.beq j id with
      | true =>
        rw [hj] at hk
        rw [if_pos (Nat.eq_of_beq_eq_true hj)]
        exact run hk
      | false =>
        rw [hj] at hk
        exact hk.elim
  have app : ∀ (l l2 : List Code) (K : Kont) (T : List AV) (H : List AB), execL P Γ n (l ++ l2) T H K = execL P Γ n l T H (fun e T' H' => match e with
      | .normal => execL P Γ n l2 T' H' K
      | _ => .err) := by
    intro l l2 K
    induction l with
    | nil => intro T H; rfl
    | cons c l ih =>
      intro T H
      simp only [List.cons_append, execL]
      congr 1
      funext e T' H'
      cases e with
      | normal => exact ih T' H'
      | _ => rfl
  rw [app pre0 (pre ++ [p2])] at hpre
  have eK : (fun (e : Ex) (T' : List AV) (H' : List AB) => (match e with
      | .normal => execL P Γ n (pre ++ [p2]) T' H' (leafK lvp H0.length)
      | _ => .err : Res)) = fun e T' H' => match e with
      | .normal => execL P Γ n pre T' H' (fun e T' H' => match e with
        | .normal => execL P Γ n [p2] T' H' (leafK lvp H0.length)
        | _ => .err)
      | _ => .err := by
    funext e T' H'
    cases e with
    | normal => exact app pre [p2] _ T' H'
    | _ => rfl
  rw [eK] at hpre
  refine execL_in hΓ hmix hent (nn + 1) n hM (fun T1 H1 a1 w1 ν1 hk1 hS1 hd1 => wpIn_scope ?_) pre0 hDp0 _ _ _ _ _ hpre hst rfl
  refine execL_in hΓ hmix hent (nn + 1) n hM (fun T2 H2 a2 w2 ν2 hk2 hS2 hd2 => ?_) pre hDp _ _ _ _ _ hk1 hS1 hd1
  refine wpIn_seq (wpIn_seq (wpIn_mono (execC_in hΓ hmix hent none (nn + 1) [] n p2 hD2 M w ν hM T2 H2 _ _ a2 w2 ν2 hk2 hS2 hd2) ?_))
  rintro e a3 w3 ⟨e3, T3, H3, ν3, rfl, hk3, hS3, hd3⟩
  cases e3 with
  | exit j => exact hk3.elim
  | ret => exact hk3.elim
  | normal =>
    simp only [execL] at hk3
    unfold leafK at hk3
    split at hk3
    · rename_i p hwk
      obtain ⟨_, hp1, hp2⟩ := hk3
      have hS4 := weak_sound hwk hS3 hdom
      rw [hp1, hp2] at hS4
      generalize keepNu (keepOf H0.length (maskT (lvp .normal) 0 T3) H3) ν3 = ν4 at hS4
      have hSr := hS4.rebase
      have hgv : VR ν4 (.fn gf cs) (a3.eval g) := by
        have := evA_sound (T := TT) (a := a3) (ν := ν4) (z := g) fun t _ => hS4.tmps t
        rw [hg] at this
        exact this
      simp only [VR] at hgv
      obtain ⟨lb, hlb, hvs⟩ := hgv
      have hS5 : SR (ownM w3 ν4 (hp [])) w3 ν4 T (hp []) a3 w3 ν4 := (hS4.less (T' := T) (H' := hp []) hTl hT hHl hH).rebase
      have hS5M : SR M w ν T (hp []) a3 w3 ν4 := hS4.less (T' := T) (H' := hp []) hTl hT hHl hH
      show (Code.block id (.rangeFunc g ps assign body)).wpIn (wideR none) (nn + 1) P _ a3 w3
      refine wpIn_block ?_
      have sz := hS4.fr.size
      refine range_law hΓ hmix hent hlb eg lv hp hx hDa hDb hHl hS5 (hIter w3 ν4 a3 lb hSr hvs) hps hpT hround (fun D xs W ν' hD hs hS hDd => ?_) (fun D e pre W ν' hD hne hlv hs hS hDd => ?_)
      · refine after .normal D T (hp xs) _ W ν' (by rw [← hd3]) (hdone xs hs) ?_ (by omega) hDd
        have := hS5M.unbase hM hS
        exact ⟨this.tmps, this.heap, this.fr, this.dom, this.len, this.le⟩
      · refine after e D T (hx e pre) _ W ν' (by rw [← hd3]) (hleave e pre hne hlv hs) ?_ (by omega) hDd
        have := hS5M.unbase hM hS
        exact ⟨this.tmps, this.heap, this.fr, this.dom, this.len, this.le⟩
    · exact hk3.elim

end Go.Proofs.Ytmdcafhnjihckaa

/- The abstract machine, 20: a region that draws its order, up to an operation behind which all is in line. Conditions: those of the table of callees. -/
namespace Go.Proofs.Ytmdcafhnjihckaa
open Go.RowKit

/-- From k on each operation stands behind all of the first k. -/
def tailOk (k : Nat) (all : List Oper) : Bool := (List.range all.length).all fun i => Nat.blt i k || (List.range k).all fun j => ((befL all []).getD i 0).testBit j
def cutL (k n : Nat) : Array Bool := ((List.range n).map fun j => decide (j < k)).toArray

theorem cut_count : ∀ {k n : Nat}, k ≤ n → (((List.range n).map fun j => decide (j < k)).toArray.toList).count false = n - k := by
  intro k n
  induction n with
  | zero => intro h; simp
  | succ n ih =>
    intro h
    simp only [List.range_succ, List.map_append, List.map_cons, List.map_nil, List.count_append] at ih ⊢
    by_cases hk : k ≤ n
    · rw [ih hk, decide_eq_false (by omega)]
      simp
      omega
    · have : k = n + 1 := by omega
      subst this
      have h0 : ((List.range n).map fun j => decide (j < n + 1)).count false = 0 := by
        rw [List.count_eq_zero]
        intro hm
        obtain ⟨j, hj, e⟩ := List.mem_map.1 hm
        have := List.mem_range.1 hj
        simp at e
        omega
      rw [h0, decide_eq_true (by omega)]
      simp

theorem zip_take : ∀ (l : List Oper) (es : List Ent), List.zipWith Item.mk (l.take es.length) es = List.zipWith Item.mk l es
  | [], es => by simp
  | o :: l, [] => by simp
  | o :: l, e :: es => by simp [zip_take l es]

theorem any_cut {P : Program} {Γ : Gam} (hΓ : GamOk P Γ) {nn k : Nat} {all : List Oper} {es : List Ent} {M : Nat → Prop} {w0 : World} {ν0 : Nu} (hM : ∀ k, w0.heap.size ≤ k → M k) {T : List AV} {H : List AB} {T' : List AV} {H' : List AB} (r : RunOk P Γ all (all.take k) es T H T' H') (hkl : k ≤ all.length) (hnd : noDef all.toArray = true) (hB : drawOk all es = true) (hC : tailOk k all = true)
    {a : Act} {w : World} {ν : Nu} {Q : Exit → Act → World → Prop} (hQo : ¬ LetsOut Q) (h : SR M w0 ν0 T H a w ν) (hQ : ∀ a' w' ν', SR M w0 ν0 T' H' a' w' ν' → a'.defers = a.defers → wpAnyIn (wideR none) nn P .any all.toArray Q (all.length - k) (cutL k all.length) a' w') : wpAnyIn (wideR none) nn P .any all.toArray Q all.length (Array.replicate all.length false) a w := by
  have rl : es.length = k := by rw [run_len r]; simp; omega
  have hitems : items (all.take k) es = items all es := by
    simp only [items]
    rw [← rl]
    exact zip_take all es
  have ra : RunAt P Γ all all es T H T' H' := by
    have r0 := run_at r
    have := r0.at_
    exact ⟨by omega, r0.lenT, r0.lenH, by rw [← hitems]; exact r0.at_, by rw [← hitems]; exact r0.endT, by rw [← hitems]; exact r0.endH, by rw [← hitems]; exact r0.base, by rw [← hitems]; exact r0.apart, by rw [← hitems]; exact r0.lt⟩
  have hlen : (items all es).length = k := by simp [items, rl]; omega
  simp only [drawOk, Bool.and_eq_true] at hB
  obtain ⟨hB1, hB2⟩ := hB
  have edges : ∀ (i : Nat) o, all[i]? = some o → ∀ e ∈ o.after, Region.binds .any e = true → e.on < i := fun i o ho e he hb => by simpa using edgesOk_spec hB1 i o ho e he hb
  have races : ∀ (i j : Nat) x y, i < j → (items all es)[i]? = some x → (items all es)[j]? = some y → ((befL all []).getD j 0).testBit i = true ∨ apartI all.toArray x y = true := fun i j x y hij hx hy => raceFree_spec hB2 j y hy i x (by simpa using hij) (by simpa using hx)
  have key : ∀ (f : Nat) (listed : Array Bool) (a' : Act) (w' : World) (ν' : Nu), listed.size = all.length → listed.toList.count false = f → Closed all (fun j => listed.getD j false) → (∀ j, k ≤ j → listed.getD j false = false) →
      Stage M w0 ν0 T.length H.length (fun t => T.getD t .dead) (fun b => H.getD b .gone) (items all es) (fun j => listed.getD j false) a' w' ν' → a'.defers = a.defers → wpAnyIn (wideR none) nn P .any all.toArray Q f listed a' w' := by
    intro f
    have fin : ∀ (f : Nat) (listed : Array Bool) (a' : Act) (w' : World) (ν' : Nu), listed.size = all.length → listed.toList.count false = f → (∀ j, k ≤ j → listed.getD j false = false) →
        Stage M w0 ν0 T.length H.length (fun t => T.getD t .dead) (fun b => H.getD b .gone) (items all es) (fun j => listed.getD j false) a' w' ν' → a'.defers = a.defers → (∀ j, j < k → listed.getD j false = true) → wpAnyIn (wideR none) nn P .any all.toArray Q f listed a' w' := by
      intro f listed a' w' ν' hs hcnt hno st hd allT
      have e1 : listed = cutL k all.length := by
        apply Array.ext
        · simp [cutL, hs]
        · intro j hj1 hj2
          simp only [cutL, List.getElem_toArray, List.getElem_map, List.getElem_range]
          have h1 : listed.getD j false = listed[j] := by simp [Array.getD, hj1]
          rw [← h1]
          by_cases hjk : j < k
          · rw [allT j hjk, decide_eq_true hjk]
          · rw [hno j (by omega), decide_eq_false hjk]
      have e2 : f = all.length - k := by
        rw [← hcnt, e1]
        simp only [cutL]
        exact cut_count hkl
      rw [e2, e1]
      exact hQ a' w' ν' (stage_end ra st fun j hj => allT j (by omega)) hd
    induction f with
    | zero =>
      intro listed a' w' ν' hs hcnt hc hno st hd
      refine fin 0 listed a' w' ν' hs hcnt hno st hd fun j hj => ?_
      have hjs : j < listed.size := by omega
      have hne : false ∉ listed.toList := List.count_eq_zero.1 hcnt
      have : listed[j] ≠ false := fun e => hne (by rw [← e]; simp)
      simp [Array.getD, hjs]
      simpa using this
    | succ f ih =>
      intro listed a' w' ν' hs hcnt hc hno st hd
      by_cases hall : ∀ j, j < k → listed.getD j false = true
      · exact fin (f + 1) listed a' w' ν' hs hcnt hno st hd hall
      refine ⟨fun hnil => (hall fun j hj => ?_).elim, fun i hi => wpOp_in hnd hQo ?_⟩
      · induction j using Nat.strongRecOn with
        | _ j jh =>
          cases hl : listed.getD j false with
          | true => rfl
          | false =>
            have : j ∈ Region.ready .any all.toArray listed := by
              rw [mem_ready]
              refine ⟨by rw [getD_bool (by omega) true false]; exact hl, all[j], by simp [show j < all.length by omega], fun e he hb => ?_⟩
              have hlt := edges j all[j] (by simp [show j < all.length by omega]) e he hb
              exact jh e.on hlt (by omega)
            rw [hnil] at this
            cases this
      · obtain ⟨h1, o, ho, he⟩ := mem_ready.1 hi
        have hil : i < all.length := by simpa using (Array.getElem?_eq_some_iff.1 ho).1
        have hoa : all[i]? = some o := by simpa using ho
        have hS0 : listed.getD i false = false := by rw [getD_bool (by omega) false true]; exact h1
        have hik : i < k := by
          rcases Nat.lt_or_ge i k with h | h
          · exact h
          · exfalso
            have anc0 : ∀ q, ((befL all []).getD i 0).testBit q = true → listed.getD q false = true := befL_spec (S := fun j => listed.getD j false) (r := all) (acc := []) hc rfl (fun j o hj => by simp at hj) i o hoa he
            have := List.all_eq_true.1 hC i (by simpa using hil)
            rcases Bool.or_eq_true_iff.1 this with h' | h'
            · rw [Nat.blt_eq] at h'; omega
            · exact hall fun j hj => anc0 j (List.all_eq_true.1 h' j (by simpa using hj))
        have hix : (items all es)[i]? = some (items all es)[i] := List.getElem?_eq_getElem (by omega)
        generalize hxg : (items all es)[i] = x at hix
        have hxo : x.o = o := by
          simp only [items, List.getElem?_zipWith] at hix
          split at hix
          · rename_i o' e' h1' h2'
            cases hix
            rw [hoa] at h1'
            cases h1'
            rfl
          · cases hix
        -- ancestors of i are listed; those of a listed one are listed
        have anc : ∀ q, ((befL all []).getD i 0).testBit q = true → listed.getD q false = true := befL_spec (S := fun j => listed.getD j false) (r := all) (acc := []) hc rfl (fun j o hj => by simp at hj) i o hoa he
        have anc' : ∀ j, listed.getD j false = true → j < all.length → ∀ q, ((befL all []).getD j 0).testBit q = true → listed.getD q false = true := by
          intro j hj hjl
          have hjx : all[j]? = some all[j] := List.getElem?_eq_getElem hjl
          exact befL_spec (S := fun j => listed.getD j false) (r := all) (acc := []) hc rfl (fun j o hj => by simp at hj) j _ hjx (hc.cl j _ hjx hj)
        have before : ∀ (j : Nat) y, j < i → (items all es)[j]? = some y → apartI all.toArray y x = true ∨ listed.getD j false = true := by
          intro j y hj hy
          rcases races j i y x hj hy hix with h | h
          · exact .inr (anc j h)
          · exact .inl h
        have after' : ∀ (j : Nat) y, i < j → (items all es)[j]? = some y → apartI all.toArray x y = true ∨ listed.getD j false = false := by
          intro j y hj hy
          rcases races i j x y hj hix hy with h | h
          · right
            cases hl : listed.getD j false with
            | false => rfl
            | true =>
              have hjl : j < all.length := by
                have := (List.getElem?_eq_some_iff.1 hy).1
                omega
              have := anc' j hl hjl i h
              rw [hS0] at this
              cases this
          · exact .inl h
        refine stage_step hΓ hM ra hix st hS0 (fun t ht => ?_) (fun b hb => ?_) (fun t ht j y hj hy hdy => ?_) (fun b hb j y hj hy hwy => ?_) fun a'' w'' ν'' st' hd' => ?_
        · refine foldT_congr rfl fun j y hy hdy => ?_
          simp only [Nat.zero_add]
          rcases Nat.lt_trichotomy j i with hj | hj | hj
          · rw [decide_eq_true hj]
            exact (before j y hj hy).resolve_left fun ha => ((apartI_tmps ha).1 t hdy).1 ht
          · subst hj
            rw [hS0]
            simp
          · rw [decide_eq_false (by omega)]
            exact (after' j y hj hy).resolve_left fun ha => (apartI_tmps ha).2 t hdy ht
        · refine foldH_congr rfl fun j y hy hdy => ?_
          simp only [Nat.zero_add]
          rcases Nat.lt_trichotomy j i with hj | hj | hj
          · rw [decide_eq_true hj]
            exact (before j y hj hy).resolve_left fun ha => ((apartI_blocks ha).1 b hdy).1 hb
          · subst hj
            rw [hS0]
            simp
          · rw [decide_eq_false (by omega)]
            exact (after' j y hj hy).resolve_left fun ha => (apartI_blocks ha).2 b hdy hb
        · rcases after' j y hj hy with h | h
          · exact absurd hdy ((apartI_tmps h).1 t ht).2
          · exact h
        · rcases after' j y hj hy with h | h
          · exact absurd hwy ((apartI_blocks h).1 b hb).2
          · exact h
        · have hset : (fun j => (listed.setIfInBounds i true).getD j false) = also (fun j => listed.getD j false) i := by
            funext j
            simp only [also]
            by_cases e : i = j
            · subst e
              simp [Array.getD, show i < listed.size by omega]
            · rw [getD_set_ne false e]
              have : (j == i) = false := by simp; exact fun h => e h.symm
              rw [this, Bool.or_false]
          refine ih (listed.setIfInBounds i true) a'' w'' ν'' (by simpa using hs) ?_ ⟨fun j o' ho' hj e he' hb => ?_⟩ (fun j hj => by rw [getD_set_ne false (by omega)]; exact hno j hj) (by rw [hset]; exact st') (hd'.trans hd)
          · have hi' : i < listed.toList.length := by simp; omega
            have hval : listed.toList[i] = false := by
              have : i < listed.size := by omega
              simp [Array.getD, this] at hS0
              simpa using hS0
            simp only [Array.toList_setIfInBounds]
            rw [List.count_set hi']
            simp [hval, hcnt]
          · have hset' : ∀ j, (listed.setIfInBounds i true).getD j false = also (fun j => listed.getD j false) i j := congrFun hset
            rw [hset'] at hj ⊢
            simp only [also, Bool.or_eq_true, beq_iff_eq] at hj ⊢
            rcases hj with hj | rfl
            · exact .inl (hc.cl j o' ho' hj e he' hb)
            · rw [hoa] at ho'
              cases ho'
              exact .inl (he e he' hb)
  have rep : ∀ j, (Array.replicate all.length false).getD j false = false := by
    intro j
    rw [Array.getD_eq_getD_getElem?, Array.getElem?_replicate]
    split <;> rfl
  refine key all.length _ a w ν (by simp) (by simp) ⟨fun j o ho hj => ?_⟩ (fun j _ => rep j) (stage_start h _ fun j => rep j) rfl
  rw [rep j] at hj
  cases hj

end Go.Proofs.Ytmdcafhnjihckaa

/- The function that yields the sides of a polygon: its word. Conditions: the list holds points. -/
namespace Go.Proofs.Ytmdcafhnjihckaa
open Go.RowKit
set_option maxRecDepth 100000

abbrev rowC (a : Nat → Nat → Int) : Nat → List Value := fun j => [i64 (a j 0), i64 (a j 1), i64 (a j 2), i64 (a j 3), i64 (a j 4), i64 (a j 5), i64 (a j 6), i64 (a j 7)]
/-- A side, as yield is handed it. -/
abbrev pairV (p q : Nat → Int) : Value := .agg #[i64 (p 0), i64 (p 1), i64 (p 2), i64 (p 3), i64 (p 4), i64 (p 5), i64 (p 6), i64 (p 7), i64 (q 0), i64 (q 1), i64 (q 2), i64 (q 3), i64 (q 4), i64 (q 5), i64 (q 6), i64 (q 7)]

def outK : Kont := fun e T H => .out e T H
abbrev yv (l : Nat) : Value := .func (.yield l) #[] #[]
abbrev slI (m c : Nat) : AV := .sl 1 8 0 0 m (some c)
abbrev hpI (a : Nat → Nat → Int) (m c : Nat) (tB tr : TypeId) : List AB := [.cells [slI m c] tB, .row false m 8 (rowC a) tr]
def stI (l m c i : Nat) : List AV := mkT 0 26 [(0, .v (yv l)), (1, .ptr 0 1 0 0), (5, slI m c), (6, .v (i64 m)), (7, .v (i64 i))]

def sqA : Code → Code | .seq a _ => a | c => c
def sqB : Code → Code | .seq _ b => b | c => c
def blB : Code → Code | .block _ b => b | c => c
theorem leaf_post {ds : List Deferred} {M : Nat → Prop} {w0 : World} {ν0 : Nu} {lv : Ex → List Nat} {m : Nat} {Q : Ex → List AV → List AB → Prop} {e : Exit} {a : Act} {w : World} (h : postD ds M w0 ν0 (leafK lv m) Q e a w) (hν : ∀ i b, ν0 i = some b → i < m) :
    ∃ e' T H ν, e = Ex.to e' ∧ Q e' T H ∧ SR M w0 ν0 T H a w ν ∧ a.defers = ds := by
  obtain ⟨e', T, H, ν, rfl, hk, hS, hd⟩ := h
  unfold leafK at hk
  split at hk
  · rename_i p hp
    exact ⟨e', p.1, p.2, _, rfl, hk, weak_sound hp hS hν, hd⟩
  · exact hk.elim

theorem yield_op {nn : Nat} {P : Program} {ops : Array Oper} {Q : Exit → Act → World → Prop} {i l : Nat} {o : Oper} {x y : Operand} {ts : Array TypeId} {K : Act → World → Prop} {R : Ending → World → Prop} {a : Act} {w : World} {v : Value} (ho : ops[i]? = some o) (hop : o.op = .call ⟨.value x, #[y], ts⟩) (hgu : o.guard = none)
    (hx : a.eval x = yv l) (hy : a.eval y = v) (h : YieldAt (wideR none) (nn - 1) P l #[v] w R) (hR : ∀ e w', R e w' → ∃ b, e = .returned b ∧ K (a.put o.dst b) w') : wpOpIn (wideR none) nn P ops Q i K a w := by
  unfold wpOpIn
  rw [ho]
  simp only
  rw [if_pos (by simp [Region.wanted, hgu])]
  refine ⟨fun _ _ => trivial, ?_⟩
  obtain ⟨fn, tmps, assign, body, e, hr⟩ := h
  have hs : (o.semAt (wideR none).round a.eval).run P w = .ok (.round l fn tmps assign body) w := by
    rw [show (wideR none).round = none from rfl, Oper.semAt_none]
    cases o with
    | mk dst op ty pos after guard =>
      simp only at hop
      subst hop
      simp [execOp, resolve, hx, hy, Deferred.ofValue, invoke, e]
  rw [hs, Oper.uponIn_round]
  refine ⟨fun h => (by cases h), hr.mono fun e w' he => ?_⟩
  obtain ⟨b, rfl, hk⟩ := hR e w' he
  exact hk

theorem not_op {nn : Nat} {P : Program} {ops : Array Oper} {Q : Exit → Act → World → Prop} {i : Nat} {t : TypeId} {o : Oper} {x : Operand} {K : Act → World → Prop} {a : Act} {w : World} {b : Bool} (ho : ops[i]? = some o) (hop : o.op = .unOp .not t x) (hgu : o.guard = none)
    (hx : a.eval x = .bool b) (hK : K (a.put o.dst (.bool (!b))) w) : wpOpIn (wideR none) nn P ops Q i K a w := by
  unfold wpOpIn
  rw [ho]
  simp only
  rw [if_pos (by simp [Region.wanted, hgu])]
  refine ⟨fun _ _ => trivial, ?_⟩
  have hs : (o.semAt (wideR none).round a.eval).run P w = .ok (.value (.bool (!b))) w := by
    rw [show (wideR none).round = none from rfl, Oper.semAt_none]
    cases o with
    | mk dst op ty pos after guard =>
      simp only at hop
      subst hop
      have he : execOp a.eval ⟨dst, .unOp .not t x, ty, pos, after, guard⟩ = (do pure (.value (← Op.unary .not (a.eval x)))) := rfl
      rw [he, hx]
      simp [Op.unary]
  rw [hs]
  exact hK

end Go.Proofs.Ytmdcafhnjihckaa

/- The function that yields the pairs of turns: its word. Conditions: none. -/
namespace Go.Proofs.Ytmdcafhnjihckaa
open Go.RowKit
set_option maxRecDepth 100000

noncomputable abbrev fPr : Func := Try.f145
noncomputable def pR0 : Code := sqA (fPr.body.getD .skip)
noncomputable def pL0 : Code := loopAt 0 fPr
noncomputable def pL2 : Code := loopAt 2 fPr
noncomputable def pR1 : Code := sqA pL0
noncomputable def pB1 : Code := blB (sqA (sqB (sqB pL0)))
noncomputable def pR8 : Code := sqB (sqB (sqB pL0))
noncomputable def pR2 : Code := sqA pB1
noncomputable def pR3 : Code := sqA (sqB pB1)
noncomputable def pR4 : Code := sqA pL2
noncomputable def pB3 : Code := blB (sqA (sqB (sqB pL2)))
noncomputable def pR7 : Code := sqB (sqB (sqB pL2))
noncomputable def pR5 : Code := sqA pB3
noncomputable def pO6 : Array Oper := match sqA (sqB pB3) with | .region _ o _ => o | _ => #[]
theorem bodyPr : fPr.body = some (.seq pR0 (.block 0 (.loop pL0))) := by kernel_rfl
theorem loopP0 : pL0 = .seq pR1 (.seq (.cond (.tmp 5) .skip (.exit 0)) (.seq (.block 1 (.seq pR2 (.seq pR3 (.block 2 (.loop pL2))))) pR8)) := by kernel_rfl
theorem loopP2 : pL2 = .seq pR4 (.seq (.cond (.tmp 8) .skip (.exit 2)) (.seq (.block 3 (.seq pR5 (.seq (.region 6 pO6 false) (.cond (.tmp 14) .ret .skip)))) pR7)) := by kernel_rfl

def sP0 (l i : Nat) : List AV := mkT 0 17 [(0, .v (yv l)), (4, .v (i64 i))]
def sP1 (l i : Nat) : List AV := mkT 0 17 [(0, .v (yv l)), (2, .v (i64 i)), (4, .v (i64 i))]
def sP2 (l i j : Nat) : List AV := mkT 0 17 [(0, .v (yv l)), (2, .v (i64 i)), (4, .v (i64 i)), (7, .v (i64 j))]
def sP6 (l i j : Nat) : List AV := mkT 0 17 [(0, .v (yv l)), (2, .v (i64 i)), (3, .v (i64 j)), (4, .v (i64 i)), (7, .v (i64 j))]
def sP7 (l i j : Nat) (b c : Bool) : List AV := (((((sP6 l i j).set 10 (.v (yv l))).set 11 (.v (i64 i))).set 12 (.v (i64 j))).set 13 (.v (.bool b))).set 14 (.v (.bool c))
theorem runP0 (l : Nat) : execC Try.prog g0 100 noLam pR0 ([.v (yv l)] ++ List.replicate 16 (.v undef)) [] (leafK (lv3 [0, 4] [] []) 0) = .out .normal (sP0 l 0) [] := by kernel_rfl
theorem runP1 (l i : Nat) : execC Try.prog g0 100 noLam pR1 (sP0 l i) [] (leafK (lv3 [0, 4, 5] [] []) 0) = .out .normal ((sP0 l i).set 5 (.v (.bool (decide ((i : Int) < 24))))) [] := by kernel_rfl
theorem runP2 (l i : Nat) (b : Bool) : execC Try.prog g0 100 noLam pR2 ((sP0 l i).set 5 (.v (.bool b))) [] (leafK (lv3 [0, 2, 4] [] []) 0) = .out .normal (sP1 l i) [] := by kernel_rfl
theorem runP3 (l i : Nat) : execC Try.prog g0 100 noLam pR3 (sP1 l i) [] (leafK (lv3 [0, 2, 4, 7] [] []) 0) = .out .normal (sP2 l i 0) [] := by kernel_rfl
theorem runP4 (l i j : Nat) : execC Try.prog g0 100 noLam pR4 (sP2 l i j) [] (leafK (lv3 [0, 2, 4, 7, 8] [] []) 0) = .out .normal ((sP2 l i j).set 8 (.v (.bool (decide ((j : Int) < 24))))) [] := by kernel_rfl
theorem runP5 (l i j : Nat) (b : Bool) : execC Try.prog g0 100 noLam pR5 ((sP2 l i j).set 8 (.v (.bool b))) [] (leafK (lv3 [0, 2, 3, 4, 7] [] []) 0) = .out .normal (sP6 l i j) [] := by kernel_rfl
theorem runP7 (l i j : Nat) (b c : Bool) : execC Try.prog g0 100 noLam pR7 (sP7 l i j b c) [] (leafK (lv3 [0, 2, 4, 7] [] []) 0) = .out .normal (mkT 0 17 [(0, .v (yv l)), (2, .v (i64 i)), (4, .v (i64 i)), (7, .v (i64 (W ((j : Int) + 1))))]) [] := by kernel_rfl
theorem runP8 (l i j : Nat) (b : Bool) : execC Try.prog g0 100 noLam pR8 ((sP2 l i j).set 8 (.v (.bool b))) [] (leafK (lv3 [0, 4] [] []) 0) = .out .normal (mkT 0 17 [(0, .v (yv l)), (4, .v (i64 (W ((i : Int) + 1))))]) [] := by kernel_rfl

abbrev nu0 : Nu := fun _ => none
theorem sr_of {T : List AV} {a : Act} (X : World) (h1 : ∀ t, VR nu0 (T.getD t .dead) (a.tmps.getD t undef)) (h2 : T.length ≤ a.tmps.size) : SR (fun k => X.heap.size ≤ k) X nu0 T [] a X nu0 :=
  ⟨h1, ⟨fun _ => trivial, fun _ _ _ _ _ h => (by cases h), fun _ _ h => (by cases h), fun _ _ h => (by cases h)⟩, Fr.refl _ _, fun _ _ h => (by cases h), h2, Le.refl _⟩
/-- Code that touches no memory. -/
theorem step0 {nn : Nat} {c : Code} {T T' : List AV} {lv : Ex → List Nat} {X : World} {A : Act} (hc : codeDef c = true) (hr : execC Try.prog g0 100 noLam c T [] (leafK lv 0) = .out .normal T' []) (hS : SR (fun k => X.heap.size ≤ k) X nu0 T [] A X nu0) (hd : A.defers = []) {Q : Exit → Act → World → Prop}
    (hQ : ∀ A' X', A'.defers = [] → SR (fun k => X'.heap.size ≤ k) X' nu0 T' [] A' X' nu0 → X.grownBy X' none → Q .normal A' X') : c.wpIn (wideR none) nn Try.prog Q A X := by
  refine wpIn_mono (execC_in (nn := nn) g0_ok mixed enters none [] 100 c hc (fun k => X.heap.size ≤ k) X nu0 (fun k hk => hk) _ _ _ (fun e T2 H2 => e = .normal ∧ T2 = T' ∧ H2 = []) _ X nu0 (by rw [hr]; exact ⟨rfl, rfl, rfl⟩) hS hd) ?_
  intro e A' X' hp
  obtain ⟨e', T2, H2, ν', rfl, ⟨rfl, rfl, rfl⟩, hS', hd'⟩ := leaf_post hp fun _ _ h => by cases h
  have hn : ν' = nu0 := funext fun i => by
    cases e : ν' i with
    | none => rfl
    | some b => exact absurd (hS'.dom i b e) (Nat.not_lt_zero _)
  subst hn
  exact hQ A' X' hd' (sr_of X' hS'.tmps hS'.len) ⟨hS'.fr.os, hS'.fr.tape, hS'.fr.output, hS'.fr.size, fun k hk _ => hS'.fr.block k hk (by omega)⟩

theorem yield_op2 {nn : Nat} {P : Program} {ops : Array Oper} {Q : Exit → Act → World → Prop} {i l : Nat} {o : Oper} {x y z : Operand} {ts : Array TypeId} {K : Act → World → Prop} {R : Ending → World → Prop} {a : Act} {w : World} {v u : Value} (ho : ops[i]? = some o) (hop : o.op = .call ⟨.value x, #[y, z], ts⟩) (hgu : o.guard = none)
    (hx : a.eval x = yv l) (hy : a.eval y = v) (hz : a.eval z = u) (h : YieldAt (wideR none) (nn - 1) P l #[v, u] w R) (hR : ∀ e w', R e w' → ∃ b, e = .returned b ∧ K (a.put o.dst b) w') : wpOpIn (wideR none) nn P ops Q i K a w := by
  unfold wpOpIn
  rw [ho]
  simp only
  rw [if_pos (by simp [Region.wanted, hgu])]
  refine ⟨fun _ _ => trivial, ?_⟩
  obtain ⟨fn, tmps, assign, body, e, hr⟩ := h
  have hs : (o.semAt (wideR none).round a.eval).run P w = .ok (.round l fn tmps assign body) w := by
    rw [show (wideR none).round = none from rfl, Oper.semAt_none]
    cases o with
    | mk dst op ty pos after guard =>
      simp only at hop
      subst hop
      simp [execOp, resolve, hx, hy, hz, Deferred.ofValue, invoke, e]
  rw [hs, Oper.uponIn_round]
  refine ⟨fun h => (by cases h), hr.mono fun e w' he => ?_⟩
  obtain ⟨b, rfl, hk⟩ := hR e w' he
  exact hk
theorem move_op {nn : Nat} {P : Program} {ops : Array Oper} {Q : Exit → Act → World → Prop} {i : Nat} {o : Oper} {x : Operand} {K : Act → World → Prop} {a : Act} {w : World} {v : Value} (ho : ops[i]? = some o) (hop : o.op = .move x) (hgu : o.guard = none)
    (hx : a.eval x = v) (hK : K (a.put o.dst v) w) : wpOpIn (wideR none) nn P ops Q i K a w := by
  unfold wpOpIn
  rw [ho]
  simp only
  rw [if_pos (by simp [Region.wanted, hgu])]
  refine ⟨fun _ _ => trivial, ?_⟩
  have hs : (o.semAt (wideR none).round a.eval).run P w = .ok (.value v) w := by
    rw [show (wideR none).round = none from rfl, Oper.semAt_none]
    cases o with
    | mk dst op ty pos after guard =>
      simp only at hop
      subst hop
      have he : execOp a.eval ⟨dst, .move x, ty, pos, after, guard⟩ = (do pure (.value (a.eval x))) := rfl
      rw [he, hx]
      simp
  rw [hs]
  exact hK
noncomputable def pOp (k : Nat) : Oper := pO6.toList.getD k default
theorem pOp_at0 : pO6[0]? = some (pOp 0) := by kernel_rfl
theorem pOp_at1 : pO6[1]? = some (pOp 1) := by kernel_rfl
theorem pOp_at2 : pO6[2]? = some (pOp 2) := by kernel_rfl
theorem pOp_at3 : pO6[3]? = some (pOp 3) := by kernel_rfl
theorem pOp_at4 : pO6[4]? = some (pOp 4) := by kernel_rfl
theorem pOp0 : (pOp 0).op = .move (.tmp 0) ∧ (pOp 0).guard = none ∧ (pOp 0).dst = some 10 := ⟨by kernel_rfl, by kernel_rfl, by kernel_rfl⟩
theorem pOp1 : (pOp 1).op = .move (.tmp 2) ∧ (pOp 1).guard = none ∧ (pOp 1).dst = some 11 := ⟨by kernel_rfl, by kernel_rfl, by kernel_rfl⟩
theorem pOp2 : (pOp 2).op = .move (.tmp 3) ∧ (pOp 2).guard = none ∧ (pOp 2).dst = some 12 := ⟨by kernel_rfl, by kernel_rfl, by kernel_rfl⟩
theorem pOp3 : (pOp 3).op = .call ⟨.value (.tmp 10), #[.tmp 11, .tmp 12], #[3, 3]⟩ ∧ (pOp 3).guard = none ∧ (pOp 3).dst = some 13 := ⟨by kernel_rfl, by kernel_rfl, by kernel_rfl⟩
theorem pOp4 : (pOp 4).op = .unOp .not 4 (.tmp 13) ∧ (pOp 4).guard = none ∧ (pOp 4).dst = some 14 := ⟨by kernel_rfl, by kernel_rfl, by kernel_rfl⟩
theorem pSize : List.range pO6.size = [0, 1, 2, 3, 4] := by kernel_rfl

end Go.Proofs.Ytmdcafhnjihckaa

/- The function that yields the pairs of turns: its word. Conditions: none. -/
namespace Go.Proofs.Ytmdcafhnjihckaa
open Go.RowKit
set_option maxRecDepth 100000

def enP (x : Nat) : List Value := [i64 ((x / 24 : Nat) : Int), i64 ((x % 24 : Nat) : Int)]

theorem pairs_stops {nn : Nat} {w : World} {M : Nat → Prop} : SeqStopsK (wideR none) nn Try.prog 145 #[] (fun x => (enP x).toArray) (keepR w M) (fun xs => xs = List.range 576) (fun xs => ∃ k, k ≤ 576 ∧ xs = List.range k) 576 w := by
  intro l J Jx W hW hJ hJx hY hJ0
  have ab : ∀ {s : List Nat} {A B : World}, J s A → A.grownBy B none → J s B := fun hj hg => hJ _ _ _ none hj hg fun r e => by cases e
  let HD0 : Nat → Act → World → Prop := fun i A X => A.defers = [] ∧ SR (fun k => X.heap.size ≤ k) X nu0 (sP0 l i) [] A X nu0 ∧ J (List.range (24 * i)) X
  let HD2 : Nat → Nat → Act → World → Prop := fun i j A X => A.defers = [] ∧ SR (fun k => X.heap.size ≤ k) X nu0 (sP2 l i j) [] A X nu0 ∧ J (List.range (24 * i + j)) X
  refine callsIn_of_wp Try.func145 bodyPr trivial ?_
  have hvr : VRs nu0 [.v (yv l)] [yv l] := by
    simp only [VRs, VR, and_true]
  have hst := start_sr (M := fun k => W.heap.size ≤ k) (w := W) (H := []) (fn := fPr) hvr ⟨fun _ => trivial, fun _ _ _ _ _ h => (by cases h), fun _ _ h => (by cases h), fun _ _ h => (by cases h)⟩ (fun _ _ h => by cases h)
  rw [show fPr.ntmps - [AV.v (yv l)].length = 16 from by kernel_rfl] at hst
  have fin : ∀ (A : Act) (X : World), A.defers = [] → ((J (List.range 576) X) ∨ ∃ k, k ≤ 576 ∧ Jx (List.range k) X) → bodyPost Try.prog fPr (fun e W' => (∃ v, e = .returned v) ∧ ((∃ xs, xs = List.range 576 ∧ J xs W') ∨ (∃ pre, (∃ k, k ≤ 576 ∧ pre = List.range k) ∧ Jx pre W'))) .ret A X := by
    intro A X hd hx
    refine ⟨hd, _, results_none rfl _ _ _, ⟨_, rfl⟩, ?_⟩
    rcases hx with hx | ⟨k, hk, hx⟩
    · exact .inl ⟨_, rfl, hx⟩
    · exact .inr ⟨_, ⟨k, hk, rfl⟩, hx⟩
  refine wpIn_seq (step0 (by kernel_rfl) (runP0 l) hst rfl fun A X hd hS hg => ?_)
  show (Code.block 0 (.loop pL0)).wpIn (wideR none) nn Try.prog _ A X
  refine wpIn_block (wpIn_loop (fun A X => ∃ i, i ≤ 24 ∧ HD0 i A X) (fun A _ => 24 - (intOf (A.tmps.getD 4 undef)).toNat) ⟨0, Nat.zero_le _, hd, hS, ab hJ0 hg⟩ ?_)
  clear hd hS hg hst hvr
  have mu0 : ∀ {i : Nat} {A : Act} {X : World}, SR (fun k => X.heap.size ≤ k) X nu0 (sP0 l i) [] A X nu0 → (intOf (A.tmps.getD 4 undef)).toNat = i := by
    intro i A X h
    have := h.tmps 4
    rw [show (sP0 l i).getD 4 .dead = .v (i64 i) from by kernel_rfl] at this
    simp only [VR] at this
    rw [this]
    simp [intOf]
  have mu2 : ∀ {i j : Nat} {A : Act} {X : World}, SR (fun k => X.heap.size ≤ k) X nu0 (sP2 l i j) [] A X nu0 → (intOf (A.tmps.getD 7 undef)).toNat = j := by
    intro i j A X h
    have := h.tmps 7
    rw [show (sP2 l i j).getD 7 .dead = .v (i64 j) from by kernel_rfl] at this
    simp only [VR] at this
    rw [this]
    simp [intOf]
  rintro A X ⟨i, hi, hd, hS, hj⟩
  have hmu0 := mu0 hS
  rw [loopP0]
  refine wpIn_seq (step0 (by kernel_rfl) (runP1 l i) hS hd fun A1 X1 hd1 hS1 hg1 => ?_)
  have hj1 := ab hj hg1
  have hc5 : A1.eval (.tmp 5) = .bool (decide ((i : Int) < 24)) := by
    have := hS1.tmps 5
    rw [show ((sP0 l i).set 5 (.v (.bool (decide ((i : Int) < 24))))).getD 5 .dead = .v (.bool (decide ((i : Int) < 24))) from by kernel_rfl] at this
    simp only [VR] at this
    exact this
  show (Code.seq (.cond (.tmp 5) .skip (.exit 0)) _).wpIn (wideR none) nn Try.prog _ A1 X1
  refine wpIn_seq (wpIn_cond hc5 ?_)
  rcases (Nat.lt_or_ge i 24).symm with hge | hlt
  · rw [if_neg (by simp; omega)]
    refine wpIn_exit ?_
    have : i = 24 := by omega
    subst this
    simp only [Exit.then, Exit.inBlock, if_true]
    refine fin A1 X1 hd1 (.inl ?_)
    exact hj1
  · rw [if_pos (by simp; omega)]
    refine wpIn_skip ?_
    show (Code.seq (.block 1 _) _).wpIn (wideR none) nn Try.prog _ A1 X1
    refine wpIn_seq (wpIn_block (wpIn_seq (step0 (by kernel_rfl) (runP2 l i _) hS1 hd1 fun A2 X2 hd2 hS2 hg2 => ?_)))
    show (Code.seq pR3 _).wpIn (wideR none) nn Try.prog _ A2 X2
    refine wpIn_seq (step0 (by kernel_rfl) (runP3 l i) hS2 hd2 fun A3 X3 hd3 hS3 hg3 => ?_)
    show (Code.block 2 (.loop pL2)).wpIn (wideR none) nn Try.prog _ A3 X3
    refine wpIn_block (wpIn_loop (fun A X => ∃ j, j ≤ 24 ∧ HD2 i j A X) (fun A _ => 24 - (intOf (A.tmps.getD 7 undef)).toNat) ⟨0, Nat.zero_le _, hd3, hS3, ab (ab hj1 hg2) hg3⟩ ?_)
    clear hd3 hS3 hg3 hd2 hS2 hg2 hj1 hd1 hS1 hg1 hj hS hd hc5
    rintro A4 X4 ⟨j, hjj, hd, hS, hj⟩
    have hmu2 := mu2 hS
    rw [loopP2]
    refine wpIn_seq (step0 (by kernel_rfl) (runP4 l i j) hS hd fun A5 X5 hd5 hS5 hg5 => ?_)
    have hj5 := ab hj hg5
    have hc8 : A5.eval (.tmp 8) = .bool (decide ((j : Int) < 24)) := by
      have := hS5.tmps 8
      rw [show ((sP2 l i j).set 8 (.v (.bool (decide ((j : Int) < 24))))).getD 8 .dead = .v (.bool (decide ((j : Int) < 24))) from by kernel_rfl] at this
      simp only [VR] at this
      exact this
    show (Code.seq (.cond (.tmp 8) .skip (.exit 2)) _).wpIn (wideR none) nn Try.prog _ A5 X5
    refine wpIn_seq (wpIn_cond hc8 ?_)
    rcases (Nat.lt_or_ge j 24).symm with hge | hlt2
    · rw [if_neg (by simp; omega)]
      refine wpIn_exit ?_
      have : j = 24 := by omega
      subst this
      simp only [Exit.then, Exit.inBlock, if_true]
      show pR8.wpIn (wideR none) nn Try.prog _ A5 X5
      refine step0 (T' := sP0 l (i + 1)) (lv := lv3 [0, 4] [] []) (by kernel_rfl) ?_ hS5 hd5 fun A6 X6 hd6 hS6 hg6 => ?_
      · have := runP8 l i 24 (decide (((24 : Nat) : Int) < 24))
        rw [show Go.Proofs.Ytmdcafhnjihckaa.W ((i : Int) + 1) = ((i + 1 : Nat) : Int) from by rw [w64_in (by omega) (by omega)]; omega] at this
        exact this
      · refine ⟨⟨i + 1, hlt, hd6, hS6, ?_⟩, ?_⟩
        · rw [show 24 * (i + 1) = 24 * i + 24 by omega]
          exact ab hj5 hg6
        · rw [mu0 hS6, hmu0]
          omega
    · rw [if_pos (by simp; omega)]
      refine wpIn_skip ?_
      show (Code.seq (.block 3 _) _).wpIn (wideR none) nn Try.prog _ A5 X5
      refine wpIn_seq (wpIn_block (wpIn_seq (step0 (by kernel_rfl) (runP5 l i j _) hS5 hd5 fun A6 X6 hd6 hS6 hg6 => ?_)))
      have hj6 := ab hj5 hg6
      show (Code.seq (.region 6 pO6 false) _).wpIn (wideR none) nn Try.prog _ A6 X6
      refine wpIn_seq (wpIn_region ?_)
      rw [pSize]
      have at6 : ∀ {t : Nat} {v : Value}, (sP6 l i j).getD t .dead = .v v → A6.eval (.tmp t) = v := fun {t v} h => by
        have := hS6.tmps t
        rw [h] at this
        simp only [VR] at this
        exact this
      have hsz : 17 ≤ A6.tmps.size := hS6.len
      have hp : 24 * i + j < 576 := by omega
      have hyl := hY (List.range (24 * i + j)) (24 * i + j) X6 hj6 (by rw [List.length_range]; exact hp)
      have htake : List.range (24 * i + j + 1) = List.range (24 * i + j) ++ [24 * i + j] := List.range_succ
      have hen : (enP (24 * i + j)).toArray = #[i64 i, i64 j] := by
        unfold enP
        rw [show (24 * i + j) / 24 = i by omega, show (24 * i + j) % 24 = j by omega]
      simp only [hen] at hyl
      rw [wpOpsIn_cons]
      refine move_op pOp_at0 pOp0.1 pOp0.2.1 (at6 (t := 0) (v := yv l) (by kernel_rfl)) ?_
      rw [pOp0.2.2, wpOpsIn_cons]
      have ev : ∀ {B : Act} {d t : Nat} {v : Value}, d ≠ t → (B.put (some d) v).eval (.tmp t) = B.eval (.tmp t) := fun {B d t v} hne => by
        show (B.put (some d) v).tmps.getD t undef = B.tmps.getD t undef
        simp [Act.put, Array.getD_eq_getD_getElem?, hne]
      have es : ∀ {B : Act} {d : Nat} {v : Value}, d < B.tmps.size → (B.put (some d) v).eval (.tmp d) = v := fun {B d v} hlt => by
        show (B.put (some d) v).tmps.getD d undef = v
        simp [Act.put, Array.getD_eq_getD_getElem?, hlt]
      have sz : ∀ {B : Act} {d : Nat} {v : Value}, (B.put (some d) v).tmps.size = B.tmps.size := fun {B d v} => put_size' ..
      refine move_op pOp_at1 pOp1.1 pOp1.2.1 (v := i64 i) ((ev (by decide)).trans (at6 (by kernel_rfl))) ?_
      rw [pOp1.2.2, wpOpsIn_cons]
      refine move_op pOp_at2 pOp2.1 pOp2.2.1 (v := i64 j) ((ev (by decide)).trans ((ev (by decide)).trans (at6 (by kernel_rfl)))) ?_
      rw [pOp2.2.2, wpOpsIn_cons]
      refine yield_op2 pOp_at3 pOp3.1 pOp3.2.1 (l := l) (v := i64 i) (u := i64 j) ((ev (by decide)).trans ((ev (by decide)).trans (es (by omega)))) ((ev (by decide)).trans (es (by rw [sz]; omega))) (es (by rw [sz, sz]; omega)) hyl ?_
      have after : ∀ (b : Bool) (X7 : World), SR (fun k => X7.heap.size ≤ k) X7 nu0 (sP7 l i j b (!b)) [] (((((A6.put (some 10) (yv l)).put (some 11) (i64 i)).put (some 12) (i64 j)).put (some 13) (.bool b)).put (some 14) (.bool (!b))) X7 nu0 := fun b X7 => by
        have h0 := sr_of X7 hS6.tmps hS6.len
        have h1 := SR.put (dst := some 10) (x := .v (yv l)) (v := yv l) h0 (by kernel_rfl) (Le.refl _) (by simp only [VR]) h0.heap h0.fr h0.dom
        have h2 := SR.put (dst := some 11) (x := .v (i64 i)) (v := i64 i) h1 (by kernel_rfl) (Le.refl _) (by simp only [VR]) h1.heap h1.fr h1.dom
        have h3 := SR.put (dst := some 12) (x := .v (i64 j)) (v := i64 j) h2 (by kernel_rfl) (Le.refl _) (by simp only [VR]) h2.heap h2.fr h2.dom
        have h4 := SR.put (dst := some 13) (x := .v (.bool b)) (v := .bool b) h3 (by kernel_rfl) (Le.refl _) (by simp only [VR]) h3.heap h3.fr h3.dom
        exact SR.put (dst := some 14) (x := .v (.bool (!b))) (v := .bool (!b)) h4 (by kernel_rfl) (Le.refl _) (by simp only [VR]) h4.heap h4.fr h4.dom
      rintro e X7 (⟨rfl, hj7, _⟩ | ⟨rfl, hjx⟩)
      · refine ⟨.bool true, rfl, ?_⟩
        rw [pOp3.2.2, wpOpsIn_cons]
        refine not_op pOp_at4 pOp4.1 pOp4.2.1 (b := true) (es (by rw [sz, sz, sz]; omega)) ?_
        rw [pOp4.2.2]
        show (Code.cond (.tmp 14) .ret .skip).wpIn (wideR none) nn Try.prog _ _ X7
        refine wpIn_cond_false (es (by rw [sz, sz, sz, sz]; omega)) (wpIn_skip ?_)
        show pR7.wpIn (wideR none) nn Try.prog _ _ X7
        refine step0 (T' := sP2 l i (j + 1)) (lv := lv3 [0, 2, 4, 7] [] []) (by kernel_rfl) ?_ (after true X7) (by rw [put_defers', put_defers', put_defers', put_defers', put_defers']; exact hd6) fun A8 X8 hd8 hS8 hg8 => ?_
        · have := runP7 l i j true (!true)
          rw [show Go.Proofs.Ytmdcafhnjihckaa.W ((j : Int) + 1) = ((j + 1 : Nat) : Int) from by rw [w64_in (by omega) (by omega)]; omega] at this
          exact this
        · refine ⟨⟨j + 1, hlt2, hd8, hS8, ?_⟩, ?_⟩
          · rw [← Nat.add_assoc, htake]
            exact ab hj7 hg8
          · rw [mu2 hS8, hmu2]
            omega
      · refine ⟨.bool false, rfl, ?_⟩
        rw [pOp3.2.2, wpOpsIn_cons]
        refine not_op pOp_at4 pOp4.1 pOp4.2.1 (b := false) (es (by rw [sz, sz, sz]; omega)) ?_
        rw [pOp4.2.2]
        show (Code.cond (.tmp 14) .ret .skip).wpIn (wideR none) nn Try.prog _ _ X7
        refine wpIn_cond_true (es (by rw [sz, sz, sz, sz]; omega)) (wpIn_ret (fin _ X7 (by rw [put_defers', put_defers', put_defers', put_defers', put_defers']; exact hd6) (.inr ⟨24 * i + j + 1, by omega, by rw [htake]; exact hjx⟩)))

end Go.Proofs.Ytmdcafhnjihckaa

/- Products of designs: CycTimes of both, DesignTimes of both: trees. Conditions: two lists of wheels. -/
namespace Go.Proofs.Ytmdcafhnjihckaa
open Go.RowKit
set_option maxRecDepth 100000

def gmCT (ok : (Nat → Int) → Bool) (mul : (Nat → Int) → (Nat → Int) → Nat → Int) : Gam := ext (ext g0 66 (specV (fOkc ok))) 127 (specV (fAdd2 mul))
/-- The product of two points, if they and it are valid. -/
def FctO (pr : (Nat → Int) → (Nat → Int) → Nat → Int) (ok : (Nat → Int) → (Nat → Int) → Bool) : List SA → Option FR
  | [.v (.agg ⟨[.int .i64 a0, .int .i64 a1, .int .i64 a2, .int .i64 a3, .int .i64 a4, .int .i64 a5, .int .i64 a6, .int .i64 a7]⟩), .v (.agg ⟨[.int .i64 b0, .int .i64 b1, .int .i64 b2, .int .i64 b3, .int .i64 b4, .int .i64 b5, .int .i64 b6, .int .i64 b7]⟩)] => some { val := .tup [.agg (cyC (pr (v8 a0 a1 a2 a3 a4 a5 a6 a7) (v8 b0 b1 b2 b3 b4 b5 b6 b7))), .v (.bool (ok (v8 a0 a1 a2 a3 a4 a5 a6 a7) (v8 b0 b1 b2 b3 b4 b5 b6 b7)))] }
  | _ => none
abbrev lvT2 : Ex → List Nat := lv3 [1, 6, 8, 22, 23, 24, 28, 29, 30] [1, 6, 22, 23, 24] [4, 5]
abbrev stT2 (m n k i j : Nat) : List AV := [.sl 1 9 0 0 n none, .own 2 k, .ptr 3 0 0 0, .sl 0 9 0 0 m none, .v (i64 m), .v (i64 i), .sl 1 9 0 0 n none, .v (i64 n), .v (i64 j)]
abbrev hpT0 (m : Nat) (f : Nat → Nat → Int) (n : Nat) (g : Nat → Nat → Int) (k : Nat) (h : Nat → Nat → Int) : List AB := [.row false m 9 (row9 f) 46, .row false n 9 (row9 g) 46, .row true k 9 (row9 h) 46]
abbrev hpT2 (m : Nat) (f : Nat → Nat → Int) (n : Nat) (g : Nat → Nat → Int) (k : Nat) (h : Nat → Nat → Int) (x : Nat → Int) : List AB := [.row false m 9 (row9 f) 46, .row false n 9 (row9 g) 46, .row true k 9 (row9 h) 46, .cells [.v (i64 (x 0)), .v (i64 (x 1)), .v (i64 (x 2)), .v (i64 (x 3)), .v (i64 (x 4)), .v (i64 (x 5)), .v (i64 (x 6)), .v (i64 (x 7)), .v (i64 (x 8))] 46]
abbrev hpTr (m : Nat) (f : Nat → Nat → Int) (n : Nat) (g : Nat → Nat → Int) : List AB := [.row false m 9 (row9 f) 46, .row false n 9 (row9 g) 46]
abbrev lvT0 : Ex → List Nat := lv3 [1, 6, 22, 23, 24] [6] [4, 5]
abbrev stT0 (m n k i : Nat) : List AV := [.sl 1 9 0 0 n none, .own 2 k, .sl 0 9 0 0 m none, .v (i64 m), .v (i64 i)]
noncomputable abbrev lamT2 (m : Nat) (f : Nat → Nat → Int) (n : Nat) (g : Nat → Nat → Int) (k : Nat) (h : Nat → Nat → Int) (x : Nat → Int) (i : Nat) (c : Bool) (k2 : Nat) (h2 : Nat → Nat → Int) : Nat → Option Sum := oneL 2 (atS 60 (lvT2 .normal) 2 (stT2 m n k i 0) (hpT2 m f n g k h x) (fun K => cond c (K .normal (mkT 0 60 ([1, 6, 22, 23, 24].zip (stT0 m n k2 i))) (hpT0 m f n g k2 h2)) (K .ret (mkT 0 60 [(4, .v (.slice none 0 0)), (5, .v (.bool false))]) (hpTr m f n g))))
noncomputable abbrev lamT0 (m : Nat) (f : Nat → Nat → Int) (n : Nat) (g : Nat → Nat → Int) (c : Bool) (k : Nat) (h : Nat → Nat → Int) : Nat → Option Sum := oneL 0 (atS 60 (lvT0 .normal) 2 (stT0 m n 0 0) (hpT0 m f n g 0 (wfun [])) (fun K => cond c (K .normal (mkT 0 60 [(6, .own 2 k)]) (hpT0 m f n g k h)) (K .ret (mkT 0 60 [(4, .v (.slice none 0 0)), (5, .v (.bool false))]) (hpTr m f n g))))
abbrev lvS2 : Ex → List Nat := lv3 [0, 1, 6, 7, 8] [0, 1, 6, 7] [4, 5]
abbrev stS2 (m n k i j : Nat) : List AV := [.sl 0 9 0 0 m none, .sl 1 9 0 0 n none, .own 2 k, .v (i64 i), .v (i64 j)]
abbrev lvS0 : Ex → List Nat := lv3 [0, 1, 6, 7] [6] [4, 5]
abbrev stS0 (m n k i : Nat) : List AV := [.sl 0 9 0 0 m none, .sl 1 9 0 0 n none, .own 2 k, .v (i64 i)]
abbrev hpSr (m : Nat) (f : Nat → Nat → Int) (n : Nat) (g : Nat → Nat → Int) : List AB := hpT0 m f n g 0 (wfun [])
noncomputable abbrev lamS2 (m : Nat) (f : Nat → Nat → Int) (n : Nat) (g : Nat → Nat → Int) (k : Nat) (h : Nat → Nat → Int) (i : Nat) (c : Bool) (k2 : Nat) (h2 : Nat → Nat → Int) : Nat → Option Sum := oneL 2 (atS 70 (lvS2 .normal) 2 (stS2 m n k i 0) (hpT0 m f n g k h) (fun K => cond c (K .normal (mkT 0 70 ([0, 1, 6, 7].zip (stS0 m n k2 i))) (hpT0 m f n g k2 h2)) (K .ret (mkT 0 70 [(4, .own 2 0), (5, .v (.bool false))]) (hpSr m f n g))))
noncomputable abbrev lamS0 (m : Nat) (f : Nat → Nat → Int) (n : Nat) (g : Nat → Nat → Int) (c : Bool) (k : Nat) (h : Nat → Nat → Int) : Nat → Option Sum := oneL 0 (atS 70 (lvS0 .normal) 2 (stS0 m n 0 0) (hpT0 m f n g 0 (wfun [])) (fun K => cond c (K .normal (mkT 0 70 [(6, .own 2 k)]) (hpT0 m f n g k h)) (K .ret (mkT 0 70 [(4, .own 2 0), (5, .v (.bool false))]) (hpSr m f n g))))
def gmS2 (okd : List Wh → Bool) (ti : List Wh → List Wh) (okt : List Wh → Bool) : Gam := ext (ext g0 61 (specR md_ws (FdvO okd))) 62 (specR md_ws (FtidyO ti okt))
end Go.Proofs.Ytmdcafhnjihckaa

/- Products of designs: CycTimes of both, DesignTimes of both. Conditions: two lists of wheels. -/
namespace Go.Proofs.Ytmdcafhnjihckaa
open Go.RowKit
set_option maxRecDepth 100000

def okM (a b : Nat → Int) : Bool := (cyOk (cyOf a) && cyOk (cyOf b)) && cyOk (cyOf (mulF a b))
def prF (a b : Nat → Int) : Nat → Int := bif okM a b then mulF a b else fun _ => 0
theorem gmCT_ok : GamOk Try.prog (gmCT (fun v => cyOk (cyOf v)) mulF) := by
  have e3 : fAdd2 mulF = f_times := by funext l; rfl
  unfold gmCT
  rw [fOkc_eq, e3]
  exact ext_ok (ext_ok g0_ok ok_cvI) ok_times
/-- The product of two wheels. -/
def prodW (x y : Wh) : Wh := ⟨IntKind.wrap IntKind.i64 (x.s + y.s), cyOf (prF x.r.f y.r.f)⟩
def okW2 (x y : Wh) : Bool := okM x.r.f y.r.f
def prodL (A B : List Wh) : List Wh := A.flatMap fun x => B.map (prodW x)
def okAll (A B : List Wh) : Bool := A.all fun x => B.all (okW2 x)
theorem prodL_snoc (A B : List Wh) (x : Wh) : prodL (A ++ [x]) B = prodL A B ++ B.map (prodW x) := by simp [prodL]
theorem okAll_snoc (A B : List Wh) (x : Wh) : okAll (A ++ [x]) B = (okAll A B && B.all (okW2 x)) := by simp [okAll]
theorem prodL_length (A B : List Wh) : (prodL A B).length = A.length * B.length := by
  induction A with
  | nil => simp [prodL]
  | cons x A ih =>
    have : prodL (x :: A) B = B.map (prodW x) ++ prodL A B := rfl
    rw [this, List.length_append, List.length_map, ih, List.length_cons, Nat.add_mul, Nat.one_mul, Nat.add_comm]
theorem prodL_in (A B : List Wh) : inW (prodL A B) := by
  intro w hw
  simp only [prodL, List.mem_flatMap, List.mem_map] at hw
  obtain ⟨x, _, y, _, rfl⟩ := hw
  refine cyOf_in fun k _ => ?_
  unfold prF
  cases okM x.r.f y.r.f with
  | true => exact w64_range _
  | false => show (-9223372036854775808 : Int) ≤ 0 ∧ (0 : Int) ≤ 9223372036854775807; omega
theorem okAll_no {A B : List Wh} {i : Nat} {f : Nat → Nat → Int} {m : Nat} (hA : A = listW f m) (hi : i < m) (h : B.all (okW2 (whOf (f i))) = false) : okAll A B = false := by
  subst hA
  cases e : okAll (listW f m) B with
  | false => rfl
  | true =>
    have := List.all_eq_true.1 e (whOf (f i)) (List.mem_of_getElem? (listW_get f hi))
    rw [h] at this
    cases this
theorem all_no {g : Nat → Nat → Int} {n j : Nat} {p : Wh → Bool} (hj : j < n) (h : p (whOf (g j)) = false) : (listW g n).all p = false := by
  cases e : (listW g n).all p with
  | false => rfl
  | true =>
    have := List.all_eq_true.1 e (whOf (g j)) (List.mem_of_getElem? (listW_get g hj))
    rw [h] at this
    cases this
end Go.Proofs.Ytmdcafhnjihckaa

/- DesignTimes of both. Conditions: two lists of wheels. -/
namespace Go.Proofs.Ytmdcafhnjihckaa
open Go.RowKit
set_option maxRecDepth 100000

/-- The lists are designs, and their product too. -/
def tmP (A B : List Wh) : Bool := (okD A && okD B) && okAll A B
def yesTm (A B : List Wh) : Bool := tmP A B && okT (prodL A B)
def tmT (A B : List Wh) : List Wh := tidyL (prodL A B)
def tmL (A B : List Wh) : List Wh := bif tmP A B then tidyL (prodL A B) else []
def FtmY (yes : List Wh → List Wh → Bool) (tt : List Wh → List Wh → List Wh) : List SA → Option FR
  | [.row m ga, .row n gb] => some { val := valY (tt (listW (itW ga) m) (listW (itW gb) n)), new := newY (tt (listW (itW ga) m) (listW (itW gb) n)), obl := [allW m ga, allW n gb, decide (m ≤ 2 ^ 38), decide (n ≤ 2 ^ 38), yes (listW (itW ga) m) (listW (itW gb) n)] }
  | _ => none
def FtmN (yes : List Wh → List Wh → Bool) : List SA → Option FR
  | [.row m ga, .row n gb] => some { val := valN, obl := [allW m ga, allW n gb, decide (m ≤ 2 ^ 38), decide (n ≤ 2 ^ 38), !yes (listW (itW ga) m) (listW (itW gb) n)] }
  | _ => none
def FtmS (ok : List Wh → List Wh → Bool) (tl : List Wh → List Wh → List Wh) : List SA → Option FR
  | [.row m ga, .row n gb] => some { val := .tup [.own 0 (tl (listW (itW ga) m) (listW (itW gb) n)).length, .v (.bool (ok (listW (itW ga) m) (listW (itW gb) n)))], new := [.row true (tl (listW (itW ga) m) (listW (itW gb) n)).length 9 (row9 (wfun (tl (listW (itW ga) m) (listW (itW gb) n)))) 46], obl := [allW m ga, allW n gb, decide (m ≤ 2 ^ 38), decide (n ≤ 2 ^ 38)] }
  | _ => none
theorem gmS2_ok : GamOk Try.prog (gmS2 okD tidyL okT) := by
  unfold gmS2
  rw [FtidyO_eq, FdvO_eq]
  exact ext_ok (ext_ok g0_ok ok_dv) ok_tidyS

end Go.Proofs.Ytmdcafhnjihckaa

/- impl.at, and the program's DesignAt: the reference's word. Conditions: a list of wheels. -/
namespace Go.Proofs.Ytmdcafhnjihckaa
open Go.RowKit
set_option maxRecDepth 100000

def gmKI (dv : (Nat → Nat → Int) → Int → Nat → Nat → Int) (dk : (Nat → Nat → Int) → Int → Nat → Bool) (tu : (Nat → Int) → Int → Nat → Int) : Gam := ext (ext g0 72 (specR [.val, .val] (FtuI tu))) 18 (specR md_wv (FDAo dv dk))
abbrev lvKI : Ex → List Nat := lv3 [0, 7, 8, 35] [] [4]
abbrev stKI (m : Nat) (fs sp : Int) (i : Nat) : List AV := [.sl 0 9 0 0 m none, .v (i64 fs), .v (i64 sp), .v (i64 i)]
abbrev hpK (m : Nat) (f : Nat → Nat → Int) : List AB := [.row false m 9 (row9 f) 46]
theorem rndKI (dv : (Nat → Nat → Int) → Int → Nat → Nat → Int) (dk : (Nat → Nat → Int) → Int → Nat → Bool) (tu : (Nat → Int) → Int → Nat → Int) (m : Nat) (f : Nat → Nat → Int) (fs sp : Int) (i : Nat) : execC Try.prog (gmKI dv dk tu) 100 noLam (loopAt 0 Try.f21) (mkT 0 70 ((lvKI .normal).zip (stKI m fs sp i))) (hpK m f) (leafV 70 lvKI 1)
    = bif decide ((↑i : Int) < (24 : Int)) then needs [Nat.ble ((0 : Nat) + m) m, allW m fun q ↦ row9 f ((0 : Nat) + q), decide (m ≤ (274877906944 : Nat)), Nat.ble ((0 : Nat) + m) m, allW m fun q ↦ row9 f ((0 : Nat) + q), decide (m ≤ (274877906944 : Nat))] (bif !dk (itW fun q ↦ row9 f ((0 : Nat) + q)) (↑i : Int) m then Res.out Ex.ret [AV.v (Value.bool false)] [AB.row false m (9 : Nat) (row9 f) (46 : TypeId)] else bif !dk (itW fun q ↦ row9 f ((0 : Nat) + q)) (Int.tmod (IntKind.wrap IntKind.i64 ((↑i : Int) + sp)) (24 : Int)) m then Res.out Ex.ret [AV.v (Value.bool false)] [AB.row false m (9 : Nat) (row9 f) (46 : TypeId)] else needs [inB (w8 (dv (itW fun q ↦ row9 f ((0 : Nat) + q)) (Int.tmod (IntKind.wrap IntKind.i64 ((↑i : Int) + sp)) (24 : Int)) m)), inR (IntKind.wrap IntKind.i64 (IntKind.wrap IntKind.i64 ((0 : Int) - sp) * fs)) (-9223372036854775808 : Int) (9223372036854775807 : Int)] (bif !(tu (w8 (dv (itW fun q ↦ row9 f ((0 : Nat) + q)) (Int.tmod (IntKind.wrap IntKind.i64 ((↑i : Int) + sp)) (24 : Int)) m)) (IntKind.wrap IntKind.i64 (IntKind.wrap IntKind.i64 ((0 : Int) - sp) * fs)) (0 : Nat) == dv (itW fun q ↦ row9 f ((0 : Nat) + q)) (↑i : Int) m (0 : Nat) && (tu (w8 (dv (itW fun q ↦ row9 f ((0 : Nat) + q)) (Int.tmod (IntKind.wrap IntKind.i64 ((↑i : Int) + sp)) (24 : Int)) m)) (IntKind.wrap IntKind.i64 (IntKind.wrap IntKind.i64 ((0 : Int) - sp) * fs)) (1 : Nat) == dv (itW fun q ↦ row9 f ((0 : Nat) + q)) (↑i : Int) m (1 : Nat) && (tu (w8 (dv (itW fun q ↦ row9 f ((0 : Nat) + q)) (Int.tmod (IntKind.wrap IntKind.i64 ((↑i : Int) + sp)) (24 : Int)) m)) (IntKind.wrap IntKind.i64 (IntKind.wrap IntKind.i64 ((0 : Int) - sp) * fs)) (2 : Nat) == dv (itW fun q ↦ row9 f ((0 : Nat) + q)) (↑i : Int) m (2 : Nat) && (tu (w8 (dv (itW fun q ↦ row9 f ((0 : Nat) + q)) (Int.tmod (IntKind.wrap IntKind.i64 ((↑i : Int) + sp)) (24 : Int)) m)) (IntKind.wrap IntKind.i64 (IntKind.wrap IntKind.i64 ((0 : Int) - sp) * fs)) (3 : Nat) == dv (itW fun q ↦ row9 f ((0 : Nat) + q)) (↑i : Int) m (3 : Nat) && (tu (w8 (dv (itW fun q ↦ row9 f ((0 : Nat) + q)) (Int.tmod (IntKind.wrap IntKind.i64 ((↑i : Int) + sp)) (24 : Int)) m)) (IntKind.wrap IntKind.i64 (IntKind.wrap IntKind.i64 ((0 : Int) - sp) * fs)) (4 : Nat) == dv (itW fun q ↦ row9 f ((0 : Nat) + q)) (↑i : Int) m (4 : Nat) && (tu (w8 (dv (itW fun q ↦ row9 f ((0 : Nat) + q)) (Int.tmod (IntKind.wrap IntKind.i64 ((↑i : Int) + sp)) (24 : Int)) m)) (IntKind.wrap IntKind.i64 (IntKind.wrap IntKind.i64 ((0 : Int) - sp) * fs)) (5 : Nat) == dv (itW fun q ↦ row9 f ((0 : Nat) + q)) (↑i : Int) m (5 : Nat) && (tu (w8 (dv (itW fun q ↦ row9 f ((0 : Nat) + q)) (Int.tmod (IntKind.wrap IntKind.i64 ((↑i : Int) + sp)) (24 : Int)) m)) (IntKind.wrap IntKind.i64 (IntKind.wrap IntKind.i64 ((0 : Int) - sp) * fs)) (6 : Nat) == dv (itW fun q ↦ row9 f ((0 : Nat) + q)) (↑i : Int) m (6 : Nat) && (tu (w8 (dv (itW fun q ↦ row9 f ((0 : Nat) + q)) (Int.tmod (IntKind.wrap IntKind.i64 ((↑i : Int) + sp)) (24 : Int)) m)) (IntKind.wrap IntKind.i64 (IntKind.wrap IntKind.i64 ((0 : Int) - sp) * fs)) (7 : Nat) == dv (itW fun q ↦ row9 f ((0 : Nat) + q)) (↑i : Int) m (7 : Nat) && true))))))) && true) then Res.out Ex.ret [AV.v (Value.bool false)] [AB.row false m (9 : Nat) (row9 f) (46 : TypeId)] else Res.out Ex.normal [AV.sl (0 : Nat) (9 : Nat) (0 : Nat) (0 : Nat) m none, AV.v (Value.int IntKind.i64 fs), AV.v (Value.int IntKind.i64 sp), AV.v (Value.int IntKind.i64 (IntKind.wrap IntKind.i64 ((↑i : Int) + (1 : Int))))] [AB.row false m (9 : Nat) (row9 f) (46 : TypeId)])) else Res.out (Ex.exit (0 : Nat)) [] [AB.row false m (9 : Nat) (row9 f) (46 : TypeId)] := by kernel_rfl

noncomputable abbrev lamKI (m : Nat) (f : Nat → Nat → Int) (fs sp : Int) (c : Bool) : Nat → Option Sum := oneL 0 (atS 70 (lvKI .normal) 1 (stKI m fs sp 0) (hpK m f) (fun K => cond c (K .normal (mkT 0 70 []) (hpK m f)) (K .ret (mkT 0 70 [(4, .v (.bool false))]) (hpK m f))))
theorem treeKY (yes : List Wh → Bool) (ti mp : List Wh → List Wh) (m : Nat) (f : Nat → Nat → Int) (n : Int) (fs sp : Int) (c : Bool) : execF Try.prog (ext g0 37 (specR md_ws (FdeYTi yes ti mp))) (lamKI m f fs sp c) 100 Try.f21 [.sl 0 9 0 0 m none, .v (i64 n)] (hpK m f) (packK 1)
    = needs [Nat.ble ((0 : Nat) + m) m, allW m fun q ↦ row9 f ((0 : Nat) + q), decide (m ≤ (274877906944 : Nat)), yes (listW (itW fun q ↦ row9 f ((0 : Nat) + q)) m)] (bif decide (n ≥ (1 : Int)) then needs [!decide (n = (0 : Int))] (bif !Int.tmod (24 : Int) n == (0 : Int) then Res.out Ex.ret [AV.v (Value.bool false)] [AB.row false m (9 : Nat) (row9 f) (46 : TypeId)] else bif decide ((↑(List.length (ti (mp (listW (itW fun q ↦ row9 f ((0 : Nat) + q)) m)))) : Int) > (0 : Int)) then needs [decide ((0 : Int) < (↑(List.length (ti (mp (listW (itW fun q ↦ row9 f ((0 : Nat) + q)) m)))) : Int)), decide ((0 : Nat) < List.length (ti (mp (listW (itW fun q ↦ row9 f ((0 : Nat) + q)) m)))), !decide (n = (0 : Int)), chk ([AV.sl (0 : Nat) (9 : Nat) (0 : Nat) (0 : Nat) m none, AV.v (Value.int IntKind.i64 (wfun (ti (mp (listW (itW fun q ↦ row9 f ((0 : Nat) + q)) m))) (0 : Nat) (0 : Nat))), AV.v (Value.int IntKind.i64 (IntKind.wrap IntKind.i64 (Int.tdiv (24 : Int) n))), AV.v (Value.int IntKind.i64 (0 : Int))] = stKI m fs sp (0 : Nat) ∧ Hsim [AB.row false m (9 : Nat) (row9 f) (46 : TypeId)] (hpK m f))] (bif c then Res.out Ex.ret [AV.v (Value.bool true)] [AB.row false m (9 : Nat) (row9 f) (46 : TypeId)] else Res.out Ex.ret [AV.v (Value.bool false)] [AB.row false m (9 : Nat) (row9 f) (46 : TypeId)]) else needs [!decide (n = (0 : Int)), chk ([AV.sl (0 : Nat) (9 : Nat) (0 : Nat) (0 : Nat) m none, AV.v (Value.int IntKind.i64 (0 : Int)), AV.v (Value.int IntKind.i64 (IntKind.wrap IntKind.i64 (Int.tdiv (24 : Int) n))), AV.v (Value.int IntKind.i64 (0 : Int))] = stKI m fs sp (0 : Nat) ∧ Hsim [AB.row false m (9 : Nat) (row9 f) (46 : TypeId)] (hpK m f))] (bif c then Res.out Ex.ret [AV.v (Value.bool true)] [AB.row false m (9 : Nat) (row9 f) (46 : TypeId)] else Res.out Ex.ret [AV.v (Value.bool false)] [AB.row false m (9 : Nat) (row9 f) (46 : TypeId)])) else Res.out Ex.ret [AV.v (Value.bool false)] [AB.row false m (9 : Nat) (row9 f) (46 : TypeId)]) := by kernel_rfl

theorem treeKN (yes : List Wh → Bool) (m : Nat) (f : Nat → Nat → Int) (n : Int) : execF Try.prog (ext g0 37 (specR md_ws (FdeNTi yes))) (oneL 0 errS) 100 Try.f21 [.sl 0 9 0 0 m none, .v (i64 n)] (hpK m f) (packK 1)
    = needs [Nat.ble ((0 : Nat) + m) m, allW m fun q ↦ row9 f ((0 : Nat) + q), decide (m ≤ (274877906944 : Nat)), !yes (listW (itW fun q ↦ row9 f ((0 : Nat) + q)) m)] (Res.out Ex.ret [AV.v (Value.bool false)] [AB.row false m (9 : Nat) (row9 f) (46 : TypeId)]) := by kernel_rfl

def gmKS (dv : (Nat → Nat → Int) → Int → Nat → Nat → Int) (dk : (Nat → Nat → Int) → Int → Nat → Bool) (md : Int → Int) (tu : (Nat → Int) → Int → Nat → Int) : Gam := ext (ext (ext g0 76 (specV (fMd md))) 77 (specR [.val, .val] (FtuO tu))) 75 (specR md_wv (FDAo dv dk))
abbrev lvKS : Ex → List Nat := lv3 [0, 7, 8, 9] [] [4]
theorem rndKS (dv : (Nat → Nat → Int) → Int → Nat → Nat → Int) (dk : (Nat → Nat → Int) → Int → Nat → Bool) (md : Int → Int) (tu : (Nat → Int) → Int → Nat → Int) (m : Nat) (f : Nat → Nat → Int) (fs sp : Int) (i : Nat) : execC Try.prog (gmKS dv dk md tu) 100 noLam (loopAt 0 Try.f22) (mkT 0 71 ((lvKS .normal).zip (stKI m fs sp i))) (hpK m f) (leafV 71 lvKS 1)
    = bif decide ((↑i : Int) < (24 : Int)) then needs [Nat.ble ((0 : Nat) + m) m, allW m fun q ↦ row9 f ((0 : Nat) + q), decide (m ≤ (274877906944 : Nat)), Nat.ble ((0 : Nat) + m) m, allW m fun q ↦ row9 f ((0 : Nat) + q), decide (m ≤ (274877906944 : Nat))] (bif !dk (itW fun q ↦ row9 f ((0 : Nat) + q)) (↑i : Int) m then Res.out Ex.ret [AV.v (Value.bool false)] [AB.row false m (9 : Nat) (row9 f) (46 : TypeId)] else bif !dk (itW fun q ↦ row9 f ((0 : Nat) + q)) (md (IntKind.wrap IntKind.i64 ((↑i : Int) + sp))) m then Res.out Ex.ret [AV.v (Value.bool false)] [AB.row false m (9 : Nat) (row9 f) (46 : TypeId)] else needs [decide (md (IntKind.wrap IntKind.i64 ((0 : Int) - IntKind.wrap IntKind.i64 (sp * fs))) ≤ (1099511627776 : Int))] (bif !(tu (w8 (dv (itW fun q ↦ row9 f ((0 : Nat) + q)) (md (IntKind.wrap IntKind.i64 ((↑i : Int) + sp))) m)) (md (IntKind.wrap IntKind.i64 ((0 : Int) - IntKind.wrap IntKind.i64 (sp * fs)))) (0 : Nat) == dv (itW fun q ↦ row9 f ((0 : Nat) + q)) (↑i : Int) m (0 : Nat) && (tu (w8 (dv (itW fun q ↦ row9 f ((0 : Nat) + q)) (md (IntKind.wrap IntKind.i64 ((↑i : Int) + sp))) m)) (md (IntKind.wrap IntKind.i64 ((0 : Int) - IntKind.wrap IntKind.i64 (sp * fs)))) (1 : Nat) == dv (itW fun q ↦ row9 f ((0 : Nat) + q)) (↑i : Int) m (1 : Nat) && (tu (w8 (dv (itW fun q ↦ row9 f ((0 : Nat) + q)) (md (IntKind.wrap IntKind.i64 ((↑i : Int) + sp))) m)) (md (IntKind.wrap IntKind.i64 ((0 : Int) - IntKind.wrap IntKind.i64 (sp * fs)))) (2 : Nat) == dv (itW fun q ↦ row9 f ((0 : Nat) + q)) (↑i : Int) m (2 : Nat) && (tu (w8 (dv (itW fun q ↦ row9 f ((0 : Nat) + q)) (md (IntKind.wrap IntKind.i64 ((↑i : Int) + sp))) m)) (md (IntKind.wrap IntKind.i64 ((0 : Int) - IntKind.wrap IntKind.i64 (sp * fs)))) (3 : Nat) == dv (itW fun q ↦ row9 f ((0 : Nat) + q)) (↑i : Int) m (3 : Nat) && (tu (w8 (dv (itW fun q ↦ row9 f ((0 : Nat) + q)) (md (IntKind.wrap IntKind.i64 ((↑i : Int) + sp))) m)) (md (IntKind.wrap IntKind.i64 ((0 : Int) - IntKind.wrap IntKind.i64 (sp * fs)))) (4 : Nat) == dv (itW fun q ↦ row9 f ((0 : Nat) + q)) (↑i : Int) m (4 : Nat) && (tu (w8 (dv (itW fun q ↦ row9 f ((0 : Nat) + q)) (md (IntKind.wrap IntKind.i64 ((↑i : Int) + sp))) m)) (md (IntKind.wrap IntKind.i64 ((0 : Int) - IntKind.wrap IntKind.i64 (sp * fs)))) (5 : Nat) == dv (itW fun q ↦ row9 f ((0 : Nat) + q)) (↑i : Int) m (5 : Nat) && (tu (w8 (dv (itW fun q ↦ row9 f ((0 : Nat) + q)) (md (IntKind.wrap IntKind.i64 ((↑i : Int) + sp))) m)) (md (IntKind.wrap IntKind.i64 ((0 : Int) - IntKind.wrap IntKind.i64 (sp * fs)))) (6 : Nat) == dv (itW fun q ↦ row9 f ((0 : Nat) + q)) (↑i : Int) m (6 : Nat) && (tu (w8 (dv (itW fun q ↦ row9 f ((0 : Nat) + q)) (md (IntKind.wrap IntKind.i64 ((↑i : Int) + sp))) m)) (md (IntKind.wrap IntKind.i64 ((0 : Int) - IntKind.wrap IntKind.i64 (sp * fs)))) (7 : Nat) == dv (itW fun q ↦ row9 f ((0 : Nat) + q)) (↑i : Int) m (7 : Nat) && true))))))) && true) then Res.out Ex.ret [AV.v (Value.bool false)] [AB.row false m (9 : Nat) (row9 f) (46 : TypeId)] else Res.out Ex.normal [AV.sl (0 : Nat) (9 : Nat) (0 : Nat) (0 : Nat) m none, AV.v (Value.int IntKind.i64 fs), AV.v (Value.int IntKind.i64 sp), AV.v (Value.int IntKind.i64 (IntKind.wrap IntKind.i64 ((↑i : Int) + (1 : Int))))] [AB.row false m (9 : Nat) (row9 f) (46 : TypeId)])) else Res.out (Ex.exit (0 : Nat)) [] [AB.row false m (9 : Nat) (row9 f) (46 : TypeId)] := by kernel_rfl

noncomputable abbrev lamKS (m : Nat) (f : Nat → Nat → Int) (fs sp : Int) (c : Bool) : Nat → Option Sum := oneL 0 (atS 71 (lvKS .normal) 1 (stKI m fs sp 0) (hpK m f) (fun K => cond c (K .normal (mkT 0 71 []) (hpK m f)) (K .ret (mkT 0 71 [(4, .v (.bool false))]) (hpK m f))))
theorem treeKS (okd : List Wh → Bool) (ti : List Wh → List Wh) (okt : List Wh → Bool) (m : Nat) (f : Nat → Nat → Int) (n : Int) (fs sp : Int) (c : Bool) : execF Try.prog (gmS2 okd ti okt) (lamKS m f fs sp c) 100 Try.f22 [.sl 0 9 0 0 m none, .v (i64 n)] (hpK m f) (packK 1)
    = needs [Nat.ble ((0 : Nat) + m) m, allW m fun q ↦ row9 f ((0 : Nat) + q), decide (m ≤ (549755813888 : Nat))] (bif !okd (listW (itW fun q ↦ row9 f ((0 : Nat) + q)) m) then Res.out Ex.ret [AV.v (Value.bool false)] [AB.row false m (9 : Nat) (row9 f) (46 : TypeId)] else needs [Nat.ble ((0 : Nat) + m) m, allW m fun q ↦ row9 f ((0 : Nat) + q), decide (m ≤ (274877906944 : Nat))] (bif !okt (listW (itW fun q ↦ row9 f ((0 : Nat) + q)) m) then Res.out Ex.ret [AV.v (Value.bool false)] [AB.row false m (9 : Nat) (row9 f) (46 : TypeId)] else bif decide (n ≥ (1 : Int)) then bif decide (n ≤ (24 : Int)) then needs [!decide (n = (0 : Int))] (bif !Int.tmod (24 : Int) n == (0 : Int) then Res.out Ex.ret [AV.v (Value.bool false)] [AB.row false m (9 : Nat) (row9 f) (46 : TypeId)] else bif decide ((↑(List.length (ti (listW (itW fun q ↦ row9 f ((0 : Nat) + q)) m))) : Int) > (0 : Int)) then needs [decide ((0 : Int) < (↑(List.length (ti (listW (itW fun q ↦ row9 f ((0 : Nat) + q)) m))) : Int)), decide ((0 : Nat) < List.length (ti (listW (itW fun q ↦ row9 f ((0 : Nat) + q)) m))), !decide (n = (0 : Int)), chk ([AV.sl (0 : Nat) (9 : Nat) (0 : Nat) (0 : Nat) m none, AV.v (Value.int IntKind.i64 (wfun (ti (listW (itW fun q ↦ row9 f ((0 : Nat) + q)) m)) (0 : Nat) (0 : Nat))), AV.v (Value.int IntKind.i64 (IntKind.wrap IntKind.i64 (Int.tdiv (24 : Int) n))), AV.v (Value.int IntKind.i64 (0 : Int))] = stKI m fs sp (0 : Nat) ∧ Hsim [AB.row false m (9 : Nat) (row9 f) (46 : TypeId)] (hpK m f))] (bif c then Res.out Ex.ret [AV.v (Value.bool true)] [AB.row false m (9 : Nat) (row9 f) (46 : TypeId)] else Res.out Ex.ret [AV.v (Value.bool false)] [AB.row false m (9 : Nat) (row9 f) (46 : TypeId)]) else needs [!decide (n = (0 : Int)), chk ([AV.sl (0 : Nat) (9 : Nat) (0 : Nat) (0 : Nat) m none, AV.v (Value.int IntKind.i64 (0 : Int)), AV.v (Value.int IntKind.i64 (IntKind.wrap IntKind.i64 (Int.tdiv (24 : Int) n))), AV.v (Value.int IntKind.i64 (0 : Int))] = stKI m fs sp (0 : Nat) ∧ Hsim [AB.row false m (9 : Nat) (row9 f) (46 : TypeId)] (hpK m f))] (bif c then Res.out Ex.ret [AV.v (Value.bool true)] [AB.row false m (9 : Nat) (row9 f) (46 : TypeId)] else Res.out Ex.ret [AV.v (Value.bool false)] [AB.row false m (9 : Nat) (row9 f) (46 : TypeId)])) else Res.out Ex.ret [AV.v (Value.bool false)] [AB.row false m (9 : Nat) (row9 f) (46 : TypeId)] else Res.out Ex.ret [AV.v (Value.bool false)] [AB.row false m (9 : Nat) (row9 f) (46 : TypeId)])) := by kernel_rfl

end Go.Proofs.Ytmdcafhnjihckaa

/- DesignAt of the program; DesignClosed of both: the whole. Conditions: a list of wheels. -/
namespace Go.Proofs.Ytmdcafhnjihckaa
open Go.RowKit
set_option maxRecDepth 100000

/-- The same eight numbers. -/
def eq8 (a b : Nat → Int) : Bool := (a 0 == b 0 && (a 1 == b 1 && (a 2 == b 2 && (a 3 == b 3 && (a 4 == b 4 && (a 5 == b 5 && (a 6 == b 6 && (a 7 == b 7 && true)))))))) && true
def clK (fs sp : Int) : Int := IntKind.wrap IntKind.i64 (0 - sp * fs)
/-- At this turn the point is not turned onto the next one. -/
def badK (f : Nat → Nat → Int) (m : Nat) (fs sp : Int) (i : Nat) : Bool := bif !daOk f i m then true else bif !daOk f (((i : Int) + sp) % 24) m then true else !(eq8 (turnedF (w8 (daV f (((i : Int) + sp) % 24) m)) (clK fs sp % 24).toNat) (daV f i m))
theorem clK_I (fs sp : Int) : IntKind.wrap IntKind.i64 (IntKind.wrap IntKind.i64 (0 - sp) * fs) = clK fs sp := by
  show W (W (0 - sp) * fs) = W (0 - sp * fs)
  rw [w64_mul_l, Int.sub_mul, Int.zero_mul]
theorem clK_S (fs sp : Int) : IntKind.wrap IntKind.i64 (0 - IntKind.wrap IntKind.i64 (sp * fs)) = clK fs sp := w64_sub_r _ _
theorem gmKI_ok : GamOk Try.prog (gmKI daV daOk tuF) := ext_ok (ext_ok g0_ok ok_tuI) ok_DAI
theorem gmKS_ok : GamOk Try.prog (gmKS daV daOk (fun n => n % 24) (fun a n => turnedF a n.toNat)) := by
  unfold gmKS
  rw [fMd_eq, FtuO_eq, FDAo_eq]
  exact ext_ok (ext_ok (ext_ok g0_ok ok_l1Mod) ok_turnedS) ok_DA
theorem sumKI (m : Nat) (f : Nat → Nat → Int) (fs sp : Int) (hm : m ≤ 2 ^ 38) (hsp : 0 ≤ sp ∧ sp ≤ 24) :
    SumOk Try.prog 1 (.block 0 (.loop (loopAt 0 Try.f21))) (atS 70 (lvKI .normal) 1 (stKI m fs sp 0) (hpK m f) (fun K => cond (noneTo (badK f m fs sp) 24) (K .normal (mkT 0 70 []) (hpK m f)) (K .ret (mkT 0 70 [(4, .v (.bool false))]) (hpK m f)))) := by
  refine for_at gmKI_ok (n := 100) (m := 1) (lv := lvKI) (fun i => stKI m fs sp i) (fun _ => hpK m f) (fun i => noneTo (badK f m fs sp) i = true) 24 (fun _ => noLam) (lv3_ris rfl rfl rfl) (Nat.le_refl _) rfl fun K Q hk i hi him => ⟨noLam_ok _ _ _, ?_⟩
  rw [rndKI]
  refine good_cond (fun c1 => ?_) fun c1 => ?_
  · have c1 := of_decide_eq_true c1
    have c1' : i < 24 := by omega
    have bad : badK f m fs sp i = true → GoodQ (.out .ret [.v (.bool false)] [.row false m 9 (row9 f) 46]) (RoundV 70 0 lvKI (fun i => stKI m fs sp i) (fun _ => hpK m f) (fun s' => s' = i + 1 ∧ i < 24 ∧ noneTo (badK f m fs sp) (i + 1) = true) K Q) := fun hb => by
      refine good_out ⟨_, Hsim.refl _, ?_⟩
      rw [noneTo_no c1' hb] at hk
      exact hk
    have e1 : Int.tmod (IntKind.wrap IntKind.i64 ((i : Int) + sp)) 24 = ((i : Int) + sp) % 24 := by
      rw [wr_in (by omega), Int.tmod_eq_emod_of_nonneg (by omega)]
    simp only [row0, daOk_row, daV_row, e1, clK_I]
    rw [wr_in (x := (i : Int) + 1) (by omega)]
    refine good_needs (by simp only [ob_cons, ob_nil, and_true, decide_eq_true_eq, Nat.ble_eq, allW_row, true_and]; omega) (good_cond (fun q => ?_) fun q => ?_)
    · exact bad (by unfold badK; rw [q]; rfl)
    · refine good_cond (fun q2 => ?_) fun q2 => ?_
      · exact bad (by unfold badK; rw [q, q2]; rfl)
      · refine good_needs (by simp only [ob_cons, ob_nil, and_true]; exact ⟨daV_in _ _ _, inR_iff.2 (w64_range _)⟩) (good_cond (fun q3 => ?_) fun q3 => ?_)
        · exact bad (by unfold badK; rw [q, q2]; exact q3)
        · exact good_out ⟨i + 1, ⟨rfl, c1', noneTo_succ hi (by unfold badK; rw [q, q2]; exact q3)⟩, rfl, Hsim.refl _⟩
  · have c1 := of_decide_eq_false c1
    have : i = 24 := by omega
    subst this
    refine good_out ⟨_, Hsim.refl _, ?_⟩
    rw [if_pos rfl]
    rw [hi] at hk
    exact hk

theorem sumKS (m : Nat) (f : Nat → Nat → Int) (fs sp : Int) (hm : m ≤ 2 ^ 38) (hsp : 0 ≤ sp ∧ sp ≤ 24) :
    SumOk Try.prog 1 (.block 0 (.loop (loopAt 0 Try.f22))) (atS 71 (lvKS .normal) 1 (stKI m fs sp 0) (hpK m f) (fun K => cond (noneTo (badK f m fs sp) 24) (K .normal (mkT 0 71 []) (hpK m f)) (K .ret (mkT 0 71 [(4, .v (.bool false))]) (hpK m f)))) := by
  refine for_at gmKS_ok (n := 100) (m := 1) (lv := lvKS) (fun i => stKI m fs sp i) (fun _ => hpK m f) (fun i => noneTo (badK f m fs sp) i = true) 24 (fun _ => noLam) (lv3_ris rfl rfl rfl) (Nat.le_refl _) rfl fun K Q hk i hi him => ⟨noLam_ok _ _ _, ?_⟩
  rw [rndKS]
  refine good_cond (fun c1 => ?_) fun c1 => ?_
  · have c1 := of_decide_eq_true c1
    have c1' : i < 24 := by omega
    have bad : badK f m fs sp i = true → GoodQ (.out .ret [.v (.bool false)] [.row false m 9 (row9 f) 46]) (RoundV 71 0 lvKS (fun i => stKI m fs sp i) (fun _ => hpK m f) (fun s' => s' = i + 1 ∧ i < 24 ∧ noneTo (badK f m fs sp) (i + 1) = true) K Q) := fun hb => by
      refine good_out ⟨_, Hsim.refl _, ?_⟩
      rw [noneTo_no c1' hb] at hk
      exact hk
    have e1 : IntKind.wrap IntKind.i64 ((i : Int) + sp) = (i : Int) + sp := wr_in (by omega)
    simp only [row0, daOk_row, daV_row, e1, clK_S]
    rw [wr_in (x := (i : Int) + 1) (by omega)]
    refine good_needs (by simp only [ob_cons, ob_nil, and_true, decide_eq_true_eq, Nat.ble_eq, allW_row, true_and]; omega) (good_cond (fun q => ?_) fun q => ?_)
    · exact bad (by unfold badK; rw [q]; rfl)
    · refine good_cond (fun q2 => ?_) fun q2 => ?_
      · exact bad (by unfold badK; rw [q, q2]; rfl)
      · refine good_needs (by simp only [ob_cons, ob_nil, and_true]; exact decide_eq_true (by omega)) (good_cond (fun q3 => ?_) fun q3 => ?_)
        · exact bad (by unfold badK; rw [q, q2]; exact q3)
        · exact good_out ⟨i + 1, ⟨rfl, c1', noneTo_succ hi (by unfold badK; rw [q, q2]; exact q3)⟩, rfl, Hsim.refl _⟩
  · have c1 := of_decide_eq_false c1
    have : i = 24 := by omega
    subst this
    refine good_out ⟨_, Hsim.refl _, ?_⟩
    rw [if_pos rfl]
    rw [hi] at hk
    exact hk

/-- The first speed. -/
def fsT (T : List Wh) : Int := bif decide ((T.length : Int) > 0) then wfun T 0 0 else 0
def spN (n : Int) : Int := IntKind.wrap IntKind.i64 (Int.tdiv 24 n)
def closV (f : Nat → Nat → Int) (m : Nat) (n : Int) (T : List Wh) : Bool := (decide (n ≥ 1) && (decide (n ≤ 24) && (Int.tmod 24 n == 0))) && noneTo (badK f m (fsT T) (spN n)) 24
theorem sp_in : ∀ k : Nat, k < 25 → 0 ≤ spN k ∧ spN k ≤ 24 := by decide +kernel
theorem spN_in {n : Int} (h1 : n ≥ 1) (h2 : n ≤ 24) : 0 ≤ spN n ∧ spN n ≤ 24 := by
  obtain ⟨k, rfl⟩ := Int.eq_ofNat_of_zero_le (show 0 ≤ n by omega)
  exact sp_in k (by omega)
theorem map_Ti (L : List Wh) : mpTi L = L := by
  show L.map chTi = L
  exact List.map_id'' (fun _ => rfl) L
theorem yesTi_eq (L : List Wh) : yesTi L = (okD L && okT L) := by
  have := map_Ti L
  unfold yesTi
  rw [show L.map chTi = L from this]
def FclY (yes : List Wh → Bool) (cl : (Nat → Nat → Int) → Nat → Int → Bool) : List SA → Option FR
  | [.row m g, .v (.int .i64 n)] => some { val := .v (.bool (cl (itW g) m n)), obl := [allW m g, decide (m ≤ 2 ^ 38), yes (listW (itW g) m)] }
  | _ => none
def FclN (yes : List Wh → Bool) : List SA → Option FR
  | [.row m g, .v (.int .i64 _)] => some { val := .v (.bool false), obl := [allW m g, decide (m ≤ 2 ^ 38), !yes (listW (itW g) m)] }
  | _ => none
def FclS (yes : List Wh → Bool) (cl : (Nat → Nat → Int) → Nat → Int → Bool) : List SA → Option FR
  | [.row m g, .v (.int .i64 n)] => some { val := .v (.bool (yes (listW (itW g) m) && cl (itW g) m n)), obl := [allW m g, decide (m ≤ 2 ^ 38)] }
  | _ => none
def clT (f : Nat → Nat → Int) (m : Nat) (n : Int) : Bool := closV f m n (tidyL (listW f m))
theorem ok_clY : SpecOk Try.prog 21 (specR md_wv (FclY yesTi clT)) := by
  refine specR_hr (ext_ok g0_ok ok_deYTi) Try.func21 rfl fun sas fr hF ho => ?_
  unfold FclY at hF
  split at hF
  · rename_i m g n
    cases hF
    simp only [ob_cons] at ho
    obtain ⟨h1, h2, h3, _⟩ := ho
    have hm := of_decide_eq_true h2
    have fin : ∀ b, clT (itW g) m n = b → GoodQ (.out .ret [.v (.bool b)] [.row false m 9 (row9 (itW g)) 46]) (GivR (abP md_wv [.row m g, .v (.int .i64 n)] []) { val := .v (.bool (clT (itW g) m n)), obl := [allW m g, decide (m ≤ 2 ^ 38), yesTi (listW (itW g) m)] }) := fun b hb =>
      good_out ⟨_, rfl, by rw [hb], .cons (ABeq.row fun j hj => (allW_get h1 j hj).symm) .nil⟩
    have ob : obls [Nat.ble (0 + m) m, allW m (row9 (itW g)), decide (m ≤ 274877906944), yesTi (listW (itW g) m)] = true := by simp only [ob_cons, ob_nil, and_true, decide_eq_true_eq, Nat.ble_eq, allW_row, true_and]; exact ⟨by omega, by omega, h3⟩
    by_cases hn : (n ≥ 1 ∧ n ≤ 24) ∧ (Int.tmod 24 n == 0) = true
    · obtain ⟨⟨n1, n2⟩, n3⟩ := hn
      refine ⟨hpK m (itW g), lamKI m (itW g) (fsT (tidyL (listW (itW g) m))) (spN n) (noneTo (badK (itW g) m (fsT (tidyL (listW (itW g) m))) (spN n)) 24), 100, .cons (ABeq.row fun j hj => allW_get h1 j hj) .nil, lam1 (by kernel_rfl) (sumKI m (itW g) _ _ hm (spN_in n1 n2)), ?_⟩
      show GoodQ (execF Try.prog (ext g0 37 (specR md_ws (FdeYTi yesTi tidyL mpTi))) (lamKI m (itW g) (fsT (tidyL (listW (itW g) m))) (spN n) (noneTo (badK (itW g) m (fsT (tidyL (listW (itW g) m))) (spN n)) 24)) 100 Try.f21 [.sl 0 9 0 0 m none, .v (i64 n)] (hpK m (itW g)) (packK 1)) _
      rw [treeKY, row0, listW_itW, map_Ti]
      have en : (!decide (n = 0)) = true := by
        rw [decide_eq_false (by omega)]
        rfl
      have ec : clT (itW g) m n = noneTo (badK (itW g) m (fsT (tidyL (listW (itW g) m))) (spN n)) 24 := by
        unfold clT closV
        rw [decide_eq_true n1, decide_eq_true n2, n3]
        rfl
      refine good_needs ob (good_true (decide_eq_true n1) (good_needs (by rw [ob_cons]; exact ⟨en, rfl⟩) (good_false (by rw [n3]; rfl) (good_cond (fun q => ?_) fun q => ?_))))
      · have q' := of_decide_eq_true q
        have ef : fsT (tidyL (listW (itW g) m)) = wfun (tidyL (listW (itW g) m)) 0 0 := by unfold fsT; rw [q]; rfl
        refine good_needs ?_ (good_cond (fun q2 => fin true (ec.trans q2)) fun q2 => fin false (ec.trans q2))
        simp only [ob_cons, ob_nil, and_true]
        exact ⟨decide_eq_true (by omega), decide_eq_true (by omega), en, chk_of ⟨by rw [ef]; rfl, Hsim.refl _⟩⟩
      · have ef : fsT (tidyL (listW (itW g) m)) = 0 := by unfold fsT; rw [q]; rfl
        refine good_needs ?_ (good_cond (fun q2 => fin true (ec.trans q2)) fun q2 => fin false (ec.trans q2))
        simp only [ob_cons, ob_nil, and_true]
        exact ⟨en, chk_of ⟨by rw [ef]; rfl, Hsim.refl _⟩⟩
    · have ec : clT (itW g) m n = false := by
        unfold clT closV
        cases d1 : decide (n ≥ 1) with
        | false => rfl
        | true =>
          cases d2 : decide (n ≤ 24) with
          | false => rfl
          | true =>
            cases d3 : (Int.tmod 24 n == 0) with
            | false => rfl
            | true => exact (hn ⟨⟨of_decide_eq_true d1, of_decide_eq_true d2⟩, d3⟩).elim
      refine ⟨hpK m (itW g), lamKI m (itW g) 0 0 (noneTo (badK (itW g) m 0 0) 24), 100, .cons (ABeq.row fun j hj => allW_get h1 j hj) .nil, lam1 (by kernel_rfl) (sumKI m (itW g) 0 0 hm ⟨by omega, by omega⟩), ?_⟩
      show GoodQ (execF Try.prog (ext g0 37 (specR md_ws (FdeYTi yesTi tidyL mpTi))) (lamKI m (itW g) 0 0 (noneTo (badK (itW g) m 0 0) 24)) 100 Try.f21 [.sl 0 9 0 0 m none, .v (i64 n)] (hpK m (itW g)) (packK 1)) _
      rw [treeKY, row0, listW_itW, map_Ti]
      refine good_needs ob (good_cond (fun q => ?_) fun q => fin false ec)
      have n1 := of_decide_eq_true q
      have en : (!decide (n = 0)) = true := by
        rw [decide_eq_false (by omega)]
        rfl
      refine good_needs (by rw [ob_cons]; exact ⟨en, rfl⟩) (good_true ?_ (fin false ec))
      cases d3 : (Int.tmod 24 n == 0) with
      | false => rfl
      | true =>
        exfalso
        refine hn ⟨⟨n1, ?_⟩, d3⟩
        rcases Int.lt_or_le 24 n with h | h
        · have e := beq_iff_eq.1 d3
          rw [Int.tmod_eq_emod_of_nonneg (by omega), Int.emod_eq_of_lt (by omega) h] at e
          omega
        · exact h
  · cases hF
theorem ok_clN : SpecOk Try.prog 21 (specR md_wv (FclN yesTi)) := by
  refine specR_hr (ext_ok g0_ok ok_deNTi) Try.func21 rfl fun sas fr hF ho => ?_
  unfold FclN at hF
  split at hF
  · rename_i m g n
    cases hF
    simp only [ob_cons] at ho
    obtain ⟨h1, h2, h3, _⟩ := ho
    have hm := of_decide_eq_true h2
    refine ⟨hpK m (itW g), oneL 0 errS, 100, .cons (ABeq.row fun j hj => allW_get h1 j hj) .nil, lam1 (c := loopAt 0 Try.f21) (by kernel_rfl) errS_ok, ?_⟩
    show GoodQ (execF Try.prog (ext g0 37 (specR md_ws (FdeNTi yesTi))) (oneL 0 errS) 100 Try.f21 [.sl 0 9 0 0 m none, .v (i64 n)] (hpK m (itW g)) (packK 1)) _
    rw [treeKN, row0, listW_itW]
    exact good_needs (by simp only [ob_cons, ob_nil, and_true, decide_eq_true_eq, Nat.ble_eq, allW_row, true_and]; exact ⟨by omega, by omega, h3⟩) (good_out ⟨_, rfl, rfl, .cons (ABeq.row fun j hj => (allW_get h1 j hj).symm) .nil⟩)
  · cases hF
theorem ok_clS : SpecOk Try.prog 22 (specR md_wv (FclS yesTi clT)) := by
  refine specR_hr gmS2_ok Try.func22 rfl fun sas fr hF ho => ?_
  unfold FclS at hF
  split at hF
  · rename_i m g n
    cases hF
    simp only [ob_cons] at ho
    obtain ⟨h1, h2, _⟩ := ho
    have hm := of_decide_eq_true h2
    have fin : ∀ b, (yesTi (listW (itW g) m) && clT (itW g) m n) = b → GoodQ (.out .ret [.v (.bool b)] [.row false m 9 (row9 (itW g)) 46]) (GivR (abP md_wv [.row m g, .v (.int .i64 n)] []) { val := .v (.bool (yesTi (listW (itW g) m) && clT (itW g) m n)), obl := [allW m g, decide (m ≤ 2 ^ 38)] }) := fun b hb =>
      good_out ⟨_, rfl, by rw [hb], .cons (ABeq.row fun j hj => (allW_get h1 j hj).symm) .nil⟩
    have ey : yesTi (listW (itW g) m) = (okD (listW (itW g) m) && okT (listW (itW g) m)) := by
      have := map_Ti (listW (itW g) m)
      unfold yesTi
      rw [show (listW (itW g) m).map chTi = listW (itW g) m from this]
    have ob : ∀ k : Nat, m ≤ k → obls [Nat.ble (0 + m) m, allW m (row9 (itW g)), decide (m ≤ k)] = true := fun k hk => by
      simp only [ob_cons, ob_nil, and_true, decide_eq_true_eq, Nat.ble_eq, allW_row, true_and]
      omega
    have run : ∀ fs sp, 0 ≤ sp ∧ sp ≤ 24 → ((n ≥ 1 ∧ n ≤ 24) ∧ (Int.tmod 24 n == 0) = true → fs = fsT (tidyL (listW (itW g) m)) ∧ sp = spN n) → GoodQ (execF Try.prog (gmS2 okD tidyL okT) (lamKS m (itW g) fs sp (noneTo (badK (itW g) m fs sp) 24)) 100 Try.f22 [.sl 0 9 0 0 m none, .v (i64 n)] (hpK m (itW g)) (packK 1)) (GivR (abP md_wv [.row m g, .v (.int .i64 n)] []) { val := .v (.bool (yesTi (listW (itW g) m) && clT (itW g) m n)), obl := [allW m g, decide (m ≤ 2 ^ 38)] }) := by
      intro fs sp _ hfs
      rw [treeKS, row0, listW_itW]
      refine good_needs (ob _ (by omega)) (good_cond (fun q => ?_) fun q => ?_)
      · have q' : (!okD (listW (itW g) m)) = true := q
        exact fin false (by rw [ey, show okD (listW (itW g) m) = false by simpa using q']; rfl)
      · have q' : (!okD (listW (itW g) m)) = false := q
        have qd : okD (listW (itW g) m) = true := by simpa using q'
        refine good_needs (ob _ (by omega)) (good_cond (fun q => ?_) fun q => ?_)
        · have q' : (!okT (listW (itW g) m)) = true := q
          exact fin false (by rw [ey, qd, show okT (listW (itW g) m) = false by simpa using q']; rfl)
        · have q' : (!okT (listW (itW g) m)) = false := q
          have qt : okT (listW (itW g) m) = true := by simpa using q'
          have ey2 : yesTi (listW (itW g) m) = true := by rw [ey, qd, qt]; rfl
          have e0 : (yesTi (listW (itW g) m) && clT (itW g) m n) = clT (itW g) m n := by rw [ey2, Bool.true_and]
          refine good_cond (fun d1 => ?_) fun d1 => fin false (by rw [e0, clT, closV, d1]; rfl)
          refine good_cond (fun d2 => ?_) fun d2 => fin false (by rw [e0, clT, closV, d1, d2]; rfl)
          have n1 := of_decide_eq_true d1
          have n2 := of_decide_eq_true d2
          have en : (!decide (n = 0)) = true := by
            rw [decide_eq_false (by omega)]
            rfl
          refine good_needs (by rw [ob_cons]; exact ⟨en, rfl⟩) (good_cond (fun d3 => ?_) fun d3 => ?_)
          · have d3' : (!(Int.tmod 24 n == 0)) = true := d3
            exact fin false (by rw [e0, clT, closV, d1, d2, show (Int.tmod 24 n == 0) = false by simpa using d3']; rfl)
          · have d3' : (!(Int.tmod 24 n == 0)) = false := d3
            have n3 : (Int.tmod 24 n == 0) = true := by
              cases h : (Int.tmod 24 n == 0) with
              | true => rfl
              | false => rw [h] at d3'; cases d3'
            obtain ⟨rfl, rfl⟩ := hfs ⟨⟨n1, n2⟩, n3⟩
            have ec : (yesTi (listW (itW g) m) && clT (itW g) m n) = noneTo (badK (itW g) m (fsT (tidyL (listW (itW g) m))) (spN n)) 24 := by
              rw [e0, clT, closV, d1, d2, n3]
              rfl
            refine good_cond (fun q => ?_) fun q => ?_
            · have q' := of_decide_eq_true q
              have ef : fsT (tidyL (listW (itW g) m)) = wfun (tidyL (listW (itW g) m)) 0 0 := by unfold fsT; rw [q]; rfl
              refine good_needs ?_ (good_cond (fun q2 => fin true (ec.trans q2)) fun q2 => fin false (ec.trans q2))
              simp only [ob_cons, ob_nil, and_true]
              exact ⟨decide_eq_true (by omega), decide_eq_true (by omega), en, chk_of ⟨by rw [ef]; rfl, Hsim.refl _⟩⟩
            · have ef : fsT (tidyL (listW (itW g) m)) = 0 := by unfold fsT; rw [q]; rfl
              refine good_needs ?_ (good_cond (fun q2 => fin true (ec.trans q2)) fun q2 => fin false (ec.trans q2))
              simp only [ob_cons, ob_nil, and_true]
              exact ⟨en, chk_of ⟨by rw [ef]; rfl, Hsim.refl _⟩⟩
    by_cases hn : n ≥ 1 ∧ n ≤ 24
    · exact ⟨hpK m (itW g), _, 100, .cons (ABeq.row fun j hj => allW_get h1 j hj) .nil, lam1 (by kernel_rfl) (sumKS m (itW g) (fsT (tidyL (listW (itW g) m))) (spN n) hm (spN_in hn.1 hn.2)), run _ _ (spN_in hn.1 hn.2) fun _ => ⟨rfl, rfl⟩⟩
    · exact ⟨hpK m (itW g), _, 100, .cons (ABeq.row fun j hj => allW_get h1 j hj) .nil, lam1 (by kernel_rfl) (sumKS m (itW g) 0 0 hm ⟨by omega, by omega⟩), run _ _ ⟨by omega, by omega⟩ fun h => (hn h.1).elim⟩
  · cases hF

end Go.Proofs.Ytmdcafhnjihckaa

/- Lists of wheels compared: slices.Equal, l5Equal. Conditions: two lists of wheels. -/
namespace Go.Proofs.Ytmdcafhnjihckaa
open Go.RowKit
set_option maxRecDepth 100000

noncomputable abbrev fSE : Func := Try.f79
abbrev lvSE : Ex → List Nat := lv3 [0, 1, 12, 13] [] [4]
theorem rndSE (m : Nat) (f h : Nat → Nat → Int) (i : Nat) : execC Try.prog g0 100 noLam (loopAt 0 fSE) (mkT 0 26 ((lvSE .normal).zip [.sl 0 9 0 0 m none, .sl 1 9 0 0 m none, .v (i64 m), .v (i64 i)])) (hpQW m f h) (leafV 26 lvSE 2)
    = bif decide ((↑i : Int) < (↑m : Int)) then needs [decide ((↑i : Int) < (↑m : Int)), decide ((0 : Nat) + Int.toNat (↑i : Int) < m), decide ((↑i : Int) < (↑m : Int)), decide ((0 : Nat) + Int.toNat (↑i : Int) < m)] (bif !(f ((0 : Nat) + Int.toNat (↑i : Int)) (0 : Nat) == h ((0 : Nat) + Int.toNat (↑i : Int)) (0 : Nat) && (f ((0 : Nat) + Int.toNat (↑i : Int)) (1 : Nat) == h ((0 : Nat) + Int.toNat (↑i : Int)) (1 : Nat) && (f ((0 : Nat) + Int.toNat (↑i : Int)) (2 : Nat) == h ((0 : Nat) + Int.toNat (↑i : Int)) (2 : Nat) && (f ((0 : Nat) + Int.toNat (↑i : Int)) (3 : Nat) == h ((0 : Nat) + Int.toNat (↑i : Int)) (3 : Nat) && (f ((0 : Nat) + Int.toNat (↑i : Int)) (4 : Nat) == h ((0 : Nat) + Int.toNat (↑i : Int)) (4 : Nat) && (f ((0 : Nat) + Int.toNat (↑i : Int)) (5 : Nat) == h ((0 : Nat) + Int.toNat (↑i : Int)) (5 : Nat) && (f ((0 : Nat) + Int.toNat (↑i : Int)) (6 : Nat) == h ((0 : Nat) + Int.toNat (↑i : Int)) (6 : Nat) && (f ((0 : Nat) + Int.toNat (↑i : Int)) (7 : Nat) == h ((0 : Nat) + Int.toNat (↑i : Int)) (7 : Nat) && (f ((0 : Nat) + Int.toNat (↑i : Int)) (8 : Nat) == h ((0 : Nat) + Int.toNat (↑i : Int)) (8 : Nat) && true))))))) && true && true)) then Res.out Ex.ret [AV.v (Value.bool false)] [AB.row false m (9 : Nat) (row9 f) (46 : TypeId), AB.row false m (9 : Nat) (row9 h) (46 : TypeId)] else Res.out Ex.normal [AV.sl (0 : Nat) (9 : Nat) (0 : Nat) (0 : Nat) m none, AV.sl (1 : Nat) (9 : Nat) (0 : Nat) (0 : Nat) m none, AV.v (Value.int IntKind.i64 (↑m : Int)), AV.v (Value.int IntKind.i64 (IntKind.wrap IntKind.i64 ((↑i : Int) + (1 : Int))))] [AB.row false m (9 : Nat) (row9 f) (46 : TypeId), AB.row false m (9 : Nat) (row9 h) (46 : TypeId)]) else Res.out (Ex.exit (0 : Nat)) [] [AB.row false m (9 : Nat) (row9 f) (46 : TypeId), AB.row false m (9 : Nat) (row9 h) (46 : TypeId)] := by kernel_rfl

noncomputable abbrev lamSE (m : Nat) (f h : Nat → Nat → Int) (c : Bool) : Nat → Option Sum := oneL 0 (atS 26 (lvSE .normal) 2 [.sl 0 9 0 0 m none, .sl 1 9 0 0 m none, .v (i64 m), .v (i64 (0 : Nat))] (hpQW m f h) (fun K => cond c (K .normal (mkT 0 26 []) (hpQW m f h)) (K .ret (mkT 0 26 [(4, .v (.bool false))]) (hpQW m f h))))
theorem treeSE (m n : Nat) (f h : Nat → Nat → Int) (c : Bool) : execF Try.prog g0 (lamSE m f h c) 100 fSE [.sl 0 9 0 0 m none, .sl 1 9 0 0 n none] [.row false m 9 (row9 f) 46, .row false n 9 (row9 h) 46] (packK 2)
    = bif (↑m : Int) != (↑n : Int) then Res.out Ex.ret [AV.v (Value.bool false)] [AB.row false m (9 : Nat) (row9 f) (46 : TypeId), AB.row false n (9 : Nat) (row9 h) (46 : TypeId)] else needs [chk ([AV.sl (0 : Nat) (9 : Nat) (0 : Nat) (0 : Nat) m none, AV.sl (1 : Nat) (9 : Nat) (0 : Nat) (0 : Nat) n none, AV.v (Value.int IntKind.i64 (↑m : Int)), AV.v (Value.int IntKind.i64 (0 : Int))] = [AV.sl (0 : Nat) (9 : Nat) (0 : Nat) (0 : Nat) m none, AV.sl (1 : Nat) (9 : Nat) (0 : Nat) (0 : Nat) m none, AV.v (Value.int IntKind.i64 (↑m : Int)), AV.v (Value.int IntKind.i64 (0 : Int))] ∧ Hsim [AB.row false m (9 : Nat) (row9 f) (46 : TypeId), AB.row false n (9 : Nat) (row9 h) (46 : TypeId)] (hpQW m f h))] (bif c then Res.out Ex.ret [AV.v (Value.bool true)] [AB.row false m (9 : Nat) (row9 f) (46 : TypeId), AB.row false m (9 : Nat) (row9 h) (46 : TypeId)] else Res.out Ex.ret [AV.v (Value.bool false)] [AB.row false m (9 : Nat) (row9 f) (46 : TypeId), AB.row false m (9 : Nat) (row9 h) (46 : TypeId)]) := by kernel_rfl

abbrev lvLE : Ex → List Nat := lv3 [0, 1, 5] [] [4]
theorem rndLE (m : Nat) (f h : Nat → Nat → Int) (i : Nat) : execC Try.prog g0 100 noLam (loopAt 0 Try.f83) (mkT 0 26 ((lvLE .normal).zip [.sl 0 9 0 0 m none, .sl 1 9 0 0 m none, .v (i64 i)])) (hpQW m f h) (leafV 26 lvLE 2)
    = bif decide ((↑i : Int) < (↑m : Int)) then needs [decide ((↑i : Int) < (↑m : Int)), decide ((0 : Nat) + Int.toNat (↑i : Int) < m), decide ((↑i : Int) < (↑m : Int)), decide ((0 : Nat) + Int.toNat (↑i : Int) < m)] (bif !(f ((0 : Nat) + Int.toNat (↑i : Int)) (0 : Nat) == h ((0 : Nat) + Int.toNat (↑i : Int)) (0 : Nat) && (f ((0 : Nat) + Int.toNat (↑i : Int)) (1 : Nat) == h ((0 : Nat) + Int.toNat (↑i : Int)) (1 : Nat) && (f ((0 : Nat) + Int.toNat (↑i : Int)) (2 : Nat) == h ((0 : Nat) + Int.toNat (↑i : Int)) (2 : Nat) && (f ((0 : Nat) + Int.toNat (↑i : Int)) (3 : Nat) == h ((0 : Nat) + Int.toNat (↑i : Int)) (3 : Nat) && (f ((0 : Nat) + Int.toNat (↑i : Int)) (4 : Nat) == h ((0 : Nat) + Int.toNat (↑i : Int)) (4 : Nat) && (f ((0 : Nat) + Int.toNat (↑i : Int)) (5 : Nat) == h ((0 : Nat) + Int.toNat (↑i : Int)) (5 : Nat) && (f ((0 : Nat) + Int.toNat (↑i : Int)) (6 : Nat) == h ((0 : Nat) + Int.toNat (↑i : Int)) (6 : Nat) && (f ((0 : Nat) + Int.toNat (↑i : Int)) (7 : Nat) == h ((0 : Nat) + Int.toNat (↑i : Int)) (7 : Nat) && (f ((0 : Nat) + Int.toNat (↑i : Int)) (8 : Nat) == h ((0 : Nat) + Int.toNat (↑i : Int)) (8 : Nat) && true))))))) && true && true)) then Res.out Ex.ret [AV.v (Value.bool false)] [AB.row false m (9 : Nat) (row9 f) (46 : TypeId), AB.row false m (9 : Nat) (row9 h) (46 : TypeId)] else Res.out Ex.normal [AV.sl (0 : Nat) (9 : Nat) (0 : Nat) (0 : Nat) m none, AV.sl (1 : Nat) (9 : Nat) (0 : Nat) (0 : Nat) m none, AV.v (Value.int IntKind.i64 (IntKind.wrap IntKind.i64 ((↑i : Int) + (1 : Int))))] [AB.row false m (9 : Nat) (row9 f) (46 : TypeId), AB.row false m (9 : Nat) (row9 h) (46 : TypeId)]) else Res.out (Ex.exit (0 : Nat)) [] [AB.row false m (9 : Nat) (row9 f) (46 : TypeId), AB.row false m (9 : Nat) (row9 h) (46 : TypeId)] := by kernel_rfl

noncomputable abbrev lamLE (m : Nat) (f h : Nat → Nat → Int) (c : Bool) : Nat → Option Sum := oneL 0 (atS 26 (lvLE .normal) 2 [.sl 0 9 0 0 m none, .sl 1 9 0 0 m none, .v (i64 (0 : Nat))] (hpQW m f h) (fun K => cond c (K .normal (mkT 0 26 []) (hpQW m f h)) (K .ret (mkT 0 26 [(4, .v (.bool false))]) (hpQW m f h))))
theorem treeLE (m n : Nat) (f h : Nat → Nat → Int) (c : Bool) : execF Try.prog g0 (lamLE m f h c) 100 Try.f83 [.sl 0 9 0 0 m none, .sl 1 9 0 0 n none] [.row false m 9 (row9 f) 46, .row false n 9 (row9 h) 46] (packK 2)
    = bif (↑m : Int) != (↑n : Int) then Res.out Ex.ret [AV.v (Value.bool false)] [AB.row false m (9 : Nat) (row9 f) (46 : TypeId), AB.row false n (9 : Nat) (row9 h) (46 : TypeId)] else needs [chk ([AV.sl (0 : Nat) (9 : Nat) (0 : Nat) (0 : Nat) m none, AV.sl (1 : Nat) (9 : Nat) (0 : Nat) (0 : Nat) n none, AV.v (Value.int IntKind.i64 (0 : Int))] = [AV.sl (0 : Nat) (9 : Nat) (0 : Nat) (0 : Nat) m none, AV.sl (1 : Nat) (9 : Nat) (0 : Nat) (0 : Nat) m none, AV.v (Value.int IntKind.i64 (0 : Int))] ∧ Hsim [AB.row false m (9 : Nat) (row9 f) (46 : TypeId), AB.row false n (9 : Nat) (row9 h) (46 : TypeId)] (hpQW m f h))] (bif c then Res.out Ex.ret [AV.v (Value.bool true)] [AB.row false m (9 : Nat) (row9 f) (46 : TypeId), AB.row false m (9 : Nat) (row9 h) (46 : TypeId)] else Res.out Ex.ret [AV.v (Value.bool false)] [AB.row false m (9 : Nat) (row9 f) (46 : TypeId), AB.row false m (9 : Nat) (row9 h) (46 : TypeId)]) := by kernel_rfl

def gmS3 (yT yL : Int → List Wh → Bool) (tT tL : Int → List Wh → List Wh) (eq : List Wh → List Wh → Bool) : Gam := ext (ext (ext g0 79 (specR md_eqWS (FeqB eq))) 41 (specU md_wv (UO1 yL tL))) 42 (specU md_wv (UO1 yT tT))
abbrev lvS4 : Ex → List Nat := lv3 [4, 6, 7, 8, 9, 10, 21] [4, 6, 21] [2, 3]
abbrev stS4 (q k : Nat) (b : Nat) (r : Nat) (fine : Bool) (a : Nat) : List AV := [.sl 1 9 0 0 q (some q), .own 2 k, .v (i64 b), .sl 3 9 0 0 r (some r), .v (.bool fine), .v (i64 a), .v (i64 b)]
abbrev hpS4 (m : Nat) (f : Nat → Nat → Int) (q : Nat) (h : Nat → Nat → Int) (k : Nat) (o : Nat → Int) (r : Nat) (u : Nat → Nat → Int) : List AB := [.row false m 9 (row9 f) 46, .row true q 9 (row9 h) 46, .row true k 1 (rowI o) 3, .row false r 9 (row9 u) 46]
abbrev hpS5 (m : Nat) (f : Nat → Nat → Int) (q : Nat) (h : Nat → Nat → Int) (k : Nat) (o : Nat → Int) : List AB := [.row false m 9 (row9 f) 46, .row true q 9 (row9 h) 46, .row true k 1 (rowI o) 3]
theorem rndS4 (yT yL : Int → List Wh → Bool) (tT tL : Int → List Wh → List Wh) (eq : List Wh → List Wh → Bool) (m : Nat) (f : Nat → Nat → Int) (q : Nat) (h : Nat → Nat → Int) (k : Nat) (o : Nat → Int) (b r : Nat) (u : Nat → Nat → Int) (fine : Bool) (a : Nat) : execC Try.prog (gmS3 yT yL tT tL eq) 100 noLam (loopAt 2 Try.f25) (mkT 0 56 ((lvS4 .normal).zip (stS4 q k b r fine a))) (hpS4 m f q h k o r u) (leafV 56 lvS4 1)
    = bif fine then bif decide ((↑a : Int) < (24 : Int)) then needs [Nat.ble ((0 : Nat) + q) q, allW q fun q ↦ row9 h ((0 : Nat) + q), decide (q ≤ (274877906944 : Nat))] (bif yL (↑a : Int) (listW (itW fun q ↦ row9 h ((0 : Nat) + q)) q) then needs [Nat.ble ((0 : Nat) + r) r, Nat.ble ((0 : Nat) + List.length (tL (↑a : Int) (listW (itW fun q ↦ row9 h ((0 : Nat) + q)) q))) (List.length (tL (↑a : Int) (listW (itW fun q ↦ row9 h ((0 : Nat) + q)) q))), allW r fun q ↦ row9 u ((0 : Nat) + q), allW (List.length (tL (↑a : Int) (listW (itW fun q ↦ row9 h ((0 : Nat) + q)) q))) fun q_1 ↦ row9 (wfun (tL (↑a : Int) (listW (itW fun q ↦ row9 h ((0 : Nat) + q)) q))) ((0 : Nat) + q_1), decide (r ≤ (274877906944 : Nat))] (bif eq (listW (itW fun q ↦ row9 u ((0 : Nat) + q)) r) (listW (itW fun q_1 ↦ row9 (wfun (tL (↑a : Int) (listW (itW fun q ↦ row9 h ((0 : Nat) + q)) q))) ((0 : Nat) + q_1)) (List.length (tL (↑a : Int) (listW (itW fun q ↦ row9 h ((0 : Nat) + q)) q)))) then needs [Nat.ble k k, Nat.ble (k + (1 : Nat)) (549755813888 : Nat)] (Res.out (Ex.exit (2 : Nat)) [AV.sl (1 : Nat) (9 : Nat) (0 : Nat) (0 : Nat) q (some q), AV.own (2 : Nat) (k + (1 : Nat)), AV.v (Value.int IntKind.i64 (↑b : Int))] [AB.row false m (9 : Nat) (row9 f) (46 : TypeId), AB.row true q (9 : Nat) (row9 h) (46 : TypeId), AB.row true (k + (1 : Nat)) (1 : Nat) (fun q ↦ [Value.int IntKind.i64 (bif Nat.blt q k then o q else (↑b : Int))]) (3 : Nat)]) else Res.out Ex.normal [AV.sl (1 : Nat) (9 : Nat) (0 : Nat) (0 : Nat) q (some q), AV.own (2 : Nat) k, AV.v (Value.int IntKind.i64 (↑b : Int)), AV.sl (3 : Nat) (9 : Nat) (0 : Nat) (0 : Nat) r (some r), AV.v (Value.bool fine), AV.v (Value.int IntKind.i64 (IntKind.wrap IntKind.i64 ((↑a : Int) + (1 : Int)))), AV.v (Value.int IntKind.i64 (↑b : Int))] [AB.row false m (9 : Nat) (row9 f) (46 : TypeId), AB.row true q (9 : Nat) (row9 h) (46 : TypeId), AB.row true k (1 : Nat) (rowI o) (3 : TypeId), AB.row false r (9 : Nat) (row9 u) (46 : TypeId)]) else Res.out Ex.normal [AV.sl (1 : Nat) (9 : Nat) (0 : Nat) (0 : Nat) q (some q), AV.own (2 : Nat) k, AV.v (Value.int IntKind.i64 (↑b : Int)), AV.sl (3 : Nat) (9 : Nat) (0 : Nat) (0 : Nat) r (some r), AV.v (Value.bool fine), AV.v (Value.int IntKind.i64 (IntKind.wrap IntKind.i64 ((↑a : Int) + (1 : Int)))), AV.v (Value.int IntKind.i64 (↑b : Int))] [AB.row false m (9 : Nat) (row9 f) (46 : TypeId), AB.row true q (9 : Nat) (row9 h) (46 : TypeId), AB.row true k (1 : Nat) (rowI o) (3 : TypeId), AB.row false r (9 : Nat) (row9 u) (46 : TypeId)]) else Res.out (Ex.exit (2 : Nat)) [AV.sl (1 : Nat) (9 : Nat) (0 : Nat) (0 : Nat) q (some q), AV.own (2 : Nat) k, AV.v (Value.int IntKind.i64 (↑b : Int))] [AB.row false m (9 : Nat) (row9 f) (46 : TypeId), AB.row true q (9 : Nat) (row9 h) (46 : TypeId), AB.row true k (1 : Nat) (rowI o) (3 : TypeId)] else Res.out (Ex.exit (2 : Nat)) [AV.sl (1 : Nat) (9 : Nat) (0 : Nat) (0 : Nat) q (some q), AV.own (2 : Nat) k, AV.v (Value.int IntKind.i64 (↑b : Int))] [AB.row false m (9 : Nat) (row9 f) (46 : TypeId), AB.row true q (9 : Nat) (row9 h) (46 : TypeId), AB.row true k (1 : Nat) (rowI o) (3 : TypeId)] := by kernel_rfl

end Go.Proofs.Ytmdcafhnjihckaa

/- DesignStill of both: trees. Conditions: a list of wheels. -/
namespace Go.Proofs.Ytmdcafhnjihckaa
open Go.RowKit
set_option maxRecDepth 100000

abbrev lvS5 : Ex → List Nat := lv3 [4, 6, 21] [6] [2, 3]
abbrev stS5 (q k i : Nat) : List AV := [.sl 1 9 0 0 q (some q), .own 2 k, .v (i64 i)]
noncomputable abbrev lamS4 (m : Nat) (f : Nat → Nat → Int) (q : Nat) (h : Nat → Nat → Int) (k : Nat) (o : Nat → Int) (i r : Nat) (u : Nat → Nat → Int) (fine c : Bool) (o2 : Nat → Int) : Nat → Option Sum := oneL 2 (atS 56 (lvS4 .normal) 1 (stS4 q k i r fine 0) (hpS4 m f q h k o r u) (fun K => cond c (K .normal (mkT 0 56 ([4, 6, 21].zip (stS5 q (k + 1) i))) (hpS5 m f q h (k + 1) o2)) (K .normal (mkT 0 56 ([4, 6, 21].zip (stS5 q k i))) (hpS5 m f q h k o))))
theorem rndS5 (yT yL : Int → List Wh → Bool) (tT tL : Int → List Wh → List Wh) (eq : List Wh → List Wh → Bool) (m : Nat) (f : Nat → Nat → Int) (q : Nat) (h : Nat → Nat → Int) (k : Nat) (o : Nat → Int) (i r : Nat) (u : Nat → Nat → Int) (fine c : Bool) (o2 : Nat → Int) : execC Try.prog (gmS3 yT yL tT tL eq) 100 (lamS4 m f q h k o i r u fine c o2) (loopAt 0 Try.f25) (mkT 0 56 ((lvS5 .normal).zip (stS5 q k i))) (hpS5 m f q h k o) (leafV 56 lvS5 1)
    = bif decide ((↑i : Int) < (24 : Int)) then needs [Nat.ble ((0 : Nat) + q) q, allW q fun q ↦ row9 h ((0 : Nat) + q), decide (q ≤ (274877906944 : Nat)), chk ([AV.sl (1 : Nat) (9 : Nat) (0 : Nat) (0 : Nat) q (some q), AV.own (2 : Nat) k, AV.v (Value.int IntKind.i64 (↑i : Int)), AV.sl (3 : Nat) (9 : Nat) (0 : Nat) (0 : Nat) (List.length (tT (↑i : Int) (listW (itW fun q ↦ row9 h ((0 : Nat) + q)) q))) (some (List.length (tT (↑i : Int) (listW (itW fun q ↦ row9 h ((0 : Nat) + q)) q)))), AV.v (Value.bool (yT (↑i : Int) (listW (itW fun q ↦ row9 h ((0 : Nat) + q)) q))), AV.v (Value.int IntKind.i64 (0 : Int)), AV.v (Value.int IntKind.i64 (↑i : Int))] = stS4 q k i r fine (0 : Nat) ∧ Hsim [AB.row false m (9 : Nat) (row9 f) (46 : TypeId), AB.row true q (9 : Nat) (row9 h) (46 : TypeId), AB.row true k (1 : Nat) (rowI o) (3 : TypeId), AB.row false (List.length (tT (↑i : Int) (listW (itW fun q ↦ row9 h ((0 : Nat) + q)) q))) (9 : Nat) (row9 (wfun (tT (↑i : Int) (listW (itW fun q ↦ row9 h ((0 : Nat) + q)) q)))) (46 : TypeId)] (hpS4 m f q h k o r u))] (bif c then Res.out Ex.normal [AV.sl (1 : Nat) (9 : Nat) (0 : Nat) (0 : Nat) q (some q), AV.own (2 : Nat) (k + (1 : Nat)), AV.v (Value.int IntKind.i64 (IntKind.wrap IntKind.i64 ((↑i : Int) + (1 : Int))))] [AB.row false m (9 : Nat) (row9 f) (46 : TypeId), AB.row true q (9 : Nat) (row9 h) (46 : TypeId), AB.row true (k + (1 : Nat)) (1 : Nat) (rowI o2) (3 : TypeId)] else Res.out Ex.normal [AV.sl (1 : Nat) (9 : Nat) (0 : Nat) (0 : Nat) q (some q), AV.own (2 : Nat) k, AV.v (Value.int IntKind.i64 (IntKind.wrap IntKind.i64 ((↑i : Int) + (1 : Int))))] [AB.row false m (9 : Nat) (row9 f) (46 : TypeId), AB.row true q (9 : Nat) (row9 h) (46 : TypeId), AB.row true k (1 : Nat) (rowI o) (3 : TypeId)]) else Res.out (Ex.exit (0 : Nat)) [AV.own (1 : Nat) k] [AB.row false m (9 : Nat) (row9 f) (46 : TypeId), AB.row true k (1 : Nat) (rowI o) (3 : TypeId)] := by kernel_rfl

theorem rndS5n (yT yL : Int → List Wh → Bool) (tT tL : Int → List Wh → List Wh) (eq : List Wh → List Wh → Bool) (m : Nat) (f : Nat → Nat → Int) (q : Nat) (h : Nat → Nat → Int) (k : Nat) (o : Nat → Int) (i : Nat) : execC Try.prog (gmS3 yT yL tT tL eq) 100 (oneL 2 errS) (loopAt 0 Try.f25) (mkT 0 56 ((lvS5 .normal).zip (stS5 q k i))) (hpS5 m f q h k o) (leafV 56 lvS5 1)
    = bif decide ((↑i : Int) < (24 : Int)) then needs [Nat.ble ((0 : Nat) + q) q, allW q fun q ↦ row9 h ((0 : Nat) + q), decide (q ≤ (274877906944 : Nat))] Res.err else Res.out (Ex.exit (0 : Nat)) [AV.own (1 : Nat) k] [AB.row false m (9 : Nat) (row9 f) (46 : TypeId), AB.row true k (1 : Nat) (rowI o) (3 : TypeId)] := by kernel_rfl

abbrev hpS6 (m : Nat) (f : Nat → Nat → Int) (k : Nat) (o : Nat → Int) : List AB := [.row false m 9 (row9 f) 46, .row true k 1 (rowI o) 3]
noncomputable abbrev lamS5 (m : Nat) (f : Nat → Nat → Int) (q : Nat) (h : Nat → Nat → Int) (k : Nat) (o : Nat → Int) : Nat → Option Sum := oneL 0 (atS 56 (lvS5 .normal) 1 (stS5 q 0 0) (hpS5 m f q h 0 (fun _ => 0)) (fun K => K .normal (mkT 0 56 [(6, .own 1 k)]) (hpS6 m f k o)))
theorem treeStY (yes : List Wh → Bool) (ti mp : List Wh → List Wh) (m : Nat) (f : Nat → Nat → Int) (q : Nat) (h : Nat → Nat → Int) (k : Nat) (o : Nat → Int) : execF Try.prog (ext g0 37 (specR md_ws (FdeYTi yes ti mp))) (lamS5 m f q h k o) 100 Try.f25 [.sl 0 9 0 0 m none] (hpK m f) (packK 1)
    = needs [Nat.ble ((0 : Nat) + m) m, allW m fun q ↦ row9 f ((0 : Nat) + q), decide (m ≤ (274877906944 : Nat)), yes (listW (itW fun q ↦ row9 f ((0 : Nat) + q)) m), chk ([AV.sl (1 : Nat) (9 : Nat) (0 : Nat) (0 : Nat) (List.length (ti (mp (listW (itW fun q ↦ row9 f ((0 : Nat) + q)) m)))) (some (List.length (ti (mp (listW (itW fun q ↦ row9 f ((0 : Nat) + q)) m))))), AV.own (2 : Nat) (0 : Nat), AV.v (Value.int IntKind.i64 (0 : Int))] = stS5 q (0 : Nat) (0 : Nat) ∧ Hsim [AB.row false m (9 : Nat) (row9 f) (46 : TypeId), AB.row true (List.length (ti (mp (listW (itW fun q ↦ row9 f ((0 : Nat) + q)) m)))) (9 : Nat) (row9 (wfun (ti (mp (listW (itW fun q ↦ row9 f ((0 : Nat) + q)) m))))) (46 : TypeId), AB.row true (0 : Nat) (1 : Nat) (fun _ ↦ []) (3 : Nat)] (hpS5 m f q h (0 : Nat) fun _ ↦ (0 : Int))), decide ((↑k : Int) ≤ (↑k : Int)), decide ((↑k : Int) ≤ (↑k : Int)), Nat.ble k k] (Res.out Ex.ret [AV.tup [AV.sl (1 : Nat) (1 : Nat) (0 : Nat) (0 : Nat) (Int.toNat ((↑k : Int) - (0 : Int))) (some (Int.toNat ((↑k : Int) - (0 : Int)))), AV.v (Value.bool true)]] [AB.row false m (9 : Nat) (row9 f) (46 : TypeId), AB.row true k (1 : Nat) (rowI o) (3 : TypeId)]) := by kernel_rfl

theorem treeStN (yes : List Wh → Bool) (m : Nat) (f : Nat → Nat → Int) : execF Try.prog (ext g0 37 (specR md_ws (FdeNTi yes))) (oneL 0 errS) 100 Try.f25 [.sl 0 9 0 0 m none] (hpK m f) (packK 1)
    = needs [Nat.ble ((0 : Nat) + m) m, allW m fun q ↦ row9 f ((0 : Nat) + q), decide (m ≤ (274877906944 : Nat)), !yes (listW (itW fun q ↦ row9 f ((0 : Nat) + q)) m)] (Res.out Ex.ret [AV.tup [AV.v (Value.slice none (0 : Nat) (0 : Nat)), AV.v (Value.bool false)]] [AB.row false m (9 : Nat) (row9 f) (46 : TypeId)]) := by kernel_rfl

def gmR3 (ok : Int → Int → Int → Bool → List Wh → Bool) (el : Int → Int → Int → Bool → List Wh → List Wh) (eq : List Wh → List Wh → Bool) : Gam := ext (ext g0 83 (specR md_eqWS (FeqB eq))) 134 (specR md_ea (FeaO ok el))
abbrev lvR4 : Ex → List Nat := lv3 [4, 6, 7, 8, 9, 10, 11] [4, 6, 7, 10] [2, 3]
abbrev stR4 (q k i r : Nat) (p fd : Bool) (a : Nat) : List AV := [.own 1 q, .own 2 k, .v (i64 i), .own 3 r, .v (.bool p), .v (.bool fd), .v (i64 a)]
abbrev hpR4 (m : Nat) (f : Nat → Nat → Int) (q : Nat) (h : Nat → Nat → Int) (k : Nat) (o : Nat → Int) (r : Nat) (u : Nat → Nat → Int) : List AB := [.row false m 9 (row9 f) 46, .row true q 9 (row9 h) 46, .row true k 1 (rowI o) 3, .row true r 9 (row9 u) 46]
theorem rndR4 (ok : Int → Int → Int → Bool → List Wh → Bool) (el : Int → Int → Int → Bool → List Wh → List Wh) (eq : List Wh → List Wh → Bool) (m : Nat) (f : Nat → Nat → Int) (q : Nat) (h : Nat → Nat → Int) (k : Nat) (o : Nat → Int) (i r : Nat) (u : Nat → Nat → Int) (p fd : Bool) (a : Nat) : execC Try.prog (gmR3 ok el eq) 100 noLam (loopAt 2 Try.f26) (mkT 0 62 ((lvR4 .normal).zip (stR4 q k i r p fd a))) (hpR4 m f q h k o r u) (leafV 62 lvR4 1)
    = bif decide ((↑a : Int) < (24 : Int)) then bif p then bif !fd then needs [Nat.ble q q, allW q (row9 h), decide (q ≤ (274877906944 : Nat))] (bif ok (1 : Int) (0 : Int) (↑a : Int) false (listW (itW (row9 h)) q) then needs [Nat.ble (List.length (el (1 : Int) (0 : Int) (↑a : Int) false (listW (itW (row9 h)) q))) (List.length (el (1 : Int) (0 : Int) (↑a : Int) false (listW (itW (row9 h)) q))), Nat.ble r r, allW (List.length (el (1 : Int) (0 : Int) (↑a : Int) false (listW (itW (row9 h)) q))) (row9 (wfun (el (1 : Int) (0 : Int) (↑a : Int) false (listW (itW (row9 h)) q)))), allW r (row9 u), decide (List.length (el (1 : Int) (0 : Int) (↑a : Int) false (listW (itW (row9 h)) q)) ≤ (274877906944 : Nat))] (Res.out Ex.normal [AV.own (1 : Nat) q, AV.own (2 : Nat) k, AV.v (Value.int IntKind.i64 (↑i : Int)), AV.own (3 : Nat) r, AV.v (Value.bool p), AV.v (Value.bool (eq (listW (itW (row9 (wfun (el (1 : Int) (0 : Int) (↑a : Int) false (listW (itW (row9 h)) q))))) (List.length (el (1 : Int) (0 : Int) (↑a : Int) false (listW (itW (row9 h)) q)))) (listW (itW (row9 u)) r))), AV.v (Value.int IntKind.i64 (IntKind.wrap IntKind.i64 ((↑a : Int) + (1 : Int))))] [AB.row false m (9 : Nat) (row9 f) (46 : TypeId), AB.row true q (9 : Nat) (row9 h) (46 : TypeId), AB.row true k (1 : Nat) (rowI o) (3 : TypeId), AB.row true r (9 : Nat) (row9 u) (46 : TypeId)]) else Res.out Ex.normal [AV.own (1 : Nat) q, AV.own (2 : Nat) k, AV.v (Value.int IntKind.i64 (↑i : Int)), AV.own (3 : Nat) r, AV.v (Value.bool p), AV.v (Value.bool false), AV.v (Value.int IntKind.i64 (IntKind.wrap IntKind.i64 ((↑a : Int) + (1 : Int))))] [AB.row false m (9 : Nat) (row9 f) (46 : TypeId), AB.row true q (9 : Nat) (row9 h) (46 : TypeId), AB.row true k (1 : Nat) (rowI o) (3 : TypeId), AB.row true r (9 : Nat) (row9 u) (46 : TypeId)]) else Res.out (Ex.exit (2 : Nat)) [AV.own (1 : Nat) q, AV.own (2 : Nat) k, AV.v (Value.int IntKind.i64 (↑i : Int)), AV.v (Value.bool fd)] [AB.row false m (9 : Nat) (row9 f) (46 : TypeId), AB.row true q (9 : Nat) (row9 h) (46 : TypeId), AB.row true k (1 : Nat) (rowI o) (3 : TypeId)] else Res.out (Ex.exit (2 : Nat)) [AV.own (1 : Nat) q, AV.own (2 : Nat) k, AV.v (Value.int IntKind.i64 (↑i : Int)), AV.v (Value.bool fd)] [AB.row false m (9 : Nat) (row9 f) (46 : TypeId), AB.row true q (9 : Nat) (row9 h) (46 : TypeId), AB.row true k (1 : Nat) (rowI o) (3 : TypeId)] else Res.out (Ex.exit (2 : Nat)) [AV.own (1 : Nat) q, AV.own (2 : Nat) k, AV.v (Value.int IntKind.i64 (↑i : Int)), AV.v (Value.bool fd)] [AB.row false m (9 : Nat) (row9 f) (46 : TypeId), AB.row true q (9 : Nat) (row9 h) (46 : TypeId), AB.row true k (1 : Nat) (rowI o) (3 : TypeId)] := by kernel_rfl

abbrev lvR5 : Ex → List Nat := lv3 [4, 6, 7] [6] [2, 3]
abbrev stR5 (q k i : Nat) : List AV := [.own 1 q, .own 2 k, .v (i64 i)]
noncomputable abbrev lamR4 (m : Nat) (f : Nat → Nat → Int) (q : Nat) (h : Nat → Nat → Int) (k : Nat) (o : Nat → Int) (i r : Nat) (u : Nat → Nat → Int) (p c : Bool) : Nat → Option Sum := oneL 2 (atS 62 (lvR4 .normal) 1 (stR4 q k i r p false 0) (hpR4 m f q h k o r u) (fun K => K .normal (mkT 0 62 ([4, 6, 7, 10].zip [.own 1 q, .own 2 k, .v (i64 i), .v (.bool c)])) (hpS5 m f q h k o)))
theorem rndR5 (ok : Int → Int → Int → Bool → List Wh → Bool) (el : Int → Int → Int → Bool → List Wh → List Wh) (eq : List Wh → List Wh → Bool) (m : Nat) (f : Nat → Nat → Int) (q : Nat) (h : Nat → Nat → Int) (k : Nat) (o : Nat → Int) (i r : Nat) (u : Nat → Nat → Int) (p c : Bool) : execC Try.prog (gmR3 ok el eq) 100 (lamR4 m f q h k o i r u p c) (loopAt 0 Try.f26) (mkT 0 62 ((lvR5 .normal).zip (stR5 q k i))) (hpS5 m f q h k o) (leafV 62 lvR5 1)
    = bif decide ((↑i : Int) < (24 : Int)) then needs [Nat.ble q q, allW q (row9 h), decide (q ≤ (274877906944 : Nat)), chk ([AV.own (1 : Nat) q, AV.own (2 : Nat) k, AV.v (Value.int IntKind.i64 (↑i : Int)), AV.own (3 : Nat) (List.length (el (1 : Int) (↑i : Int) (0 : Int) false (listW (itW (row9 h)) q))), AV.v (Value.bool (ok (1 : Int) (↑i : Int) (0 : Int) false (listW (itW (row9 h)) q))), AV.v (Value.bool false), AV.v (Value.int IntKind.i64 (0 : Int))] = stR4 q k i r p false (0 : Nat) ∧ Hsim [AB.row false m (9 : Nat) (row9 f) (46 : TypeId), AB.row true q (9 : Nat) (row9 h) (46 : TypeId), AB.row true k (1 : Nat) (rowI o) (3 : TypeId), AB.row true (List.length (el (1 : Int) (↑i : Int) (0 : Int) false (listW (itW (row9 h)) q))) (9 : Nat) (row9 (wfun (el (1 : Int) (↑i : Int) (0 : Int) false (listW (itW (row9 h)) q)))) (46 : TypeId)] (hpR4 m f q h k o r u))] (bif c then needs [Nat.ble k k, Nat.ble (k + (1 : Nat)) (549755813888 : Nat)] (Res.out Ex.normal [AV.own (1 : Nat) q, AV.own (2 : Nat) (k + (1 : Nat)), AV.v (Value.int IntKind.i64 (IntKind.wrap IntKind.i64 ((↑i : Int) + (1 : Int))))] [AB.row false m (9 : Nat) (row9 f) (46 : TypeId), AB.row true q (9 : Nat) (row9 h) (46 : TypeId), AB.row true (k + (1 : Nat)) (1 : Nat) (fun q ↦ [Value.int IntKind.i64 (bif Nat.blt q k then o q else (↑i : Int))]) (3 : Nat)]) else Res.out Ex.normal [AV.own (1 : Nat) q, AV.own (2 : Nat) k, AV.v (Value.int IntKind.i64 (IntKind.wrap IntKind.i64 ((↑i : Int) + (1 : Int))))] [AB.row false m (9 : Nat) (row9 f) (46 : TypeId), AB.row true q (9 : Nat) (row9 h) (46 : TypeId), AB.row true k (1 : Nat) (rowI o) (3 : TypeId)]) else Res.out (Ex.exit (0 : Nat)) [AV.own (1 : Nat) k] [AB.row false m (9 : Nat) (row9 f) (46 : TypeId), AB.row true k (1 : Nat) (rowI o) (3 : TypeId)] := by kernel_rfl

theorem rndR5n (ok : Int → Int → Int → Bool → List Wh → Bool) (el : Int → Int → Int → Bool → List Wh → List Wh) (eq : List Wh → List Wh → Bool) (m : Nat) (f : Nat → Nat → Int) (q : Nat) (h : Nat → Nat → Int) (k : Nat) (o : Nat → Int) (i : Nat) : execC Try.prog (gmR3 ok el eq) 100 (oneL 2 errS) (loopAt 0 Try.f26) (mkT 0 62 ((lvR5 .normal).zip (stR5 q k i))) (hpS5 m f q h k o) (leafV 62 lvR5 1)
    = bif decide ((↑i : Int) < (24 : Int)) then needs [Nat.ble q q, allW q (row9 h), decide (q ≤ (274877906944 : Nat))] Res.err else Res.out (Ex.exit (0 : Nat)) [AV.own (1 : Nat) k] [AB.row false m (9 : Nat) (row9 f) (46 : TypeId), AB.row true k (1 : Nat) (rowI o) (3 : TypeId)] := by kernel_rfl

noncomputable abbrev lamR5 (m : Nat) (f : Nat → Nat → Int) (q : Nat) (h : Nat → Nat → Int) (k : Nat) (o : Nat → Int) : Nat → Option Sum := oneL 0 (atS 62 (lvR5 .normal) 1 (stR5 q 0 0) (hpS5 m f q h 0 (fun _ => 0)) (fun K => K .normal (mkT 0 62 [(6, .own 1 k)]) (hpS6 m f k o)))
theorem treeStS (okd : List Wh → Bool) (ti : List Wh → List Wh) (okt : List Wh → Bool) (m : Nat) (f : Nat → Nat → Int) (q : Nat) (h : Nat → Nat → Int) (k : Nat) (o : Nat → Int) : execF Try.prog (gmS2 okd ti okt) (lamR5 m f q h k o) 100 Try.f26 [.sl 0 9 0 0 m none] (hpK m f) (packK 1)
    = needs [Nat.ble ((0 : Nat) + m) m, allW m fun q ↦ row9 f ((0 : Nat) + q), decide (m ≤ (549755813888 : Nat))] (bif !okd (listW (itW fun q ↦ row9 f ((0 : Nat) + q)) m) then Res.out Ex.ret [AV.tup [AV.own (1 : Nat) (0 : Nat), AV.v (Value.bool false)]] [AB.row false m (9 : Nat) (row9 f) (46 : TypeId), AB.row true (0 : Nat) (1 : Nat) (fun _ ↦ []) (3 : Nat)] else needs [Nat.ble ((0 : Nat) + m) m, allW m fun q ↦ row9 f ((0 : Nat) + q), decide (m ≤ (274877906944 : Nat))] (bif !okt (listW (itW fun q ↦ row9 f ((0 : Nat) + q)) m) then Res.out Ex.ret [AV.tup [AV.own (1 : Nat) (0 : Nat), AV.v (Value.bool false)]] [AB.row false m (9 : Nat) (row9 f) (46 : TypeId), AB.row true (0 : Nat) (1 : Nat) (fun _ ↦ []) (3 : Nat)] else needs [chk ([AV.own (1 : Nat) (List.length (ti (listW (itW fun q ↦ row9 f ((0 : Nat) + q)) m))), AV.own (2 : Nat) (0 : Nat), AV.v (Value.int IntKind.i64 (0 : Int))] = stR5 q (0 : Nat) (0 : Nat) ∧ Hsim [AB.row false m (9 : Nat) (row9 f) (46 : TypeId), AB.row true (List.length (ti (listW (itW fun q ↦ row9 f ((0 : Nat) + q)) m))) (9 : Nat) (row9 (wfun (ti (listW (itW fun q ↦ row9 f ((0 : Nat) + q)) m)))) (46 : TypeId), AB.row true (0 : Nat) (1 : Nat) (fun _ ↦ []) (3 : Nat)] (hpS5 m f q h (0 : Nat) fun _ ↦ (0 : Int)))] (Res.out Ex.ret [AV.tup [AV.own (1 : Nat) k, AV.v (Value.bool true)]] [AB.row false m (9 : Nat) (row9 f) (46 : TypeId), AB.row true k (1 : Nat) (rowI o) (3 : TypeId)]))) := by kernel_rfl

end Go.Proofs.Ytmdcafhnjihckaa

/- Lists compared; the program's turned designs read as the reference's. Conditions: lists of wheels. -/
namespace Go.Proofs.Ytmdcafhnjihckaa
open Go.RowKit
set_option maxRecDepth 100000

theorem sumSE (m : Nat) (f h : Nat → Nat → Int) (hm : m ≤ 2 ^ 40) :
    SumOk Try.prog 2 (.block 0 (.loop (loopAt 0 fSE))) (atS 26 (lvSE .normal) 2 [.sl 0 9 0 0 m none, .sl 1 9 0 0 m none, .v (i64 m), .v (i64 (0 : Nat))] (hpQW m f h) (fun K => cond (noneTo (badE f h) m) (K .normal (mkT 0 26 []) (hpQW m f h)) (K .ret (mkT 0 26 [(4, .v (.bool false))]) (hpQW m f h)))) := by
  refine for_at g0_ok (n := 100) (m := 2) (lv := lvSE) (fun i => [.sl 0 9 0 0 m none, .sl 1 9 0 0 m none, .v (i64 m), .v (i64 (i : Nat))]) (fun _ => hpQW m f h) (fun i => noneTo (badE f h) i = true) m (fun _ => noLam) (lv3_ris rfl rfl rfl) (Nat.le_refl _) rfl fun K Q hk i hi him => ⟨noLam_ok _ _ _, ?_⟩
  rw [rndSE]
  refine good_cond (fun c1 => ?_) fun c1 => ?_
  · have c1 := of_decide_eq_true c1
    have c1' : i < m := by omega
    rw [Int.toNat_natCast, Nat.zero_add, wr_in (x := (i : Int) + 1) (by omega)]
    refine good_needs (by simp only [ob_cons, ob_nil, and_true, decide_eq_true_eq]; omega) (good_cond (fun q => ?_) fun q => ?_)
    · have hb : badE f h i = true := by
        unfold badE
        rw [Bool.not_eq_true', decide_eq_false_iff_not]
        intro e
        simp only [whOf, Wh.mk.injEq, Cy.mk.injEq] at e
        obtain ⟨e0, e1, e2, e3, e4, e5, e6, e7, e8⟩ := e
        simp [e0, e1, e2, e3, e4, e5, e6, e7, e8] at q
      refine good_out ⟨_, Hsim.refl _, ?_⟩
      rw [noneTo_no c1' hb] at hk
      exact hk
    · have hb : badE f h i = false := by
        unfold badE
        rw [Bool.not_eq_false', decide_eq_true_eq]
        simp at q
        simp [whOf, q]
      exact good_out ⟨i + 1, ⟨rfl, c1', noneTo_succ hi hb⟩, rfl, Hsim.refl _⟩
  · have c1 := of_decide_eq_false c1
    have : i = m := by omega
    subst this
    refine good_out ⟨_, Hsim.refl _, ?_⟩
    rw [if_pos rfl]
    rw [hi] at hk
    exact hk
theorem ok_SE : SpecOk Try.prog 79 (specR md_eqWS (FeqB eqL)) := by
  refine specR_hr g0_ok Try.func79 rfl fun sas fr hF ho => ?_
  unfold FeqB at hF
  split at hF
  · rename_i m g n g2
    cases hF
    simp only [ob_cons] at ho
    obtain ⟨h1, h2, h3, _⟩ := ho
    have hm := of_decide_eq_true h3
    refine ⟨[.row false m 9 (row9 (itW g)) 46, .row false n 9 (row9 (itW g2)) 46], lamSE m (itW g) (itW g2) (noneTo (badE (itW g) (itW g2)) m), 100, .cons (ABeq.row fun j hj => allW_get h1 j hj) (.cons (ABeq.row fun j hj => allW_get h2 j hj) .nil), lam1 (by kernel_rfl) (sumSE m (itW g) (itW g2) (by omega)), ?_⟩
    show GoodQ (execF Try.prog g0 (lamSE m (itW g) (itW g2) (noneTo (badE (itW g) (itW g2)) m)) 100 fSE [.sl 0 9 0 0 m none, .sl 1 9 0 0 n none] [.row false m 9 (row9 (itW g)) 46, .row false n 9 (row9 (itW g2)) 46] (packK 2)) _
    rw [treeSE]
    refine good_cond (fun q => ?_) fun q => ?_
    · have hne : m ≠ n := fun e => by
        subst e
        simp at q
      exact good_out ⟨_, rfl, by rw [eqL_len (by rw [listW_length, listW_length]; exact hne)], .cons (ABeq.row fun j hj => (allW_get h1 j hj).symm) (.cons (ABeq.row fun j hj => (allW_get h2 j hj).symm) .nil)⟩
    · have e : m = n := by
        have q2 : (m : Int) = n := by simpa using q
        omega
      subst e
      refine good_needs (by rw [ob_cons]; exact ⟨chk_of ⟨rfl, Hsim.refl _⟩, rfl⟩) (good_cond (fun q => ?_) fun q => ?_)
      · exact good_out ⟨_, rfl, by rw [eqL_list, q], .cons (ABeq.row fun j hj => (allW_get h1 j hj).symm) (.cons (ABeq.row fun j hj => (allW_get h2 j hj).symm) .nil)⟩
      · exact good_out ⟨_, rfl, by rw [eqL_list, q], .cons (ABeq.row fun j hj => (allW_get h1 j hj).symm) (.cons (ABeq.row fun j hj => (allW_get h2 j hj).symm) .nil)⟩
  · cases hF

theorem sumLE (m : Nat) (f h : Nat → Nat → Int) (hm : m ≤ 2 ^ 40) :
    SumOk Try.prog 2 (.block 0 (.loop (loopAt 0 Try.f83))) (atS 26 (lvLE .normal) 2 [.sl 0 9 0 0 m none, .sl 1 9 0 0 m none, .v (i64 (0 : Nat))] (hpQW m f h) (fun K => cond (noneTo (badE f h) m) (K .normal (mkT 0 26 []) (hpQW m f h)) (K .ret (mkT 0 26 [(4, .v (.bool false))]) (hpQW m f h)))) := by
  refine for_at g0_ok (n := 100) (m := 2) (lv := lvLE) (fun i => [.sl 0 9 0 0 m none, .sl 1 9 0 0 m none, .v (i64 (i : Nat))]) (fun _ => hpQW m f h) (fun i => noneTo (badE f h) i = true) m (fun _ => noLam) (lv3_ris rfl rfl rfl) (Nat.le_refl _) rfl fun K Q hk i hi him => ⟨noLam_ok _ _ _, ?_⟩
  rw [rndLE]
  refine good_cond (fun c1 => ?_) fun c1 => ?_
  · have c1 := of_decide_eq_true c1
    have c1' : i < m := by omega
    rw [Int.toNat_natCast, Nat.zero_add, wr_in (x := (i : Int) + 1) (by omega)]
    refine good_needs (by simp only [ob_cons, ob_nil, and_true, decide_eq_true_eq]; omega) (good_cond (fun q => ?_) fun q => ?_)
    · have hb : badE f h i = true := by
        unfold badE
        rw [Bool.not_eq_true', decide_eq_false_iff_not]
        intro e
        simp only [whOf, Wh.mk.injEq, Cy.mk.injEq] at e
        obtain ⟨e0, e1, e2, e3, e4, e5, e6, e7, e8⟩ := e
        simp [e0, e1, e2, e3, e4, e5, e6, e7, e8] at q
      refine good_out ⟨_, Hsim.refl _, ?_⟩
      rw [noneTo_no c1' hb] at hk
      exact hk
    · have hb : badE f h i = false := by
        unfold badE
        rw [Bool.not_eq_false', decide_eq_true_eq]
        simp at q
        simp [whOf, q]
      exact good_out ⟨i + 1, ⟨rfl, c1', noneTo_succ hi hb⟩, rfl, Hsim.refl _⟩
  · have c1 := of_decide_eq_false c1
    have : i = m := by omega
    subst this
    refine good_out ⟨_, Hsim.refl _, ?_⟩
    rw [if_pos rfl]
    rw [hi] at hk
    exact hk
theorem ok_LE : SpecOk Try.prog 83 (specR md_eqWS (FeqB eqL)) := by
  refine specR_hr g0_ok Try.func83 rfl fun sas fr hF ho => ?_
  unfold FeqB at hF
  split at hF
  · rename_i m g n g2
    cases hF
    simp only [ob_cons] at ho
    obtain ⟨h1, h2, h3, _⟩ := ho
    have hm := of_decide_eq_true h3
    refine ⟨[.row false m 9 (row9 (itW g)) 46, .row false n 9 (row9 (itW g2)) 46], lamLE m (itW g) (itW g2) (noneTo (badE (itW g) (itW g2)) m), 100, .cons (ABeq.row fun j hj => allW_get h1 j hj) (.cons (ABeq.row fun j hj => allW_get h2 j hj) .nil), lam1 (by kernel_rfl) (sumLE m (itW g) (itW g2) (by omega)), ?_⟩
    show GoodQ (execF Try.prog g0 (lamLE m (itW g) (itW g2) (noneTo (badE (itW g) (itW g2)) m)) 100 Try.f83 [.sl 0 9 0 0 m none, .sl 1 9 0 0 n none] [.row false m 9 (row9 (itW g)) 46, .row false n 9 (row9 (itW g2)) 46] (packK 2)) _
    rw [treeLE]
    refine good_cond (fun q => ?_) fun q => ?_
    · have hne : m ≠ n := fun e => by
        subst e
        simp at q
      exact good_out ⟨_, rfl, by rw [eqL_len (by rw [listW_length, listW_length]; exact hne)], .cons (ABeq.row fun j hj => (allW_get h1 j hj).symm) (.cons (ABeq.row fun j hj => (allW_get h2 j hj).symm) .nil)⟩
    · have e : m = n := by
        have q2 : (m : Int) = n := by simpa using q
        omega
      subst e
      refine good_needs (by rw [ob_cons]; exact ⟨chk_of ⟨rfl, Hsim.refl _⟩, rfl⟩) (good_cond (fun q => ?_) fun q => ?_)
      · exact good_out ⟨_, rfl, by rw [eqL_list, q], .cons (ABeq.row fun j hj => (allW_get h1 j hj).symm) (.cons (ABeq.row fun j hj => (allW_get h2 j hj).symm) .nil)⟩
      · exact good_out ⟨_, rfl, by rw [eqL_list, q], .cons (ABeq.row fun j hj => (allW_get h1 j hj).symm) (.cons (ABeq.row fun j hj => (allW_get h2 j hj).symm) .nil)⟩
  · cases hF

theorem gmS3_ok : GamOk Try.prog (gmS3 yT yL tT tL eqL) := ext_ok (ext_ok (ext_ok g0_ok ok_SE) ok_ULa) ok_UTu
theorem gmR3_ok : GamOk Try.prog (gmR3 eachOk eachL eqL) := ext_ok (ext_ok g0_ok ok_LE) ok_each

end Go.Proofs.Ytmdcafhnjihckaa

/- The program's DesignAkin: its trees. Conditions: two lists of wheels. -/
namespace Go.Proofs.Ytmdcafhnjihckaa
open Go.RowKit
set_option maxRecDepth 100000

noncomputable abbrev fAk : Func := Try.f39
noncomputable def bAk : Code := fAk.body.getD .skip
def sqN : Nat → Code → Code
  | 0, c => c
  | n + 1, c => sqN n (sqB c)
def rgA : Code → Code | .rangeFunc _ _ a _ => a | c => c
def rgB : Code → Code | .rangeFunc _ _ _ b => b | c => c
def scB : Code → Code | .scope b => b | c => c
noncomputable def akB1 : Code := scB (sqB bAk)
noncomputable def akPre0 : List Code := [sqA bAk]
noncomputable def akPre : List Code := [sqA akB1, sqA (sqN 1 akB1), sqA (sqN 2 akB1), sqA (sqN 3 akB1), sqA (sqN 4 akB1)]
noncomputable def akP2 : Code := sqA (sqA (sqN 5 akB1))
noncomputable def akAs : Code := rgA (blB (sqB (sqA (sqN 5 akB1))))
noncomputable def akBd : Code := rgB (blB (sqB (sqA (sqN 5 akB1))))
noncomputable def akRest : Code := sqN 6 akB1
theorem bAk_eq : fAk.body = some (nestL akPre0 (.scope (nestL akPre (.seq (.seq akP2 (.block 0 (.rangeFunc (.tmp 31) #[32, 33] akAs akBd))) akRest)))) := by kernel_rfl

def gmAkI (yes : List Wh → Bool) (ti mp : List Wh → List Wh) (yT yL : Int → List Wh → Bool) (tT tL : Int → List Wh → List Wh) (eq : List Wh → List Wh → Bool) : Gam := ext (gmS3 yT yL tT tL eq) 37 (specR md_ws (FdeYTi yes ti mp))
theorem preAk (yes : List Wh → Bool) (ti mp : List Wh → List Wh) (yT yL : Int → List Wh → Bool) (tT tL : Int → List Wh → List Wh) (eq : List Wh → List Wh → Bool) (m : Nat) (f : Nat → Nat → Int) (n : Nat) (g : Nat → Nat → Int) : execL Try.prog (gmAkI yes ti mp yT yL tT tL eq) 100 (akPre0 ++ (akPre ++ [akP2])) ([.sl 0 9 0 0 m none, .sl 1 9 0 0 n none] ++ List.replicate 52 (.v undef)) (hpTr m f n g) (leafK (lv3 [6, 8, 10, 31] [] []) 2)
    = needs [Nat.ble ((0 : Nat) + m) m, allW m fun q ↦ row9 f ((0 : Nat) + q), decide (m ≤ (274877906944 : Nat)), yes (listW (itW fun q ↦ row9 f ((0 : Nat) + q)) m), Nat.ble ((0 : Nat) + n) n, allW n fun q ↦ row9 g ((0 : Nat) + q), decide (n ≤ (274877906944 : Nat)), yes (listW (itW fun q ↦ row9 g ((0 : Nat) + q)) n)] (Res.out Ex.normal [AV.dead, AV.dead, AV.dead, AV.dead, AV.dead, AV.dead, AV.ptr (2 : Nat) (0 : Nat) (0 : Nat) (0 : Nat), AV.dead, AV.ptr (3 : Nat) (0 : Nat) (0 : Nat) (0 : Nat), AV.dead, AV.ptr (4 : Nat) (0 : Nat) (0 : Nat) (0 : Nat), AV.dead, AV.dead, AV.dead, AV.dead, AV.dead, AV.dead, AV.dead, AV.dead, AV.dead, AV.dead, AV.dead, AV.dead, AV.dead, AV.dead, AV.dead, AV.dead, AV.dead, AV.dead, AV.dead, AV.dead, AV.fn (145 : Nat) [], AV.dead, AV.dead, AV.dead, AV.dead, AV.dead, AV.dead, AV.dead, AV.dead, AV.dead, AV.dead, AV.dead, AV.dead, AV.dead, AV.dead, AV.dead, AV.dead, AV.dead, AV.dead, AV.dead, AV.dead, AV.dead, AV.dead] [AB.row false m (9 : Nat) (row9 f) (46 : TypeId), AB.row false n (9 : Nat) (row9 g) (46 : TypeId), AB.cells [AV.sl (5 : Nat) (9 : Nat) (0 : Nat) (0 : Nat) (List.length (ti (mp (listW (itW fun q ↦ row9 f ((0 : Nat) + q)) m)))) (some (List.length (ti (mp (listW (itW fun q ↦ row9 f ((0 : Nat) + q)) m)))))] (23 : Nat), AB.cells [AV.sl (6 : Nat) (9 : Nat) (0 : Nat) (0 : Nat) (List.length (ti (mp (listW (itW fun q ↦ row9 g ((0 : Nat) + q)) n)))) (some (List.length (ti (mp (listW (itW fun q ↦ row9 g ((0 : Nat) + q)) n)))))] (23 : Nat), AB.cells [AV.v (Value.int IntKind.i64 (-1 : Int))] (3 : Nat), AB.row true (List.length (ti (mp (listW (itW fun q ↦ row9 f ((0 : Nat) + q)) m)))) (9 : Nat) (row9 (wfun (ti (mp (listW (itW fun q ↦ row9 f ((0 : Nat) + q)) m))))) (46 : TypeId), AB.row true (List.length (ti (mp (listW (itW fun q ↦ row9 g ((0 : Nat) + q)) n)))) (9 : Nat) (row9 (wfun (ti (mp (listW (itW fun q ↦ row9 g ((0 : Nat) + q)) n))))) (46 : TypeId)]) := by kernel_rfl

abbrev hpAkI (m : Nat) (f : Nat → Nat → Int) (n : Nat) (g : Nat → Nat → Int) (q : Nat) (h : Nat → Nat → Int) (r : Nat) (u : Nat → Nat → Int) (v : Int) : List AB := [.row false m 9 (row9 f) 46, .row false n 9 (row9 g) 46, .cells [.sl 5 9 0 0 q (some q)] 23, .cells [.sl 6 9 0 0 r (some r)] 23, .cells [.v (i64 v)] 3, .row true q 9 (row9 h) 46, .row true r 9 (row9 u) 46]
abbrev TTak : List AV := mkT 0 54 [(6, .ptr 2 0 0 0), (8, .ptr 3 0 0 0), (10, .ptr 4 0 0 0), (31, .fn 145 [])]
abbrev TLak : List AV := mkT 0 54 [(6, .ptr 2 0 0 0), (8, .ptr 3 0 0 0), (10, .ptr 4 0 0 0)]
theorem rndAkI (yes : List Wh → Bool) (ti mp : List Wh → List Wh) (yT yL : Int → List Wh → Bool) (tT tL : Int → List Wh → List Wh) (eq : List Wh → List Wh → Bool) (m : Nat) (f : Nat → Nat → Int) (n : Nat) (g : Nat → Nat → Int) (q : Nat) (h : Nat → Nat → Int) (r : Nat) (u : Nat → Nat → Int) (x y v : Int) : execC Try.prog (gmAkI yes ti mp yT yL tT tL eq) 100 noLam akAs (parT [32, 33] [i64 x, i64 y] TLak) (hpAkI m f n g q h r u v) (andK Try.prog (gmAkI yes ti mp yT yL tT tL eq) 100 akBd 7)
    = needs [Nat.ble ((0 : Nat) + q) q, allW q fun q ↦ row9 h ((0 : Nat) + q), decide (q ≤ (274877906944 : Nat))] (bif !yL x (listW (itW fun q ↦ row9 h ((0 : Nat) + q)) q) then Res.out Ex.normal [AV.dead, AV.dead, AV.dead, AV.dead, AV.dead, AV.dead, AV.dead, AV.dead, AV.dead, AV.dead, AV.dead, AV.dead, AV.dead, AV.dead, AV.dead, AV.dead, AV.dead, AV.dead, AV.dead, AV.dead, AV.dead, AV.dead, AV.dead, AV.dead, AV.dead, AV.dead, AV.dead, AV.dead, AV.dead, AV.dead, AV.dead, AV.dead, AV.dead, AV.dead, AV.dead, AV.dead, AV.dead, AV.dead, AV.dead, AV.dead, AV.dead, AV.dead, AV.dead, AV.dead, AV.dead, AV.dead, AV.dead, AV.dead, AV.dead, AV.dead, AV.dead, AV.dead, AV.dead, AV.dead] [AB.row false m (9 : Nat) (row9 f) (46 : TypeId), AB.row false n (9 : Nat) (row9 g) (46 : TypeId), AB.cells [AV.sl (5 : Nat) (9 : Nat) (0 : Nat) (0 : Nat) q (some q)] (23 : TypeId), AB.cells [AV.sl (6 : Nat) (9 : Nat) (0 : Nat) (0 : Nat) r (some r)] (23 : TypeId), AB.cells [AV.v (Value.int IntKind.i64 v)] (3 : TypeId), AB.row true q (9 : Nat) (row9 h) (46 : TypeId), AB.row true r (9 : Nat) (row9 u) (46 : TypeId)] else needs [Nat.ble ((0 : Nat) + List.length (tL x (listW (itW fun q ↦ row9 h ((0 : Nat) + q)) q))) (List.length (tL x (listW (itW fun q ↦ row9 h ((0 : Nat) + q)) q))), allW (List.length (tL x (listW (itW fun q ↦ row9 h ((0 : Nat) + q)) q))) fun q_1 ↦ row9 (wfun (tL x (listW (itW fun q ↦ row9 h ((0 : Nat) + q)) q))) ((0 : Nat) + q_1), decide (List.length (tL x (listW (itW fun q ↦ row9 h ((0 : Nat) + q)) q)) ≤ (274877906944 : Nat))] (bif yT y (listW (itW fun q_1 ↦ row9 (wfun (tL x (listW (itW fun q ↦ row9 h ((0 : Nat) + q)) q))) ((0 : Nat) + q_1)) (List.length (tL x (listW (itW fun q ↦ row9 h ((0 : Nat) + q)) q)))) then needs [Nat.ble ((0 : Nat) + List.length (tT y (listW (itW fun q_1 ↦ row9 (wfun (tL x (listW (itW fun q ↦ row9 h ((0 : Nat) + q)) q))) ((0 : Nat) + q_1)) (List.length (tL x (listW (itW fun q ↦ row9 h ((0 : Nat) + q)) q)))))) (List.length (tT y (listW (itW fun q_1 ↦ row9 (wfun (tL x (listW (itW fun q ↦ row9 h ((0 : Nat) + q)) q))) ((0 : Nat) + q_1)) (List.length (tL x (listW (itW fun q ↦ row9 h ((0 : Nat) + q)) q)))))), Nat.ble ((0 : Nat) + r) r, allW (List.length (tT y (listW (itW fun q_1 ↦ row9 (wfun (tL x (listW (itW fun q ↦ row9 h ((0 : Nat) + q)) q))) ((0 : Nat) + q_1)) (List.length (tL x (listW (itW fun q ↦ row9 h ((0 : Nat) + q)) q)))))) fun q_1 ↦ row9 (wfun (tT y (listW (itW fun q_2 ↦ row9 (wfun (tL x (listW (itW fun q ↦ row9 h ((0 : Nat) + q)) q))) ((0 : Nat) + q_2)) (List.length (tL x (listW (itW fun q ↦ row9 h ((0 : Nat) + q)) q)))))) ((0 : Nat) + q_1), allW r fun q ↦ row9 u ((0 : Nat) + q), decide (List.length (tT y (listW (itW fun q_1 ↦ row9 (wfun (tL x (listW (itW fun q ↦ row9 h ((0 : Nat) + q)) q))) ((0 : Nat) + q_1)) (List.length (tL x (listW (itW fun q ↦ row9 h ((0 : Nat) + q)) q))))) ≤ (274877906944 : Nat))] (bif eq (listW (itW fun q_1 ↦ row9 (wfun (tT y (listW (itW fun q_2 ↦ row9 (wfun (tL x (listW (itW fun q ↦ row9 h ((0 : Nat) + q)) q))) ((0 : Nat) + q_2)) (List.length (tL x (listW (itW fun q ↦ row9 h ((0 : Nat) + q)) q)))))) ((0 : Nat) + q_1)) (List.length (tT y (listW (itW fun q_1 ↦ row9 (wfun (tL x (listW (itW fun q ↦ row9 h ((0 : Nat) + q)) q))) ((0 : Nat) + q_1)) (List.length (tL x (listW (itW fun q ↦ row9 h ((0 : Nat) + q)) q))))))) (listW (itW fun q ↦ row9 u ((0 : Nat) + q)) r) then Res.out (Ex.exit (0 : Nat)) [AV.dead, AV.dead, AV.dead, AV.dead, AV.dead, AV.dead, AV.dead, AV.dead, AV.dead, AV.dead, AV.dead, AV.dead, AV.dead, AV.dead, AV.dead, AV.dead, AV.dead, AV.dead, AV.dead, AV.dead, AV.dead, AV.dead, AV.dead, AV.dead, AV.dead, AV.dead, AV.dead, AV.dead, AV.dead, AV.dead, AV.dead, AV.dead, AV.dead, AV.dead, AV.dead, AV.dead, AV.dead, AV.dead, AV.dead, AV.dead, AV.dead, AV.dead, AV.dead, AV.dead, AV.dead, AV.dead, AV.dead, AV.dead, AV.dead, AV.dead, AV.dead, AV.dead, AV.dead, AV.dead] [AB.row false m (9 : Nat) (row9 f) (46 : TypeId), AB.row false n (9 : Nat) (row9 g) (46 : TypeId), AB.cells [AV.sl (5 : Nat) (9 : Nat) (0 : Nat) (0 : Nat) q (some q)] (23 : TypeId), AB.cells [AV.sl (6 : Nat) (9 : Nat) (0 : Nat) (0 : Nat) r (some r)] (23 : TypeId), AB.cells [AV.v (Value.int IntKind.i64 (IntKind.wrap IntKind.i64 (IntKind.wrap IntKind.i64 ((24 : Int) * x) + y)))] (3 : TypeId), AB.row true q (9 : Nat) (row9 h) (46 : TypeId), AB.row true r (9 : Nat) (row9 u) (46 : TypeId)] else Res.out Ex.normal [AV.dead, AV.dead, AV.dead, AV.dead, AV.dead, AV.dead, AV.dead, AV.dead, AV.dead, AV.dead, AV.dead, AV.dead, AV.dead, AV.dead, AV.dead, AV.dead, AV.dead, AV.dead, AV.dead, AV.dead, AV.dead, AV.dead, AV.dead, AV.dead, AV.dead, AV.dead, AV.dead, AV.dead, AV.dead, AV.dead, AV.dead, AV.dead, AV.dead, AV.dead, AV.dead, AV.dead, AV.dead, AV.dead, AV.dead, AV.dead, AV.dead, AV.dead, AV.dead, AV.dead, AV.dead, AV.dead, AV.dead, AV.dead, AV.dead, AV.dead, AV.dead, AV.dead, AV.dead, AV.dead] [AB.row false m (9 : Nat) (row9 f) (46 : TypeId), AB.row false n (9 : Nat) (row9 g) (46 : TypeId), AB.cells [AV.sl (5 : Nat) (9 : Nat) (0 : Nat) (0 : Nat) q (some q)] (23 : TypeId), AB.cells [AV.sl (6 : Nat) (9 : Nat) (0 : Nat) (0 : Nat) r (some r)] (23 : TypeId), AB.cells [AV.v (Value.int IntKind.i64 v)] (3 : TypeId), AB.row true q (9 : Nat) (row9 h) (46 : TypeId), AB.row true r (9 : Nat) (row9 u) (46 : TypeId)]) else Res.out Ex.normal [AV.dead, AV.dead, AV.dead, AV.dead, AV.dead, AV.dead, AV.dead, AV.dead, AV.dead, AV.dead, AV.dead, AV.dead, AV.dead, AV.dead, AV.dead, AV.dead, AV.dead, AV.dead, AV.dead, AV.dead, AV.dead, AV.dead, AV.dead, AV.dead, AV.dead, AV.dead, AV.dead, AV.dead, AV.dead, AV.dead, AV.dead, AV.dead, AV.dead, AV.dead, AV.dead, AV.dead, AV.dead, AV.dead, AV.dead, AV.dead, AV.dead, AV.dead, AV.dead, AV.dead, AV.dead, AV.dead, AV.dead, AV.dead, AV.dead, AV.dead, AV.dead, AV.dead, AV.dead, AV.dead] [AB.row false m (9 : Nat) (row9 f) (46 : TypeId), AB.row false n (9 : Nat) (row9 g) (46 : TypeId), AB.cells [AV.sl (5 : Nat) (9 : Nat) (0 : Nat) (0 : Nat) q (some q)] (23 : TypeId), AB.cells [AV.sl (6 : Nat) (9 : Nat) (0 : Nat) (0 : Nat) r (some r)] (23 : TypeId), AB.cells [AV.v (Value.int IntKind.i64 v)] (3 : TypeId), AB.row true q (9 : Nat) (row9 h) (46 : TypeId), AB.row true r (9 : Nat) (row9 u) (46 : TypeId)])) := by kernel_rfl

theorem endAkN (yes : List Wh → Bool) (ti mp : List Wh → List Wh) (yT yL : Int → List Wh → Bool) (tT tL : Int → List Wh → List Wh) (eq : List Wh → List Wh → Bool) (m : Nat) (f : Nat → Nat → Int) (n : Nat) (g : Nat → Nat → Int) (q : Nat) (h : Nat → Nat → Int) (r : Nat) (u : Nat → Nat → Int) (v : Int) : behind Try.prog (gmAkI yes ti mp yT yL tT tL eq) 100 fAk 0 akRest (packK 2) .normal TLak (hpAkI m f n g q h r u v)
    = bif decide (v < (0 : Int)) then Res.out Ex.ret [AV.tup [AV.v (Value.int IntKind.i64 (0 : Int)), AV.v (Value.bool false)]] [AB.row false m (9 : Nat) (row9 f) (46 : TypeId), AB.row false n (9 : Nat) (row9 g) (46 : TypeId)] else Res.out Ex.ret [AV.tup [AV.v (Value.int IntKind.i64 v), AV.v (Value.bool true)]] [AB.row false m (9 : Nat) (row9 f) (46 : TypeId), AB.row false n (9 : Nat) (row9 g) (46 : TypeId)] := by kernel_rfl

theorem endAkX (yes : List Wh → Bool) (ti mp : List Wh → List Wh) (yT yL : Int → List Wh → Bool) (tT tL : Int → List Wh → List Wh) (eq : List Wh → List Wh → Bool) (m : Nat) (f : Nat → Nat → Int) (n : Nat) (g : Nat → Nat → Int) (q : Nat) (h : Nat → Nat → Int) (r : Nat) (u : Nat → Nat → Int) (v : Int) : behind Try.prog (gmAkI yes ti mp yT yL tT tL eq) 100 fAk 0 akRest (packK 2) (.exit 0) TLak (hpAkI m f n g q h r u v)
    = bif decide (v < (0 : Int)) then Res.out Ex.ret [AV.tup [AV.v (Value.int IntKind.i64 (0 : Int)), AV.v (Value.bool false)]] [AB.row false m (9 : Nat) (row9 f) (46 : TypeId), AB.row false n (9 : Nat) (row9 g) (46 : TypeId)] else Res.out Ex.ret [AV.tup [AV.v (Value.int IntKind.i64 v), AV.v (Value.bool true)]] [AB.row false m (9 : Nat) (row9 f) (46 : TypeId), AB.row false n (9 : Nat) (row9 g) (46 : TypeId)] := by kernel_rfl

end Go.Proofs.Ytmdcafhnjihckaa

/- DesignAkin of the reference: trees. Conditions: two lists of wheels. -/
namespace Go.Proofs.Ytmdcafhnjihckaa
open Go.RowKit
set_option maxRecDepth 100000

theorem treeAk (ok : Int → Int → Int → Bool → List Wh → Bool) (el : Int → Int → Int → Bool → List Wh → List Wh) (eq : List Wh → List Wh → Bool) (m : Nat) (f : Nat → Nat → Int) (n : Nat) (g : Nat → Nat → Int) (x y : Int) : execF Try.prog (gmR3 ok el eq) noLam 100 Try.f95 [.sl 0 9 0 0 m none, .sl 1 9 0 0 n none, .v (i64 x), .v (i64 y)] (hpTr m f n g) (packK 2)
    = needs [Nat.ble ((0 : Nat) + m) m, allW m fun q ↦ row9 f ((0 : Nat) + q), decide (m ≤ (274877906944 : Nat))] (bif !ok (1 : Int) (0 : Int) x false (listW (itW fun q ↦ row9 f ((0 : Nat) + q)) m) then Res.out Ex.ret [AV.v (Value.bool false)] [AB.row false m (9 : Nat) (row9 f) (46 : TypeId), AB.row false n (9 : Nat) (row9 g) (46 : TypeId)] else needs [Nat.ble (List.length (el (1 : Int) (0 : Int) x false (listW (itW fun q ↦ row9 f ((0 : Nat) + q)) m))) (List.length (el (1 : Int) (0 : Int) x false (listW (itW fun q ↦ row9 f ((0 : Nat) + q)) m))), allW (List.length (el (1 : Int) (0 : Int) x false (listW (itW fun q ↦ row9 f ((0 : Nat) + q)) m))) (row9 (wfun (el (1 : Int) (0 : Int) x false (listW (itW fun q ↦ row9 f ((0 : Nat) + q)) m)))), decide (List.length (el (1 : Int) (0 : Int) x false (listW (itW fun q ↦ row9 f ((0 : Nat) + q)) m)) ≤ (274877906944 : Nat))] (bif ok (1 : Int) y (0 : Int) false (listW (itW (row9 (wfun (el (1 : Int) (0 : Int) x false (listW (itW fun q ↦ row9 f ((0 : Nat) + q)) m))))) (List.length (el (1 : Int) (0 : Int) x false (listW (itW fun q ↦ row9 f ((0 : Nat) + q)) m)))) then needs [Nat.ble (List.length (el (1 : Int) y (0 : Int) false (listW (itW (row9 (wfun (el (1 : Int) (0 : Int) x false (listW (itW fun q ↦ row9 f ((0 : Nat) + q)) m))))) (List.length (el (1 : Int) (0 : Int) x false (listW (itW fun q ↦ row9 f ((0 : Nat) + q)) m)))))) (List.length (el (1 : Int) y (0 : Int) false (listW (itW (row9 (wfun (el (1 : Int) (0 : Int) x false (listW (itW fun q ↦ row9 f ((0 : Nat) + q)) m))))) (List.length (el (1 : Int) (0 : Int) x false (listW (itW fun q ↦ row9 f ((0 : Nat) + q)) m)))))), Nat.ble ((0 : Nat) + n) n, allW (List.length (el (1 : Int) y (0 : Int) false (listW (itW (row9 (wfun (el (1 : Int) (0 : Int) x false (listW (itW fun q ↦ row9 f ((0 : Nat) + q)) m))))) (List.length (el (1 : Int) (0 : Int) x false (listW (itW fun q ↦ row9 f ((0 : Nat) + q)) m)))))) (row9 (wfun (el (1 : Int) y (0 : Int) false (listW (itW (row9 (wfun (el (1 : Int) (0 : Int) x false (listW (itW fun q ↦ row9 f ((0 : Nat) + q)) m))))) (List.length (el (1 : Int) (0 : Int) x false (listW (itW fun q ↦ row9 f ((0 : Nat) + q)) m))))))), allW n fun q ↦ row9 g ((0 : Nat) + q), decide (List.length (el (1 : Int) y (0 : Int) false (listW (itW (row9 (wfun (el (1 : Int) (0 : Int) x false (listW (itW fun q ↦ row9 f ((0 : Nat) + q)) m))))) (List.length (el (1 : Int) (0 : Int) x false (listW (itW fun q ↦ row9 f ((0 : Nat) + q)) m))))) ≤ (274877906944 : Nat))] (Res.out Ex.ret [AV.v (Value.bool (eq (listW (itW (row9 (wfun (el (1 : Int) y (0 : Int) false (listW (itW (row9 (wfun (el (1 : Int) (0 : Int) x false (listW (itW fun q ↦ row9 f ((0 : Nat) + q)) m))))) (List.length (el (1 : Int) (0 : Int) x false (listW (itW fun q ↦ row9 f ((0 : Nat) + q)) m)))))))) (List.length (el (1 : Int) y (0 : Int) false (listW (itW (row9 (wfun (el (1 : Int) (0 : Int) x false (listW (itW fun q ↦ row9 f ((0 : Nat) + q)) m))))) (List.length (el (1 : Int) (0 : Int) x false (listW (itW fun q ↦ row9 f ((0 : Nat) + q)) m))))))) (listW (itW fun q ↦ row9 g ((0 : Nat) + q)) n)))] [AB.row false m (9 : Nat) (row9 f) (46 : TypeId), AB.row false n (9 : Nat) (row9 g) (46 : TypeId)]) else Res.out Ex.ret [AV.v (Value.bool false)] [AB.row false m (9 : Nat) (row9 f) (46 : TypeId), AB.row false n (9 : Nat) (row9 g) (46 : TypeId)])) := by kernel_rfl

/-- Later by x and turned by y, the first list is the second. -/
def FakO (ak : List Wh → List Wh → Int → Int → Bool) : List SA → Option FR
  | [.row m ga, .row n gb, .v (.int .i64 x), .v (.int .i64 y)] => some { val := .v (.bool (ak (listW (itW ga) m) (listW (itW gb) n) x y)), obl := [allW m ga, allW n gb, decide (m ≤ 2 ^ 38), decide (n ≤ 2 ^ 38)] }
  | _ => none
def md_ak : List Md := [.rd 9 46, .rd 9 46, .val, .val]
def gmAk (ak : List Wh → List Wh → Int → Int → Bool) : Gam := ext g0 95 (specR md_ak (FakO ak))
abbrev lvAk : Ex → List Nat := lv3 [6, 8, 10] [] [4, 5]
abbrev stAk (q r i : Nat) : List AV := [.own 2 q, .own 3 r, .v (i64 i)]
abbrev hpAk (m : Nat) (f : Nat → Nat → Int) (n : Nat) (g : Nat → Nat → Int) (q : Nat) (h : Nat → Nat → Int) (r : Nat) (u : Nat → Nat → Int) : List AB := [.row false m 9 (row9 f) 46, .row false n 9 (row9 g) 46, .row true q 9 (row9 h) 46, .row true r 9 (row9 u) 46]
theorem rndAk (ak : List Wh → List Wh → Int → Int → Bool) (m : Nat) (f : Nat → Nat → Int) (n : Nat) (g : Nat → Nat → Int) (q : Nat) (h : Nat → Nat → Int) (r : Nat) (u : Nat → Nat → Int) (i : Nat) : execC Try.prog (gmAk ak) 100 noLam (loopAt 0 Try.f40) (mkT 0 39 ((lvAk .normal).zip (stAk q r i))) (hpAk m f n g q h r u) (leafV 39 lvAk 2)
    = bif decide ((↑i : Int) < (576 : Int)) then needs [Nat.ble q q, Nat.ble r r, allW q (row9 h), allW r (row9 u), decide (q ≤ (274877906944 : Nat)), decide (r ≤ (274877906944 : Nat))] (bif ak (listW (itW (row9 h)) q) (listW (itW (row9 u)) r) (IntKind.wrap IntKind.i64 (Int.tdiv (↑i : Int) (24 : Int))) (Int.tmod (↑i : Int) (24 : Int)) then Res.out Ex.ret [AV.v (Value.int IntKind.i64 (↑i : Int)), AV.v (Value.bool true)] [AB.row false m (9 : Nat) (row9 f) (46 : TypeId), AB.row false n (9 : Nat) (row9 g) (46 : TypeId)] else Res.out Ex.normal [AV.own (2 : Nat) q, AV.own (3 : Nat) r, AV.v (Value.int IntKind.i64 (IntKind.wrap IntKind.i64 ((↑i : Int) + (1 : Int))))] [AB.row false m (9 : Nat) (row9 f) (46 : TypeId), AB.row false n (9 : Nat) (row9 g) (46 : TypeId), AB.row true q (9 : Nat) (row9 h) (46 : TypeId), AB.row true r (9 : Nat) (row9 u) (46 : TypeId)]) else Res.out (Ex.exit (0 : Nat)) [] [AB.row false m (9 : Nat) (row9 f) (46 : TypeId), AB.row false n (9 : Nat) (row9 g) (46 : TypeId)] := by kernel_rfl

noncomputable abbrev lamAk (m : Nat) (f : Nat → Nat → Int) (n : Nat) (g : Nat → Nat → Int) (q : Nat) (h : Nat → Nat → Int) (r : Nat) (u : Nat → Nat → Int) (c : Bool) (x : Int) : Nat → Option Sum := oneL 0 (atS 39 (lvAk .normal) 2 (stAk q r 0) (hpAk m f n g q h r u) (fun K => cond c (K .normal (mkT 0 39 []) (hpTr m f n g)) (K .ret (mkT 0 39 [(4, .v (i64 x)), (5, .v (.bool true))]) (hpTr m f n g))))
theorem treeAkS (okd : List Wh → Bool) (ti : List Wh → List Wh) (okt : List Wh → Bool) (m : Nat) (f : Nat → Nat → Int) (n : Nat) (g : Nat → Nat → Int) (q : Nat) (h : Nat → Nat → Int) (r : Nat) (u : Nat → Nat → Int) (c : Bool) (x : Int) : execF Try.prog (gmS2 okd ti okt) (lamAk m f n g q h r u c x) 100 Try.f40 [.sl 0 9 0 0 m none, .sl 1 9 0 0 n none] (hpTr m f n g) (packK 2)
    = needs [Nat.ble ((0 : Nat) + m) m, allW m fun q ↦ row9 f ((0 : Nat) + q), decide (m ≤ (549755813888 : Nat))] (bif !okd (listW (itW fun q ↦ row9 f ((0 : Nat) + q)) m) then needs [Nat.ble ((0 : Nat) + n) n, allW n fun q ↦ row9 g ((0 : Nat) + q), decide (n ≤ (549755813888 : Nat))] (bif !okd (listW (itW fun q ↦ row9 g ((0 : Nat) + q)) n) then Res.out Ex.ret [AV.tup [AV.v (Value.int IntKind.i64 (0 : Int)), AV.v (Value.bool false)]] [AB.row false m (9 : Nat) (row9 f) (46 : TypeId), AB.row false n (9 : Nat) (row9 g) (46 : TypeId)] else needs [Nat.ble ((0 : Nat) + n) n, allW n fun q ↦ row9 g ((0 : Nat) + q), decide (n ≤ (274877906944 : Nat))] (Res.out Ex.ret [AV.tup [AV.v (Value.int IntKind.i64 (0 : Int)), AV.v (Value.bool false)]] [AB.row false m (9 : Nat) (row9 f) (46 : TypeId), AB.row false n (9 : Nat) (row9 g) (46 : TypeId)])) else needs [Nat.ble ((0 : Nat) + m) m, allW m fun q ↦ row9 f ((0 : Nat) + q), decide (m ≤ (274877906944 : Nat)), Nat.ble ((0 : Nat) + n) n, allW n fun q ↦ row9 g ((0 : Nat) + q), decide (n ≤ (549755813888 : Nat))] (bif !okd (listW (itW fun q ↦ row9 g ((0 : Nat) + q)) n) then bif !okt (listW (itW fun q ↦ row9 f ((0 : Nat) + q)) m) then Res.out Ex.ret [AV.tup [AV.v (Value.int IntKind.i64 (0 : Int)), AV.v (Value.bool false)]] [AB.row false m (9 : Nat) (row9 f) (46 : TypeId), AB.row false n (9 : Nat) (row9 g) (46 : TypeId)] else Res.out Ex.ret [AV.tup [AV.v (Value.int IntKind.i64 (0 : Int)), AV.v (Value.bool false)]] [AB.row false m (9 : Nat) (row9 f) (46 : TypeId), AB.row false n (9 : Nat) (row9 g) (46 : TypeId)] else needs [Nat.ble ((0 : Nat) + n) n, allW n fun q ↦ row9 g ((0 : Nat) + q), decide (n ≤ (274877906944 : Nat))] (bif !okt (listW (itW fun q ↦ row9 f ((0 : Nat) + q)) m) then Res.out Ex.ret [AV.tup [AV.v (Value.int IntKind.i64 (0 : Int)), AV.v (Value.bool false)]] [AB.row false m (9 : Nat) (row9 f) (46 : TypeId), AB.row false n (9 : Nat) (row9 g) (46 : TypeId)] else bif !okt (listW (itW fun q ↦ row9 g ((0 : Nat) + q)) n) then Res.out Ex.ret [AV.tup [AV.v (Value.int IntKind.i64 (0 : Int)), AV.v (Value.bool false)]] [AB.row false m (9 : Nat) (row9 f) (46 : TypeId), AB.row false n (9 : Nat) (row9 g) (46 : TypeId)] else needs [chk ([AV.own (2 : Nat) (List.length (ti (listW (itW fun q ↦ row9 f ((0 : Nat) + q)) m))), AV.own (3 : Nat) (List.length (ti (listW (itW fun q ↦ row9 g ((0 : Nat) + q)) n))), AV.v (Value.int IntKind.i64 (0 : Int))] = stAk q r (0 : Nat) ∧ Hsim [AB.row false m (9 : Nat) (row9 f) (46 : TypeId), AB.row false n (9 : Nat) (row9 g) (46 : TypeId), AB.row true (List.length (ti (listW (itW fun q ↦ row9 f ((0 : Nat) + q)) m))) (9 : Nat) (row9 (wfun (ti (listW (itW fun q ↦ row9 f ((0 : Nat) + q)) m)))) (46 : TypeId), AB.row true (List.length (ti (listW (itW fun q ↦ row9 g ((0 : Nat) + q)) n))) (9 : Nat) (row9 (wfun (ti (listW (itW fun q ↦ row9 g ((0 : Nat) + q)) n)))) (46 : TypeId)] (hpAk m f n g q h r u))] (bif c then Res.out Ex.ret [AV.tup [AV.v (Value.int IntKind.i64 (0 : Int)), AV.v (Value.bool false)]] [AB.row false m (9 : Nat) (row9 f) (46 : TypeId), AB.row false n (9 : Nat) (row9 g) (46 : TypeId)] else Res.out Ex.ret [AV.tup [AV.v (Value.int IntKind.i64 x), AV.v (Value.bool true)]] [AB.row false m (9 : Nat) (row9 f) (46 : TypeId), AB.row false n (9 : Nat) (row9 g) (46 : TypeId)])))) := by kernel_rfl

end Go.Proofs.Ytmdcafhnjihckaa
