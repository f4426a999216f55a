/- A word for a callee that hands back an own list of points or none: read as one. Conditions: those of its two cases. -/
import Derived.Test.YtoligfhcogligaaZS0
import Derived.Test.YtoligfhcogligaaZS1
import Derived.Test.YtoligfhcogligaaZS2
import Derived.Test.YtoligfhcogligaaZS3
import Derived.Test.YtoligfhcogligaaZS4
import Derived.Test.YtoligfhcogligaaZS5
import Derived.Test.YtoligfhcogligaaZKPe70
import Derived.Test.YtoligfhcogligaaZKPe71
import Derived.RangeFuncNested
import Derived.RangeFuncBound
import Derived.RangeFuncCalls
import Derived.RangeFuncLeaves
import Derived.LoopNIn
import Derived.OrdersIn
import Derived.TacticsIn
/- The abstract machine, 17: the same, in a frame of a round of a loop over a function. No conditions. -/
namespace Go.Proofs.Ytoligfhcogligaa
open Go.RowKit

/-- The wide fence, in a round or not. -/
def wideR (r : Option Nat) : Fence := { Fence.wide with round := r }
theorem wideR_none : wideR none = Fence.wide := rfl
theorem wideR_some (l : Nat) : wideR (some l) = Fence.wide.inRound l := rfl
theorem room_wideR (r : Option Nat) (n : Nat) : (wideR r).room n := fun _ h => by cases h

theorem callsIn_wideR {r : Option Nat} {n : Nat} {P : Program} {f : FuncId} {args : Array Value} {w : World} {R : Ending → World → Prop} (h : Calls P f args w R) : CallsIn (wideR r) n P f args w R := by
  cases r with
  | none => exact callsIn_wide.2 h
  | some l => exact CallsIn.inRound l (callsIn_wide.2 h)

theorem stepsIn_wideR {r : Option Nat} {P : Program} {m m' : Machine} (h : Steps P m m') : StepsIn (Machine.fenced P (wideR r)) P m m' := by
  cases r with
  | none => exact stepsIn_wide.2 h
  | some l => exact stepsIn_wide.2 h

theorem rowsIn_wideR {r : Option Nat} {n : Nat} {P : Program} {row : String} {args : Array Value} {w : World} {R : Value → World → Prop} (h : Rows P row args w R) : RowsIn (wideR r) n P row args w R :=
  fun c cs _ => let ⟨v, w', q, s⟩ := h c cs; ⟨v, w', q, stepsIn_wideR s⟩

theorem op_in {r : Option Nat} {n : Nat} {P : Program} {o : Oper} {a : Act} {w : World} {next : Act → World → Prop} {Q : Exit → Act → World → Prop} (hd : ∀ c, o.op ≠ .defer c) (h : o.wp P a w next Q) : o.wpIn (wideR r) n P a w next Q := by
  refine ⟨fun _ _ => trivial, ?_⟩
  have hs : o.semAt (wideR r).round a.eval = execOp a.eval o := by
    cases r with
    | none => exact Oper.semAt_none _ _
    | some l => exact Oper.semAt_some l _ o hd
  rw [hs]
  unfold Oper.wp at h
  generalize (execOp a.eval o).run P w = R at h
  cases R with
  | ok x w' =>
    cases x with
    | value v => exact h
    | skip => exact h
    | defer d => exact h
    | enter f args => exact ⟨fun hdep => (by cases hdep), callsIn_wideR (h.mono fun e w'' he => by cases e <;> exact he)⟩
    | row row args => exact ⟨fun hdep => (by cases hdep), rowsIn_wideR h⟩
    | round => exact h.elim
    | _ => exact h.elim
  | halt x w' =>
    cases x with
    | panic v => exact h
    | _ => exact h.elim

def noDef (ops : Array Oper) : Bool := ops.toList.all fun o => match o.op with
  | .defer _ => false
  | _ => true
theorem noDef_get {ops : Array Oper} (h : noDef ops = true) {i : Nat} {o : Oper} (ho : ops[i]? = some o) : ∀ c, o.op ≠ .defer c := by
  intro c e
  have hm : o ∈ ops.toList := by
    have := Array.getElem?_eq_some_iff.1 ho
    obtain ⟨hlt, e⟩ := this
    rw [← e]
    simp
  have := List.all_eq_true.1 h o hm
  rw [e] at this
  cases this

theorem wpOp_in {r : Option Nat} {n : Nat} {P : Program} {ops : Array Oper} {Q : Exit → Act → World → Prop} (hd : noDef ops = true) (hQ : ¬ LetsOut Q) {i : Nat} {K : Act → World → Prop} {a : Act} {w : World} (h : wpOp P ops Q i K a w) : wpOpIn (wideR r) n P ops Q i K a w := by
  unfold wpOp at h
  unfold wpOpIn
  cases ho : ops[i]? with
  | none => rw [ho] at h; exact h
  | some o =>
    rw [ho] at h
    simp only at h ⊢
    split at h
    · rename_i hw
      rw [if_pos hw]
      rcases h with h | h
      · exact op_in (noDef_get hd ho) h
      · exact (hQ h.2).elim
    · rename_i hw
      rw [if_neg hw]
      exact ⟨fun _ _ => trivial, h⟩

theorem wpOps_in {r : Option Nat} {n : Nat} {P : Program} {ops : Array Oper} {Q : Exit → Act → World → Prop} (hd : noDef ops = true) (hQ : ¬ LetsOut Q) : ∀ {l : List Nat} {a : Act} {w : World}, wpOps P ops Q l a w → wpOpsIn (wideR r) n P ops Q l a w
  | [], a, w, h => h
  | i :: l, a, w, h => by
    rw [wpOps_cons] at h
    rw [wpOpsIn_cons]
    exact wpOpIn_mono (fun a w h => wpOps_in hd hQ h) (wpOp_in hd hQ h)

theorem wpAny_in {r : Option Nat} {n : Nat} {P : Program} {md : Region.Mode} {ops : Array Oper} {Q : Exit → Act → World → Prop} (hd : noDef ops = true) (hQ : ¬ LetsOut Q) : ∀ {fuel : Nat} {listed : Array Bool} {a : Act} {w : World}, wpAny P md ops Q fuel listed a w → wpAnyIn (wideR r) n P md ops Q fuel listed a w
  | 0, _, _, _, h => h
  | _ + 1, _, _, _, h => ⟨h.1, fun i hi => wpOpIn_mono (fun _ _ h => wpAny_in hd hQ h) (wpOp_in hd hQ (h.2 i hi))⟩

/-- What is known where a piece of code ends; the deferred calls stand as they stood. -/
def postD (ds : List Deferred) (M : Nat → Prop) (w0 : World) (ν0 : Nu) (K : Kont) (Q : Ex → List AV → List AB → Prop) : Exit → Act → World → Prop :=
  fun e a w => ∃ e' T H ν, e = Ex.to e' ∧ (K e' T H).ok Q ∧ SR M w0 ν0 T H a w ν ∧ a.defers = ds

theorem postD_out {ds : List Deferred} {M : Nat → Prop} {w0 : World} {ν0 : Nu} {K : Kont} {Q : Ex → List AV → List AB → Prop} : ¬ LetsOut (postD ds M w0 ν0 K Q) := by
  rintro ⟨a, w, e', T, H, ν, h, _⟩
  cases e' <;> cases h

theorem postD_then {ds : List Deferred} {M : Nat → Prop} {w0 : World} {ν0 : Nu} {K : Kont} {k2 : List AV → List AB → Res} {Q : Ex → List AV → List AB → Prop} {Y : Act → World → Prop} {e : Exit} {a : Act} {w : World} (h : postD ds M w0 ν0 (thenK k2 K) Q e a w)
    (hY : ∀ T H ν, (k2 T H).ok Q → SR M w0 ν0 T H a w ν → a.defers = ds → Y a w) : Exit.then Y (postD ds M w0 ν0 K Q) e a w := by
  obtain ⟨e', T, H, ν, rfl, hk, hS, hd⟩ := h
  cases e' with
  | normal => exact hY T H ν hk hS hd
  | exit id => exact ⟨.exit id, T, H, ν, rfl, hk, hS, hd⟩
  | ret => exact ⟨.ret, T, H, ν, rfl, hk, hS, hd⟩

theorem postD_exit {ds : List Deferred} {M : Nat → Prop} {w0 : World} {ν0 : Nu} {K : Kont} {Q : Ex → List AV → List AB → Prop} {id : Nat} {e : Exit} {a : Act} {w : World} (h : postD ds M w0 ν0 (exitK id K) Q e a w) : Exit.inBlock id (postD ds M w0 ν0 K Q) e a w := by
  obtain ⟨e', T, H, ν, rfl, hk, hS, hd⟩ := h
  cases e' with
  | normal => exact ⟨.normal, T, H, ν, rfl, hk, hS, hd⟩
  | ret => exact ⟨.ret, T, H, ν, rfl, hk, hS, hd⟩
  | exit j =>
    simp only [Ex.to, Exit.inBlock]
    simp only [exitK] at hk
    split
    · rename_i hj
      subst hj
      rw [Nat.beq_refl] at hk
      exact ⟨.normal, T, H, ν, rfl, hk, hS, hd⟩
    · rename_i hj
      cases hb : Nat.beq j id with
      | true => exact (hj (Nat.eq_of_beq_eq_true hb)).elim
      | false =>
        rw [hb] at hk
        exact ⟨.exit j, T, H, ν, rfl, hk, hS, hd⟩

theorem postD_noGoto {ds : List Deferred} {M : Nat → Prop} {w0 : World} {ν0 : Nu} {K : Kont} {Q : Ex → List AV → List AB → Prop} {e : Exit} {a : Act} {w : World} (h : postD ds M w0 ν0 K Q e a w) : Exit.noGoto (postD ds M w0 ν0 K Q) e a w := by
  have h' := h
  obtain ⟨e', T, H, ν, rfl, h1, h2, h3⟩ := h
  cases e' with
  | normal => exact h'
  | ret => exact h'
  | exit j => exact h'
theorem stepR_scope {P : Program} {b : Frame} {a : Act} {k : List Go.Item} {cs : List Frame} {w : World} {c : Code} : step P (lone (b.atR a (.code (.scope c) :: k)) cs w) = .next (lone (b.atR a (.code c :: .inScope c :: k)) cs w) :=
  step_lone_go (by simp [stepG, stepG.exec, Frame.atR])
theorem stepR_inScope {P : Program} {b : Frame} {a : Act} {k : List Go.Item} {cs : List Frame} {w : World} {c : Code} : step P (lone (b.atR a (.inScope c :: k)) cs w) = .next (lone (b.atR a k) cs w) :=
  step_lone_go (by simp [stepG, stepG.exec, Frame.atR])
/-- A scope through which the run goes without a jump. -/
theorem wpIn_scope {F : Fence} {n : Nat} {P : Program} {c : Code} {Q : Exit → Act → World → Prop} {a : Act} {w : World} (h : c.wpIn F n P (Exit.noGoto Q) a w) : (Code.scope c).wpIn F n P Q a w := by
  intro b k cs hro hb hr
  have h0 : (lone (b.atR a (.code (.scope c) :: k)) cs w).fenced P F := fenced_calm hb hr rfl
  obtain ⟨e, a₁, w₁, hq, harr⟩ := h b (.inScope c :: k) cs hro hb hr
  cases e with
  | normal => exact ⟨.normal, a₁, w₁, hq, .head h0 stepR_scope (StepsIn.trans harr (.one (fenced_calm hb hr rfl) stepR_inScope))⟩
  | exit id =>
    have hx : exitTo id (.inScope c :: k) = exitTo id k := by simp [exitTo]
    exact ⟨.exit id, a₁, w₁, hq, fun k' hk => .head h0 stepR_scope (harr.1 k' (by rw [hx]; exact hk)),
      fun hr' hk => let ⟨k₁, h1, h2⟩ := harr.2 hr' (by rw [hx]; exact hk); ⟨k₁, h1, .head h0 stepR_scope h2⟩⟩
  | goto l => exact hq.elim
  | ret => exact ⟨_, a₁, w₁, hq, .of_steps (.one h0 stepR_scope) harr⟩
  | panic ch => exact ⟨_, a₁, w₁, hq, .of_steps (.one h0 stepR_scope) harr⟩
  | outgrown => exact ⟨_, a₁, w₁, hq, .of_steps (.one h0 stepR_scope) harr⟩
def codeDef : Code → Bool
  | .region _ ops _ => noDef ops
  | .seq a b => codeDef a && codeDef b
  | .cond _ a b => codeDef a && codeDef b
  | .block _ c => codeDef c
  | .loop c => codeDef c
  | .scope c => codeDef c
  | _ => true

end Go.Proofs.Ytoligfhcogligaa

/- The abstract machine, 18: code, in a frame of a round of a loop over a function. Conditions: those of the table of callees. -/
namespace Go.Proofs.Ytoligfhcogligaa
open Go.RowKit

theorem execC_in {P : Program} {Γ : Gam} (hΓ : GamOk P Γ) (hmix : P.follows .mixedOrders = true) (hent : Enters P) (r : Option Nat) (nn : Nat) (ds : List Deferred) : ∀ (n : Nat) (c : Code), codeDef c = true → ∀ (M : Nat → Prop) (w0 : World) (ν0 : Nu), (∀ k, w0.heap.size ≤ k → M k) → ∀ (T : List AV) (H : List AB) (K : Kont) (Q : Ex → List AV → List AB → Prop) (a : Act) (w : World) (ν : Nu),
    (execC P Γ n noLam c T H K).ok Q → SR M w0 ν0 T H a w ν → a.defers = ds → c.wpIn (wideR r) nn P (postD ds M w0 ν0 K Q) a w := by
  intro n
  induction n with
  | zero => intro c _ M w0 ν0 hM T H K Q a w ν h; exact h.elim
  | succ n ih =>
    intro c hD M w0 ν0 hM T H K Q a w ν h hS hd
    have halt : ∀ e, (K e T H).ok Q → postD ds M w0 ν0 K Q (Ex.to e) a w := fun e hk => ⟨e, T, H, ν, rfl, hk, hS, hd⟩
    cases c with
    | skip => exact wpIn_skip (halt .normal h)
    | label l => exact wpIn_label (halt .normal h)
    | region id ops draw =>
      cases draw with
      | true =>
        simp only [execC, cond_true] at h
        obtain ⟨es, T', H', r1, h2⟩ := execOps_run h
        rcases cond_ok h2 with ⟨hc, h2⟩ | ⟨_, h2⟩
        · have hB : drawOk ops.toList es = true := by simpa using hc
          refine wpIn_region_any hmix ?_
          have hS' : SR M w0 ν0 T H a { w with drawn := w.drawn + 1 } ν := ⟨hS.tmps, ⟨fun i => (hS.heap.br i).of_block fun _ _ _ => rfl, hS.heap.sep, hS.heap.own, hS.heap.lt⟩, hS.fr.drew, hS.dom, hS.len, hS.le⟩
          have := any_sound (Q := postD ds M w0 ν0 K Q) hΓ hM r1 hB hS' fun a' w' ν' h' hd' => ⟨.normal, T', H', ν', rfl, h2, h', hd'.trans hd⟩
          exact wpAny_in hD postD_out (by simpa using this)
        · exact h2.elim
      | false =>
        refine wpIn_region ?_
        simp only [execC, cond_false] at h
        have := seqS_sound (Qw := postD ds M w0 ν0 K Q) (all := ops.toList) hΓ hM (Q := Q) (fun g avs H' Kc vals w' ν' hc hv hH hdom hM' => ?_) ops.toList 0 T H a w ν rfl h hS fun T' H' a' w' ν' hk hS' hd' => ⟨.normal, T', H', ν', rfl, hk, hS', hd'.trans hd⟩
        · refine wpOps_in hD postD_out ?_
          rw [← List.range_eq_range'] at this
          simpa using this
        · split at hc
          · rename_i fn hf
            split at hc
            · rename_i c' hb
              rw [fcAs_eq] at hc
              refine ⟨fun args w => hent g fn hf (by rw [hb]; rfl) args w, ?_⟩
              refine calls_of_wp hf hb (wp_mono (execC_sound hΓ hmix hent n H'.length (fun _ => none) c' (fun _ _ h => by cases h) M w' ν' hM' hdom _ H' (finC P fn Kc) Q _ w' ν' hc (start_sr hv hH hdom) rfl) fun e a' w'' hp => ?_)
              exact fin_post hp
            · exact hc.elim
          · exact hc.elim
    | seq x y =>
      simp only [codeDef, Bool.and_eq_true] at hD
      exact wpIn_seq (wpIn_mono (ih x hD.1 M w0 ν0 hM T H _ Q a w ν h hS hd) fun e a' w' hp => postD_then hp fun T' H' ν' hk hS' hd' => ih y hD.2 M w0 ν0 hM T' H' K Q a' w' ν' hk hS' hd')
    | cond c x y =>
      simp only [codeDef, Bool.and_eq_true] at hD
      simp only [execC] at h
      split at h
      · rename_i q hq
        have hv : a.eval c = .bool q := by
          have := evA_sound (T := T) (a := a) (ν := ν) (z := c) fun t _ => hS.tmps t
          rw [hq] at this
          simpa only [VR] using this
        refine wpIn_cond hv ?_
        rcases cond_ok h with ⟨rfl, h⟩ | ⟨rfl, h⟩
        · rw [setC_same hq] at h
          exact ih x hD.1 M w0 ν0 hM T H K Q a w ν h hS hd
        · rw [setC_same hq] at h
          exact ih y hD.2 M w0 ν0 hM T H K Q a w ν h hS hd
      · exact h.elim
    | block id b =>
      simp only [codeDef] at hD
      simp only [execC] at h
      exact wpIn_block (wpIn_mono (ih b hD M w0 ν0 hM T H _ Q a w ν h hS hd) fun e a' w' hp => postD_exit hp)
    | scope b =>
      simp only [codeDef] at hD
      simp only [execC] at h
      exact wpIn_scope (wpIn_mono (ih b hD M w0 ν0 hM T H K Q a w ν h hS hd) fun e a' w' hp => postD_noGoto hp)
    | loop b =>
      simp only [codeDef] at hD
      simp only [execC] at h
      refine wpIn_loop_rounds n ?_
      have key : ∀ (m : Nat) (T : List AV) (H : List AB) (a : Act) (w : World) (ν : Nu), (iter (execC P Γ n noLam b) m T H K).ok Q → SR M w0 ν0 T H a w ν → a.defers = ds → Code.roundsIn (wideR r) nn P b (postD ds M w0 ν0 K Q) m a w := by
        intro m
        induction m with
        | zero => intro T H a w ν h; exact h.elim
        | succ m ihm =>
          intro T H a w ν h hS hd
          rw [roundsIn_succ]
          exact wpIn_mono (ih b hD M w0 ν0 hM T H _ Q a w ν h hS hd) fun e a' w' hp => postD_then hp fun T' H' ν' hk hS' hd' => ihm T' H' a' w' ν' hk hS' hd'
      exact key n T H a w ν h hS hd
    | exit id => exact wpIn_exit (halt (.exit id) h)
    | ret => exact wpIn_ret (halt .ret h)
    | _ => simp only [execC] at h; exact h.elim

end Go.Proofs.Ytoligfhcogligaa

/- The abstract machine, 19: a loop over a function: the rounds, on the loop's own frame. Conditions: the word of the function that yields. -/
namespace Go.Proofs.Ytoligfhcogligaa
open Go.RowKit

/-- What may turn from here on: the own blocks, and what is new. -/
def ownM (w : World) (ν : Nu) (H : List AB) : Nat → Prop := fun k => w.heap.size ≤ k ∨ ∃ i b, (H.getD i .gone).wr = true ∧ ν i = some b ∧ b.n = k

theorem SR.rebase {M : Nat → Prop} {w0 : World} {ν0 : Nu} {T : List AV} {H : List AB} {a : Act} {w : World} {ν : Nu} (h : SR M w0 ν0 T H a w ν) : SR (ownM w ν H) w ν T H a w ν :=
  ⟨h.tmps, ⟨h.heap.br, h.heap.sep, fun i b hw hb => .inr ⟨i, b, hw, hb, rfl⟩, h.heap.lt⟩, Fr.refl _ _, h.dom, h.len, Le.refl _⟩

theorem SR.unbase {M : Nat → Prop} {w0 : World} {ν0 : Nu} {T T' : List AV} {H H' : List AB} {a a' : Act} {w w' : World} {ν ν' : Nu} (hM : ∀ k, w0.heap.size ≤ k → M k) (h : SR M w0 ν0 T H a w ν) (h' : SR (ownM w ν H) w ν T' H' a' w' ν') : SR M w0 ν0 T' H' a' w' ν' := by
  have hsub : ∀ k, ownM w ν H k → M k := by
    rintro k (hk | ⟨i, b, hw, hb, rfl⟩)
    · exact hM k (Nat.le_trans h.fr.size hk)
    · exact h.heap.own i b hw hb
  exact ⟨h'.tmps, ⟨h'.heap.br, h'.heap.sep, fun i b hw hb => hsub _ (h'.heap.own i b hw hb), h'.heap.lt⟩, h.fr.trans (h'.fr.mono fun k _ hk => hsub k hk), h'.dom, h'.len, h.le.trans h'.le⟩

/-- A block that is no cells turns, or new ones are laid. -/
theorem SR.turn {M : Nat → Prop} {w0 : World} {ν0 : Nu} {T : List AV} {H : List AB} {a : Act} {w w' : World} {ν : Nu} {row : Option Nat} (_ : ∀ k, w0.heap.size ≤ k → M k) (h : SR M w0 ν0 T H a w ν) (hg : w.grownBy w' row)
    (hr : ∀ r, row = some r → w0.heap.size ≤ r ∧ ∃ o : Obj, w.heap[r]? = some o ∧ o.isCells = false) : SR M w0 ν0 T H a w' ν := by
  have hb : ∀ i k, ν i = some k → (H.getD i .gone).live = true → w'.heap[k.n]? = w.heap[k.n]? := by
    intro i k hk hl
    refine hg.block _ (h.heap.lt i k hk) fun e => ?_
    obtain ⟨_, o, ho, hc⟩ := hr _ e.symm
    have hbr := h.heap.br i
    cases hH : H.getD i .gone with
    | cells cs t =>
      rw [hH] at hbr
      obtain ⟨b, l, h1, _, h2, _⟩ := hbr
      rw [hk] at h1
      cases h1
      rw [ho] at h2
      cases h2
      cases hc
    | row rw n s g t =>
      rw [hH] at hbr
      rcases hbr with ⟨_, _, h1⟩ | ⟨b, l, t', fz, h1, h2, _⟩
      · rw [hk] at h1; cases h1
      · rw [hk] at h1
        cases h1
        rw [ho] at h2
        cases h2
        cases hc
    | gone => rw [hH] at hl; cases hl
  refine ⟨h.tmps, ⟨fun i => (h.heap.br i).of_block fun k hk hl => hb i k hk hl, h.heap.sep, h.heap.own, fun i b hi => Nat.lt_of_lt_of_le (h.heap.lt i b hi) hg.size⟩, ?_, h.dom, h.len, h.le⟩
  refine ⟨hg.os.trans h.fr.os, hg.tape.trans h.fr.tape, hg.output.trans h.fr.output, Nat.le_trans h.fr.size hg.size, fun k hk hm => ?_⟩
  rw [hg.block k (Nat.lt_of_lt_of_le hk h.fr.size) fun e => ?_]
  · exact h.fr.block k hk hm
  · have := (hr _ e.symm).1
    omega

/-- yield's arguments in the loop's parameters. -/
def parT : List Tmp → List Value → List AV → List AV
  | p :: ps, v :: vs, T => parT ps vs (T.set p (.v v))
  | _, _, T => T

theorem par_sr {ν : Nu} : ∀ {ps : List Tmp} {vs : List Value} {T : List AV} {t : Array Value}, (∀ p ∈ ps, p < T.length) → T.length ≤ t.size → (∀ i, VR ν (T.getD i .dead) (t.getD i undef)) →
    (∀ i, VR ν ((parT ps vs T).getD i .dead) (((ps.zip vs).foldl (fun t (p, v) => t.setIfInBounds p v) t).getD i undef)) ∧ (parT ps vs T).length ≤ ((ps.zip vs).foldl (fun t (p, v) => t.setIfInBounds p v) t).size
  | [], vs, T, t, _, hl, h => ⟨h, hl⟩
  | p :: ps, [], T, t, _, hl, h => ⟨h, hl⟩
  | p :: ps, v :: vs, T, t, hp, hl, h => by
    simp only [parT, List.zip_cons_cons, List.foldl_cons]
    refine par_sr (by simpa using fun q hq => hp q (List.mem_cons_of_mem _ hq)) (by simpa using hl) fun i => ?_
    have hpl := hp p (by simp)
    by_cases e : p = i
    · subst e
      have h1 : p < t.size := Nat.lt_of_lt_of_le hpl hl
      simp [List.getD_eq_getElem?_getD, Array.getD_eq_getD_getElem?, hpl, h1, VR]
    · simpa [List.getD_eq_getElem?_getD, Array.getD_eq_getD_getElem?, List.getElem?_set, Array.getElem?_setIfInBounds, e] using h i

/-- What a round keeps: old blocks that are not the loop's own. -/
def keepR (w : World) (M : Nat → Prop) (W W' : World) : Prop := W.heap.size ≤ W'.heap.size ∧ ∀ (k : Nat) (o : Obj), k < w.heap.size → ¬ M k → W.heap[k]? = some o → W'.heap[k]? = some o

theorem keepR.trans {w : World} {M : Nat → Prop} {A B C : World} (h : keepR w M A B) (k : keepR w M B C) : keepR w M A C := ⟨Nat.le_trans h.1 k.1, fun i o hi hm ho => k.2 i o hi hm (h.2 i o hi hm ho)⟩

theorem keepR.fr {w : World} {M M' : Nat → Prop} {W W' : World} (hs : w.heap.size ≤ W.heap.size) (hsub : ∀ k, k < w.heap.size → M' k → M k) (h : Fr M' W W') : keepR w M W W' :=
  ⟨h.size, fun k _ hk hm ho => (h.block k (by omega) fun hm' => hm (hsub k hk hm')).trans ho⟩

theorem keepR.put {w : World} {M : Nat → Prop} {W : World} {l : Nat} {o : Obj} (hl : w.heap.size ≤ l) : keepR w M W (W.putObj l o) :=
  ⟨by simp [World.putObj], fun k o' hk _ ho => (World.putObj_heap_other (by omega)).trans ho⟩

def deadK (m : Nat) : Kont := leafK (fun _ => []) m
/-- The loop's assignment, and then its body. -/
def andK (P : Program) (Γ : Gam) (n : Nat) (body : Code) (m : Nat) : Kont := fun e T' H' => match e with
  | .normal => execC P Γ n noLam body T' H' (deadK m)
  | _ => .err

def jumpOf : Ex → Code
  | .ret => .ret
  | .exit id => .exit id
  | .normal => .skip

theorem SR.own_cells {M : Nat → Prop} {w0 : World} {ν0 : Nu} {T : List AV} {H : List AB} {a : Act} {w : World} {ν : Nu} (h : SR M w0 ν0 T H a w ν) {l : Nat} {o : Obj} (hl : w.heap[l]? = some o) (ho : o.isCells = false) : ¬ ownM w ν H l := by
  rintro (hk | ⟨i, b, hw, hb, rfl⟩)
  · rw [Array.getElem?_eq_none hk] at hl; cases hl
  · have hbr := h.heap.br i
    cases hH : H.getD i .gone with
    | cells cs t =>
      rw [hH] at hbr
      obtain ⟨b', l, h1, _, h2, _⟩ := hbr
      rw [hb] at h1
      cases h1
      rw [hl] at h2
      cases h2
      cases ho
    | row rw n s g t =>
      rw [hH] at hbr
      rcases hbr with ⟨_, _, h1⟩ | ⟨b', l, t', fz, h1, h2, _⟩
      · rw [hb] at h1; cases h1
      · rw [hb] at h1
        cases h1
        rw [hl] at h2
        cases h2
        cases ho
    | gone => rw [hH] at hw; cases hw

/-- HOW A ROUND MAY END, in blocks. -/
def RoundQ {α : Type} (lv : Ex → Bool) (hp : List α → List AB) (hx : Ex → List α → List AB) (pre : List α) : Ex → List AV → List AB → Prop := fun e _ H' => match e with
  | .normal => Hsim H' (hp pre)
  | e => lv e = true ∧ Hsim H' (hx e pre)

/-- How a round may end, with what is known of the list so far. -/
def RoundJ {α : Type} (Jv : List α → Prop) (Lx : Ex → List α → Prop) (hp : List α → List AB) (hx : Ex → List α → List AB) (pre : List α) : Ex → List AV → List AB → Prop := fun e _ H' => match e with
  | .normal => Jv pre ∧ Hsim H' (hp pre)
  | e => Lx e pre ∧ Hsim H' (hx e pre)
theorem resJ_mono {Q Q' : Ex → List AV → List AB → Prop} (h : ∀ e T H, Q e T H → Q' e T H) : ∀ {r : Res}, r.ok Q → r.ok Q'
  | .err, hq => hq
  | .out e T H, hq => h e T H hq
theorem roundJ_of {α : Type} {lv : Ex → Bool} {hp : List α → List AB} {hx : Ex → List α → List AB} {pre : List α} {r : Res} (h : r.ok (RoundQ lv hp hx pre)) : r.ok (RoundJ (fun _ => True) (fun e _ => lv e = true) hp hx pre) :=
  resJ_mono (fun e T H hq => by
    cases e with
    | normal => exact ⟨trivial, hq⟩
    | ret => exact hq
    | exit j => exact hq) h

theorem range_lawJ {α : Type} {P : Program} {Γ : Gam} (hΓ : GamOk P Γ) (hmix : P.follows .mixedOrders = true) (hent : Enters P) {g : Operand} {gf : Nat} {lb : Array Value} {encs : α → List Value} {ps : Array Tmp} {assign body : Code} {S Sp : List α → Prop} {N nn n : Nat} {T : List AV} {a : Act} {w : World} {ν : Nu}
    (hg : a.eval g = .func (.func gf) #[] lb) (eg : ∀ args w, (callFunc gf args).run P w = .ok (.enter gf args) w) (Jv : List α → Prop) (Lx : Ex → List α → Prop) (hp : List α → List AB) (hx : Ex → List α → List AB) (hD1 : codeDef assign = true) (hD2 : codeDef body = true)
    {m : Nat} (hm : (hp []).length = m) (h0 : SR (ownM w ν (hp [])) w ν T (hp []) a w ν)
    (hseq : SeqStopsK (wideR none) nn P gf lb (fun x => (encs x).toArray) (keepR w (ownM w ν (hp []))) S Sp N w)
    (hps : ∀ x, (encs x).length = ps.size) (hpT : ∀ p ∈ ps.toList, p < T.length)
    (hJ0 : Jv [])
    (hround : ∀ pre x, Jv pre → pre.length < N → (execC P Γ n noLam assign (parT ps.toList (encs x) T) (hp pre) (andK P Γ n body m)).ok (RoundJ Jv Lx hp hx (pre ++ [x])))
    {Q : Exit → Act → World → Prop}
    (hdone : ∀ D xs W ν', w.heap.size ≤ D → S xs → Jv xs → SR (ownM w ν (hp [])) w ν T (hp xs) a W ν' → W.heap[D]? = some (.deferred (some [])) → Q .normal { a with defers := { target := .collected D, args := #[] } :: a.defers } W)
    (hleave : ∀ D e pre W ν', w.heap.size ≤ D → e ≠ .normal → Lx e pre → Sp pre → SR (ownM w ν (hp [])) w ν T (hx e pre) a W ν' → W.heap[D]? = some (.deferred (some [])) → Q (Ex.to e) { a with defers := { target := .collected D, args := #[] } :: a.defers } W) :
    (Code.rangeFunc g ps assign body).wpIn (wideR none) (nn + 1) P Q a w := by
  have hM : ∀ k, w.heap.size ≤ k → ownM w ν (hp []) k := fun k hk => .inl hk
  refine wpIn_rangeFunc fun fn hfn => ?_
  obtain ⟨rec, hrec⟩ : ∃ rec : LoopState → Option Code → Loop, rec = fun st pe => { state := st, pending := pe, fn, tmps := a.tmps, params := ps, assign, body, defers := w.heap.size } := ⟨_, rfl⟩
  obtain ⟨W1, hW1⟩ : ∃ W1, (w.alloc (.deferred (some []))).alloc (.loop (rec .ready none)) = W1 := ⟨_, rfl⟩
  have hsz : W1.heap.size = w.heap.size + 2 := by rw [← hW1]; simp
  have hL1 : W1.heap[w.heap.size + 1]? = some (.loop (rec .ready none)) := by
    rw [← hW1]; have := World.alloc_heap_new (w.alloc (.deferred (some []))) (.loop (rec .ready none)); rwa [World.size_alloc] at this
  have hK1 : W1.heap[w.heap.size]? = some (.deferred (some [])) := by
    rw [← hW1]; exact (Below.heap_alloc _ _ _ (by simp)).trans (World.alloc_heap_new w _)
  have hg1 : w.grownBy W1 none := by
    rw [← hW1]
    have e1 := World.grownBy_alloc w (.deferred (some [])) none
    have e2 := World.grownBy_alloc (w.alloc (.deferred (some []))) (.loop (rec .ready none)) none
    exact ⟨e2.os.trans e1.os, e2.tape.trans e1.tape, e2.output.trans e1.output, Nat.le_trans e1.size e2.size, fun k hk hn => (e2.block k (Nat.lt_of_lt_of_le hk e1.size) hn).trans (e1.block k hk hn)⟩
  have hb1 : Below w.heap.size w W1 := ⟨hg1.os, hg1.tape, hg1.output, hg1.size, fun k hk => hg1.block k hk (by simp)⟩
  -- the caller's word: I
  let I : List α → World → Prop := fun pre W => Jv pre ∧ ∃ ν', SR (ownM w ν (hp [])) w ν T (hp pre) a W ν'
  let Ix : Ex → List α → World → Prop := fun e pre W => (e ≠ .normal ∧ Lx e pre) ∧ ∃ ν', SR (ownM w ν (hp [])) w ν T (hx e pre) a W ν'
  have hI : ∀ pre W W' row, I pre W → W.grownBy W' row → (∀ r, row = some r → w.heap.size ≤ r ∧ ∃ o : Obj, W.heap[r]? = some o ∧ o.isCells = false) → I pre W' :=
    fun pre W W' row ⟨hj, ν', hs⟩ hg hr => ⟨hj, ν', hs.turn hM hg hr⟩
  have hIx : ∀ e pre W W' row, Ix e pre W → W.grownBy W' row → (∀ r, row = some r → w.heap.size ≤ r ∧ ∃ o : Obj, W.heap[r]? = some o ∧ o.isCells = false) → Ix e pre W' :=
    fun e pre W W' row ⟨hn, ν', hs⟩ hg hr => ⟨hn, ν', hs.turn hM hg hr⟩
  have hI1 : I [] W1 := hI [] w W1 none ⟨hJ0, ν, h0⟩ hg1 fun r e => by cases e
  have hnw : ∀ {A : World} {row : Option Nat}, (∀ r, row = some r → W1.heap.size ≤ r ∧ ∃ o : Obj, A.heap[r]? = some o ∧ o.isWalk = true) → (∀ r, row = some r → w.heap.size ≤ r ∧ ∃ o : Obj, A.heap[r]? = some o ∧ o.isCells = false) :=
    fun hr r e => by obtain ⟨hB, o, ho, hw⟩ := hr r e; exact ⟨by omega, o, ho, Obj.not_cells_of_walk hw⟩
  refine ⟨w.heap.size + 1, [{ target := .collected w.heap.size, args := #[] }], W1, { target := .fn (.func gf) lb, args := #[.func (.yield (w.heap.size + 1)) #[] #[]] }, W1, gf,
    #[.func (.yield (w.heap.size + 1)) #[] #[]] ++ lb, W1, ?_, ?_, fun _ _ => trivial, ?_, fun h => (by cases h), ?_⟩
  · rw [← hW1, hrec]; exact run_enterLoop_outer _ _ _ _ _
  · simp only [resolve, hg]
    simp [go_sem]
  · simp [invoke, go_sem, eg]
  · refine (hseq (w.heap.size + 1)
      (fun pre W => I pre W ∧ W.heap[w.heap.size + 1]? = some (.loop (rec .ready none)) ∧ W.heap[w.heap.size]? = some (.deferred (some [])))
      (fun pre W => ∃ e, Ix e pre W ∧ W.heap[w.heap.size + 1]? = some (.loop (rec .done (some (jumpOf e)))) ∧ W.heap[w.heap.size]? = some (.deferred (some [])))
      W1 hb1
      (fun s A B row hs hg' hr => ⟨hI s A B row hs.1 hg' (hnw hr), (grownBy_keeps hg' (fun r e => (hr r e).2) hs.2.1 rfl).trans hs.2.1, (grownBy_keeps hg' (fun r e => (hr r e).2) hs.2.2 rfl).trans hs.2.2⟩)
      (fun s A B row hs hg' hr => by
        obtain ⟨e, hc, hl, hk⟩ := hs
        exact ⟨e, hIx e s A B row hc hg' (hnw hr), (grownBy_keeps hg' (fun r e => (hr r e).2) hl rfl).trans hl, (grownBy_keeps hg' (fun r e => (hr r e).2) hk rfl).trans hk⟩)
      ?_ ⟨hI1, hL1, hK1⟩).mono ?_
    · rintro pre x W ⟨⟨hj, ν', hs⟩, hl, hk⟩ hlen
      have hlt : w.heap.size + 1 < W.heap.size := (Array.getElem?_eq_some_iff.1 hl).1
      have hy := run_yield (P := P) (args := (encs x).toArray) hl (by rw [hrec]; simp [hps x])
      rw [hrec] at hy
      refine ⟨fn, _, assign, body, hy, roundIn_of_wpIn hfn ?_⟩
      have hpar := par_sr (ps := ps.toList) (vs := encs x) (T := T) (t := a.tmps) hpT hs.len hs.tmps
      have hfold : (ps.zip (encs x).toArray).foldl (fun t (p, v) => t.setIfInBounds p v) a.tmps = (ps.toList.zip (encs x)).foldl (fun t (p, v) => t.setIfInBounds p v) a.tmps := by
        rw [← Array.foldl_toList, Array.toList_zip]
      have hstart : SR (ownM w ν (hp [])) w ν (parT ps.toList (encs x) T) (hp pre) { tmps := (ps.toList.zip (encs x)).foldl (fun t (p, v) => t.setIfInBounds p v) a.tmps, defers := [] } W ν' :=
        ⟨hpar.1, hs.heap, hs.fr, hs.dom, hpar.2, hs.le⟩
      have hsub1 : ∀ k, k < w.heap.size → ownM W ν' (hp pre) k → ownM w ν (hp []) k := by
        rintro k hk (hk' | ⟨i, b, hw, hb, rfl⟩)
        · have := hs.fr.size; omega
        · exact hs.heap.own i b hw hb
      have run1 := execC_in hΓ hmix hent (some (w.heap.size + 1)) (nn - 1) [] n assign hD1 (ownM W ν' (hp pre)) W ν' (fun k hk => .inl hk) _ _ _ _ _ W ν' (hround pre x hj hlen) hstart.rebase rfl
      show assign.wpIn (wideR (some (w.heap.size + 1))) (nn - 1) P _ _ W
      simp only [hfold]
      refine wpIn_mono run1 ?_
      rintro e a1 Wa ⟨e1, T1, H1, ν1, rfl, hk1, hS1, hd1⟩
      cases e1 with
      | exit id => exact hk1.elim
      | ret => exact hk1.elim
      | normal =>
        have hlA : Wa.heap[w.heap.size + 1]? = some (.loop (rec .ready none)) := (hS1.fr.block _ hlt (hs.own_cells hl rfl)).trans hl
        have hkA : Wa.heap[w.heap.size]? = some (.deferred (some [])) := (hS1.fr.block _ (by omega) (hs.own_cells hk rfl)).trans hk
        have hSu := hstart.unbase hM hS1
        refine ⟨_, run_beginRound hlA (by rw [hrec]), ?_⟩
        obtain ⟨W2, hW2⟩ : ∃ W2, Wa.putObj (w.heap.size + 1) (.loop { rec .ready none with state := .busy }) = W2 := ⟨_, rfl⟩
        have hl2 : W2.heap[w.heap.size + 1]? = some (.loop { rec .ready none with state := .busy }) := by rw [← hW2]; exact World.putObj_heap_same (Array.getElem?_eq_some_iff.1 hlA).1
        have hk2 : W2.heap[w.heap.size]? = some (.deferred (some [])) := by rw [← hW2]; exact (World.putObj_heap_other (by omega)).trans hkA
        have hS2 : SR (ownM w ν (hp [])) w ν T1 H1 a1 W2 ν1 := by
          rw [← hW2]
          refine hSu.turn hM (grownBy_putObj' Wa _ _) fun r e => ?_
          cases e
          exact ⟨by omega, _, hlA, rfl⟩
        have hkp2 : keepR w (ownM w ν (hp [])) W W2 := by
          rw [← hW2]
          exact (keepR.fr (hs.fr.size) hsub1 hS1.fr).trans (keepR.put (by omega))
        rw [hW2]
        have hsub2 : ∀ k, k < w.heap.size → ownM W2 ν1 H1 k → ownM w ν (hp []) k := by
          rintro k hk (hk' | ⟨i, b, hw, hb, rfl⟩)
          · have := hS2.fr.size; omega
          · exact hS2.heap.own i b hw hb
        have run2 := execC_in hΓ hmix hent (some (w.heap.size + 1)) (nn - 1) [] n body hD2 (ownM W2 ν1 H1) W2 ν1 (fun k hk => .inl hk) _ _ _ _ a1 W2 ν1 hk1 hS2.rebase hd1
        refine wpIn_mono run2 ?_
        rintro e a2 W3 ⟨e2, T2, H2, ν2, rfl, hk3, hS3, hd3⟩
        have hl3 : W3.heap[w.heap.size + 1]? = some (.loop { rec .ready none with state := .busy }) := (hS3.fr.block _ (Array.getElem?_eq_some_iff.1 hl2).1 (hS2.own_cells hl2 rfl)).trans hl2
        have hk3' : W3.heap[w.heap.size]? = some (.deferred (some [])) := (hS3.fr.block _ (Array.getElem?_eq_some_iff.1 hk2).1 (hS2.own_cells hk2 rfl)).trans hk2
        have hS4 := hS2.unbase hM hS3
        have hkp3 := hkp2.trans (keepR.fr hS2.fr.size hsub2 hS3.fr)
        unfold deadK leafK at hk3
        split at hk3
        · rename_i p hwk
          have hS5 := weak_sound hwk hS4 (by rw [← hm]; exact h0.dom)
          have fin : ∀ (jump : Option Code), (Instr.endRound (w.heap.size + 1) jump).run P W3 = .ok (.bool jump.isNone) (W3.putObj (w.heap.size + 1) (.loop (rec (if jump.isNone then .ready else .done) jump))) ∧
              (W3.putObj (w.heap.size + 1) (.loop (rec (if jump.isNone then .ready else .done) jump))).heap[w.heap.size + 1]? = some (.loop (rec (if jump.isNone then .ready else .done) jump)) ∧
              (W3.putObj (w.heap.size + 1) (.loop (rec (if jump.isNone then .ready else .done) jump))).heap[w.heap.size]? = some (.deferred (some [])) ∧ ∀ HH ν3, SR (ownM w ν (hp [])) w ν p.1 HH a2 W3 ν3 → SR (ownM w ν (hp [])) w ν T HH a (W3.putObj (w.heap.size + 1) (.loop (rec (if jump.isNone then .ready else .done) jump))) ν3 := fun jump => by
            have := run_endRound (P := P) jump hl3
            rw [hrec] at this ⊢
            refine ⟨this, World.putObj_heap_same (Array.getElem?_eq_some_iff.1 hl3).1, (World.putObj_heap_other (by omega)).trans hk3', fun HH ν3 hh => ?_⟩
            have h1 : SR (ownM w ν (hp [])) w ν T HH a W3 ν3 := ⟨fun t => (h0.tmps t).le hh.le, hh.heap, hh.fr, hh.dom, h0.len, hh.le⟩
            refine h1.turn hM (grownBy_putObj' W3 _ _) fun r e => ?_
            cases e
            exact ⟨by omega, _, hl3, rfl⟩
          cases e2 with
          | normal =>
            obtain ⟨f1, f2, f3, f4⟩ := fin none
            exact ⟨_, _, f1, .inl ⟨rfl, ⟨⟨hk3.1, _, f4 _ _ (hS5.sim hk3.2)⟩, f2, f3⟩, hkp3.trans (keepR.put (by omega))⟩⟩
          | ret =>
            obtain ⟨f1, f2, f3, f4⟩ := fin (some .ret)
            exact ⟨_, _, f1, .inr ⟨rfl, .ret, ⟨⟨(by simp), hk3.1⟩, _, f4 _ _ (hS5.sim hk3.2)⟩, f2, f3⟩⟩
          | exit id =>
            obtain ⟨f1, f2, f3, f4⟩ := fin (some (.exit id))
            exact ⟨_, _, f1, .inr ⟨rfl, .exit id, ⟨⟨(by simp), hk3.1⟩, _, f4 _ _ (hS5.sim hk3.2)⟩, f2, f3⟩⟩
        · exact hk3.elim
    · rintro e W2 ⟨⟨v, rfl⟩, (⟨xs, hS, ⟨hj, ν', hi⟩, hl, hk⟩ | ⟨pre, hSp, e, ⟨hne, ν', hi⟩, hl, hk⟩)⟩
      · have hend := run_endLoop (P := P) hl (by rw [hrec]; simp)
        rw [hrec] at hend
        refine ⟨none, _, hend, hdone _ xs _ ν' (Nat.le_refl _) hS hj (hi.turn hM (grownBy_putObj' W2 _ _) fun r e => ?_) ((World.putObj_heap_other (by omega)).trans hk)⟩
        cases e
        exact ⟨by omega, _, hl, rfl⟩
      · have hend := run_endLoop (P := P) hl (by rw [hrec]; simp)
        rw [hrec] at hend
        have hi' := hi.turn (w' := W2.putObj (w.heap.size + 1) (.loop { rec .done (some (jumpOf e)) with state := .exhausted })) hM (grownBy_putObj' W2 _ _) fun r e => by
          cases e
          exact ⟨by omega, _, hl, rfl⟩
        have hk' : (W2.putObj (w.heap.size + 1) (.loop { rec .done (some (jumpOf e)) with state := .exhausted })).heap[w.heap.size]? = some (.deferred (some [])) := (World.putObj_heap_other (by omega)).trans hk
        rw [hrec] at hi' hk'
        refine ⟨_, _, hend, ?_⟩
        cases e with
        | normal => exact (hne.1 rfl).elim
        | ret => exact wpIn_ret (hleave _ .ret pre _ ν' (Nat.le_refl _) hne.1 hne.2 hSp hi' hk')
        | exit id => exact wpIn_exit (hleave _ (.exit id) pre _ ν' (Nat.le_refl _) hne.1 hne.2 hSp hi' hk')

theorem range_law {α : Type} {P : Program} {Γ : Gam} (hΓ : GamOk P Γ) (hmix : P.follows .mixedOrders = true) (hent : Enters P) {g : Operand} {gf : Nat} {lb : Array Value} {encs : α → List Value} {ps : Array Tmp} {assign body : Code} {S Sp : List α → Prop} {N nn n : Nat} {T : List AV} {a : Act} {w : World} {ν : Nu}
    (hg : a.eval g = .func (.func gf) #[] lb) (eg : ∀ args w, (callFunc gf args).run P w = .ok (.enter gf args) w) (lv : Ex → Bool) (hp : List α → List AB) (hx : Ex → List α → List AB) (hD1 : codeDef assign = true) (hD2 : codeDef body = true)
    {m : Nat} (hm : (hp []).length = m) (h0 : SR (ownM w ν (hp [])) w ν T (hp []) a w ν)
    (hseq : SeqStopsK (wideR none) nn P gf lb (fun x => (encs x).toArray) (keepR w (ownM w ν (hp []))) S Sp N w)
    (hps : ∀ x, (encs x).length = ps.size) (hpT : ∀ p ∈ ps.toList, p < T.length)
    (hround : ∀ pre x, pre.length < N → (execC P Γ n noLam assign (parT ps.toList (encs x) T) (hp pre) (andK P Γ n body m)).ok (RoundQ lv hp hx (pre ++ [x])))
    {Q : Exit → Act → World → Prop}
    (hdone : ∀ D xs W ν', w.heap.size ≤ D → S xs → SR (ownM w ν (hp [])) w ν T (hp xs) a W ν' → W.heap[D]? = some (.deferred (some [])) → Q .normal { a with defers := { target := .collected D, args := #[] } :: a.defers } W)
    (hleave : ∀ D e pre W ν', w.heap.size ≤ D → e ≠ .normal → lv e = true → Sp pre → SR (ownM w ν (hp [])) w ν T (hx e pre) a W ν' → W.heap[D]? = some (.deferred (some [])) → Q (Ex.to e) { a with defers := { target := .collected D, args := #[] } :: a.defers } W) :
    (Code.rangeFunc g ps assign body).wpIn (wideR none) (nn + 1) P Q a w :=
  range_lawJ hΓ hmix hent hg eg (fun _ => True) (fun e _ => lv e = true) hp hx hD1 hD2 hm h0 hseq hps hpT trivial (fun pre x _ hl => roundJ_of (hround pre x hl)) (fun D xs W ν' h1 h2 _ => hdone D xs W ν' h1 h2) hleave

end Go.Proofs.Ytoligfhcogligaa

/- The abstract machine, 21: a function whose body holds a loop over a function. Conditions: the word of the function that yields. -/
namespace Go.Proofs.Ytoligfhcogligaa
open Go.RowKit

def nestL : List Code → Code → Code
  | [], z => z
  | c :: cs, z => .seq c (nestL cs z)
def execL (P : Program) (Γ : Gam) (n : Nat) : List Code → List AV → List AB → Kont → Res
  | [], T, H, K => K .normal T H
  | c :: cs, T, H, K => execC P Γ n noLam c T H (fun e T' H' => match e with
    | .normal => execL P Γ n cs T' H' K
    | _ => .err)

theorem execL_in {P : Program} {Γ : Gam} (hΓ : GamOk P Γ) (hmix : P.follows .mixedOrders = true) (hent : Enters P) (nn n : Nat) {M : Nat → Prop} {w0 : World} {ν0 : Nu} (hM : ∀ k, w0.heap.size ≤ k → M k) {K : Kont} {Q : Ex → List AV → List AB → Prop} {z : Code} {Qw : Exit → Act → World → Prop}
    (hz : ∀ T H a w ν, (K .normal T H).ok Q → SR M w0 ν0 T H a w ν → a.defers = [] → z.wpIn (wideR none) nn P Qw a w) :
    ∀ (cs : List Code), cs.all codeDef = true → ∀ T H a w ν, (execL P Γ n cs T H K).ok Q → SR M w0 ν0 T H a w ν → a.defers = [] → (nestL cs z).wpIn (wideR none) nn P Qw a w
  | [], _, T, H, a, w, ν, h, hS, hd => hz T H a w ν h hS hd
  | c :: cs, hD, T, H, a, w, ν, h, hS, hd => by
    simp only [List.all_cons, Bool.and_eq_true] at hD
    refine wpIn_seq (wpIn_mono (execC_in hΓ hmix hent none nn [] n c hD.1 M w0 ν0 hM T H _ Q a w ν h hS hd) ?_)
    rintro e a' w' ⟨e', T', H', ν', rfl, hk, hS', hd'⟩
    cases e' with
    | normal => exact execL_in hΓ hmix hent nn n hM hz cs hD.2 T' H' a' w' ν' hk hS' hd'
    | exit id => exact hk.elim
    | ret => exact hk.elim

/-- Less is known. -/
theorem SR.less {M : Nat → Prop} {w0 : World} {ν0 : Nu} {T T' : List AV} {H H' : List AB} {a : Act} {w : World} {ν : Nu} (h : SR M w0 ν0 T H a w ν) (hl : T'.length = T.length) (hT : ∀ t, T'.getD t .dead = T.getD t .dead ∨ T'.getD t .dead = .dead) (hn : H'.length = H.length) (hH : ∀ i, H'.getD i .gone = H.getD i .gone ∨ H'.getD i .gone = .gone) : SR M w0 ν0 T' H' a w ν := by
  refine ⟨fun t => ?_, ⟨fun i => ?_, fun i j b b' hne hw hlv => ?_, fun i b hw => ?_, h.heap.lt⟩, h.fr, fun i b hb => by rw [hn]; exact h.dom i b hb, by rw [hl]; exact h.len, h.le⟩
  · rcases hT t with e | e
    · rw [e]; exact h.tmps t
    · rw [e]; simp only [VR]
  · rcases hH i with e | e
    · simp only [e]; exact h.heap.br i
    · simp only [e]; trivial
  · refine h.heap.sep i j b b' hne ?_ ?_
    · rcases hH i with e | e
      · rw [e] at hw; exact hw
      · rw [e] at hw; cases hw
    · rcases hH j with e | e
      · rw [e] at hlv; exact hlv
      · rw [e] at hlv; cases hlv
  · refine h.heap.own i b ?_
    rcases hH i with e | e
    · rw [e] at hw; exact hw
    · rw [e] at hw; cases hw

theorem mask_less {T TT : List AV} {live : List Nat} (h : T = maskT live 0 TT) (t : Nat) : T.getD t .dead = TT.getD t .dead ∨ T.getD t .dead = .dead := by
  subst h
  rw [maskT_get]
  split
  · exact .inl rfl
  · exact .inr rfl

/-- Behind the loop. -/
def behind (P : Program) (Γ : Gam) (n : Nat) (fn : Func) (id : Nat) (rest : Code) (Kc : AV → List AB → Res) : Kont :=
  exitK id (thenK (fun T H => execC P Γ n noLam rest T H (finC P fn Kc)) (finC P fn Kc))

theorem calls_rangeJ {α : Type} {P : Program} {Γ : Gam} (hΓ : GamOk P Γ) (hmix : P.follows .mixedOrders = true) (hent : Enters P) {f : FuncId} {fn : Func} (hf : P.funcs[f]? = some fn) {pre : List Code} {p2 rest assign body : Code} {id : Nat} {g : Operand} {ps : Array Tmp}
    (hb : fn.body = some (nestL pre (.seq (.seq p2 (.block id (.rangeFunc g ps assign body))) rest))) (hDp : pre.all codeDef = true) (hD2 : codeDef p2 = true) (hDr : codeDef rest = true) (hDa : codeDef assign = true) (hDb : codeDef body = true) {n nn : Nat}
    {avs : List AV} {TT : List AV} {HH H0 : List AB} {lvp : Ex → List Nat} {gf : Nat} {cs : List AV} {encs : α → List Value} {S Sp : List α → Prop} {N : Nat} {Q : Ex → List AV → List AB → Prop}
    (hpre : (execL P Γ n (pre ++ [p2]) (avs ++ List.replicate (fn.ntmps - avs.length) (.v undef)) H0 (leafK lvp H0.length)).ok (fun e T' H' => e = .normal ∧ T' = TT ∧ H' = HH)) (hg : evA TT g = .fn gf cs)
    (T : List AV) (hTl : T.length = TT.length) (hT : ∀ t, T.getD t .dead = TT.getD t .dead ∨ T.getD t .dead = .dead) (Jv : List α → Prop) (Lx : Ex → List α → Prop) (hp : List α → List AB) (hx : Ex → List α → List AB) (hHl : (hp []).length = HH.length) (hH : ∀ i, (hp []).getD i .gone = HH.getD i .gone ∨ (hp []).getD i .gone = .gone)
    (eg : ∀ args w, (callFunc gf args).run P w = .ok (.enter gf args) w)
    (hIter : ∀ W ν1 a1 lb, SR (ownM W ν1 HH) W ν1 TT HH a1 W ν1 → VRs ν1 cs lb → SeqStopsK (wideR none) nn P gf lb.toArray (fun x => (encs x).toArray) (keepR W (ownM W ν1 (hp []))) S Sp N W)
    (hps : ∀ x, (encs x).length = ps.size) (hpT : ∀ p ∈ ps.toList, p < T.length)
    (hJ0 : Jv [])
    (hround : ∀ pre x, Jv pre → pre.length < N → (execC P Γ n noLam assign (parT ps.toList (encs x) T) (hp pre) (andK P Γ n body HH.length)).ok (RoundJ Jv Lx hp hx (pre ++ [x])))
    (hdone : ∀ xs, S xs → Jv xs → (behind P Γ n fn id rest (packK H0.length) .normal T (hp xs)).ok Q)
    (hleave : ∀ e pre, e ≠ .normal → Lx e pre → Sp pre → (behind P Γ n fn id rest (packK H0.length) e T (hx e pre)).ok Q) :
    ∀ (M : Nat → Prop) (vals : List Value) (w : World) (ν : Nu), (∀ k, w.heap.size ≤ k → M k) → VRs ν avs vals → RH M ν (fun b => H0.getD b .gone) w → (∀ i b, ν i = some b → i < H0.length) →
      Calls P f vals.toArray w (RetG Q M ν w) := by
  intro M vals w ν hM hv hR hdom
  rw [← callsIn_wide (n := nn + 1), ← wideR_none]
  refine callsIn_of_wp_marks hf hb trivial ?_
  have hst := start_sr (fn := fn) hv hR hdom
  -- the end of the function, deferred calls and all
  have leave : ∀ (e : Exit) (e' : Ex) (D : Nat) (T' : List AV) (H' : List AB) (a' : Act) (w' : World) (ν' : Nu), (e = .normal ∨ e = .ret) → a'.defers = [{ target := .collected D, args := #[] }] → (finC P fn (packK H0.length) .ret T' H').ok Q → SR M w ν T' H' a' w' ν' → w.heap.size ≤ D → w'.heap[D]? = some (.deferred (some [])) →
      bodyPostM (wideR none) (nn + 1) P fn (RetG Q M ν w) e a' w' := by
    intro e e' D T' H' a' w' ν' he hd hk hS hDl hDd
    have key : LeavesInM (wideR none) (nn + 1) P fn a'.tmps (RetG Q M ν w) a'.defers .returning w' := by
      rw [hd]
      refine ⟨by simp, .inl ⟨D, _, rfl, run_takeDeferred hDd, ?_⟩⟩
      have hS' := hS.turn (w' := w'.putObj D (.deferred none)) hM (grownBy_putObj' w' D _) fun r e => by
        cases e
        exact ⟨hDl, _, hDd, rfl⟩
      simp only [finC] at hk
      split at hk
      · rename_i vs ob hres
        obtain ⟨h1, h2⟩ := needs_ok hk
        obtain ⟨v, h3, h4⟩ := results_run hS'.tmps hS'.heap.br hres h1
        refine ⟨v, h3, ?_⟩
        unfold packK at h2
        split at h2
        · rename_i p hp'
          have hSo : SR M w ν [oneA vs] H' { tmps := #[v], defers := [] } (w'.putObj D (.deferred none)) ν' := by
            refine ⟨fun t => ?_, hS'.heap, hS'.fr, hS'.dom, by simp, hS'.le⟩
            cases t with
            | zero => simpa using h4
            | succ t => simp only [List.getD_cons_succ, List.getD_nil, VR]
          have hW := weak_sound hp' hSo hdom
          have hp1 : p.1.length = 1 := by
            have := hp'
            unfold weak at this
            split at this
            · rename_i T1 H1 hT hH1
              cases hc : (nodupB (keepOf H0.length (maskT [0] 0 [oneA vs]) H') && (keepOf H0.length (maskT [0] 0 [oneA vs]) H').take H0.length == upN 0 H0.length) with
              | false => rw [hc] at this; cases this
              | true =>
                rw [hc] at this
                cases this
                have := renAs_length hT
                simpa [maskT] using this
            · cases this
          match hp2 : p.1, hp1 with
          | [av'], _ =>
            rw [hp2] at h2 hW
            exact ⟨v, av', p.2, _, rfl, h2, by simpa using hW.tmps 0, hW.heap, hW.fr, hW.le, hW.dom⟩
        · exact h2.elim
      · exact hk.elim
    rcases he with rfl | rfl
    · exact key
    · exact key
  -- behind the loop: from what holds there
  have after : ∀ (e : Ex) (D : Nat) (T' : List AV) (H' : List AB) (a' : Act) (w' : World) (ν' : Nu), a'.defers = [{ target := .collected D, args := #[] }] → (behind P Γ n fn id rest (packK H0.length) e T' H').ok Q → SR M w ν T' H' a' w' ν' → w.heap.size ≤ D → w'.heap[D]? = some (.deferred (some [])) →
      Exit.inBlock id (Exit.then (rest.wpIn (wideR none) (nn + 1) P (bodyPostM (wideR none) (nn + 1) P fn (RetG Q M ν w))) (bodyPostM (wideR none) (nn + 1) P fn (RetG Q M ν w))) (Ex.to e) a' w' := by
    intro e D T' H' a' w' ν' hd hk hS hDl hDd
    have run : (execC P Γ n noLam rest T' H' (finC P fn (packK H0.length))).ok Q → rest.wpIn (wideR none) (nn + 1) P (bodyPostM (wideR none) (nn + 1) P fn (RetG Q M ν w)) a' w' := by
      intro hk
      refine wpIn_mono (execC_in hΓ hmix hent none (nn + 1) _ n rest hDr (ownM w' ν' H') w' ν' (fun k hk => .inl hk) T' H' _ Q a' w' ν' hk hS.rebase hd) ?_
      rintro e a2 w2 ⟨e2, T2, H2, ν2, rfl, hk2, hS2, hd2⟩
      have hD2 : w2.heap[D]? = some (.deferred (some [])) := (hS2.fr.block D (Array.getElem?_eq_some_iff.1 hDd).1 (hS.own_cells hDd rfl)).trans hDd
      have hS3 := hS.unbase hM hS2
      cases e2 with
      | normal => exact leave _ .normal D T2 H2 a2 w2 ν2 (.inl rfl) hd2 hk2 hS3 hDl hD2
      | ret => exact leave _ .ret D T2 H2 a2 w2 ν2 (.inr rfl) hd2 hk2 hS3 hDl hD2
      | exit j => exact hk2.elim
    cases e with
    | normal => exact run hk
    | ret => exact leave .ret .ret D T' H' a' w' ν' (.inr rfl) hd hk hS hDl hDd
    | exit j =>
      simp only [behind, exitK] at hk
      simp only [Ex.to, Exit.inBlock]
      cases hj : Nat.beq j id with
      | true =>
        rw [hj] at hk
        rw [if_pos (Nat.eq_of_beq_eq_true hj)]
        exact run hk
      | false =>
        rw [hj] at hk
        exact hk.elim
  have hpre' : (execL P Γ n pre (avs ++ List.replicate (fn.ntmps - avs.length) (.v undef)) H0 (fun e T' H' => match e with
      | .normal => execL P Γ n [p2] T' H' (leafK lvp H0.length)
      | _ => .err)).ok (fun e T' H' => e = .normal ∧ T' = TT ∧ H' = HH) := by
    have app : ∀ (l : List Code) (T : List AV) (H : List AB), execL P Γ n (l ++ [p2]) T H (leafK lvp H0.length) = execL P Γ n l T H (fun e T' H' => match e with
      | .normal => execL P Γ n [p2] T' H' (leafK lvp H0.length)
      | _ => .err) := by
      intro l
      induction l with
      | nil => intro T H; rfl
      | cons c l ih =>
        intro T H
        simp only [List.cons_append, execL]
        congr 1
        funext e T' H'
        cases e with
        | normal => exact ih T' H'
        | _ => rfl
    rw [← app]
    exact hpre
  refine execL_in hΓ hmix hent (nn + 1) n hM (fun T2 H2 a2 w2 ν2 hk2 hS2 hd2 => ?_) pre hDp _ _ _ _ _ hpre' hst rfl
  refine wpIn_seq (wpIn_seq (wpIn_mono (execC_in hΓ hmix hent none (nn + 1) [] n p2 hD2 M w ν hM T2 H2 _ _ a2 w2 ν2 hk2 hS2 hd2) ?_))
  rintro e a3 w3 ⟨e3, T3, H3, ν3, rfl, hk3, hS3, hd3⟩
  cases e3 with
  | exit j => exact hk3.elim
  | ret => exact hk3.elim
  | normal =>
    simp only [execL] at hk3
    unfold leafK at hk3
    split at hk3
    · rename_i p hwk
      obtain ⟨_, hp1, hp2⟩ := hk3
      have hS4 := weak_sound hwk hS3 hdom
      rw [hp1, hp2] at hS4
      generalize keepNu (keepOf H0.length (maskT (lvp .normal) 0 T3) H3) ν3 = ν4 at hS4
      have hSr := hS4.rebase
      have hgv : VR ν4 (.fn gf cs) (a3.eval g) := by
        have := evA_sound (T := TT) (a := a3) (ν := ν4) (z := g) fun t _ => hS4.tmps t
        rw [hg] at this
        exact this
      simp only [VR] at hgv
      obtain ⟨lb, hlb, hvs⟩ := hgv
      have hS5 : SR (ownM w3 ν4 (hp [])) w3 ν4 T (hp []) a3 w3 ν4 := (hS4.less (T' := T) (H' := hp []) hTl hT hHl hH).rebase
      have hS5M : SR M w ν T (hp []) a3 w3 ν4 := hS4.less (T' := T) (H' := hp []) hTl hT hHl hH
      show (Code.block id (.rangeFunc g ps assign body)).wpIn (wideR none) (nn + 1) P _ a3 w3
      refine wpIn_block ?_
      have sz := hS4.fr.size
      refine range_lawJ hΓ hmix hent hlb eg Jv Lx hp hx hDa hDb hHl hS5 (hIter w3 ν4 a3 lb hSr hvs) hps hpT hJ0 hround (fun D xs W ν' hD hs hj hS hDd => ?_) (fun D e pre W ν' hD hne hlv hs hS hDd => ?_)
      · refine after .normal D T (hp xs) _ W ν' (by rw [← hd3]) (hdone xs hs hj) ?_ (by omega) hDd
        have := hS5M.unbase hM hS
        exact ⟨this.tmps, this.heap, this.fr, this.dom, this.len, this.le⟩
      · refine after e D T (hx e pre) _ W ν' (by rw [← hd3]) (hleave e pre hne hlv hs) ?_ (by omega) hDd
        have := hS5M.unbase hM hS
        exact ⟨this.tmps, this.heap, this.fr, this.dom, this.len, this.le⟩
    · exact hk3.elim

theorem calls_range {α : Type} {P : Program} {Γ : Gam} (hΓ : GamOk P Γ) (hmix : P.follows .mixedOrders = true) (hent : Enters P) {f : FuncId} {fn : Func} (hf : P.funcs[f]? = some fn) {pre : List Code} {p2 rest assign body : Code} {id : Nat} {g : Operand} {ps : Array Tmp}
    (hb : fn.body = some (nestL pre (.seq (.seq p2 (.block id (.rangeFunc g ps assign body))) rest))) (hDp : pre.all codeDef = true) (hD2 : codeDef p2 = true) (hDr : codeDef rest = true) (hDa : codeDef assign = true) (hDb : codeDef body = true) {n nn : Nat}
    {avs : List AV} {TT : List AV} {HH H0 : List AB} {lvp : Ex → List Nat} {gf : Nat} {cs : List AV} {encs : α → List Value} {S Sp : List α → Prop} {N : Nat} {Q : Ex → List AV → List AB → Prop}
    (hpre : (execL P Γ n (pre ++ [p2]) (avs ++ List.replicate (fn.ntmps - avs.length) (.v undef)) H0 (leafK lvp H0.length)).ok (fun e T' H' => e = .normal ∧ T' = TT ∧ H' = HH)) (hg : evA TT g = .fn gf cs)
    (T : List AV) (hTl : T.length = TT.length) (hT : ∀ t, T.getD t .dead = TT.getD t .dead ∨ T.getD t .dead = .dead) (lv : Ex → Bool) (hp : List α → List AB) (hx : Ex → List α → List AB) (hHl : (hp []).length = HH.length) (hH : ∀ i, (hp []).getD i .gone = HH.getD i .gone ∨ (hp []).getD i .gone = .gone)
    (eg : ∀ args w, (callFunc gf args).run P w = .ok (.enter gf args) w)
    (hIter : ∀ W ν1 a1 lb, SR (ownM W ν1 HH) W ν1 TT HH a1 W ν1 → VRs ν1 cs lb → SeqStopsK (wideR none) nn P gf lb.toArray (fun x => (encs x).toArray) (keepR W (ownM W ν1 (hp []))) S Sp N W)
    (hps : ∀ x, (encs x).length = ps.size) (hpT : ∀ p ∈ ps.toList, p < T.length)
    (hround : ∀ pre x, pre.length < N → (execC P Γ n noLam assign (parT ps.toList (encs x) T) (hp pre) (andK P Γ n body HH.length)).ok (RoundQ lv hp hx (pre ++ [x])))
    (hdone : ∀ xs, S xs → (behind P Γ n fn id rest (packK H0.length) .normal T (hp xs)).ok Q)
    (hleave : ∀ e pre, e ≠ .normal → lv e = true → Sp pre → (behind P Γ n fn id rest (packK H0.length) e T (hx e pre)).ok Q) :
    ∀ (M : Nat → Prop) (vals : List Value) (w : World) (ν : Nu), (∀ k, w.heap.size ≤ k → M k) → VRs ν avs vals → RH M ν (fun b => H0.getD b .gone) w → (∀ i b, ν i = some b → i < H0.length) →
      Calls P f vals.toArray w (RetG Q M ν w) :=
  calls_rangeJ hΓ hmix hent hf hb hDp hD2 hDr hDa hDb hpre hg T hTl hT (fun _ => True) (fun e _ => lv e = true) hp hx hHl hH eg hIter hps hpT trivial (fun pre x _ hl => roundJ_of (hround pre x hl)) (fun xs hs _ => hdone xs hs) hleave

end Go.Proofs.Ytoligfhcogligaa

/- The abstract machine, 20: a region that draws its order, up to an operation behind which all is in line. Conditions: those of the table of callees. -/
namespace Go.Proofs.Ytoligfhcogligaa
open Go.RowKit

/-- From k on each operation stands behind all of the first k. -/
def tailOk (k : Nat) (all : List Oper) : Bool := (List.range all.length).all fun i => Nat.blt i k || (List.range k).all fun j => ((befL all []).getD i 0).testBit j
def cutL (k n : Nat) : Array Bool := ((List.range n).map fun j => decide (j < k)).toArray

theorem cut_count : ∀ {k n : Nat}, k ≤ n → (((List.range n).map fun j => decide (j < k)).toArray.toList).count false = n - k := by
  intro k n
  induction n with
  | zero => intro h; simp
  | succ n ih =>
    intro h
    simp only [List.range_succ, List.map_append, List.map_cons, List.map_nil, List.count_append] at ih ⊢
    by_cases hk : k ≤ n
    · rw [ih hk, decide_eq_false (by omega)]
      simp
      omega
    · have : k = n + 1 := by omega
      subst this
      have h0 : ((List.range n).map fun j => decide (j < n + 1)).count false = 0 := by
        rw [List.count_eq_zero]
        intro hm
        obtain ⟨j, hj, e⟩ := List.mem_map.1 hm
        have := List.mem_range.1 hj
        simp at e
        omega
      rw [h0, decide_eq_true (by omega)]
      simp

theorem zip_take : ∀ (l : List Oper) (es : List Ent), List.zipWith Item.mk (l.take es.length) es = List.zipWith Item.mk l es
  | [], es => by simp
  | o :: l, [] => by simp
  | o :: l, e :: es => by simp [zip_take l es]

theorem any_cut {P : Program} {Γ : Gam} (hΓ : GamOk P Γ) {nn k : Nat} {all : List Oper} {es : List Ent} {M : Nat → Prop} {w0 : World} {ν0 : Nu} (hM : ∀ k, w0.heap.size ≤ k → M k) {T : List AV} {H : List AB} {T' : List AV} {H' : List AB} (r : RunOk P Γ all (all.take k) es T H T' H') (hkl : k ≤ all.length) (hnd : noDef all.toArray = true) (hB : drawOk all es = true) (hC : tailOk k all = true)
    {a : Act} {w : World} {ν : Nu} {Q : Exit → Act → World → Prop} (hQo : ¬ LetsOut Q) (h : SR M w0 ν0 T H a w ν) (hQ : ∀ a' w' ν', SR M w0 ν0 T' H' a' w' ν' → a'.defers = a.defers → wpAnyIn (wideR none) nn P .any all.toArray Q (all.length - k) (cutL k all.length) a' w') : wpAnyIn (wideR none) nn P .any all.toArray Q all.length (Array.replicate all.length false) a w := by
  have rl : es.length = k := by rw [run_len r]; simp; omega
  have hitems : items (all.take k) es = items all es := by
    simp only [items]
    rw [← rl]
    exact zip_take all es
  have ra : RunAt P Γ all all es T H T' H' := by
    have r0 := run_at r
    have := r0.at_
    exact ⟨by omega, r0.lenT, r0.lenH, by rw [← hitems]; exact r0.at_, by rw [← hitems]; exact r0.endT, by rw [← hitems]; exact r0.endH, by rw [← hitems]; exact r0.base, by rw [← hitems]; exact r0.apart, by rw [← hitems]; exact r0.lt⟩
  have hlen : (items all es).length = k := by simp [items, rl]; omega
  simp only [drawOk, Bool.and_eq_true] at hB
  obtain ⟨hB1, hB2⟩ := hB
  have edges : ∀ (i : Nat) o, all[i]? = some o → ∀ e ∈ o.after, Region.binds .any e = true → e.on < i := fun i o ho e he hb => by simpa using edgesOk_spec hB1 i o ho e he hb
  have races : ∀ (i j : Nat) x y, i < j → (items all es)[i]? = some x → (items all es)[j]? = some y → ((befL all []).getD j 0).testBit i = true ∨ apartI all.toArray x y = true := fun i j x y hij hx hy => raceFree_spec hB2 j y hy i x (by simpa using hij) (by simpa using hx)
  have key : ∀ (f : Nat) (listed : Array Bool) (a' : Act) (w' : World) (ν' : Nu), listed.size = all.length → listed.toList.count false = f → Closed all (fun j => listed.getD j false) → (∀ j, k ≤ j → listed.getD j false = false) →
      Stage M w0 ν0 T.length H.length (fun t => T.getD t .dead) (fun b => H.getD b .gone) (items all es) (fun j => listed.getD j false) a' w' ν' → a'.defers = a.defers → wpAnyIn (wideR none) nn P .any all.toArray Q f listed a' w' := by
    intro f
    have fin : ∀ (f : Nat) (listed : Array Bool) (a' : Act) (w' : World) (ν' : Nu), listed.size = all.length → listed.toList.count false = f → (∀ j, k ≤ j → listed.getD j false = false) →
        Stage M w0 ν0 T.length H.length (fun t => T.getD t .dead) (fun b => H.getD b .gone) (items all es) (fun j => listed.getD j false) a' w' ν' → a'.defers = a.defers → (∀ j, j < k → listed.getD j false = true) → wpAnyIn (wideR none) nn P .any all.toArray Q f listed a' w' := by
      intro f listed a' w' ν' hs hcnt hno st hd allT
      have e1 : listed = cutL k all.length := by
        apply Array.ext
        · simp [cutL, hs]
        · intro j hj1 hj2
          simp only [cutL, List.getElem_toArray, List.getElem_map, List.getElem_range]
          have h1 : listed.getD j false = listed[j] := by simp [Array.getD, hj1]
          rw [← h1]
          by_cases hjk : j < k
          · rw [allT j hjk, decide_eq_true hjk]
          · rw [hno j (by omega), decide_eq_false hjk]
      have e2 : f = all.length - k := by
        rw [← hcnt, e1]
        simp only [cutL]
        exact cut_count hkl
      rw [e2, e1]
      exact hQ a' w' ν' (stage_end ra st fun j hj => allT j (by omega)) hd
    induction f with
    | zero =>
      intro listed a' w' ν' hs hcnt hc hno st hd
      refine fin 0 listed a' w' ν' hs hcnt hno st hd fun j hj => ?_
      have hjs : j < listed.size := by omega
      have hne : false ∉ listed.toList := List.count_eq_zero.1 hcnt
      have : listed[j] ≠ false := fun e => hne (by rw [← e]; simp)
      simp [Array.getD, hjs]
      simpa using this
    | succ f ih =>
      intro listed a' w' ν' hs hcnt hc hno st hd
      by_cases hall : ∀ j, j < k → listed.getD j false = true
      · exact fin (f + 1) listed a' w' ν' hs hcnt hno st hd hall
      refine ⟨fun hnil => (hall fun j hj => ?_).elim, fun i hi => wpOp_in hnd hQo ?_⟩
      · induction j using Nat.strongRecOn with
        | _ j jh =>
          cases hl : listed.getD j false with
          | true => rfl
          | false =>
            have : j ∈ Region.ready .any all.toArray listed := by
              rw [mem_ready]
              refine ⟨by rw [getD_bool (by omega) true false]; exact hl, all[j], by simp [show j < all.length by omega], fun e he hb => ?_⟩
              have hlt := edges j all[j] (by simp [show j < all.length by omega]) e he hb
              exact jh e.on hlt (by omega)
            rw [hnil] at this
            cases this
      · obtain ⟨h1, o, ho, he⟩ := mem_ready.1 hi
        have hil : i < all.length := by simpa using (Array.getElem?_eq_some_iff.1 ho).1
        have hoa : all[i]? = some o := by simpa using ho
        have hS0 : listed.getD i false = false := by rw [getD_bool (by omega) false true]; exact h1
        have hik : i < k := by
          rcases Nat.lt_or_ge i k with h | h
          · exact h
          · exfalso
            have anc0 : ∀ q, ((befL all []).getD i 0).testBit q = true → listed.getD q false = true := befL_spec (S := fun j => listed.getD j false) (r := all) (acc := []) hc rfl (fun j o hj => by simp at hj) i o hoa he
            have := List.all_eq_true.1 hC i (by simpa using hil)
            rcases Bool.or_eq_true_iff.1 this with h' | h'
            · rw [Nat.blt_eq] at h'; omega
            · exact hall fun j hj => anc0 j (List.all_eq_true.1 h' j (by simpa using hj))
        have hix : (items all es)[i]? = some (items all es)[i] := List.getElem?_eq_getElem (by omega)
        generalize hxg : (items all es)[i] = x at hix
        have hxo : x.o = o := by
          simp only [items, List.getElem?_zipWith] at hix
          split at hix
          · rename_i o' e' h1' h2'
            cases hix
            rw [hoa] at h1'
            cases h1'
            rfl
          · cases hix
        -- ancestors of i are listed; those of a listed one are listed
        have anc : ∀ q, ((befL all []).getD i 0).testBit q = true → listed.getD q false = true := befL_spec (S := fun j => listed.getD j false) (r := all) (acc := []) hc rfl (fun j o hj => by simp at hj) i o hoa he
        have anc' : ∀ j, listed.getD j false = true → j < all.length → ∀ q, ((befL all []).getD j 0).testBit q = true → listed.getD q false = true := by
          intro j hj hjl
          have hjx : all[j]? = some all[j] := List.getElem?_eq_getElem hjl
          exact befL_spec (S := fun j => listed.getD j false) (r := all) (acc := []) hc rfl (fun j o hj => by simp at hj) j _ hjx (hc.cl j _ hjx hj)
        have before : ∀ (j : Nat) y, j < i → (items all es)[j]? = some y → apartI all.toArray y x = true ∨ listed.getD j false = true := by
          intro j y hj hy
          rcases races j i y x hj hy hix with h | h
          · exact .inr (anc j h)
          · exact .inl h
        have after' : ∀ (j : Nat) y, i < j → (items all es)[j]? = some y → apartI all.toArray x y = true ∨ listed.getD j false = false := by
          intro j y hj hy
          rcases races i j x y hj hix hy with h | h
          · right
            cases hl : listed.getD j false with
            | false => rfl
            | true =>
              have hjl : j < all.length := by
                have := (List.getElem?_eq_some_iff.1 hy).1
                omega
              have := anc' j hl hjl i h
              rw [hS0] at this
              cases this
          · exact .inl h
        refine stage_step hΓ hM ra hix st hS0 (fun t ht => ?_) (fun b hb => ?_) (fun t ht j y hj hy hdy => ?_) (fun b hb j y hj hy hwy => ?_) fun a'' w'' ν'' st' hd' => ?_
        · refine foldT_congr rfl fun j y hy hdy => ?_
          simp only [Nat.zero_add]
          rcases Nat.lt_trichotomy j i with hj | hj | hj
          · rw [decide_eq_true hj]
            exact (before j y hj hy).resolve_left fun ha => ((apartI_tmps ha).1 t hdy).1 ht
          · subst hj
            rw [hS0]
            simp
          · rw [decide_eq_false (by omega)]
            exact (after' j y hj hy).resolve_left fun ha => (apartI_tmps ha).2 t hdy ht
        · refine foldH_congr rfl fun j y hy hdy => ?_
          simp only [Nat.zero_add]
          rcases Nat.lt_trichotomy j i with hj | hj | hj
          · rw [decide_eq_true hj]
            exact (before j y hj hy).resolve_left fun ha => ((apartI_blocks ha).1 b hdy).1 hb
          · subst hj
            rw [hS0]
            simp
          · rw [decide_eq_false (by omega)]
            exact (after' j y hj hy).resolve_left fun ha => (apartI_blocks ha).2 b hdy hb
        · rcases after' j y hj hy with h | h
          · exact absurd hdy ((apartI_tmps h).1 t ht).2
          · exact h
        · rcases after' j y hj hy with h | h
          · exact absurd hwy ((apartI_blocks h).1 b hb).2
          · exact h
        · have hset : (fun j => (listed.setIfInBounds i true).getD j false) = also (fun j => listed.getD j false) i := by
            funext j
            simp only [also]
            by_cases e : i = j
            · subst e
              simp [Array.getD, show i < listed.size by omega]
            · rw [getD_set_ne false e]
              have : (j == i) = false := by simp; exact fun h => e h.symm
              rw [this, Bool.or_false]
          refine ih (listed.setIfInBounds i true) a'' w'' ν'' (by simpa using hs) ?_ ⟨fun j o' ho' hj e he' hb => ?_⟩ (fun j hj => by rw [getD_set_ne false (by omega)]; exact hno j hj) (by rw [hset]; exact st') (hd'.trans hd)
          · have hi' : i < listed.toList.length := by simp; omega
            have hval : listed.toList[i] = false := by
              have : i < listed.size := by omega
              simp [Array.getD, this] at hS0
              simpa using hS0
            simp only [Array.toList_setIfInBounds]
            rw [List.count_set hi']
            simp [hval, hcnt]
          · have hset' : ∀ j, (listed.setIfInBounds i true).getD j false = also (fun j => listed.getD j false) i j := congrFun hset
            rw [hset'] at hj ⊢
            simp only [also, Bool.or_eq_true, beq_iff_eq] at hj ⊢
            rcases hj with hj | rfl
            · exact .inl (hc.cl j o' ho' hj e he' hb)
            · rw [hoa] at ho'
              cases ho'
              exact .inl (he e he' hb)
  have rep : ∀ j, (Array.replicate all.length false).getD j false = false := by
    intro j
    rw [Array.getD_eq_getD_getElem?, Array.getElem?_replicate]
    split <;> rfl
  refine key all.length _ a w ν (by simp) (by simp) ⟨fun j o ho hj => ?_⟩ (fun j _ => rep j) (stage_start h _ fun j => rep j) rfl
  rw [rep j] at hj
  cases hj

end Go.Proofs.Ytoligfhcogligaa

/- The function that yields the sides of a polygon: its word. Conditions: the list holds points. -/
namespace Go.Proofs.Ytoligfhcogligaa
open Go.RowKit
set_option maxRecDepth 100000

abbrev rowC (a : Nat → Nat → Int) : Nat → List Value := fun j => [i64 (a j 0), i64 (a j 1), i64 (a j 2), i64 (a j 3), i64 (a j 4), i64 (a j 5), i64 (a j 6), i64 (a j 7)]
/-- A side, as yield is handed it. -/
abbrev pairV (p q : Nat → Int) : Value := .agg #[i64 (p 0), i64 (p 1), i64 (p 2), i64 (p 3), i64 (p 4), i64 (p 5), i64 (p 6), i64 (p 7), i64 (q 0), i64 (q 1), i64 (q 2), i64 (q 3), i64 (q 4), i64 (q 5), i64 (q 6), i64 (q 7)]

def outK : Kont := fun e T H => .out e T H
abbrev yv (l : Nat) : Value := .func (.yield l) #[] #[]
abbrev slI (m c : Nat) : AV := .sl 1 8 0 0 m (some c)
abbrev hpI (a : Nat → Nat → Int) (m c : Nat) (tB tr : TypeId) : List AB := [.cells [slI m c] tB, .row false m 8 (rowC a) tr]
def stI (l m c i : Nat) : List AV := mkT 0 26 [(0, .v (yv l)), (1, .ptr 0 1 0 0), (5, slI m c), (6, .v (i64 m)), (7, .v (i64 i))]

noncomputable def regI0 : Code := match (Try.f99).body with | some (.seq r _) => r | _ => .skip
noncomputable def loopI : Code := loopAt 0 Try.f99
def sqA : Code → Code | .seq a _ => a | c => c
def sqB : Code → Code | .seq _ b => b | c => c
def blB : Code → Code | .block _ b => b | c => c
theorem bodyI : (Try.f99).body = some (.seq regI0 (.block 0 (.loop loopI))) := by kernel_rfl
noncomputable def regI1 : Code := sqA loopI
noncomputable def condI : Code := sqA (sqB loopI)
noncomputable def regI2 : Code := sqA (blB (sqA (sqB (sqB loopI))))
noncomputable def regI3 : Code := sqA (sqB (blB (sqA (sqB (sqB loopI)))))
noncomputable def regI4 : Code := sqB (sqB (sqB loopI))
noncomputable def opsI3 : Array Oper := match regI3 with | .region _ o _ => o | _ => #[]
theorem loopI_eq : loopI = .seq regI1 (.seq (.cond (.tmp 8) .skip (.exit 0)) (.seq (.block 1 (.seq regI2 (.seq (.region 3 opsI3 true) (.cond (.tmp 24) .ret .skip)))) regI4)) := by kernel_rfl

theorem runI0 (l m c : Nat) (a : Nat → Nat → Int) (tB tr : TypeId) : execC Try.prog g0 100 noLam regI0 ([.v (yv l), .ptr 0 1 0 0] ++ List.replicate 24 (.v undef)) (hpI a m c tB tr) (leafK (lv3 [0, 1, 5, 6, 7] [] []) 2)
    = .out .normal (stI l m c 0) (hpI a m c tB tr) := by kernel_rfl
theorem runI1 (l m c i : Nat) (a : Nat → Nat → Int) (tB tr : TypeId) : execC Try.prog g0 100 noLam regI1 (stI l m c i) (hpI a m c tB tr) outK
    = .out .normal ((stI l m c i).set 8 (.v (.bool (decide ((i : Int) < m))))) (hpI a m c tB tr) := by kernel_rfl
noncomputable def opsL : List Oper := opsI3.toList
/-- Region 2, and region 3 up to the call of yield. -/
noncomputable def runR (T : List AV) (H : List AB) : Res := execC Try.prog g0 100 noLam regI2 T H fun e T' H' => match e with
  | .normal => execOps Try.prog g0 opsL (opsL.take 11) T' H' [] fun T'' H'' tr => cond (drawOk opsL tr.reverse) (leafK (lv3 [0, 1, 5, 6, 7, 12, 22] [] []) 2 .normal T'' H'') .err
  | _ => .err
theorem runI2 (l m c i : Nat) (q : Bool) (a : Nat → Nat → Int) (tB tr : TypeId) : runR ((stI l m c i).set 8 (.v (.bool q))) (hpI a m c tB tr)
    = needs [decide ((i : Int) < m), decide (0 + i < m), !decide ((m : Int) = 0), decide (0 ≤ (W (i + 1)).tmod m), decide ((W (i + 1)).tmod m < m), decide (0 + ((W (i + 1)).tmod m).toNat < m)]
      (.out .normal (((stI l m c i).set 12 (.v (yv l))).set 22 (.v (pairV (a (0 + i)) (a (0 + ((W (i + 1)).tmod m).toNat))))) (hpI a m c tB tr)) := by kernel_rfl

theorem runI4 (l m c i : Nat) (b : Bool) (v : Value) (a : Nat → Nat → Int) (tB tr : TypeId) : execC Try.prog g0 100 noLam regI4 (((((stI l m c i).set 12 (.v (yv l))).set 22 (.v v)).set 23 (.v (.bool true))).set 24 (.v (.bool b))) (hpI a m c tB tr) (leafK (lv3 [0, 1, 5, 6, 7] [] []) 2)
    = .out .normal (mkT 0 26 [(0, .v (yv l)), (1, .ptr 0 1 0 0), (5, slI m c), (6, .v (i64 m)), (7, .v (i64 (W (i + 1))))]) (hpI a m c tB tr) := by kernel_rfl

theorem leaf_post {ds : List Deferred} {M : Nat → Prop} {w0 : World} {ν0 : Nu} {lv : Ex → List Nat} {m : Nat} {Q : Ex → List AV → List AB → Prop} {e : Exit} {a : Act} {w : World} (h : postD ds M w0 ν0 (leafK lv m) Q e a w) (hν : ∀ i b, ν0 i = some b → i < m) :
    ∃ e' T H ν, e = Ex.to e' ∧ Q e' T H ∧ SR M w0 ν0 T H a w ν ∧ a.defers = ds := by
  obtain ⟨e', T, H, ν, rfl, hk, hS, hd⟩ := h
  unfold leafK at hk
  split at hk
  · rename_i p hp
    exact ⟨e', p.1, p.2, _, rfl, hk, weak_sound hp hS hν, hd⟩
  · exact hk.elim

theorem yield_op {nn : Nat} {P : Program} {ops : Array Oper} {Q : Exit → Act → World → Prop} {i l : Nat} {o : Oper} {x y : Operand} {ts : Array TypeId} {K : Act → World → Prop} {R : Ending → World → Prop} {a : Act} {w : World} {v : Value} (ho : ops[i]? = some o) (hop : o.op = .call ⟨.value x, #[y], ts⟩) (hgu : o.guard = none)
    (hx : a.eval x = yv l) (hy : a.eval y = v) (h : YieldAt (wideR none) (nn - 1) P l #[v] w R) (hR : ∀ e w', R e w' → ∃ b, e = .returned b ∧ K (a.put o.dst b) w') : wpOpIn (wideR none) nn P ops Q i K a w := by
  unfold wpOpIn
  rw [ho]
  simp only
  rw [if_pos (by simp [Region.wanted, hgu])]
  refine ⟨fun _ _ => trivial, ?_⟩
  obtain ⟨fn, tmps, assign, body, e, hr⟩ := h
  have hs : (o.semAt (wideR none).round a.eval).run P w = .ok (.round l fn tmps assign body) w := by
    rw [show (wideR none).round = none from rfl, Oper.semAt_none]
    cases o with
    | mk dst op ty pos after guard =>
      simp only at hop
      subst hop
      simp [execOp, resolve, hx, hy, Deferred.ofValue, invoke, e]
  rw [hs, Oper.uponIn_round]
  refine ⟨fun h => (by cases h), hr.mono fun e w' he => ?_⟩
  obtain ⟨b, rfl, hk⟩ := hR e w' he
  exact hk

theorem not_op {nn : Nat} {P : Program} {ops : Array Oper} {Q : Exit → Act → World → Prop} {i : Nat} {t : TypeId} {o : Oper} {x : Operand} {K : Act → World → Prop} {a : Act} {w : World} {b : Bool} (ho : ops[i]? = some o) (hop : o.op = .unOp .not t x) (hgu : o.guard = none)
    (hx : a.eval x = .bool b) (hK : K (a.put o.dst (.bool (!b))) w) : wpOpIn (wideR none) nn P ops Q i K a w := by
  unfold wpOpIn
  rw [ho]
  simp only
  rw [if_pos (by simp [Region.wanted, hgu])]
  refine ⟨fun _ _ => trivial, ?_⟩
  have hs : (o.semAt (wideR none).round a.eval).run P w = .ok (.value (.bool (!b))) w := by
    rw [show (wideR none).round = none from rfl, Oper.semAt_none]
    cases o with
    | mk dst op ty pos after guard =>
      simp only at hop
      subst hop
      have he : execOp a.eval ⟨dst, .unOp .not t x, ty, pos, after, guard⟩ = (do pure (.value (← Op.unary .not (a.eval x)))) := rfl
      rw [he, hx]
      simp [Op.unary]
  rw [hs]
  exact hK

noncomputable def opY : Oper := opsL.getD 11 default
noncomputable def opN : Oper := opsL.getD 12 default
theorem opY_at : opsL.toArray[11]? = some opY := by kernel_rfl
theorem opN_at : opsL.toArray[12]? = some opN := by kernel_rfl
theorem opY_op : opY.op = .call ⟨.value (.tmp 12), #[.tmp 22], #[65]⟩ := by kernel_rfl
theorem opN_op : opN.op = .unOp .not 4 (.tmp 23) := by kernel_rfl
theorem opY_g : opY.guard = none := by kernel_rfl
theorem opN_g : opN.guard = none := by kernel_rfl
theorem opY_d : opY.dst = some 23 := by kernel_rfl
theorem opN_d : opN.dst = some 24 := by kernel_rfl
theorem rdy11 : Region.ready .any opsL.toArray (cutL 11 13) = [11] := by kernel_rfl
theorem rdy12 : Region.ready .any opsL.toArray ((cutL 11 13).setIfInBounds 11 true) = [12] := by kernel_rfl
theorem rdyN : Region.ready .any opsL.toArray (((cutL 11 13).setIfInBounds 11 true).setIfInBounds 12 true) = [] := by kernel_rfl
theorem len_ops : opsL.length = 13 := by kernel_rfl
theorem def_ops : noDef opsL.toArray = true := by kernel_rfl
theorem tail_ops : tailOk 11 opsL = true := by kernel_rfl

end Go.Proofs.Ytoligfhcogligaa

/- The function that yields the sides of a polygon: its word. Conditions: the list holds points. -/
namespace Go.Proofs.Ytoligfhcogligaa
open Go.RowKit
set_option maxRecDepth 100000

abbrev MI (W : World) (bB : Nat) : Nat → Prop := fun k => W.heap.size ≤ k ∨ k = bB

theorem box_val {ν : Nu} {a : Nat → Nat → Int} {m c bB cB : Nat} {bL : Bk} {tB tr : TypeId} {X : World} (h : BR ν 0 ((hpI a m c tB tr).getD 0 .gone) X) (h0 : ν 0 = some ⟨bB, 0, cB⟩) (h1 : ν 1 = some bL) (hm : 0 < m) :
    X.heap[bB]? = some (.cells #[.slice (some ⟨bL.n, bL.o, none⟩) m c] tB (0, 0)) := by
  simp only [hpI, List.getD_cons_zero] at h
  obtain ⟨b, l, e1, e2, e3, e4⟩ := h
  rw [h0] at e1
  cases e1
  rw [e3]
  cases l with
  | nil => simp only [VRs] at e4
  | cons y ys =>
    cases ys with
    | cons => simp only [VRs] at e4; exact e4.2.elim
    | nil =>
      simp only [VRs, VR, and_true] at e4
      obtain ⟨p, cc, rfl, h2, h3, h4⟩ := e4
      have := h2 c rfl
      subst this
      obtain ⟨b', h5, h6⟩ := h4 (by omega)
      rw [h1] at h5
      cases h5
      rw [h6]
      simp

theorem sides_stops {nn : Nat} {w : World} {νI : Nu} {bB cB : Nat} {bL : Bk} {a : Nat → Nat → Int} {m c : Nat} {tB tr : TypeId} {M : Nat → Prop}
    (hH : RH (fun k => w.heap.size ≤ k ∨ k = bB) νI (fun b => (hpI a m c tB tr).getD b .gone) w) (h0 : νI 0 = some ⟨bB, 0, cB⟩) (h1 : νI 1 = some bL) (hdom : ∀ i b, νI i = some b → i < 2) (hm0 : 0 < m) (hm : m ≤ 2 ^ 40) (hMb : ¬ M bB) (hML : ¬ M bL.n) :
    SeqStopsK (wideR none) nn Try.prog 99 #[.pointer (some ⟨bB, 0, none⟩)] (fun x : Fin m => [pairV (a x) (a ((x + 1) % m))].toArray) (keepR w M) (fun xs => xs = List.finRange m) (fun _ => True) m w := by
  intro l J Jx W hW hJ hJx hY hJ0
  have ltB : bB < w.heap.size := hH.lt 0 _ h0
  have ltL : bL.n < w.heap.size := hH.lt 1 _ h1
  have keepH : ∀ X : World, w.heap.size ≤ X.heap.size → X.heap[bB]? = w.heap[bB]? → X.heap[bL.n]? = w.heap[bL.n]? → RH (MI X bB) νI (fun b => (hpI a m c tB tr).getD b .gone) X := by
    intro X hs e1 e2
    refine ⟨fun i => (hH.br i).of_block fun k hk _ => ?_, hH.sep, fun i b hw hb => ?_, fun i b hb => Nat.lt_of_lt_of_le (hH.lt i b hb) hs⟩
    · have := hdom i k hk
      rcases (by omega : i = 0 ∨ i = 1) with rfl | rfl
      · rw [h0] at hk; cases hk; exact e1
      · rw [h1] at hk; cases hk; exact e2
    · have := hdom i b hb
      rcases (by omega : i = 0 ∨ i = 1) with rfl | rfl
      · rw [h0] at hb; cases hb; exact .inr rfl
      · simp [AB.wr] at hw
  have nuEq : ∀ ν', Le νI ν' → (∀ i b, ν' i = some b → i < 2) → ν' = νI := by
    intro ν' hle hd
    funext i
    rcases (by omega : i = 0 ∨ i = 1 ∨ 2 ≤ i) with rfl | rfl | hi
    · rw [h0, hle _ _ h0]
    · rw [h1, hle _ _ h1]
    · cases e : ν' i with
      | none =>
        cases e' : νI i with
        | none => rfl
        | some b => have := hdom i b e'; omega
      | some b => have := hd i b e; omega
  have boxW := box_val (hH.br 0) h0 h1 hm0
  -- own steps: new blocks alone
  have grown : ∀ {X X' : World} {T : List AV} {A : Act}, X.heap[bB]? = w.heap[bB]? → SR (MI X bB) X νI T (hpI a m c tB tr) A X' νI → X.grownBy X' none := by
    intro X X' T A hX hS
    refine ⟨hS.fr.os, hS.fr.tape, hS.fr.output, hS.fr.size, fun k hk _ => ?_⟩
    by_cases e : k = bB
    · subst e
      rw [box_val (hS.heap.br 0) h0 h1 hm0, hX, boxW]
    · exact hS.fr.block k hk fun h => by
        rcases h with h | h
        · omega
        · exact e h
  have hpos : ∀ T (A : Act) X X' ν', SR (MI X bB) X νI T (hpI a m c tB tr) A X' ν' → ν' = νI := fun T A X X' ν' h => nuEq ν' h.le fun i b hb => by simpa [hpI] using h.dom i b hb
  -- at the loop's head
  let HD : Nat → Act → World → Prop := fun i A X => A.defers = [] ∧ SR (MI X bB) X νI (stI l m c i) (hpI a m c tB tr) A X νI ∧ J ((List.finRange m).take i) X ∧ X.heap[bB]? = w.heap[bB]? ∧ X.heap[bL.n]? = w.heap[bL.n]? ∧ W.heap.size ≤ X.heap.size
  have hWsz := hW.size
  have e1W : W.heap[bB]? = w.heap[bB]? := hW.block bB ltB
  have e2W : W.heap[bL.n]? = w.heap[bL.n]? := hW.block bL.n ltL
  -- what an own piece of code leaves
  have own : ∀ {X X' : World} {T T' : List AV} {A A' : Act} {ν' : Nu} {i : Nat}, W.heap.size ≤ X.heap.size → X.heap[bB]? = w.heap[bB]? → X.heap[bL.n]? = w.heap[bL.n]? → J ((List.finRange m).take i) X → SR (MI X bB) X νI T (hpI a m c tB tr) A X' ν' →
      J ((List.finRange m).take i) X' ∧ X'.heap[bB]? = w.heap[bB]? ∧ X'.heap[bL.n]? = w.heap[bL.n]? ∧ W.heap.size ≤ X'.heap.size ∧ SR (MI X' bB) X' νI T (hpI a m c tB tr) A X' νI := by
    intro X X' T T' A A' ν' i hs g1 g2 hj hS
    have := hpos _ _ _ _ _ hS
    subst this
    have hg := grown g1 hS
    have k1 := (hg.block bB (by omega) (by simp)).trans g1
    have k2 := (hg.block bL.n (by omega) (by simp)).trans g2
    exact ⟨hJ _ _ _ none hj hg (fun r e => by cases e), k1, k2, Nat.le_trans hs hg.size, ⟨hS.tmps, keepH X' (by have := hg.size; omega) k1 k2, Fr.refl _ _, hS.dom, hS.len, Le.refl _⟩⟩
  refine callsIn_of_wp Try.func99 bodyI trivial ?_
  have hvr : VRs νI [.v (yv l), .ptr 0 1 0 0] [yv l, .pointer (some ⟨bB, 0, none⟩)] := by
    simp only [VRs, VR, and_true, true_and]
    exact ⟨_, h0, by simp⟩
  have hst := start_sr (M := MI W bB) (fn := Try.f99) hvr (keepH W hWsz e1W e2W) (fun i b hb => by simpa [hpI] using hdom i b hb)
  have fin : ∀ (A : Act) (X : World), A.defers = [] → ((J (List.finRange m) X) ∨ ∃ pre, Jx pre X) → bodyPost Try.prog Try.f99 (fun e W' => (∃ v, e = .returned v) ∧ ((∃ xs, xs = List.finRange m ∧ J xs W') ∨ (∃ pre, True ∧ Jx pre W'))) .ret A X := by
    intro A X hd hx
    refine ⟨hd, _, results_none rfl _ _ _, ⟨_, rfl⟩, ?_⟩
    rcases hx with hx | ⟨pre, hx⟩
    · exact .inl ⟨_, rfl, hx⟩
    · exact .inr ⟨pre, trivial, hx⟩
  refine wpIn_seq (wpIn_mono (execC_in (nn := nn) g0_ok mixed enters none [] 100 regI0 (by kernel_rfl) (MI W bB) W νI (fun k hk => .inl hk) _ _ _ (fun e T' H' => e = .normal ∧ T' = stI l m c 0 ∧ H' = hpI a m c tB tr) _ W νI (by rw [show [AV.v (yv l), .ptr 0 1 0 0] ++ List.replicate ((Try.f99).ntmps - [AV.v (yv l), .ptr 0 1 0 0].length) (AV.v undef) = [.v (yv l), .ptr 0 1 0 0] ++ List.replicate 24 (.v undef) from rfl, runI0]; exact ⟨rfl, rfl, rfl⟩) hst rfl) ?_)
  intro e A X hp
  obtain ⟨e', T', H', ν', rfl, ⟨rfl, rfl, rfl⟩, hS, hd⟩ := leaf_post hp hdom
  obtain ⟨j1, k1, k2, k3, hS1⟩ := own (T' := []) (A' := A) (i := 0) (Nat.le_refl _) e1W e2W (by simpa using hJ0) hS
  show (Code.block 0 (.loop loopI)).wpIn (wideR none) nn Try.prog _ A X
  refine wpIn_block (wpIn_loop (fun A X => ∃ i, i ≤ m ∧ HD i A X) (fun A _ => m - (intOf (A.tmps.getD 7 undef)).toNat) ⟨0, Nat.zero_le _, hd, hS1, j1, k1, k2, k3⟩ ?_)
  clear hS hd hS1 j1 k1 k2 k3 hp hst hvr
  rintro A X ⟨i, him, hd, hS, hj, g1, g2, g3⟩
  have mu : ∀ {i : Nat} {A : Act} {X X0 : World}, SR (MI X0 bB) X0 νI (stI l m c i) (hpI a m c tB tr) A X νI → (intOf (A.tmps.getD 7 undef)).toNat = i := by
    intro i A X X0 h
    have := h.tmps 7
    rw [show (stI l m c i).getD 7 .dead = .v (i64 i) from by kernel_rfl] at this
    simp only [VR] at this
    rw [this]
    simp [intOf]
  have hmu := mu hS
  rw [loopI_eq]
  refine wpIn_seq (wpIn_mono (execC_in (nn := nn) g0_ok mixed enters none [] 100 regI1 (by kernel_rfl) (MI X bB) X νI (fun k hk => .inl hk) _ _ _ (fun e T' H' => e = .normal ∧ T' = (stI l m c i).set 8 (.v (.bool (decide ((i : Int) < m)))) ∧ H' = hpI a m c tB tr) _ X νI (by rw [runI1]; exact ⟨rfl, rfl, rfl⟩) hS hd) ?_)
  rintro e A1 X1 ⟨e', T', H', ν', rfl, ⟨rfl, rfl, rfl⟩, hS1, hd1⟩
  obtain ⟨hj1, g11, g12, g13, hS1⟩ := own (T' := []) (A' := A) g3 g1 g2 hj hS1
  have hc8 : A1.eval (.tmp 8) = .bool (decide ((i : Int) < m)) := by
    have := hS1.tmps 8
    rw [show ((stI l m c i).set 8 (.v (.bool (decide ((i : Int) < m))))).getD 8 .dead = .v (.bool (decide ((i : Int) < m))) from by kernel_rfl] at this
    simp only [VR] at this
    exact this
  show (Code.seq (.cond (.tmp 8) .skip (.exit 0)) _).wpIn (wideR none) nn Try.prog _ A1 X1
  refine wpIn_seq (wpIn_cond hc8 ?_)
  rcases (Nat.lt_or_ge i m).symm with hge | hlt
  · -- the end
    rw [if_neg (by simp; omega)]
    refine wpIn_exit ?_
    have : i = m := by omega
    subst this
    simp only [Exit.then, Exit.inBlock, if_true]
    refine fin A1 X1 hd1 (.inl ?_)
    rw [List.take_of_length_le (by simp)] at hj1
    exact hj1
  · rw [if_pos (by simp; omega)]
    refine wpIn_skip ?_
    show (Code.seq (.block 1 _) _).wpIn (wideR none) nn Try.prog _ A1 X1
    refine wpIn_seq (wpIn_block (wpIn_seq ?_))
    -- region 2, and the head of region 3
    have hW1 : Go.Proofs.Ytoligfhcogligaa.W (i + 1) = ((i + 1 : Nat) : Int) := by rw [w64_in (by omega) (by omega)]; omega
    have hnx : (Go.Proofs.Ytoligfhcogligaa.W (i + 1)).tmod m = (((i + 1) % m : Nat) : Int) := by rw [hW1]; exact (Int.ofNat_tmod _ _).symm
    have hml : (i + 1) % m < m := Nat.mod_lt _ hm0
    have hr2 := runI2 l m c i (decide ((i : Int) < m)) a tB tr
    rw [hnx] at hr2
    have hr2 : (runR ((stI l m c i).set 8 (.v (.bool (decide ((i : Int) < m))))) (hpI a m c tB tr)).ok (fun e T' H' => e = .normal ∧ T' = ((stI l m c i).set 12 (.v (yv l))).set 22 (.v (pairV (a i) (a ((i + 1) % m)))) ∧ H' = hpI a m c tB tr) := by
      rw [hr2]
      have ok : obls [decide ((i : Int) < m), decide (0 + i < m), !decide ((m : Int) = 0), decide ((0 : Int) ≤ (((i + 1) % m : Nat) : Int)), decide ((((i + 1) % m : Nat) : Int) < m), decide (0 + (((i + 1) % m : Nat) : Int).toNat < m)] = true := by
        simp only [ob_cons, ob_nil, and_true, decide_eq_true_eq, Bool.not_eq_true', decide_eq_false_iff_not, Int.toNat_natCast]
        refine ⟨by omega, by omega, by omega, by omega, by omega, by omega⟩
      refine (good_needs ok ⟨?_⟩).out
      simp only [Int.toNat_natCast, Nat.zero_add]
      exact ⟨rfl, rfl, rfl⟩
    refine wpIn_mono (execC_in (nn := nn) g0_ok mixed enters none [] 100 regI2 (by kernel_rfl) (MI X1 bB) X1 νI (fun k hk => .inl hk) _ _ _ _ _ X1 νI hr2 hS1 hd1) ?_
    rintro e A2 X2 ⟨e', T2, H2, ν2, rfl, hk2, hS2, hd2⟩
    cases e' with
    | exit id => exact hk2.elim
    | ret => exact hk2.elim
    | normal =>
      obtain ⟨es, T3, H3, hrun, hk3⟩ := execOps_run hk2
      rcases (cond_ok hk3).symm with ⟨_, hk3⟩ | ⟨hdr, hk3⟩
      · exact hk3.elim
      show (Code.seq (.region 3 opsI3 true) _).wpIn (wideR none) nn Try.prog _ A2 X2
      refine wpIn_seq (wpIn_region_any mixed ?_)
      rw [show opsI3 = opsL.toArray by simp [opsL]]
      have hS2' : SR (MI X1 bB) X1 νI T2 H2 A2 { X2 with drawn := X2.drawn + 1 } ν2 := ⟨hS2.tmps, ⟨fun i => (hS2.heap.br i).of_block fun _ _ _ => rfl, hS2.heap.sep, hS2.heap.own, hS2.heap.lt⟩, hS2.fr.drew, hS2.dom, hS2.len, hS2.le⟩
      rw [show opsL.toArray.size = opsL.length by simp]
      refine any_cut (k := 11) g0_ok (fun k hk => .inl hk) hrun (by rw [len_ops]; decide) def_ops (by simpa using hdr) tail_ops ?_ hS2' ?_
      · rintro ⟨A9, X9, ⟨v, hv⟩, _⟩
        cases hv
      · intro A3 X3 ν3 hS3 hd3
        unfold leafK at hk3
        split at hk3
        · rename_i p hwk
          obtain ⟨_, hp1, hp2⟩ := hk3
          have hS4 := weak_sound hwk hS3 hdom
          rw [hp1, hp2] at hS4
          obtain ⟨hj3, g31, g32, g33, hS5⟩ := own (T' := []) (A' := A) g13 g11 g12 hj1 hS4
          have hx12 : A3.eval (.tmp 12) = yv l := by
            have := hS5.tmps 12
            rw [show (((stI l m c i).set 12 (.v (yv l))).set 22 (.v (pairV (a i) (a ((i + 1) % m))))).getD 12 .dead = .v (yv l) from by kernel_rfl] at this
            simp only [VR] at this
            exact this
          have hx22 : A3.eval (.tmp 22) = pairV (a i) (a ((i + 1) % m)) := by
            have := hS5.tmps 22
            rw [show (((stI l m c i).set 12 (.v (yv l))).set 22 (.v (pairV (a i) (a ((i + 1) % m))))).getD 22 .dead = .v (pairV (a i) (a ((i + 1) % m))) from by kernel_rfl] at this
            simp only [VR] at this
            exact this
          have hyl := hY ((List.finRange m).take i) ⟨i, hlt⟩ X3 hj3 (by simp; omega)
          have htake : (List.finRange m).take (i + 1) = (List.finRange m).take i ++ [⟨i, hlt⟩] := by
            rw [List.take_add_one]
            simp [hlt]
          have hsz3 : 24 < A3.tmps.size := by
            have := hS5.len
            have e : (((stI l m c i).set 12 (.v (yv l))).set 22 (.v (pairV (a i) (a ((i + 1) % m))))).length = 26 := by kernel_rfl
            omega
          rw [len_ops]
          refine wpAnyIn_all (fuel := 1) rdy11 (by simp) fun q hq => ?_
          obtain rfl : q = 11 := by simpa using hq
          refine yield_op opY_at opY_op opY_g hx12 hx22 hyl ?_
          rintro e X4 (⟨rfl, hj4, hk4⟩ | ⟨rfl, hjx⟩)
          · refine ⟨.bool true, rfl, wpAnyIn_all (fuel := 0) rdy12 (by simp) fun q hq => ?_⟩
            obtain rfl : q = 12 := by simpa using hq
            rw [opY_d]
            have hx23 : (A3.put (some 23) (.bool true)).eval (.tmp 23) = .bool true := by
              show (A3.put (some 23) (.bool true)).tmps.getD 23 undef = _
              rw [put_getD (fun d e => by cases e; show (23 : Nat) < _; omega)]
              simp
            refine not_op opN_at opN_op opN_g hx23 ⟨rdyN, ?_⟩
            rw [opN_d]
            have hsz4 : w.heap.size ≤ X4.heap.size := by have := hk4.1; omega
            have k1 : X4.heap[bB]? = w.heap[bB]? := by rw [boxW]; exact hk4.2 bB _ ltB hMb (g31.trans boxW)
            have k2 : X4.heap[bL.n]? = w.heap[bL.n]? := by
              cases ho : w.heap[bL.n]? with
              | none => rw [Array.getElem?_eq_none_iff] at ho; omega
              | some o => exact hk4.2 bL.n o ltL hML (g32.trans ho)
            have hS6 : SR (MI X4 bB) X4 νI _ (hpI a m c tB tr) A3 X4 νI := ⟨hS5.tmps, keepH X4 hsz4 k1 k2, Fr.refl _ _, hS5.dom, hS5.len, Le.refl _⟩
            have hS7 := SR.put (dst := some 23) (x := .v (.bool true)) (v := .bool true) hS6 (by kernel_rfl) (Le.refl _) (by simp only [VR]) hS6.heap hS6.fr hS6.dom
            have hS8 := SR.put (dst := some 24) (x := .v (.bool false)) (v := .bool false) hS7 (by kernel_rfl) (Le.refl _) (by simp only [VR]) hS7.heap hS7.fr hS7.dom
            have hx24 : ((A3.put (some 23) (.bool true)).put (some 24) (.bool (!true))).eval (.tmp 24) = .bool false := by
              show ((A3.put (some 23) (.bool true)).put (some 24) (.bool (!true))).tmps.getD 24 undef = _
              rw [put_getD (fun d e => by cases e; rw [put_size']; exact hsz3)]
              simp
            show (Code.cond (.tmp 24) .ret .skip).wpIn (wideR none) nn Try.prog _ _ X4
            refine wpIn_cond_false hx24 (wpIn_skip ?_)
            show regI4.wpIn (wideR none) nn Try.prog _ _ X4
            have hd8 : ((A3.put (some 23) (.bool true)).put (some 24) (.bool (!true))).defers = [] := by rw [put_defers', put_defers']; exact hd3.trans hd2
            refine wpIn_mono (execC_in (nn := nn) g0_ok mixed enters none [] 100 regI4 (by kernel_rfl) (MI X4 bB) X4 νI (fun k hk => .inl hk) _ _ _ (fun e T' H' => e = .normal ∧ T' = stI l m c (i + 1) ∧ H' = hpI a m c tB tr) _ X4 νI (by
              have := runI4 l m c i false (pairV (a i) (a ((i + 1) % m))) a tB tr
              rw [hW1] at this
              show (execC Try.prog g0 100 noLam regI4 (((((stI l m c i).set 12 (.v (yv l))).set 22 (.v (pairV (a i) (a ((i + 1) % m))))).set 23 (.v (.bool true))).set 24 (.v (.bool false))) (hpI a m c tB tr) (leafK (lv3 [0, 1, 5, 6, 7] [] []) 2)).ok _
              rw [this]
              exact ⟨rfl, rfl, rfl⟩) hS8 hd8) ?_
            intro e A6 X6 hp6
            obtain ⟨e', T', H', ν', rfl, ⟨rfl, rfl, rfl⟩, hS9, hd9⟩ := leaf_post hp6 hdom
            obtain ⟨j9, k91, k92, k93, hS9⟩ := own (T' := []) (A' := A) (i := i + 1) (by have := hk4.1; omega) k1 k2 (by rw [htake]; exact hj4) hS9
            refine ⟨⟨i + 1, by omega, hd9, hS9, j9, k91, k92, k93⟩, ?_⟩
            rw [mu hS9, hmu]
            omega
          · refine ⟨.bool false, rfl, wpAnyIn_all (fuel := 0) rdy12 (by simp) fun q hq => ?_⟩
            obtain rfl : q = 12 := by simpa using hq
            rw [opY_d]
            have hx23 : (A3.put (some 23) (.bool false)).eval (.tmp 23) = .bool false := by
              show (A3.put (some 23) (.bool false)).tmps.getD 23 undef = _
              rw [put_getD (fun d e => by cases e; show (23 : Nat) < _; omega)]
              simp
            refine not_op opN_at opN_op opN_g hx23 ⟨rdyN, ?_⟩
            rw [opN_d]
            have hx24 : ((A3.put (some 23) (.bool false)).put (some 24) (.bool (!false))).eval (.tmp 24) = .bool true := by
              show ((A3.put (some 23) (.bool false)).put (some 24) (.bool (!false))).tmps.getD 24 undef = _
              rw [put_getD (fun d e => by cases e; rw [put_size']; exact hsz3)]
              simp
            have hd8 : ((A3.put (some 23) (.bool false)).put (some 24) (.bool (!false))).defers = [] := by rw [put_defers', put_defers']; exact hd3.trans hd2
            show (Code.cond (.tmp 24) .ret .skip).wpIn (wideR none) nn Try.prog _ _ X4
            exact wpIn_cond_true hx24 (wpIn_ret (fin _ X4 hd8 (.inr ⟨_, hjx⟩)))
        · exact hk3.elim

end Go.Proofs.Ytoligfhcogligaa

/- steps: the steps of a polygon. Conditions: a list of points, not empty. -/
namespace Go.Proofs.Ytoligfhcogligaa
open Go.RowKit
set_option maxRecDepth 100000

/-- Rows of points. -/
def isC : List Value → Bool
  | [.int .i64 _, .int .i64 _, .int .i64 _, .int .i64 _, .int .i64 _, .int .i64 _, .int .i64 _, .int .i64 _] => true
  | _ => false
def itC (g : Nat → List Value) : Nat → Nat → Int := fun j k => intOf ((g j).getD k undef)
def allC (m : Nat) (g : Nat → List Value) : Bool := (List.range m).all fun j => isC (g j)
theorem allC_get {m : Nat} {g : Nat → List Value} (h : allC m g = true) (j : Nat) (hj : j < m) : g j = rowC (itC g) j := by
  have := List.all_eq_true.1 h j (by simpa using hj)
  simp only [rowC, itC, i64]
  unfold isC at this
  split at this
  · rename_i e; rw [e]; rfl
  · cases this
theorem allC_of {m : Nat} {a : Nat → Nat → Int} {g : Nat → List Value} (h : ∀ j, j < m → g j = rowC a j) : allC m g = true := List.all_eq_true.2 fun j hj => by
  rw [h j (by simpa using hj)]; rfl

noncomputable def fSt : Func := Try.f49
noncomputable def bSt : Code := (Try.f49).body.getD .skip
noncomputable def stR0 : Code := sqA bSt
noncomputable def stR1 : Code := sqA (sqB bSt)
noncomputable def stP2 : Code := sqA (sqA (sqB (sqB bSt)))
noncomputable def stRest : Code := sqB (sqB (sqB bSt))
def rfA : Code → Code | .rangeFunc _ _ a _ => a | c => c
def rfB : Code → Code | .rangeFunc _ _ _ b => b | c => c
noncomputable def stAs : Code := rfA (blB (sqB (sqA (sqB (sqB bSt)))))
noncomputable def stBd : Code := rfB (blB (sqB (sqA (sqB (sqB bSt)))))
theorem bSt_eq : (Try.f49).body = some (nestL [stR0, stR1] (.seq (.seq stP2 (.block 0 (.rangeFunc (.tmp 9) #[10] stAs stBd))) stRest)) := by kernel_rfl

abbrev zC : Nat → List Value := fun _ => [i64 0, i64 0, i64 0, i64 0, i64 0, i64 0, i64 0, i64 0]
abbrev hhSt (a : Nat → Nat → Int) (m : Nat) (t : TypeId) : List AB := [.row false m 8 (rowC a) t, .cells [.own 3 0] 23, .cells [.sl 0 8 0 0 m none] 23, .row true 0 8 zC 40]
abbrev ttSt : List AV := mkT 0 20 [(3, .ptr 1 0 0 0), (9, .fn 99 [.ptr 2 0 0 0])]

theorem preSt (a : Nat → Nat → Int) (m : Nat) (t : TypeId) : execL Try.prog gm_l3Sum 100 ([stR0, stR1] ++ [stP2]) ([.sl 0 8 0 0 m none] ++ List.replicate ((Try.f49).ntmps - 1) (.v undef)) [.row false m 8 (rowC a) t] (leafK (lv3 [3, 9] [] []) 1)
    = needs [decide ((m : Int) ≤ 1099511627776)] (.out .normal ttSt (hhSt a m t)) := by kernel_rfl


/-- One more element. -/
def snocR (G : Nat → List Value) (n _ : Nat) (r : List Value) : Nat → List Value := fun k => mergeL (Nat.blt k n) (G k) r
theorem snocR_lt {G : Nat → List Value} {n w k : Nat} {r : List Value} (h : k < n) : snocR G n w r k = G k := by
  have : Nat.blt k n = true := by rw [Nat.blt_eq]; exact h
  simp [snocR, mergeL_eq, this]
theorem snocR_eq {G : Nat → List Value} {n w : Nat} {r : List Value} (_ : r.length = w) : snocR G n w r n = r := by
  have : Nat.blt n n = false := by
    cases hb : Nat.blt n n with
    | false => rfl
    | true => rw [Nat.blt_eq] at hb; omega
  simp only [snocR, mergeL_eq, this, cond_false]

def stepsF (a : Nat → Nat → Int) (m : Nat) : Nat → Nat → Int := fun j => plusF (a ((j + 1) % m)) (scaledF (a j) (-1))
def rowX {m : Nat} (f : Nat → Nat → Int) (xs : List (Fin m)) : Nat → List Value := fun j => match xs[j]? with | some x => rowC f x | none => []
theorem rowX_snoc {m : Nat} {f : Nat → Nat → Int} {xs : List (Fin m)} {x : Fin m} {j : Nat} (hj : j < xs.length + 1) : snocR (rowX f xs) xs.length 8 (rowC f x) j = rowX f (xs ++ [x]) j := by
  rcases Nat.lt_or_ge j xs.length with h | h
  · rw [snocR_lt h]
    simp only [rowX]
    rw [List.getElem?_append_left h]
  · have : j = xs.length := by omega
    subst this
    rw [snocR_eq (w := 8) (by simp)]
    simp [rowX]
theorem rowX_all {m : Nat} {f : Nat → Nat → Int} {j : Nat} (hj : j < m) : rowX f (List.finRange m) j = rowC f j := by
  simp [rowX, hj]

noncomputable abbrev blkSt (a : Nat → Nat → Int) (m : Nat) (t : TypeId) (n : Nat) (G : Nat → List Value) : List AB := [.row false m 8 (rowC a) t, .cells [.own 4 n] 23, .gone, .gone, .row true n 8 G 40]
noncomputable def hpSt (a : Nat → Nat → Int) {m : Nat} (t : TypeId) (xs : List (Fin m)) : List AB := match xs with
  | [] => [.row false m 8 (rowC a) t, .cells [.own 3 0] 23, .gone, .row true 0 8 zC 40]
  | x :: ys => blkSt a m t (x :: ys).length (rowX (stepsF a m) (x :: ys))
theorem hpSt_snoc (a : Nat → Nat → Int) {m : Nat} (t : TypeId) (xs : List (Fin m)) (x : Fin m) : hpSt a t (xs ++ [x]) = blkSt a m t (xs.length + 1) (rowX (stepsF a m) (xs ++ [x])) := by
  cases xs with
  | nil => rfl
  | cons y ys => simp [hpSt]

abbrev ttL : List AV := mkT 0 20 [(3, .ptr 1 0 0 0)]
abbrev deadL (n : Nat) : List AV := mkT 0 n []

theorem rndSt (a : Nat → Nat → Int) (m : Nat) (t : TypeId) (j n : Nat) (G : Nat → List Value) : execC Try.prog gm_l3Sum 100 noLam stAs (parT [10] [pairV (a j) (a ((j + 1) % m))] ttL) (blkSt a m t n G) (andK Try.prog gm_l3Sum 100 stBd 4) = needs [Nat.ble n n, Nat.ble (n + 1) 549755813888] (.out .normal (deadL 20) (blkSt a m t (n + 1) (snocR G n 8 (rowC (stepsF a m) j)))) := by kernel_rfl
theorem rndSt0 (a : Nat → Nat → Int) (m : Nat) (t : TypeId) (j : Nat) : execC Try.prog gm_l3Sum 100 noLam stAs (parT [10] [pairV (a j) (a ((j + 1) % m))] ttL) [.row false m 8 (rowC a) t, .cells [.own 3 0] 23, .gone, .row true 0 8 zC 40] (andK Try.prog gm_l3Sum 100 stBd 4) = .out .normal (deadL 20) (blkSt a m t 1 (snocR zC 0 8 (rowC (stepsF a m) j))) := by kernel_rfl
theorem endSt (a : Nat → Nat → Int) (m : Nat) (t : TypeId) (n : Nat) (G : Nat → List Value) : behind Try.prog gm_l3Sum 100 Try.f49 0 stRest (packK 1) .normal ttL (blkSt a m t n G)
    = .out .ret [.own 1 n] [.row false m 8 (rowC a) t, .row true n 8 G 40] := by kernel_rfl

/-- Where the list of sides lies: from what holds at the loop. -/
theorem sides_at {nn : Nat} {W : World} {ν1 : Nu} {TT : List AV} {HH H' : List AB} {a1 : Act} {lb : List Value} {a : Nat → Nat → Int} {m ib il : Nat} {tB tr : TypeId} (hS : SR (ownM W ν1 HH) W ν1 TT HH a1 W ν1) (hlb : VRs ν1 [.ptr ib 0 0 0] lb)
    (hib : HH.getD ib .gone = .cells [.sl il 8 0 0 m none] tB) (hil : HH.getD il .gone = .row false m 8 (rowC a) tr) (hne : ib ≠ il) (hm0 : 0 < m) (hm : m ≤ 2 ^ 40) (hH : ∀ i, (H'.getD i .gone).wr = true → (HH.getD i .gone).wr = true ∧ i ≠ ib) :
    SeqStopsK (wideR none) nn Try.prog 99 lb.toArray (fun x : Fin m => [pairV (a x) (a ((x + 1) % m))].toArray) (keepR W (ownM W ν1 H')) (fun xs => xs = List.finRange m) (fun _ => True) m W := by
  cases lb with
  | nil => simp only [VRs] at hlb
  | cons y ys =>
    cases ys with
    | cons => simp only [VRs] at hlb; exact hlb.2.elim
    | nil =>
      simp only [VRs, VR, and_true] at hlb
      obtain ⟨b, hb, rfl⟩ := hlb
      have hbr := hS.heap.br ib
      simp only [hib] at hbr
      obtain ⟨b', l, e1, e2, e3, e4⟩ := hbr
      rw [hb] at e1
      cases e1
      cases l with
      | nil => simp only [VRs] at e4
      | cons z zs =>
        cases zs with
        | cons => simp only [VRs] at e4; exact e4.2.elim
        | nil =>
          simp only [VRs, VR, and_true] at e4
          obtain ⟨p, c, rfl, _, h3, h4⟩ := e4
          obtain ⟨bL, h5, h6⟩ := h4 (by omega)
          let νI : Nu := fun i => match i with | 0 => some b | 1 => some bL | _ => none
          have hH1 : RH (fun k => W.heap.size ≤ k ∨ k = b.n) νI (fun i => (hpI a m c tB tr).getD i .gone) W := by
            have hbl := hS.heap.br il
            simp only [hil] at hbl
            have hsep := hS.heap.sep ib il b bL hne (by rw [hib]; rfl) (by rw [hil]; rfl) hb h5
            refine ⟨fun i => ?_, fun i j b1 b2 hij hw hl h1 h2 => ?_, fun i b1 hw h1 => ?_, fun i b1 h1 => ?_⟩
            · match i with
              | 0 =>
                refine ⟨b, _, rfl, e2, e3, ?_⟩
                simp only [VRs, VR, and_true]
                exact ⟨p, c, rfl, fun c' h => by cases h; rfl, h3, fun _ => ⟨bL, rfl, h6⟩⟩
              | 1 =>
                rcases hbl with ⟨_, h0, _⟩ | ⟨bb, l, t', fz, g1, g2⟩
                · omega
                · rw [h5] at g1
                  cases g1
                  exact .inr ⟨bL, l, t', fz, rfl, g2⟩
              | n + 2 => trivial
            · match i, j with
              | 0, 1 => cases h1; cases h2; exact hsep
              | 1, _ => simp [AB.wr] at hw
              | 0, 0 => exact (hij rfl).elim
              | 0, n + 2 => cases h2
              | n + 2, _ => cases h1
            · match i with
              | 0 => cases h1; exact .inr rfl
              | 1 => simp [AB.wr] at hw
              | n + 2 => cases h1
            · match i with
              | 0 => cases h1; exact hS.heap.lt ib b hb
              | 1 => cases h1; exact hS.heap.lt il bL h5
              | n + 2 => cases h1
          have ltB := hS.heap.lt ib b hb
          have ltL := hS.heap.lt il bL h5
          have key := sides_stops (nn := nn) (M := ownM W ν1 H') (bB := b.n) (cB := b.c) (bL := bL) (a := a) (c := c) (tB := tB) (tr := tr) hH1 (by show some b = _; rw [show b = ⟨b.n, 0, b.c⟩ by rw [← e2]]) rfl (fun i b1 h1 => by
            match i with
            | 0 => omega
            | 1 => omega
            | n + 2 => cases h1) hm0 hm ?_ ?_
          · rw [e2] 
            exact key
          · rintro (hk | ⟨i, b1, hw, hb1, e⟩)
            · omega
            · obtain ⟨hw1, hne1⟩ := hH i hw
              exact hS.heap.sep i ib b1 b hne1 hw1 (by rw [hib]; rfl) hb1 hb e
          · rintro (hk | ⟨i, b1, hw, hb1, e⟩)
            · omega
            · obtain ⟨hw1, hne1⟩ := hH i hw
              refine hS.heap.sep i il b1 bL (fun e => ?_) hw1 (by rw [hil]; rfl) hb1 h5 e
              subst e
              rw [hil] at hw1
              simp [AB.wr] at hw1

theorem enters_of' {f : FuncId} {fn : Func} (hf : Try.prog.funcs[f]? = some fn) (hb : fn.body.isSome = true) : ∀ args w, (callFunc f args).run Try.prog w = .ok (.enter f args) w := fun args w => enters f fn hf hb args w

def md_steps : List Md := [.rd 8 40]
def F_steps : List SA → Option FR
  | [.row m g] => some { val := .own 0 m, new := [.row true m 8 (rowC (stepsF (itC g) m)) 40], obl := [allC m g, decide (0 < m), decide (m ≤ 2 ^ 38)] }
  | _ => none

theorem finRange_cons {m : Nat} (h : 0 < m) : ∃ x xs, List.finRange m = x :: xs := by
  cases hl : List.finRange m with
  | nil => have := congrArg List.length hl; simp at this; omega
  | cons x xs => exact ⟨x, xs, rfl⟩

theorem ok_steps : SpecOk Try.prog 49 (specR md_steps F_steps) := by
  refine specR_calls enters Try.func49 rfl fun sas fr hF ho => ?_
  unfold F_steps at hF
  split at hF
  · rename_i m g
    cases hF
    simp only [ob_cons, decide_eq_true_eq] at ho
    obtain ⟨h1, hm0, hm, _⟩ := ho
    refine ⟨[.row false m 8 (rowC (itC g)) 40], .cons (ABeq.row fun j hj => allC_get h1 j hj) .nil, ?_⟩
    refine calls_range (α := Fin m) (n := 100) (nn := 0) gm_l3Sum_ok mixed enters Try.func49 bSt_eq (by kernel_rfl) (by kernel_rfl) (by kernel_rfl) (by kernel_rfl) (by kernel_rfl) (lvp := lv3 [3, 9] [] []) (TT := ttSt) (HH := hhSt (itC g) m 40)
      (encs := fun x => [pairV (itC g x) (itC g ((x + 1) % m))]) (S := fun xs => xs = List.finRange m) (Sp := fun _ => True) (N := m) ?_ (gf := 99) (cs := [.ptr 2 0 0 0]) (by kernel_rfl) ttL (by kernel_rfl) (mask_less (live := [3]) (by kernel_rfl)) (fun _ => false) (hpSt (itC g) 40) (fun _ _ => []) rfl (fun i => ?_)
      (enters_of' Try.func99 rfl) (fun W ν1 a1 lb hS hv => ?_) (fun _ => rfl) (by decide) (fun pre x hlen => ?_) (fun xs hxs => ?_) (fun e pre _ h => by cases h)
    · show (execL Try.prog gm_l3Sum 100 ([stR0, stR1] ++ [stP2]) ([.sl 0 8 0 0 m none] ++ List.replicate ((Try.f49).ntmps - 1) (.v undef)) [.row false m 8 (rowC (itC g)) 40] (leafK (lv3 [3, 9] [] []) 1)).ok _
      rw [preSt]
      exact (good_needs (Q := fun e T' H' => e = .normal ∧ T' = ttSt ∧ H' = hhSt (itC g) m 40) (r := .out .normal ttSt (hhSt (itC g) m 40)) (by simp only [ob_cons, ob_nil, decide_eq_true_eq, and_true]; omega) ⟨⟨rfl, rfl, rfl⟩⟩).out
    · rcases (by omega : i = 0 ∨ i = 1 ∨ i = 2 ∨ i = 3 ∨ 4 ≤ i) with rfl | rfl | rfl | rfl | h
      · exact .inl rfl
      · exact .inl rfl
      · exact .inr rfl
      · exact .inl rfl
      · right
        simp [hpSt, List.getD_eq_getElem?_getD, h]
    · refine sides_at hS hv (ib := 2) (il := 0) rfl rfl (by decide) hm0 (by omega) fun i hw => ?_
      rcases (by omega : i = 0 ∨ i = 1 ∨ i = 2 ∨ i = 3 ∨ 4 ≤ i) with rfl | rfl | rfl | rfl | h
      · simp [hpSt, AB.wr] at hw
      · exact ⟨rfl, by decide⟩
      · simp [hpSt, AB.wr] at hw
      · exact ⟨rfl, by decide⟩
      · simp [hpSt, List.getD_eq_getElem?_getD, h, AB.wr] at hw
    · cases pre with
      | nil =>
        show (execC Try.prog gm_l3Sum 100 noLam stAs (parT [10] [pairV (itC g x) (itC g ((x + 1) % m))] ttL) [.row false m 8 (rowC (itC g)) 40, .cells [.own 3 0] 23, .gone, .row true 0 8 zC 40] (andK Try.prog gm_l3Sum 100 stBd 4)).ok _
        rw [rndSt0 (itC g) m 40 x]
        show Hsim _ (hpSt (itC g) 40 ([] ++ [x]))
        rw [hpSt_snoc]
        refine .cons (ABeq.refl _) (.cons (ABeq.refl _) (.cons (ABeq.refl _) (.cons (ABeq.refl _) (.cons (ABeq.row fun j hj => ?_) .nil))))
        have : j = 0 := by omega
        subst this
        exact (snocR_eq (G := zC) (n := 0) (w := 8) (r := rowC (stepsF (itC g) m) x) (by simp)).trans (by simp [rowX])
      | cons y ys =>
        show (execC Try.prog gm_l3Sum 100 noLam stAs (parT [10] [pairV (itC g x) (itC g ((x + 1) % m))] ttL) (blkSt (itC g) m 40 (y :: ys).length (rowX (stepsF (itC g) m) (y :: ys))) (andK Try.prog gm_l3Sum 100 stBd 4)).ok _
        rw [rndSt (itC g) m 40 x]
        refine (good_needs (by simp only [ob_cons, ob_nil, and_true, Nat.ble_eq]; omega) ⟨?_⟩).out
        show Hsim _ (hpSt (itC g) 40 ((y :: ys) ++ [x]))
        rw [hpSt_snoc]
        exact .cons (ABeq.refl _) (.cons (ABeq.refl _) (.cons (ABeq.refl _) (.cons (ABeq.refl _) (.cons (ABeq.row fun j hj => rowX_snoc hj) .nil))))
    · obtain ⟨x, ys, hl⟩ := finRange_cons hm0
      subst hxs
      have hlen : (x :: ys).length = m := by rw [← hl]; simp
      have hrow : ∀ j, j < m → rowX (stepsF (itC g) m) (x :: ys) j = rowC (stepsF (itC g) m) j := fun j hj => by rw [← hl]; exact rowX_all hj
      rw [hl]
      show (behind Try.prog gm_l3Sum 100 Try.f49 0 stRest (packK 1) .normal ttL (blkSt (itC g) m 40 (x :: ys).length (rowX (stepsF (itC g) m) (x :: ys)))).ok _
      rw [endSt, hlen]
      exact ⟨_, rfl, rfl, .cons (ABeq.row fun j hj => (allC_get h1 j hj).symm) (.cons (ABeq.row hrow) .nil)⟩
  · cases hF

end Go.Proofs.Ytoligfhcogligaa

/- PolyValid, by the program and by the reference. Conditions: a list of points. -/
namespace Go.Proofs.Ytoligfhcogligaa
open Go.RowKit
set_option maxRecDepth 100000

def okP (a : Nat → Nat → Int) (j : Nat) : Bool := smallF (a j) (-100) 100
def okBp (a : Nat → Nat → Int) (n : Nat) : Bool := (List.range n).all fun j => okP a j
theorem okBp_get {a : Nat → Nat → Int} {n j : Nat} (h : okBp a n = true) (hj : j < n) : okP a j = true := List.all_eq_true.1 h j (by simpa using hj)
theorem okB_succ {a : Nat → Nat → Int} {n : Nat} (h : okBp a n = true) (h1 : okP a n = true) : okBp a (n + 1) = true := by
  unfold okBp
  rw [List.range_succ, List.all_append]
  simp only [List.all_cons, List.all_nil, Bool.and_true, Bool.and_eq_true]
  exact ⟨h, h1⟩
theorem okB_no {a : Nat → Nat → Int} {n j : Nat} (hj : j < n) (h1 : okP a j = false) : okBp a n = false := by
  cases h : okBp a n with
  | false => rfl
  | true => rw [okBp_get h hj] at h1; cases h1

/-- A list of points, read from its start. -/
structure PV where
  m : Nat
  n : Nat
  g : Nat → List Value
  t : TypeId
abbrev slP (m : Nat) : AV := .sl 0 8 0 0 m none
def hpPV (s : PV) : List AB := [.row false s.m 8 (rowC (itC s.g)) s.t]
def prePV (s : PV) : List Bool := [Nat.beq s.n s.m, allC s.m s.g, decide (s.m ≤ 2 ^ 38)]

abbrev lvV : Ex → List Nat := lv3 [0, 3] [0] [2]
def decV : List AV → List AB → Option PV
  | [.sl 0 8 0 0 m none, .v (.int .i64 0)], [.row false n 8 g t] => some ⟨m, n, g, t⟩
  | _, _ => none
def stV (s : PV) (i : Nat) : List (Nat × AV) := [(0, slP s.m), (3, .v (i64 i))]

def outV' (s : PV) (K : Kont) : Res := cond (okBp (itC s.g) s.m) (K .normal (mkT 0 19 [(0, slP s.m)]) (hpPV s)) (K .ret (mkT 0 19 [(2, .v (.bool false))]) (hpPV s))
theorem rndV (s : PV) (i : Nat) : execC Try.prog gm_l3Sign 100 noLam (loopAt 0 Try.f24) (mkT 0 19 (stV s i)) (hpPV s) (leafK lvV 1)
    = cond (decide ((i : Int) < s.m)) (needs [decide ((i : Int) < s.m), decide (0 + i < s.m)] (cond (!okP (itC s.g) (0 + i)) (.out .ret (mkT 0 19 [(2, .v (.bool false))]) (hpPV s)) (.out .normal (mkT 0 19 [(0, slP s.m), (3, .v (i64 (W (i + 1))))]) (hpPV s))))
      (.out (.exit 0) (mkT 0 19 [(0, slP s.m)]) (hpPV s)) := by kernel_rfl

theorem pv_ok {s : PV} (ho : obls (prePV s) = true) : s.n = s.m ∧ (∀ j, j < s.m → s.g j = rowC (itC s.g) j) ∧ s.m ≤ 2 ^ 38 := by
  simp only [prePV, ob_cons, decide_eq_true_eq] at ho
  exact ⟨Nat.eq_of_beq_eq_true ho.1, allC_get ho.2.1, ho.2.2.1⟩

theorem sumV : SumOk Try.prog 1 (.block 0 (.loop (loopAt 0 Try.f24))) (loopS 19 [0, 3] decV prePV outV') := by
  refine mkFor gm_l3Sign_ok (n := 100) (m := 1) (lv := lvV) (Λ := noLam) stV (fun s _ => hpPV s) (fun s i => okBp (itC s.g) i = true) (fun s => s.m) rfl (noLam_ok _ _ _) (Nat.le_refl _) ?_ ?_
  · intro avs H s hd ho
    unfold decV at hd
    split at hd
    · rename_i m n g t
      cases hd
      obtain ⟨h1, h2, h3⟩ := pv_ok ho
      simp only at h1 h2 h3
      subst h1
      exact ⟨[.row false n 8 g t], by kernel_rfl, .cons (ABeq.row h2) .nil, rfl⟩
    · cases hd
  · intro s K Q ho hk i hi him
    obtain ⟨_, _, hm⟩ := pv_ok ho
    show GoodQ (execC Try.prog gm_l3Sign 100 noLam (loopAt 0 Try.f24) (mkT 0 19 (stV s i)) (hpPV s) (leafK lvV 1)) _
    rw [rndV, Nat.zero_add]
    refine good_cond (fun h1 => ?_) fun h1 => ?_
    · have h1 := of_decide_eq_true h1
      have h1' : i < s.m := by omega
      refine good_needs (by simp only [ob_cons, ob_nil, and_true, decide_eq_true_eq]; omega) (good_cond (fun h2 => ?_) fun h2 => ?_)
      · refine good_out ⟨_, Hsim.refl _, ?_⟩
        rw [outV', okB_no h1' (by simpa using h2)] at hk
        exact hk
      · refine good_out ⟨h1', ?_, Hsim.refl _, okB_succ hi (by simpa using h2)⟩
        rw [w64_in (x := (i : Int) + 1) (by omega) (by omega)]
        rfl
    · have h1 := of_decide_eq_false h1
      have : i = s.m := by omega
      subst this
      refine good_out ⟨_, Hsim.refl _, ?_⟩
      rw [if_pos rfl]
      rw [outV', hi] at hk
      exact hk

def f_valid (a : Nat → Nat → Int) (m : Nat) : Bool := okBp a m && inR m 1 48
def F_valid : List SA → Option FR
  | [.row m g] => some { val := .v (.bool (f_valid (itC g) m)), obl := [allC m g, decide (m ≤ 2 ^ 38)] }
  | _ => none
def md_list : List Md := [.rd 8 40]

theorem ok_validS : SpecOk Try.prog 24 (specR md_list F_valid) := by
  refine mkR (n := 100) (Λ := oneL 0 (loopS 19 [0, 3] decV prePV outV')) gm_l3Sign_ok Try.func24 rfl fun sas fr hF ho => ?_
  unfold F_valid at hF
  split at hF
  · rename_i m g
    cases hF
    simp only [ob_cons] at ho
    obtain ⟨h1, h2, _⟩ := ho
    refine ⟨[.row false m 8 (rowC (itC g)) 40], .cons (ABeq.row fun j hj => allC_get h1 j hj) .nil, lam1 (by kernel_rfl) sumV, ?_⟩
    have e : execF Try.prog gm_l3Sign (oneL 0 (loopS 19 [0, 3] decV prePV outV')) 100 Try.f24 (avC 0 md_list [.row m g]) [.row false m 8 (rowC (itC g)) 40] (packK 1)
      = needs [Nat.beq m m, allC m (rowC (itC g)), decide (m ≤ 2 ^ 38)] (cond (okBp (itC g) m) (.out .ret [.v (.bool (inR m 1 48))] [.row false m 8 (rowC (itC g)) 40]) (.out .ret [.v (.bool false)] [.row false m 8 (rowC (itC g)) 40])) := by kernel_rfl
    rw [show ([AB.row false m 8 (rowC (itC g)) 40]).length = 1 from rfl, e]
    refine good_needs (by simp only [ob_cons, ob_nil, allC_of (m := m) (a := itC g) fun j _ => rfl, h2, beq_me, and_self]) (good_cond (fun hb => ?_) fun hb => ?_)
    · refine good_out ⟨_, rfl, ?_, .cons (ABeq.row fun j hj => (allC_get h1 j hj).symm) .nil⟩
      rw [f_valid, hb]
      rfl
    · refine good_out ⟨_, rfl, ?_, .cons (ABeq.row fun j hj => (allC_get h1 j hj).symm) .nil⟩
      rw [f_valid, hb]
      rfl
  · cases hF

/-- The place of the first that is not small. -/
def badAt (a : Nat → Nat → Int) (m : Nat) : Int := match (List.range m).find? fun j => !okP a j with
  | some j => (j : Int)
  | none => -1
theorem badAt_ge (a : Nat → Nat → Int) (m : Nat) : decide (badAt a m ≥ 0) = !okBp a m := by
  unfold badAt okBp
  cases h : (List.range m).find? fun j => !okP a j with
  | none =>
    have : (List.range m).all (fun j => okP a j) = true := by
      rw [List.all_eq_true]
      intro j hj
      have := List.find?_eq_none.1 h j hj
      simpa using this
    rw [this]
    rfl
  | some j =>
    have h1 := List.find?_some h
    have h2 := List.mem_of_find?_eq_some h
    have : (List.range m).all (fun j => okP a j) = false := by
      cases hb : (List.range m).all (fun j => okP a j) with
      | false => rfl
      | true => have := List.all_eq_true.1 hb j h2; simp [this] at h1
    rw [this]
    simp
theorem badAt_at {a : Nat → Nat → Int} {m i : Nat} (h : okBp a i = true) (hi : i < m) (h1 : okP a i = false) : badAt a m = i := by
  have : (List.range m).find? (fun j => !okP a j) = some i := by
    rw [List.find?_range_eq_some]
    refine ⟨by simp [h1], by simpa using hi, fun j hj => ?_⟩
    simp [okBp_get h hj]
  rw [badAt, this]
theorem badAt_no {a : Nat → Nat → Int} {m : Nat} (h : okBp a m = true) : badAt a m = -1 := by
  have : (List.range m).find? (fun j => !okP a j) = none := by
    rw [List.find?_eq_none]
    intro j hj
    simp [okBp_get h (by simpa using hj)]
  rw [badAt, this]

abbrev fnV : Value := .func (.func 65) ⟨[]⟩ ⟨[]⟩
abbrev lvX : Ex → List Nat := lv3 [0, 1, 7, 8] [] [4]
def decX : List AV → List AB → Option (PV × Nat × FuncId)
  | [.sl 0 8 0 0 m none, .v (.func (.func f) ⟨[]⟩ ⟨[]⟩), .v (.int .i64 (.ofNat k)), .v (.int .i64 0)], [.row false n 8 g t] => some (⟨m, n, g, t⟩, k, f)
  | _, _ => none
def stX (s : PV × Nat × FuncId) (i : Nat) : List (Nat × AV) := [(0, slP s.1.m), (1, .v fnV), (7, .v (i64 s.1.m)), (8, .v (i64 i))]
def preX (s : PV × Nat × FuncId) : List Bool := Nat.beq s.2.2 65 :: Nat.beq s.2.1 s.1.m :: prePV s.1
def outX (s : PV × Nat × FuncId) (K : Kont) : Res := cond (okBp (itC s.1.g) s.1.m) (K .normal (mkT 0 19 []) (hpPV s.1)) (K .ret (mkT 0 19 [(4, .v (i64 (badAt (itC s.1.g) s.1.m)))]) (hpPV s.1))
noncomputable abbrev fIF : Func := Try.f101
theorem rndX (s : PV × Nat × FuncId) (i : Nat) : execC Try.prog gm_l3Sign 100 noLam (loopAt 0 fIF) (mkT 0 19 (stX s i)) (hpPV s.1) (leafK lvX 1)
    = cond (decide ((i : Int) < s.1.m)) (needs [decide ((i : Int) < s.1.m), decide (0 + i < s.1.m)] (cond (!okP (itC s.1.g) (0 + i)) (.out .ret (mkT 0 19 [(4, .v (i64 i))]) (hpPV s.1)) (.out .normal (mkT 0 19 [(0, slP s.1.m), (1, .v fnV), (7, .v (i64 s.1.m)), (8, .v (i64 (W (i + 1))))]) (hpPV s.1))))
      (.out (.exit 0) (mkT 0 19 []) (hpPV s.1)) := by kernel_rfl

theorem sumX : SumOk Try.prog 1 (.block 0 (.loop (loopAt 0 fIF))) (loopS 19 [0, 1, 7, 8] decX preX outX) := by
  refine mkFor gm_l3Sign_ok (n := 100) (m := 1) (lv := lvX) (Λ := noLam) stX (fun s _ => hpPV s.1) (fun s i => okBp (itC s.1.g) i = true) (fun s => s.1.m) rfl (noLam_ok _ _ _) (Nat.le_refl _) ?_ ?_
  · intro avs H s hd ho
    unfold decX at hd
    split at hd
    · rename_i m f k n g t
      cases hd
      simp only [preX, ob_cons (b := Nat.beq _ _)] at ho
      obtain ⟨hf, hk, ho⟩ := ho
      have hf := Nat.eq_of_beq_eq_true hf
      have hk := Nat.eq_of_beq_eq_true hk
      obtain ⟨h1, h2, h3⟩ := pv_ok (s := ⟨m, n, g, t⟩) (by simpa only [prePV, ob_cons] using ho)
      simp only at h1 h2 h3
      subst h1 hf hk
      exact ⟨[.row false _ 8 g t], by kernel_rfl, .cons (ABeq.row h2) .nil, rfl⟩
    · cases hd
  · intro s K Q ho hk i hi him
    simp only [preX, ob_cons (b := Nat.beq _ _)] at ho
    obtain ⟨_, _, hm⟩ := pv_ok (s := s.1) (by simpa only [prePV, ob_cons] using ho.2.2)
    show GoodQ (execC Try.prog gm_l3Sign 100 noLam (loopAt 0 fIF) (mkT 0 19 (stX s i)) (hpPV s.1) (leafK lvX 1)) _
    rw [rndX, Nat.zero_add]
    refine good_cond (fun h1 => ?_) fun h1 => ?_
    · have h1 := of_decide_eq_true h1
      have h1' : i < s.1.m := by omega
      refine good_needs (by simp only [ob_cons, ob_nil, and_true, decide_eq_true_eq]; omega) (good_cond (fun h2 => ?_) fun h2 => ?_)
      · refine good_out ⟨_, Hsim.refl _, ?_⟩
        rw [outX, okB_no h1' (by simpa using h2), badAt_at hi h1' (by simpa using h2)] at hk
        exact hk
      · refine good_out ⟨h1', ?_, Hsim.refl _, okB_succ hi (by simpa using h2)⟩
        rw [w64_in (x := (i : Int) + 1) (by omega) (by omega)]
        rfl
    · have h1 := of_decide_eq_false h1
      have : i = s.1.m := by omega
      subst this
      refine good_out ⟨_, Hsim.refl _, ?_⟩
      rw [if_pos rfl]
      rw [outX, hi] at hk
      exact hk

def F_if : List SA → Option FR
  | [.row m g, .v (.func (.func f) ⟨[]⟩ ⟨[]⟩)] => some { val := .v (i64 (badAt (itC g) m)), obl := [Nat.beq f 65, allC m g, decide (m ≤ 2 ^ 38)] }
  | _ => none
def md_ifp : List Md := [.rd 8 40, .val]
theorem ok_if : SpecOk Try.prog 101 (specR md_ifp F_if) := by
  refine mkR (n := 100) (Λ := oneL 0 (loopS 19 [0, 1, 7, 8] decX preX outX)) gm_l3Sign_ok (fn := fIF) Try.func101 rfl fun sas fr hF ho => ?_
  unfold F_if at hF
  split at hF
  · rename_i m g f
    cases hF
    simp only [ob_cons] at ho
    obtain ⟨hf, h1, h2, _⟩ := ho
    have hf := Nat.eq_of_beq_eq_true hf
    subst hf
    refine ⟨[.row false m 8 (rowC (itC g)) 40], .cons (ABeq.row fun j hj => allC_get h1 j hj) .nil, lam1 (by kernel_rfl) sumX, ?_⟩
    have e : execF Try.prog gm_l3Sign (oneL 0 (loopS 19 [0, 1, 7, 8] decX preX outX)) 100 fIF (avC 0 md_ifp [.row m g, .v fnV]) [.row false m 8 (rowC (itC g)) 40] (packK 1)
      = needs [Nat.beq m m, Nat.beq m m, allC m (rowC (itC g)), decide (m ≤ 2 ^ 38)] (cond (okBp (itC g) m) (.out .ret [.v (i64 (-1))] [.row false m 8 (rowC (itC g)) 40]) (.out .ret [.v (i64 (badAt (itC g) m))] [.row false m 8 (rowC (itC g)) 40])) := by kernel_rfl
    rw [show ([AB.row false m 8 (rowC (itC g)) 40]).length = 1 from rfl]
    show GoodQ (execF Try.prog gm_l3Sign (oneL 0 (loopS 19 [0, 1, 7, 8] decX preX outX)) 100 fIF (avC 0 md_ifp [.row m g, .v fnV]) [.row false m 8 (rowC (itC g)) 40] (packK 1)) _
    rw [e]
    refine good_needs (by simp only [ob_cons, ob_nil, allC_of (m := m) (a := itC g) fun j _ => rfl, h2, beq_me, and_self]) (good_cond (fun hb => ?_) fun hb => ?_)
    · refine good_out ⟨_, rfl, ?_, .cons (ABeq.row fun j hj => (allC_get h1 j hj).symm) .nil⟩
      rw [badAt_no hb]
    · exact good_out ⟨_, rfl, rfl, .cons (ABeq.row fun j hj => (allC_get h1 j hj).symm) .nil⟩
  · cases hF

def gm_if : Gam := ext gm_l3Sign 101 (specR md_ifp F_if)
theorem gm_if_ok : GamOk Try.prog gm_if := ext_ok gm_l3Sign_ok ok_if

theorem ok_valid : SpecOk Try.prog 23 (specR md_list F_valid) := by
  refine mkR (n := 100) (Λ := noLam) gm_if_ok Try.func23 rfl fun sas fr hF ho => ?_
  unfold F_valid at hF
  split at hF
  · rename_i m g
    cases hF
    simp only [ob_cons] at ho
    obtain ⟨h1, h2, _⟩ := ho
    refine ⟨[.row false m 8 (rowC (itC g)) 40], .cons (ABeq.row fun j hj => allC_get h1 j hj) .nil, noLam' _, ?_⟩
    have e : execF Try.prog gm_if noLam 100 Try.f23 (avC 0 md_list [.row m g]) [.row false m 8 (rowC (itC g)) 40] (packK 1)
      = cond (inR m 1 48) (needs [Nat.ble (0 + m) m, allC m (fun q => rowC (itC g) (0 + q)), decide (m ≤ 2 ^ 38)] (.out .ret [.v (.bool (bif decide (badAt (itC fun q => rowC (itC g) (0 + q)) m ≥ 0) then false else true))] [.row false m 8 (rowC (itC g)) 40])) (.out .ret [.v (.bool false)] [.row false m 8 (rowC (itC g)) 40]) := by kernel_rfl
    rw [show ([AB.row false m 8 (rowC (itC g)) 40]).length = 1 from rfl, e]
    have hb : badAt (itC fun q => rowC (itC g) (0 + q)) m = badAt (itC g) m := by
      have : (fun j => !okP (itC fun q => rowC (itC g) (0 + q)) j) = fun j => !okP (itC g) j := by
        funext j
        show (!okP (itC g) (0 + j)) = _
        rw [Nat.zero_add]
      unfold badAt
      rw [this]
    rw [hb, badAt_ge]
    refine good_cond (fun h3 => ?_) fun h3 => ?_
    · refine good_needs ?_ (good_out ⟨_, rfl, ?_, .cons (ABeq.row fun j hj => (allC_get h1 j hj).symm) .nil⟩)
      · simp only [ob_cons, ob_nil, Nat.zero_add, and_true]
        exact ⟨by simp, allC_of (a := itC g) fun j _ => rfl, h2⟩
      · rw [f_valid, h3]
        cases okBp (itC g) m <;> rfl
    · refine good_out ⟨_, rfl, ?_, .cons (ABeq.row fun j hj => (allC_get h1 j hj).symm) .nil⟩
      rw [f_valid, h3, Bool.and_false]
  · cases hF

def gm_valid : Gam := ext gm_if 23 (specR md_list F_valid)
theorem gm_valid_ok : GamOk Try.prog gm_valid := ext_ok gm_if_ok ok_valid
def gm_validS : Gam := ext gm_valid 24 (specR md_list F_valid)
theorem gm_validS_ok : GamOk Try.prog gm_validS := ext_ok gm_valid_ok ok_validS
def gm_steps : Gam := ext gm_validS 49 (specR md_steps F_steps)
theorem gm_steps_ok : GamOk Try.prog gm_steps := ext_ok gm_validS_ok ok_steps

end Go.Proofs.Ytoligfhcogligaa

/- l8Steps: the steps of a polygon, by the reference. Conditions: a list of points. -/
namespace Go.Proofs.Ytoligfhcogligaa
open Go.RowKit
set_option maxRecDepth 100000

theorem steps_alike (a : Nat → Nat → Int) (m j : Nat) : rowC (fun j => sumF (a ((j + 1) % m)) (-1) (a j)) j = rowC (stepsF a m) j := by
  have : ∀ k, sumF (a ((j + 1) % m)) (-1) (a j) k = stepsF a m j k := by
    intro k
    show W (a ((j + 1) % m) k + -1 * a j k) = W (a ((j + 1) % m) k + W (a j k * -1))
    rw [w64_add_r, Int.mul_comm]
  simp only [rowC, this]

/-- The next place round the list. -/
theorem next_at {i m : Nat} (hi : i < m) (hm : m ≤ 2 ^ 38) : (IntKind.i64.wrap ((i : Int) + 1)).tmod m = (((i + 1) % m : Nat) : Int) := by
  have : IntKind.i64.wrap ((i : Int) + 1) = ((i + 1 : Nat) : Int) := by
    rw [show IntKind.i64.wrap ((i : Int) + 1) = W ((i : Int) + 1) from rfl, w64_in (by omega) (by omega)]; omega
  rw [this]
  exact (Int.ofNat_tmod _ _).symm

abbrev lvL : Ex → List Nat := lv3 [0, 3, 4] [3] []
def decL : List AV → List AB → Option PV
  | [.sl 0 8 0 0 m none, .own 1 0, .v (.int .i64 0)], [.row false n 8 g t, .row true 0 8 _ 40] => some ⟨m, n, g, t⟩
  | _, _ => none
def stL (s : PV) (i : Nat) : List (Nat × AV) := [(0, slP s.m), (3, .own 1 i), (4, .v (i64 i))]
def hpL (s : PV) (i : Nat) : List AB := [.row false s.m 8 (rowC (itC s.g)) s.t, .row true i 8 (rowC (stepsF (itC s.g) s.m)) 40]
def outL (s : PV) (K : Kont) : Res := K .normal (mkT 0 29 [(3, .own 1 s.m)]) (hpL s s.m)
theorem rndL (s : PV) (i : Nat) : execC Try.prog gm_steps 100 noLam (loopAt 0 Try.f43) (mkT 0 29 (stL s i)) (hpL s i) (leafK lvL 1)
    = cond (decide ((i : Int) < s.m)) (needs [!decide ((s.m : Int) = 0), decide (0 ≤ (IntKind.i64.wrap ((i : Int) + 1)).tmod s.m), decide ((IntKind.i64.wrap ((i : Int) + 1)).tmod s.m < s.m), decide (0 + ((IntKind.i64.wrap ((i : Int) + 1)).tmod s.m).toNat < s.m), decide ((i : Int) < s.m), decide (0 + i < s.m), Nat.ble i i, Nat.ble (i + 1) 549755813888]
        (.out .normal (mkT 0 29 [(0, slP s.m), (3, .own 1 (i + 1)), (4, .v (i64 (IntKind.i64.wrap ((i : Int) + 1))))]) [.row false s.m 8 (rowC (itC s.g)) s.t,
          .row true (i + 1) 8 (snocR (rowC (stepsF (itC s.g) s.m)) i 8 (rowC (fun _ => sumF (itC s.g (0 + ((IntKind.i64.wrap ((i : Int) + 1)).tmod s.m).toNat)) (-1) (itC s.g (0 + i))) i)) 40]))
      (.out (.exit 0) (mkT 0 29 [(3, .own 1 i)]) (hpL s i)) := by kernel_rfl

theorem sumL : SumOk Try.prog 1 (.block 0 (.loop (loopAt 0 Try.f43))) (loopS 29 [0, 3, 4] decL prePV outL) := by
  refine mkFor gm_steps_ok (n := 100) (m := 1) (lv := lvL) (Λ := noLam) stL hpL (fun _ _ => True) (fun s => s.m) rfl (noLam_ok _ _ _) (Nat.le_refl _) ?_ ?_
  · intro avs H s hd ho
    unfold decL at hd
    split at hd
    · rename_i m n g t G
      cases hd
      obtain ⟨h1, h2, h3⟩ := pv_ok ho
      simp only at h1 h2 h3
      subst h1
      exact ⟨[.row false n 8 g t, .row true 0 8 G 40], by kernel_rfl, .cons (ABeq.row h2) (.cons (ABeq.row fun j hj => by omega) .nil), trivial⟩
    · cases hd
  · intro s K Q ho hk i _ him
    obtain ⟨_, _, hm⟩ := pv_ok ho
    rw [rndL]
    refine good_cond (fun h1 => ?_) fun h1 => ?_
    · have h1 := of_decide_eq_true h1
      have h1' : i < s.m := by omega
      have hml : (i + 1) % s.m < s.m := Nat.mod_lt _ (by omega)
      rw [next_at h1' hm]
      simp only [Int.toNat_natCast, Nat.zero_add]
      refine good_needs (by simp only [ob_cons, ob_nil, and_true, decide_eq_true_eq, Bool.not_eq_true', decide_eq_false_iff_not, Nat.ble_eq]; omega) (good_out ⟨h1', ?_, ?_, trivial⟩)
      · rw [show IntKind.i64.wrap ((i : Int) + 1) = W ((i : Int) + 1) from rfl, w64_in (x := (i : Int) + 1) (by omega) (by omega)]
        rfl
      · refine .cons (ABeq.refl _) (.cons (ABeq.row fun j hj => ?_) .nil)
        rcases Nat.lt_or_ge j i with h | h
        · rw [snocR_lt h]
        · have : j = i := by omega
          subst this
          rw [snocR_eq (by simp)]
          exact steps_alike (itC s.g) s.m j
    · have h1 := of_decide_eq_false h1
      have : i = s.m := by omega
      subst this
      refine good_out ⟨_, Hsim.refl _, ?_⟩
      rw [if_pos rfl]
      exact hk

theorem ok_l8Steps : SpecOk Try.prog 43 (specR md_list F_steps) := by
  refine mkR (n := 100) (Λ := oneL 0 (loopS 29 [0, 3, 4] decL prePV outL)) gm_steps_ok Try.func43 rfl fun sas fr hF ho => ?_
  unfold F_steps at hF
  split at hF
  · rename_i m g
    cases hF
    simp only [ob_cons] at ho
    obtain ⟨h1, _, h2, _⟩ := ho
    refine ⟨[.row false m 8 (rowC (itC g)) 40], .cons (ABeq.row fun j hj => allC_get h1 j hj) .nil, lam1 (by kernel_rfl) sumL, ?_⟩
    have e : execF Try.prog gm_steps (oneL 0 (loopS 29 [0, 3, 4] decL prePV outL)) 100 Try.f43 (avC 0 md_list [.row m g]) [.row false m 8 (rowC (itC g)) 40] (packK 1)
      = needs [Nat.beq m m, allC m (rowC (itC g)), decide (m ≤ 2 ^ 38)] (.out .ret [.own 1 m] [.row false m 8 (rowC (itC g)) 40, .row true m 8 (rowC (stepsF (itC (rowC (itC g))) m)) 40]) := by kernel_rfl
    rw [show ([AB.row false m 8 (rowC (itC g)) 40]).length = 1 from rfl, e]
    exact good_needs (by simp only [ob_cons, ob_nil, allC_of (m := m) (a := itC g) fun j _ => rfl, h2, beq_me, and_self]) (good_out ⟨_, rfl, rfl, .cons (ABeq.row fun j hj => (allC_get h1 j hj).symm) (.cons (ABeq.row fun j hj => rfl) .nil)⟩)
  · cases hF

def gm_l8Steps : Gam := ext gm_steps 43 (specR md_list F_steps)
theorem gm_l8Steps_ok : GamOk Try.prog gm_l8Steps := ext_ok gm_steps_ok ok_l8Steps

end Go.Proofs.Ytoligfhcogligaa

/- The abstract machine, 22: one case of a word. No conditions. -/
namespace Go.Proofs.Ytoligfhcogligaa
open Go.RowKit

theorem specR_case {P : Program} {f : FuncId} {mds : List Md} {F F' : List SA → Option FR} (h : SpecOk P f (specR mds F))
    (hF : ∀ sas fr, F' sas = some fr → obls fr.obl = true → ∃ ob, F sas = some { fr with obl := ob } ∧ obls ob = true) : SpecOk P f (specR mds F') := by
  refine ⟨h.1, fun avs H base δ ν vals w hS ho hv hr hlt hfree hsep => ?_⟩
  unfold specR at hS
  split at hS
  · rename_i xs hxs
    split at hS
    · rename_i fr hFr
      split at hS
      · rename_i av hav
        cases hc : ((!hasWr mds || nodupB ((ixC mds xs).filterMap id)) && fr.new.all isRowT && Nat.beq (abP mds (xs.map (·.sa)) fr.put).length (abC mds (xs.map (·.sa))).length) with
        | false => rw [hc] at hS; cases hS
        | true =>
          rw [hc] at hS
          simp only [cond_true, Option.some.injEq] at hS
          subst hS
          have ho' : obls (xs.flatMap (·.ob)) = true ∧ obls fr.obl = true := by simpa [obls, List.all_append] using ho
          obtain ⟨ob, e1, e2⟩ := hF _ _ hFr ho'.2
          have hS2 : specR mds F avs H base = some { val := av, rd := (ixC mds xs).filterMap id, put := putC (ixC mds xs) (abP mds (xs.map (·.sa)) fr.put), new := fr.new, obl := xs.flatMap (·.ob) ++ ob } := by
            unfold specR
            rw [hxs]
            simp only [e1, hav]
            rw [hc]
            rfl
          refine (h.2 avs H base _ ν vals w hS2 (by simpa [obls, List.all_append] using And.intro ho'.1 e2) hv hr hlt hfree hsep).mono ?_
          rintro e w' ⟨v, ν', rfl, d⟩
          exact ⟨v, ν', rfl, d.le, d.dom, d.val, d.put, d.new, d.os, d.tape, d.output, d.size, d.block, d.fresh, d.apart⟩
      · cases hS
    · cases hS
  · cases hS

end Go.Proofs.Ytoligfhcogligaa

/- The bends. Conditions: a list of points. -/
namespace Go.Proofs.Ytoligfhcogligaa
open Go.RowKit
set_option maxRecDepth 100000

/-- PolyValid where it says b. -/
def F_validB (b : Bool) : List SA → Option FR
  | [.row m g] => some { val := .v (.bool b), obl := [allC m g, decide (m ≤ 2 ^ 38), f_valid (itC g) m == b] }
  | _ => none
theorem validB_of {f : FuncId} (h : SpecOk Try.prog f (specR md_list F_valid)) (b : Bool) : SpecOk Try.prog f (specR md_list (F_validB b)) := by
  refine specR_case h fun sas fr hF ho => ?_
  unfold F_validB at hF
  split at hF
  · rename_i m g
    cases hF
    simp only [ob_cons] at ho
    refine ⟨[allC m g, decide (m ≤ 2 ^ 38)], ?_, by simp only [ob_cons, ob_nil, and_true]; exact ⟨ho.1, ho.2.1⟩⟩
    have : f_valid (itC g) m = b := by simpa using ho.2.2.1
    simp only [F_valid, this]
  · cases hF

def gm_y : Gam := ext (ext gm_l8Steps 23 (specR md_list (F_validB true))) 24 (specR md_list (F_validB true))
theorem gm_y_ok : GamOk Try.prog gm_y := ext_ok (ext_ok gm_l8Steps_ok (validB_of ok_valid true)) (validB_of ok_validS true)
def gm_n : Gam := ext (ext gm_l8Steps 23 (specR md_list (F_validB false))) 24 (specR md_list (F_validB false))
theorem gm_n_ok : GamOk Try.prog gm_n := ext_ok (ext_ok gm_l8Steps_ok (validB_of ok_valid false)) (validB_of ok_validS false)

abbrev w4 (s : Nat → Int) : Nat → Int := v4 (s 0) (s 1) (s 2) (s 3)
def crossW (p q : Nat → Int) : Nat → Int := imF (mulF (mirF (w8 p)) (w8 q))
def bendV (p q : Nat → Int) : Int := sgn4 (w4 (crossW p q))
/-- The bends of the steps b. -/
def bendsF (b : Nat → Nat → Int) (m : Nat) : Nat → Int := fun i => bendV (b ((i + m - 1) % m)) (b i)
theorem cross_in (p q : Nat → Int) (k : Nat) : i64B (crossW p q k) = true := i64B_W _

/-- The place before, round the list. -/
theorem prev_at {i m : Nat} (hi : i < m) (hm : m ≤ 2 ^ 38) : (IntKind.i64.wrap (IntKind.i64.wrap ((i : Int) + m) - 1)).tmod m = (((i + m - 1) % m : Nat) : Int) := by
  have e1 : IntKind.i64.wrap ((i : Int) + m) = ((i + m : Nat) : Int) := by
    rw [show IntKind.i64.wrap ((i : Int) + m) = W ((i : Int) + m) from rfl, w64_in (by omega) (by omega)]; omega
  have e2 : IntKind.i64.wrap (((i + m : Nat) : Int) - 1) = ((i + m - 1 : Nat) : Int) := by
    rw [show IntKind.i64.wrap (((i + m : Nat) : Int) - 1) = W (((i + m : Nat) : Int) - 1) from rfl, w64_in (by omega) (by omega)]; omega
  rw [e1, e2]
  exact (Int.ofNat_tmod _ _).symm

structure PB where
  m : Nat
  m' : Nat
  k : Nat
  gb : Nat → List Value
  n : Nat
  g : Nat → List Value
  t : TypeId
abbrev prI (i m : Int) : Int := (IntKind.i64.wrap (IntKind.i64.wrap (i + m) - 1)).tmod m
abbrev lvB : Ex → List Nat := lv3 [4, 5, 6, 7] [4] []
def stB (s : PB) (i : Nat) : List (Nat × AV) := [(4, .own 1 i), (5, .own 2 s.m), (6, .v (i64 s.m)), (7, .v (i64 i))]
def hpB (s : PB) (i : Nat) : List AB := [.row false s.n 8 s.g s.t, .row true i 1 (rowI (bendsF (itC s.gb) s.m)) 3, .row true s.m 8 (rowC (itC s.gb)) 40]
def preB (s : PB) : List Bool := [Nat.beq s.m' s.m, Nat.beq s.k s.m, allC s.m s.gb, decide (s.m ≤ 2 ^ 38)]
def decB : List AV → List AB → Option PB
  | [.own 1 0, .own 2 m, .v (.int .i64 (.ofNat k)), .v (.int .i64 0)], [.row false n 8 g t, .row true 0 1 _ 3, .row true m' 8 gb 40] => some ⟨m, m', k, gb, n, g, t⟩
  | _, _ => none
def outB (s : PB) (K : Kont) : Res := K .normal (mkT 0 41 [(4, .own 1 s.m)]) [.row false s.n 8 s.g s.t, .row true s.m 1 (rowI (bendsF (itC s.gb) s.m)) 3]
theorem rndB (m : Nat) (b : Nat → Nat → Int) (n : Nat) (g : Nat → List Value) (t : TypeId) (G : Nat → List Value) (i : Nat) : execC Try.prog gm_y 100 noLam (loopAt 0 Try.f13) (mkT 0 41 [(4, .own 1 i), (5, .own 2 m), (6, .v (i64 m)), (7, .v (i64 i))]) [.row false n 8 g t, .row true i 1 G 3, .row true m 8 (rowC b) 40] (leafK lvB 1)
    = cond (decide ((i : Int) < m)) (needs [!decide ((m : Int) = 0), decide (0 ≤ prI i m), decide (prI i m < m), decide ((prI i m).toNat < m), decide ((i : Int) < m), decide (i < m), i64B (crossW (b (prI i m).toNat) (b i) 0), i64B (crossW (b (prI i m).toNat) (b i) 1), i64B (crossW (b (prI i m).toNat) (b i) 2), i64B (crossW (b (prI i m).toNat) (b i) 3), Nat.ble i i, Nat.ble (i + 1) 549755813888]
        (.out .normal (mkT 0 41 [(4, .own 1 (i + 1)), (5, .own 2 m), (6, .v (i64 m)), (7, .v (i64 (IntKind.i64.wrap ((i : Int) + 1))))]) [.row false n 8 g t, .row true (i + 1) 1 (snocR G i 1 [i64 (bendV (b (prI i m).toNat) (b i))]) 3, .row true m 8 (rowC b) 40]))
      (.out (.exit 0) (mkT 0 41 [(4, .own 1 i)]) [.row false n 8 g t, .row true i 1 G 3]) := by kernel_rfl

theorem sumB : SumOk Try.prog 1 (.block 0 (.loop (loopAt 0 Try.f13))) (loopS 41 [4, 5, 6, 7] decB preB outB) := by
  refine mkFor gm_y_ok (n := 100) (m := 1) (lv := lvB) (Λ := noLam) stB hpB (fun _ _ => True) (fun s => s.m) rfl (noLam_ok _ _ _) (Nat.le_refl _) ?_ ?_
  · intro avs H s hd ho
    unfold decB at hd
    split at hd
    · rename_i m k n g t G m' gb
      cases hd
      simp only [preB, ob_cons, decide_eq_true_eq] at ho
      obtain ⟨h1, h2, h3, h4, _⟩ := ho
      have h1 := Nat.eq_of_beq_eq_true h1
      have h2 := Nat.eq_of_beq_eq_true h2
      subst h1 h2
      exact ⟨[.row false n 8 g t, .row true 0 1 G 3, .row true _ 8 gb 40], by kernel_rfl, .cons (ABeq.refl _) (.cons (ABeq.row fun j hj => by omega) (.cons (ABeq.row fun j hj => allC_get h3 j hj) .nil)), trivial⟩
    · cases hd
  · intro s K Q ho hk i _ him
    simp only [preB, ob_cons, decide_eq_true_eq] at ho
    obtain ⟨_, _, _, hm, _⟩ := ho
    show GoodQ (execC Try.prog gm_y 100 noLam (loopAt 0 Try.f13) (mkT 0 41 [(4, .own 1 i), (5, .own 2 s.m), (6, .v (i64 s.m)), (7, .v (i64 i))]) [.row false s.n 8 s.g s.t, .row true i 1 (rowI (bendsF (itC s.gb) s.m)) 3, .row true s.m 8 (rowC (itC s.gb)) 40] (leafK lvB 1)) _
    rw [rndB]
    refine good_cond (fun h1 => ?_) fun h1 => ?_
    · have h1 := of_decide_eq_true h1
      have h1' : i < s.m := by omega
      have hml : (i + s.m - 1) % s.m < s.m := Nat.mod_lt _ (by omega)
      rw [show prI (i : Int) s.m = _ from prev_at h1' hm]
      simp only [Int.toNat_natCast]
      refine good_needs (by simp only [ob_cons, ob_nil, cross_in, and_true, true_and, decide_eq_true_eq, Bool.not_eq_true', decide_eq_false_iff_not, Nat.ble_eq]; omega) (good_out ⟨h1', ?_, ?_, trivial⟩)
      · rw [show IntKind.i64.wrap ((i : Int) + 1) = W ((i : Int) + 1) from rfl, w64_in (x := (i : Int) + 1) (by omega) (by omega)]
        rfl
      · refine .cons (ABeq.refl _) (.cons (ABeq.row fun j hj => ?_) (.cons (ABeq.refl _) .nil))
        rcases Nat.lt_or_ge j i with h | h
        · rw [snocR_lt h]
        · have : j = i := by omega
          subst this
          rw [snocR_eq (by simp)]
          rfl
    · have h1 := of_decide_eq_false h1
      have : i = s.m := by omega
      subst this
      refine good_out ⟨_, Hsim.refl _, ?_⟩
      rw [if_pos rfl]
      exact hk

theorem zero_row (a : Nat → Nat → Int) : (fun q => rowC a (0 + q)) = rowC a := by
  funext q
  rw [Nat.zero_add]

def F_bendsY : List SA → Option FR
  | [.row m g] => some { val := .tup [.own 0 m, .v (.bool true)], new := [.row true m 1 (rowI (bendsF (stepsF (itC g) m) m)) 3], obl := [allC m g, decide (m ≤ 2 ^ 38), f_valid (itC g) m == true] }
  | _ => none

theorem valid_pos {a : Nat → Nat → Int} {m : Nat} (h : (f_valid a m == true) = true) : 0 < m := by
  have : f_valid a m = true := by simpa using h
  simp only [f_valid, Bool.and_eq_true] at this
  have := inR_iff.1 this.2
  omega

theorem ok_bendsSY : SpecOk Try.prog 13 (specR md_list F_bendsY) := by
  refine mkR (n := 100) (Λ := oneL 0 (loopS 41 [4, 5, 6, 7] decB preB outB)) gm_y_ok Try.func13 rfl fun sas fr hF ho => ?_
  unfold F_bendsY at hF
  split at hF
  · rename_i m g
    cases hF
    simp only [ob_cons] at ho
    obtain ⟨h1, h2, h3, _⟩ := ho
    refine ⟨[.row false m 8 (rowC (itC g)) 40], .cons (ABeq.row fun j hj => allC_get h1 j hj) .nil, lam1 (by kernel_rfl) sumB, ?_⟩
    have e : execF Try.prog gm_y (oneL 0 (loopS 41 [4, 5, 6, 7] decB preB outB)) 100 Try.f13 (avC 0 md_list [.row m g]) [.row false m 8 (rowC (itC g)) 40] (packK 1)
      = needs [Nat.ble (0 + m) m, allC m (fun q => rowC (itC g) (0 + q)), decide (m ≤ 2 ^ 38), f_valid (itC fun q => rowC (itC g) (0 + q)) m == true, Nat.ble (0 + m) m, allC m (fun q => rowC (itC g) (0 + q)), decide (0 < m), decide (m ≤ 2 ^ 38),
          Nat.beq m m, Nat.beq m m, allC m (rowC (stepsF (itC fun q => rowC (itC g) (0 + q)) m)), decide (m ≤ 2 ^ 38)]
        (.out .ret [.tup [.own 1 m, .v (.bool true)]] [.row false m 8 (rowC (itC g)) 40, .row true m 1 (rowI (bendsF (itC (rowC (stepsF (itC fun q => rowC (itC g) (0 + q)) m))) m)) 3]) := by kernel_rfl
    rw [show ([AB.row false m 8 (rowC (itC g)) 40]).length = 1 from rfl, e, zero_row]
    have hpos := valid_pos h3
    refine good_needs ?_ (good_out ⟨_, rfl, rfl, .cons (ABeq.row fun j hj => (allC_get h1 j hj).symm) (.cons (ABeq.row fun j hj => ?_) .nil)⟩)
    · simp only [ob_cons, ob_nil, allC_of (m := m) (a := itC g) fun j _ => rfl, allC_of (m := m) (a := stepsF (itC (rowC (itC g))) m) fun j _ => rfl, h2, beq_me, and_self, and_true, true_and, Nat.zero_add, Nat.ble_eq, Nat.le_refl, decide_eq_true_eq]
      exact ⟨h3, hpos⟩
    · kernel_rfl
  · cases hF

end Go.Proofs.Ytoligfhcogligaa

/- Plain algebra: how great products, mirrored points and parts can be. No program, no conditions. -/
namespace Go.Proofs.Ytoligfhcogligaa
open Go.RowKit

theorem mul_bd {x y A B : Int} (h1 : -A ≤ x) (h2 : x ≤ A) (h3 : -B ≤ y) (h4 : y ≤ B) : -(A * B) ≤ x * y ∧ x * y ≤ A * B := by
  have hA : 0 ≤ A := by omega
  have hB : 0 ≤ B := by omega
  have e1 : 0 ≤ (A - x) * (B - y) := Int.mul_nonneg (by omega) (by omega)
  have e2 : 0 ≤ (A + x) * (B + y) := Int.mul_nonneg (by omega) (by omega)
  have e3 : 0 ≤ (A - x) * (B + y) := Int.mul_nonneg (by omega) (by omega)
  have e4 : 0 ≤ (A + x) * (B - y) := Int.mul_nonneg (by omega) (by omega)
  have g1 : (A - x) * (B - y) = A * B - A * y - x * B + x * y := by grind
  have g2 : (A + x) * (B + y) = A * B + A * y + x * B + x * y := by grind
  have g3 : (A - x) * (B + y) = A * B + A * y - x * B - x * y := by grind
  have g4 : (A + x) * (B - y) = A * B - A * y + x * B - x * y := by grind
  omega
/-- All eight lie between -B and B. -/
def bd8 (B : Int) (f : Nat → Int) : Prop := ∀ k, k < 8 → -B ≤ f k ∧ f k ≤ B
def bd4 (B : Int) (f : Nat → Int) : Prop := ∀ k, k < 4 → -B ≤ f k ∧ f k ≤ B

theorem conv_bd0 {a b : Nat → Int} {A B : Int} (ha : bd8 A a) (hb : bd8 B b) : -(8 * (A * B)) ≤ convF a b 0 ∧ convF a b 0 ≤ 8 * (A * B) := by
  have h0 : 0 ≤ A * B := by
    have := ha 0 (by omega); have := hb 0 (by omega)
    exact Int.mul_nonneg (by omega) (by omega)
  have p0 := mul_bd (ha 0 (by omega)).1 (ha 0 (by omega)).2 (hb 0 (by omega)).1 (hb 0 (by omega)).2
  simp only [convF]
  omega
theorem conv_bd1 {a b : Nat → Int} {A B : Int} (ha : bd8 A a) (hb : bd8 B b) : -(8 * (A * B)) ≤ convF a b 1 ∧ convF a b 1 ≤ 8 * (A * B) := by
  have h0 : 0 ≤ A * B := by
    have := ha 0 (by omega); have := hb 0 (by omega)
    exact Int.mul_nonneg (by omega) (by omega)
  have p0 := mul_bd (ha 0 (by omega)).1 (ha 0 (by omega)).2 (hb 1 (by omega)).1 (hb 1 (by omega)).2
  have p1 := mul_bd (ha 1 (by omega)).1 (ha 1 (by omega)).2 (hb 0 (by omega)).1 (hb 0 (by omega)).2
  simp only [convF]
  omega
theorem conv_bd2 {a b : Nat → Int} {A B : Int} (ha : bd8 A a) (hb : bd8 B b) : -(8 * (A * B)) ≤ convF a b 2 ∧ convF a b 2 ≤ 8 * (A * B) := by
  have h0 : 0 ≤ A * B := by
    have := ha 0 (by omega); have := hb 0 (by omega)
    exact Int.mul_nonneg (by omega) (by omega)
  have p0 := mul_bd (ha 0 (by omega)).1 (ha 0 (by omega)).2 (hb 2 (by omega)).1 (hb 2 (by omega)).2
  have p1 := mul_bd (ha 1 (by omega)).1 (ha 1 (by omega)).2 (hb 1 (by omega)).1 (hb 1 (by omega)).2
  have p2 := mul_bd (ha 2 (by omega)).1 (ha 2 (by omega)).2 (hb 0 (by omega)).1 (hb 0 (by omega)).2
  simp only [convF]
  omega
theorem conv_bd3 {a b : Nat → Int} {A B : Int} (ha : bd8 A a) (hb : bd8 B b) : -(8 * (A * B)) ≤ convF a b 3 ∧ convF a b 3 ≤ 8 * (A * B) := by
  have h0 : 0 ≤ A * B := by
    have := ha 0 (by omega); have := hb 0 (by omega)
    exact Int.mul_nonneg (by omega) (by omega)
  have p0 := mul_bd (ha 0 (by omega)).1 (ha 0 (by omega)).2 (hb 3 (by omega)).1 (hb 3 (by omega)).2
  have p1 := mul_bd (ha 1 (by omega)).1 (ha 1 (by omega)).2 (hb 2 (by omega)).1 (hb 2 (by omega)).2
  have p2 := mul_bd (ha 2 (by omega)).1 (ha 2 (by omega)).2 (hb 1 (by omega)).1 (hb 1 (by omega)).2
  have p3 := mul_bd (ha 3 (by omega)).1 (ha 3 (by omega)).2 (hb 0 (by omega)).1 (hb 0 (by omega)).2
  simp only [convF]
  omega
theorem conv_bd4 {a b : Nat → Int} {A B : Int} (ha : bd8 A a) (hb : bd8 B b) : -(8 * (A * B)) ≤ convF a b 4 ∧ convF a b 4 ≤ 8 * (A * B) := by
  have h0 : 0 ≤ A * B := by
    have := ha 0 (by omega); have := hb 0 (by omega)
    exact Int.mul_nonneg (by omega) (by omega)
  have p0 := mul_bd (ha 0 (by omega)).1 (ha 0 (by omega)).2 (hb 4 (by omega)).1 (hb 4 (by omega)).2
  have p1 := mul_bd (ha 1 (by omega)).1 (ha 1 (by omega)).2 (hb 3 (by omega)).1 (hb 3 (by omega)).2
  have p2 := mul_bd (ha 2 (by omega)).1 (ha 2 (by omega)).2 (hb 2 (by omega)).1 (hb 2 (by omega)).2
  have p3 := mul_bd (ha 3 (by omega)).1 (ha 3 (by omega)).2 (hb 1 (by omega)).1 (hb 1 (by omega)).2
  have p4 := mul_bd (ha 4 (by omega)).1 (ha 4 (by omega)).2 (hb 0 (by omega)).1 (hb 0 (by omega)).2
  simp only [convF]
  omega
theorem conv_bd5 {a b : Nat → Int} {A B : Int} (ha : bd8 A a) (hb : bd8 B b) : -(8 * (A * B)) ≤ convF a b 5 ∧ convF a b 5 ≤ 8 * (A * B) := by
  have h0 : 0 ≤ A * B := by
    have := ha 0 (by omega); have := hb 0 (by omega)
    exact Int.mul_nonneg (by omega) (by omega)
  have p0 := mul_bd (ha 0 (by omega)).1 (ha 0 (by omega)).2 (hb 5 (by omega)).1 (hb 5 (by omega)).2
  have p1 := mul_bd (ha 1 (by omega)).1 (ha 1 (by omega)).2 (hb 4 (by omega)).1 (hb 4 (by omega)).2
  have p2 := mul_bd (ha 2 (by omega)).1 (ha 2 (by omega)).2 (hb 3 (by omega)).1 (hb 3 (by omega)).2
  have p3 := mul_bd (ha 3 (by omega)).1 (ha 3 (by omega)).2 (hb 2 (by omega)).1 (hb 2 (by omega)).2
  have p4 := mul_bd (ha 4 (by omega)).1 (ha 4 (by omega)).2 (hb 1 (by omega)).1 (hb 1 (by omega)).2
  have p5 := mul_bd (ha 5 (by omega)).1 (ha 5 (by omega)).2 (hb 0 (by omega)).1 (hb 0 (by omega)).2
  simp only [convF]
  omega
theorem conv_bd6 {a b : Nat → Int} {A B : Int} (ha : bd8 A a) (hb : bd8 B b) : -(8 * (A * B)) ≤ convF a b 6 ∧ convF a b 6 ≤ 8 * (A * B) := by
  have h0 : 0 ≤ A * B := by
    have := ha 0 (by omega); have := hb 0 (by omega)
    exact Int.mul_nonneg (by omega) (by omega)
  have p0 := mul_bd (ha 0 (by omega)).1 (ha 0 (by omega)).2 (hb 6 (by omega)).1 (hb 6 (by omega)).2
  have p1 := mul_bd (ha 1 (by omega)).1 (ha 1 (by omega)).2 (hb 5 (by omega)).1 (hb 5 (by omega)).2
  have p2 := mul_bd (ha 2 (by omega)).1 (ha 2 (by omega)).2 (hb 4 (by omega)).1 (hb 4 (by omega)).2
  have p3 := mul_bd (ha 3 (by omega)).1 (ha 3 (by omega)).2 (hb 3 (by omega)).1 (hb 3 (by omega)).2
  have p4 := mul_bd (ha 4 (by omega)).1 (ha 4 (by omega)).2 (hb 2 (by omega)).1 (hb 2 (by omega)).2
  have p5 := mul_bd (ha 5 (by omega)).1 (ha 5 (by omega)).2 (hb 1 (by omega)).1 (hb 1 (by omega)).2
  have p6 := mul_bd (ha 6 (by omega)).1 (ha 6 (by omega)).2 (hb 0 (by omega)).1 (hb 0 (by omega)).2
  simp only [convF]
  omega
theorem conv_bd7 {a b : Nat → Int} {A B : Int} (ha : bd8 A a) (hb : bd8 B b) : -(8 * (A * B)) ≤ convF a b 7 ∧ convF a b 7 ≤ 8 * (A * B) := by
  have h0 : 0 ≤ A * B := by
    have := ha 0 (by omega); have := hb 0 (by omega)
    exact Int.mul_nonneg (by omega) (by omega)
  have p0 := mul_bd (ha 0 (by omega)).1 (ha 0 (by omega)).2 (hb 7 (by omega)).1 (hb 7 (by omega)).2
  have p1 := mul_bd (ha 1 (by omega)).1 (ha 1 (by omega)).2 (hb 6 (by omega)).1 (hb 6 (by omega)).2
  have p2 := mul_bd (ha 2 (by omega)).1 (ha 2 (by omega)).2 (hb 5 (by omega)).1 (hb 5 (by omega)).2
  have p3 := mul_bd (ha 3 (by omega)).1 (ha 3 (by omega)).2 (hb 4 (by omega)).1 (hb 4 (by omega)).2
  have p4 := mul_bd (ha 4 (by omega)).1 (ha 4 (by omega)).2 (hb 3 (by omega)).1 (hb 3 (by omega)).2
  have p5 := mul_bd (ha 5 (by omega)).1 (ha 5 (by omega)).2 (hb 2 (by omega)).1 (hb 2 (by omega)).2
  have p6 := mul_bd (ha 6 (by omega)).1 (ha 6 (by omega)).2 (hb 1 (by omega)).1 (hb 1 (by omega)).2
  have p7 := mul_bd (ha 7 (by omega)).1 (ha 7 (by omega)).2 (hb 0 (by omega)).1 (hb 0 (by omega)).2
  simp only [convF]
  omega
theorem conv_bd8 {a b : Nat → Int} {A B : Int} (ha : bd8 A a) (hb : bd8 B b) : -(8 * (A * B)) ≤ convF a b 8 ∧ convF a b 8 ≤ 8 * (A * B) := by
  have h0 : 0 ≤ A * B := by
    have := ha 0 (by omega); have := hb 0 (by omega)
    exact Int.mul_nonneg (by omega) (by omega)
  have p1 := mul_bd (ha 1 (by omega)).1 (ha 1 (by omega)).2 (hb 7 (by omega)).1 (hb 7 (by omega)).2
  have p2 := mul_bd (ha 2 (by omega)).1 (ha 2 (by omega)).2 (hb 6 (by omega)).1 (hb 6 (by omega)).2
  have p3 := mul_bd (ha 3 (by omega)).1 (ha 3 (by omega)).2 (hb 5 (by omega)).1 (hb 5 (by omega)).2
  have p4 := mul_bd (ha 4 (by omega)).1 (ha 4 (by omega)).2 (hb 4 (by omega)).1 (hb 4 (by omega)).2
  have p5 := mul_bd (ha 5 (by omega)).1 (ha 5 (by omega)).2 (hb 3 (by omega)).1 (hb 3 (by omega)).2
  have p6 := mul_bd (ha 6 (by omega)).1 (ha 6 (by omega)).2 (hb 2 (by omega)).1 (hb 2 (by omega)).2
  have p7 := mul_bd (ha 7 (by omega)).1 (ha 7 (by omega)).2 (hb 1 (by omega)).1 (hb 1 (by omega)).2
  simp only [convF]
  omega
theorem conv_bd9 {a b : Nat → Int} {A B : Int} (ha : bd8 A a) (hb : bd8 B b) : -(8 * (A * B)) ≤ convF a b 9 ∧ convF a b 9 ≤ 8 * (A * B) := by
  have h0 : 0 ≤ A * B := by
    have := ha 0 (by omega); have := hb 0 (by omega)
    exact Int.mul_nonneg (by omega) (by omega)
  have p2 := mul_bd (ha 2 (by omega)).1 (ha 2 (by omega)).2 (hb 7 (by omega)).1 (hb 7 (by omega)).2
  have p3 := mul_bd (ha 3 (by omega)).1 (ha 3 (by omega)).2 (hb 6 (by omega)).1 (hb 6 (by omega)).2
  have p4 := mul_bd (ha 4 (by omega)).1 (ha 4 (by omega)).2 (hb 5 (by omega)).1 (hb 5 (by omega)).2
  have p5 := mul_bd (ha 5 (by omega)).1 (ha 5 (by omega)).2 (hb 4 (by omega)).1 (hb 4 (by omega)).2
  have p6 := mul_bd (ha 6 (by omega)).1 (ha 6 (by omega)).2 (hb 3 (by omega)).1 (hb 3 (by omega)).2
  have p7 := mul_bd (ha 7 (by omega)).1 (ha 7 (by omega)).2 (hb 2 (by omega)).1 (hb 2 (by omega)).2
  simp only [convF]
  omega
theorem conv_bd10 {a b : Nat → Int} {A B : Int} (ha : bd8 A a) (hb : bd8 B b) : -(8 * (A * B)) ≤ convF a b 10 ∧ convF a b 10 ≤ 8 * (A * B) := by
  have h0 : 0 ≤ A * B := by
    have := ha 0 (by omega); have := hb 0 (by omega)
    exact Int.mul_nonneg (by omega) (by omega)
  have p3 := mul_bd (ha 3 (by omega)).1 (ha 3 (by omega)).2 (hb 7 (by omega)).1 (hb 7 (by omega)).2
  have p4 := mul_bd (ha 4 (by omega)).1 (ha 4 (by omega)).2 (hb 6 (by omega)).1 (hb 6 (by omega)).2
  have p5 := mul_bd (ha 5 (by omega)).1 (ha 5 (by omega)).2 (hb 5 (by omega)).1 (hb 5 (by omega)).2
  have p6 := mul_bd (ha 6 (by omega)).1 (ha 6 (by omega)).2 (hb 4 (by omega)).1 (hb 4 (by omega)).2
  have p7 := mul_bd (ha 7 (by omega)).1 (ha 7 (by omega)).2 (hb 3 (by omega)).1 (hb 3 (by omega)).2
  simp only [convF]
  omega
theorem conv_bd11 {a b : Nat → Int} {A B : Int} (ha : bd8 A a) (hb : bd8 B b) : -(8 * (A * B)) ≤ convF a b 11 ∧ convF a b 11 ≤ 8 * (A * B) := by
  have h0 : 0 ≤ A * B := by
    have := ha 0 (by omega); have := hb 0 (by omega)
    exact Int.mul_nonneg (by omega) (by omega)
  have p4 := mul_bd (ha 4 (by omega)).1 (ha 4 (by omega)).2 (hb 7 (by omega)).1 (hb 7 (by omega)).2
  have p5 := mul_bd (ha 5 (by omega)).1 (ha 5 (by omega)).2 (hb 6 (by omega)).1 (hb 6 (by omega)).2
  have p6 := mul_bd (ha 6 (by omega)).1 (ha 6 (by omega)).2 (hb 5 (by omega)).1 (hb 5 (by omega)).2
  have p7 := mul_bd (ha 7 (by omega)).1 (ha 7 (by omega)).2 (hb 4 (by omega)).1 (hb 4 (by omega)).2
  simp only [convF]
  omega
theorem conv_bd12 {a b : Nat → Int} {A B : Int} (ha : bd8 A a) (hb : bd8 B b) : -(8 * (A * B)) ≤ convF a b 12 ∧ convF a b 12 ≤ 8 * (A * B) := by
  have h0 : 0 ≤ A * B := by
    have := ha 0 (by omega); have := hb 0 (by omega)
    exact Int.mul_nonneg (by omega) (by omega)
  have p5 := mul_bd (ha 5 (by omega)).1 (ha 5 (by omega)).2 (hb 7 (by omega)).1 (hb 7 (by omega)).2
  have p6 := mul_bd (ha 6 (by omega)).1 (ha 6 (by omega)).2 (hb 6 (by omega)).1 (hb 6 (by omega)).2
  have p7 := mul_bd (ha 7 (by omega)).1 (ha 7 (by omega)).2 (hb 5 (by omega)).1 (hb 5 (by omega)).2
  simp only [convF]
  omega
theorem conv_bd13 {a b : Nat → Int} {A B : Int} (ha : bd8 A a) (hb : bd8 B b) : -(8 * (A * B)) ≤ convF a b 13 ∧ convF a b 13 ≤ 8 * (A * B) := by
  have h0 : 0 ≤ A * B := by
    have := ha 0 (by omega); have := hb 0 (by omega)
    exact Int.mul_nonneg (by omega) (by omega)
  have p6 := mul_bd (ha 6 (by omega)).1 (ha 6 (by omega)).2 (hb 7 (by omega)).1 (hb 7 (by omega)).2
  have p7 := mul_bd (ha 7 (by omega)).1 (ha 7 (by omega)).2 (hb 6 (by omega)).1 (hb 6 (by omega)).2
  simp only [convF]
  omega
theorem conv_bd14 {a b : Nat → Int} {A B : Int} (ha : bd8 A a) (hb : bd8 B b) : -(8 * (A * B)) ≤ convF a b 14 ∧ convF a b 14 ≤ 8 * (A * B) := by
  have h0 : 0 ≤ A * B := by
    have := ha 0 (by omega); have := hb 0 (by omega)
    exact Int.mul_nonneg (by omega) (by omega)
  have p7 := mul_bd (ha 7 (by omega)).1 (ha 7 (by omega)).2 (hb 7 (by omega)).1 (hb 7 (by omega)).2
  simp only [convF]
  omega
theorem mul_bd8 {a b : Nat → Int} {A B : Int} (ha : bd8 A a) (hb : bd8 B b) : bd8 (24 * (A * B)) (mulZ a b) := by
  intro k hk
  have c0 := conv_bd0 ha hb
  have c1 := conv_bd1 ha hb
  have c2 := conv_bd2 ha hb
  have c3 := conv_bd3 ha hb
  have c4 := conv_bd4 ha hb
  have c5 := conv_bd5 ha hb
  have c6 := conv_bd6 ha hb
  have c7 := conv_bd7 ha hb
  have c8 := conv_bd8 ha hb
  have c9 := conv_bd9 ha hb
  have c10 := conv_bd10 ha hb
  have c11 := conv_bd11 ha hb
  have c12 := conv_bd12 ha hb
  have c13 := conv_bd13 ha hb
  have c14 := conv_bd14 ha hb
  rcases (by omega : k = 0 ∨ k = 1 ∨ k = 2 ∨ k = 3 ∨ k = 4 ∨ k = 5 ∨ k = 6 ∨ k = 7) with rfl | rfl | rfl | rfl | rfl | rfl | rfl | rfl <;> simp only [mulZ] <;> omega
theorem mir_bd {a : Nat → Int} {A : Int} (ha : bd8 A a) : bd8 (2 * A) (mirZ a) := by
  intro k hk
  have h0 := ha 0 (by omega); have h1 := ha 1 (by omega); have h2 := ha 2 (by omega); have h3 := ha 3 (by omega); have h4 := ha 4 (by omega); have h5 := ha 5 (by omega); have h6 := ha 6 (by omega); have h7 := ha 7 (by omega)
  rcases (by omega : k = 0 ∨ k = 1 ∨ k = 2 ∨ k = 3 ∨ k = 4 ∨ k = 5 ∨ k = 6 ∨ k = 7) with rfl | rfl | rfl | rfl | rfl | rfl | rfl | rfl <;> simp only [mirZ] <;> omega
theorem re_bd {a : Nat → Int} {A : Int} (ha : bd8 A a) : bd4 (6 * A) (reZ a) := by
  intro k hk
  have h0 := ha 0 (by omega); have h1 := ha 1 (by omega); have h2 := ha 2 (by omega); have h3 := ha 3 (by omega); have h4 := ha 4 (by omega); have h5 := ha 5 (by omega); have h6 := ha 6 (by omega); have h7 := ha 7 (by omega)
  rcases (by omega : k = 0 ∨ k = 1 ∨ k = 2 ∨ k = 3) with rfl | rfl | rfl | rfl <;> simp only [reZ] <;> omega
theorem im_bd {a : Nat → Int} {A : Int} (ha : bd8 A a) : bd4 (6 * A) (imZ a) := by
  intro k hk
  have h0 := ha 0 (by omega); have h1 := ha 1 (by omega); have h2 := ha 2 (by omega); have h3 := ha 3 (by omega); have h4 := ha 4 (by omega); have h5 := ha 5 (by omega); have h6 := ha 6 (by omega); have h7 := ha 7 (by omega)
  rcases (by omega : k = 0 ∨ k = 1 ∨ k = 2 ∨ k = 3) with rfl | rfl | rfl | rfl <;> simp only [imZ] <;> omega
theorem W8 {f : Nat → Int} {A : Int} (h : bd8 A f) (hA : A ≤ 9223372036854775807) : ∀ k, k < 8 → W (f k) = f k := fun k hk => by
  have := h k hk
  exact w64_in (by omega) (by omega)
theorem W4 {f : Nat → Int} {A : Int} (h : bd4 A f) (hA : A ≤ 9223372036854775807) : ∀ k, k < 4 → W (f k) = f k := fun k hk => by
  have := h k hk
  exact w64_in (by omega) (by omega)
theorem conv_congr {a a' b b' : Nat → Int} (ha : ∀ k, k < 8 → a k = a' k) (hb : ∀ k, k < 8 → b k = b' k) : ∀ k, convF a b k = convF a' b' k := by
  intro k
  have a0 := ha 0 (by omega); have a1 := ha 1 (by omega); have a2 := ha 2 (by omega); have a3 := ha 3 (by omega); have a4 := ha 4 (by omega); have a5 := ha 5 (by omega); have a6 := ha 6 (by omega); have a7 := ha 7 (by omega)
  have b0 := hb 0 (by omega); have b1 := hb 1 (by omega); have b2 := hb 2 (by omega); have b3 := hb 3 (by omega); have b4 := hb 4 (by omega); have b5 := hb 5 (by omega); have b6 := hb 6 (by omega); have b7 := hb 7 (by omega)
  unfold convF
  split <;> simp only [a0, a1, a2, a3, a4, a5, a6, a7, b0, b1, b2, b3, b4, b5, b6, b7]
theorem mul_congr {a a' b b' : Nat → Int} (ha : ∀ k, k < 8 → a k = a' k) (hb : ∀ k, k < 8 → b k = b' k) : ∀ k, mulZ a b k = mulZ a' b' k := by
  intro k
  unfold mulZ
  split <;> simp only [conv_congr ha hb]
theorem mir_congr {a a' : Nat → Int} (ha : ∀ k, k < 8 → a k = a' k) : ∀ k, mirZ a k = mirZ a' k := by
  intro k
  have a0 := ha 0 (by omega); have a1 := ha 1 (by omega); have a2 := ha 2 (by omega); have a3 := ha 3 (by omega); have a4 := ha 4 (by omega); have a5 := ha 5 (by omega); have a6 := ha 6 (by omega); have a7 := ha 7 (by omega)
  unfold mirZ
  split <;> simp only [a0, a1, a2, a3, a4, a5, a6, a7]
theorem re_congr {a a' : Nat → Int} (ha : ∀ k, k < 8 → a k = a' k) : ∀ k, reZ a k = reZ a' k := by
  intro k
  have a0 := ha 0 (by omega); have a1 := ha 1 (by omega); have a2 := ha 2 (by omega); have a3 := ha 3 (by omega); have a4 := ha 4 (by omega); have a5 := ha 5 (by omega); have a6 := ha 6 (by omega); have a7 := ha 7 (by omega)
  unfold reZ
  split <;> simp only [a0, a1, a2, a3, a4, a5, a7]
theorem im_congr {a a' : Nat → Int} (ha : ∀ k, k < 8 → a k = a' k) : ∀ k, imZ a k = imZ a' k := by
  intro k
  have a0 := ha 0 (by omega); have a1 := ha 1 (by omega); have a2 := ha 2 (by omega); have a3 := ha 3 (by omega); have a4 := ha 4 (by omega); have a5 := ha 5 (by omega); have a6 := ha 6 (by omega); have a7 := ha 7 (by omega)
  unfold imZ
  split <;> simp only [a1, a2, a3, a4, a5, a6, a7]
theorem w8_at (f : Nat → Int) : ∀ k, k < 8 → w8 f k = f k := fun k hk => by
  rcases (by omega : k = 0 ∨ k = 1 ∨ k = 2 ∨ k = 3 ∨ k = 4 ∨ k = 5 ∨ k = 6 ∨ k = 7) with rfl | rfl | rfl | rfl | rfl | rfl | rfl | rfl <;> rfl
end Go.Proofs.Ytoligfhcogligaa

/- Surds: valid, made, their signs: trees. No conditions. -/
namespace Go.Proofs.Ytoligfhcogligaa
open Go.RowKit
set_option maxRecDepth 100000

def fInR (ir : Int → Int → Int → Bool) : List Value → Option (Value × List Bool)
  | [.int .i64 n, .int .i64 l, .int .i64 h] => some (.bool (ir n l h), [])
  | _ => none
def gmSv (ir : Int → Int → Int → Bool) : Gam := ext (ext g0 63 (specV (fInR ir))) 68 (specV (fInR ir))
theorem treeSvI (ir : Int → Int → Int → Bool) (s : Nat → Int) : execF Try.prog (gmSv ir) noLam 100 Try.f85 ([sdv s].map .v) [] valK
    = bif ir (s (0 : Nat)) (-10000000 : Int) (10000000 : Int) then bif ir (s (1 : Nat)) (-10000000 : Int) (10000000 : Int) then bif ir (s (2 : Nat)) (-10000000 : Int) (10000000 : Int) then Res.out Ex.ret [AV.v (Value.bool (ir (s (3 : Nat)) (-10000000 : Int) (10000000 : Int)))] [] else Res.out Ex.ret [AV.v (Value.bool false)] [] else Res.out Ex.ret [AV.v (Value.bool false)] [] else Res.out Ex.ret [AV.v (Value.bool false)] [] := by kernel_rfl

theorem treeSvS (ir : Int → Int → Int → Bool) (s : Nat → Int) : execF Try.prog (gmSv ir) noLam 100 Try.f100 ([sdv s].map .v) [] valK
    = bif ir (s (0 : Nat)) (-10000000 : Int) (10000000 : Int) then bif ir (s (1 : Nat)) (-10000000 : Int) (10000000 : Int) then bif ir (s (2 : Nat)) (-10000000 : Int) (10000000 : Int) then Res.out Ex.ret [AV.v (Value.bool (ir (s (3 : Nat)) (-10000000 : Int) (10000000 : Int)))] [] else Res.out Ex.ret [AV.v (Value.bool false)] [] else Res.out Ex.ret [AV.v (Value.bool false)] [] else Res.out Ex.ret [AV.v (Value.bool false)] [] := by kernel_rfl

def fSv (sv : (Nat → Int) → Bool) : List Value → Option (Value × List Bool)
  | [.agg ⟨[.int .i64 a, .int .i64 b, .int .i64 c, .int .i64 d]⟩] => some (.bool (sv (v4 a b c d)), [])
  | _ => none
def fSnS (sg : (Nat → Int) → Int) (ob : Int → Bool) : List Value → Option (Value × List Bool)
  | [.agg ⟨[.int .i64 a, .int .i64 b, .int .i64 c, .int .i64 d]⟩] => some (.int .i64 (sg (v4 a b c d)), [ob a, ob b, ob c, ob d])
  | _ => none
def gmMd (sv : (Nat → Int) → Bool) (sg : (Nat → Int) → Int) (ob : Int → Bool) : Gam := ext (ext (ext g0 85 (specV (fSv sv))) 100 (specV (fSv sv))) 51 (specV (fSnS sg ob))
theorem treeMdI (sv : (Nat → Int) → Bool) (sg : (Nat → Int) → Int) (ob : Int → Bool) (s : Nat → Int) : execF Try.prog (gmMd sv sg ob) noLam 100 Try.f60 [.v (sdv s)] [] (packK 0)
    = bif !sv (w4 s) then Res.out Ex.ret [AV.tup [AV.agg [AV.v (Value.int IntKind.i64 (0 : Int)), AV.v (Value.int IntKind.i64 (0 : Int)), AV.v (Value.int IntKind.i64 (0 : Int)), AV.v (Value.int IntKind.i64 (0 : Int))], AV.v (Value.bool false)]] [] else Res.out Ex.ret [AV.tup [AV.agg [AV.v (Value.int IntKind.i64 (s (0 : Nat))), AV.v (Value.int IntKind.i64 (s (1 : Nat))), AV.v (Value.int IntKind.i64 (s (2 : Nat))), AV.v (Value.int IntKind.i64 (s (3 : Nat)))], AV.v (Value.bool true)]] [] := by kernel_rfl

theorem treeMdS (sv : (Nat → Int) → Bool) (sg : (Nat → Int) → Int) (ob : Int → Bool) (s : Nat → Int) : execF Try.prog (gmMd sv sg ob) noLam 100 Try.f62 [.v (sdv s)] [] (packK 0)
    = bif !sv (w4 s) then Res.out Ex.ret [AV.tup [AV.agg [AV.v (Value.int IntKind.i64 (0 : Int)), AV.v (Value.int IntKind.i64 (0 : Int)), AV.v (Value.int IntKind.i64 (0 : Int)), AV.v (Value.int IntKind.i64 (0 : Int))], AV.v (Value.bool false)]] [] else Res.out Ex.ret [AV.tup [AV.agg [AV.v (Value.int IntKind.i64 (s (0 : Nat))), AV.v (Value.int IntKind.i64 (s (1 : Nat))), AV.v (Value.int IntKind.i64 (s (2 : Nat))), AV.v (Value.int IntKind.i64 (s (3 : Nat)))], AV.v (Value.bool true)]] [] := by kernel_rfl

theorem treeSs (sv : (Nat → Int) → Bool) (sg : (Nat → Int) → Int) (ob : Int → Bool) (s : Nat → Int) : execF Try.prog (gmMd sv sg ob) noLam 100 Try.f36 [.v (sdv s)] [] (packK 0)
    = bif !sv (w4 s) then Res.out Ex.ret [AV.tup [AV.v (Value.int IntKind.i64 (0 : Int)), AV.v (Value.bool false)]] [] else needs [ob (s (0 : Nat)), ob (s (1 : Nat)), ob (s (2 : Nat)), ob (s (3 : Nat))] (Res.out Ex.ret [AV.tup [AV.v (Value.int IntKind.i64 (sg (w4 s))), AV.v (Value.bool true)]] []) := by kernel_rfl

end Go.Proofs.Ytoligfhcogligaa

/- Surds: valid, made, their signs: words. No conditions. -/
namespace Go.Proofs.Ytoligfhcogligaa
open Go.RowKit
set_option maxRecDepth 100000

def svV (s : Nat → Int) : Bool := bif inR (s 0) (-10000000) 10000000 then bif inR (s 1) (-10000000) 10000000 then bif inR (s 2) (-10000000) 10000000 then inR (s 3) (-10000000) 10000000 else false else false else false
theorem svV_iff {s : Nat → Int} : svV s = true ↔ bd4 10000000 s := by
  unfold svV bd4
  constructor
  · intro h k hk
    cases h0 : inR (s 0) (-10000000) 10000000 with
    | false => rw [h0] at h; cases h
    | true =>
      cases h1 : inR (s 1) (-10000000) 10000000 with
      | false => rw [h0, h1] at h; cases h
      | true =>
        cases h2 : inR (s 2) (-10000000) 10000000 with
        | false => rw [h0, h1, h2] at h; cases h
        | true =>
          rw [h0, h1, h2] at h
          have h0 := inR_iff.1 h0
          have h1 := inR_iff.1 h1
          have h2 := inR_iff.1 h2
          have h3 := inR_iff.1 (show inR (s 3) (-10000000) 10000000 = true from h)
          rcases (by omega : k = 0 ∨ k = 1 ∨ k = 2 ∨ k = 3) with rfl | rfl | rfl | rfl
          · exact h0
          · exact h1
          · exact h2
          · exact h3
  · intro h
    rw [inR_iff.2 (h 0 (by omega)), inR_iff.2 (h 1 (by omega)), inR_iff.2 (h 2 (by omega)), inR_iff.2 (h 3 (by omega))]
    rfl
def mdV (s : Nat → Int) : Nat → Int := fun k => bif svV s then s k else 0
def ssV (s : Nat → Int) : Int := bif svV s then sgn4 s else 0
def sA (s : Nat → Int) : List AV := [.v (i64 (s 0)), .v (i64 (s 1)), .v (i64 (s 2)), .v (i64 (s 3))]
def FmdO (md : (Nat → Int) → Nat → Int) (sv : (Nat → Int) → Bool) : List SA → Option FR
  | [.v (.agg ⟨[.int .i64 a, .int .i64 b, .int .i64 c, .int .i64 d]⟩)] => some { val := .tup [.agg (sA (md (v4 a b c d))), .v (.bool (sv (v4 a b c d)))] }
  | _ => none
def FssO (ss : (Nat → Int) → Int) (sv : (Nat → Int) → Bool) : List SA → Option FR
  | [.v (.agg ⟨[.int .i64 a, .int .i64 b, .int .i64 c, .int .i64 d]⟩)] => some { val := .tup [.v (i64 (ss (v4 a b c d))), .v (.bool (sv (v4 a b c d)))] }
  | _ => none
theorem fInR_is : fInR inR = f_within := by funext l; unfold fInR f_within; rfl
theorem gmSv_ok : GamOk Try.prog (gmSv inR) := ext_ok (ext_ok g0_ok (fInR_is ▸ ok_within)) (fInR_is ▸ ok_l6In)
theorem sv_good (s : Nat → Int) : Good (bif inR (s 0) (-10000000) 10000000 then bif inR (s 1) (-10000000) 10000000 then bif inR (s 2) (-10000000) 10000000 then rv (.bool (inR (s 3) (-10000000) 10000000)) else rv (.bool false) else rv (.bool false) else rv (.bool false)) (.bool (svV s)) := by
  unfold svV
  cases inR (s 0) (-10000000) 10000000 <;> cases inR (s 1) (-10000000) 10000000 <;> cases inR (s 2) (-10000000) 10000000 <;> exact one rfl
theorem ok_svI : SpecOk Try.prog 85 (specV (fSv svV)) := by
  refine mkV (n := 100) gmSv_ok Try.func85 rfl fun vs v ob hF ho => ?_
  unfold fSv at hF
  split at hF
  · rename_i a b c d
    cases hF
    show Good (execF Try.prog (gmSv inR) noLam 100 Try.f85 ([sdv (v4 a b c d)].map .v) [] valK) _
    rw [treeSvI]
    exact sv_good _
  · cases hF
theorem ok_svS : SpecOk Try.prog 100 (specV (fSv svV)) := by
  refine mkV (n := 100) gmSv_ok Try.func100 rfl fun vs v ob hF ho => ?_
  unfold fSv at hF
  split at hF
  · rename_i a b c d
    cases hF
    show Good (execF Try.prog (gmSv inR) noLam 100 Try.f100 ([sdv (v4 a b c d)].map .v) [] valK) _
    rw [treeSvS]
    exact sv_good _
  · cases hF
theorem fSnS_is : fSnS sgn4 i64B = f_sgn := by funext l; unfold fSnS f_sgn; rfl
theorem gmMd_ok : GamOk Try.prog (gmMd svV sgn4 i64B) := ext_ok (ext_ok (ext_ok g0_ok ok_svI) ok_svS) (fSnS_is ▸ ok_sign)
theorem ok_mdI : SpecOk Try.prog 60 (specR [.val] (FmdO mdV svV)) := by
  refine specR_hr gmMd_ok Try.func60 rfl fun sas fr hF ho => ?_
  unfold FmdO at hF
  split at hF
  · rename_i a b c d
    cases hF
    refine ⟨[], noLam, 100, .nil, noLam' _, ?_⟩
    show GoodQ (execF Try.prog (gmMd svV sgn4 i64B) noLam 100 Try.f60 [.v (sdv (v4 a b c d))] [] (packK 0)) _
    rw [treeMdI]
    generalize hs : v4 a b c d = s
    have ew : w4 s = s := by rw [← hs]; rfl
    rw [ew]
    refine good_cond (fun q => good_out ⟨_, rfl, ?_, .nil⟩) fun q => good_out ⟨_, rfl, ?_, .nil⟩
    · rw [Bool.not_eq_true'] at q
      show _ = [AV.tup [.agg (sA (mdV s)), .v (.bool (svV s))]]
      unfold mdV
      rw [q]
      rfl
    · rw [Bool.not_eq_false'] at q
      show _ = [AV.tup [.agg (sA (mdV s)), .v (.bool (svV s))]]
      unfold mdV
      rw [q]
      rfl
  · cases hF
theorem ok_mdS : SpecOk Try.prog 62 (specR [.val] (FmdO mdV svV)) := by
  refine specR_hr gmMd_ok Try.func62 rfl fun sas fr hF ho => ?_
  unfold FmdO at hF
  split at hF
  · rename_i a b c d
    cases hF
    refine ⟨[], noLam, 100, .nil, noLam' _, ?_⟩
    show GoodQ (execF Try.prog (gmMd svV sgn4 i64B) noLam 100 Try.f62 [.v (sdv (v4 a b c d))] [] (packK 0)) _
    rw [treeMdS]
    generalize hs : v4 a b c d = s
    have ew : w4 s = s := by rw [← hs]; rfl
    rw [ew]
    refine good_cond (fun q => good_out ⟨_, rfl, ?_, .nil⟩) fun q => good_out ⟨_, rfl, ?_, .nil⟩
    · rw [Bool.not_eq_true'] at q
      show _ = [AV.tup [.agg (sA (mdV s)), .v (.bool (svV s))]]
      unfold mdV
      rw [q]
      rfl
    · rw [Bool.not_eq_false'] at q
      show _ = [AV.tup [.agg (sA (mdV s)), .v (.bool (svV s))]]
      unfold mdV
      rw [q]
      rfl
  · cases hF
theorem ok_ss : SpecOk Try.prog 36 (specR [.val] (FssO ssV svV)) := by
  refine specR_hr gmMd_ok Try.func36 rfl fun sas fr hF ho => ?_
  unfold FssO at hF
  split at hF
  · rename_i a b c d
    cases hF
    refine ⟨[], noLam, 100, .nil, noLam' _, ?_⟩
    show GoodQ (execF Try.prog (gmMd svV sgn4 i64B) noLam 100 Try.f36 [.v (sdv (v4 a b c d))] [] (packK 0)) _
    rw [treeSs]
    generalize hs : v4 a b c d = s
    have ew : w4 s = s := by rw [← hs]; rfl
    rw [ew]
    refine good_cond (fun q => good_out ⟨_, rfl, ?_, .nil⟩) fun q => good_needs ?_ (good_out ⟨_, rfl, ?_, .nil⟩)
    · rw [Bool.not_eq_true'] at q
      show _ = [AV.tup [.v (i64 (ssV s)), .v (.bool (svV s))]]
      unfold ssV
      rw [q]
      rfl
    · rw [Bool.not_eq_false'] at q
      have h := svV_iff.1 q
      have h0 := h 0 (by omega)
      have h1 := h 1 (by omega)
      have h2 := h 2 (by omega)
      have h3 := h 3 (by omega)
      simp only [ob_cons, ob_nil, and_true, i64B, inR_iff]
      omega
    · rw [Bool.not_eq_false'] at q
      show _ = [AV.tup [.v (i64 (ssV s)), .v (.bool (svV s))]]
      unfold ssV
      rw [q]
      rfl
  · cases hF

end Go.Proofs.Ytoligfhcogligaa

/- Products of designs: CycTimes of both, DesignTimes of both: trees. Conditions: two lists of wheels. -/
namespace Go.Proofs.Ytoligfhcogligaa
open Go.RowKit
set_option maxRecDepth 100000

def gmCT (ok : (Nat → Int) → Bool) (mul : (Nat → Int) → (Nat → Int) → Nat → Int) : Gam := ext (ext g0 112 (specV (fOkc ok))) 93 (specV (fAdd2 mul))
theorem treeCTI (ok : (Nat → Int) → Bool) (mul : (Nat → Int) → (Nat → Int) → Nat → Int) (a b : Nat → Int) : execF Try.prog (gmCT ok mul) noLam 100 Try.f114 [.v (cyv a), .v (cyv b)] [] (packK 0)
    = bif !ok (w8 a) then Res.out Ex.ret [AV.tup [AV.agg [AV.v (Value.int IntKind.i64 (0 : Int)), AV.v (Value.int IntKind.i64 (0 : Int)), AV.v (Value.int IntKind.i64 (0 : Int)), AV.v (Value.int IntKind.i64 (0 : Int)), AV.v (Value.int IntKind.i64 (0 : Int)), AV.v (Value.int IntKind.i64 (0 : Int)), AV.v (Value.int IntKind.i64 (0 : Int)), AV.v (Value.int IntKind.i64 (0 : Int))], AV.v (Value.bool false)]] [] else bif !ok (w8 b) then Res.out Ex.ret [AV.tup [AV.agg [AV.v (Value.int IntKind.i64 (0 : Int)), AV.v (Value.int IntKind.i64 (0 : Int)), AV.v (Value.int IntKind.i64 (0 : Int)), AV.v (Value.int IntKind.i64 (0 : Int)), AV.v (Value.int IntKind.i64 (0 : Int)), AV.v (Value.int IntKind.i64 (0 : Int)), AV.v (Value.int IntKind.i64 (0 : Int)), AV.v (Value.int IntKind.i64 (0 : Int))], AV.v (Value.bool false)]] [] else bif !ok (w8 (mul (w8 a) (w8 b))) then Res.out Ex.ret [AV.tup [AV.agg [AV.v (Value.int IntKind.i64 (0 : Int)), AV.v (Value.int IntKind.i64 (0 : Int)), AV.v (Value.int IntKind.i64 (0 : Int)), AV.v (Value.int IntKind.i64 (0 : Int)), AV.v (Value.int IntKind.i64 (0 : Int)), AV.v (Value.int IntKind.i64 (0 : Int)), AV.v (Value.int IntKind.i64 (0 : Int)), AV.v (Value.int IntKind.i64 (0 : Int))], AV.v (Value.bool false)]] [] else Res.out Ex.ret [AV.tup [AV.agg [AV.v (Value.int IntKind.i64 (mul (w8 a) (w8 b) (0 : Nat))), AV.v (Value.int IntKind.i64 (mul (w8 a) (w8 b) (1 : Nat))), AV.v (Value.int IntKind.i64 (mul (w8 a) (w8 b) (2 : Nat))), AV.v (Value.int IntKind.i64 (mul (w8 a) (w8 b) (3 : Nat))), AV.v (Value.int IntKind.i64 (mul (w8 a) (w8 b) (4 : Nat))), AV.v (Value.int IntKind.i64 (mul (w8 a) (w8 b) (5 : Nat))), AV.v (Value.int IntKind.i64 (mul (w8 a) (w8 b) (6 : Nat))), AV.v (Value.int IntKind.i64 (mul (w8 a) (w8 b) (7 : Nat)))], AV.v (Value.bool true)]] [] := by kernel_rfl

def gmCS (ok : (Nat → Int) → Bool) (mul : (Nat → Int) → (Nat → Int) → Nat → Int) : Gam := ext (ext g0 115 (specV (fOkc ok))) 54 (specV (fAdd2 mul))
theorem treeCTS (ok : (Nat → Int) → Bool) (mul : (Nat → Int) → (Nat → Int) → Nat → Int) (a b : Nat → Int) : execF Try.prog (gmCS ok mul) noLam 100 Try.f118 [.v (cyv a), .v (cyv b)] [] (packK 0)
    = bif !ok (w8 a) then Res.out Ex.ret [AV.tup [AV.agg [AV.v (Value.int IntKind.i64 (0 : Int)), AV.v (Value.int IntKind.i64 (0 : Int)), AV.v (Value.int IntKind.i64 (0 : Int)), AV.v (Value.int IntKind.i64 (0 : Int)), AV.v (Value.int IntKind.i64 (0 : Int)), AV.v (Value.int IntKind.i64 (0 : Int)), AV.v (Value.int IntKind.i64 (0 : Int)), AV.v (Value.int IntKind.i64 (0 : Int))], AV.v (Value.bool false)]] [] else bif !ok (w8 b) then Res.out Ex.ret [AV.tup [AV.agg [AV.v (Value.int IntKind.i64 (0 : Int)), AV.v (Value.int IntKind.i64 (0 : Int)), AV.v (Value.int IntKind.i64 (0 : Int)), AV.v (Value.int IntKind.i64 (0 : Int)), AV.v (Value.int IntKind.i64 (0 : Int)), AV.v (Value.int IntKind.i64 (0 : Int)), AV.v (Value.int IntKind.i64 (0 : Int)), AV.v (Value.int IntKind.i64 (0 : Int))], AV.v (Value.bool false)]] [] else bif !ok (w8 (mul (w8 a) (w8 b))) then Res.out Ex.ret [AV.tup [AV.agg [AV.v (Value.int IntKind.i64 (0 : Int)), AV.v (Value.int IntKind.i64 (0 : Int)), AV.v (Value.int IntKind.i64 (0 : Int)), AV.v (Value.int IntKind.i64 (0 : Int)), AV.v (Value.int IntKind.i64 (0 : Int)), AV.v (Value.int IntKind.i64 (0 : Int)), AV.v (Value.int IntKind.i64 (0 : Int)), AV.v (Value.int IntKind.i64 (0 : Int))], AV.v (Value.bool false)]] [] else Res.out Ex.ret [AV.tup [AV.agg [AV.v (Value.int IntKind.i64 (mul (w8 a) (w8 b) (0 : Nat))), AV.v (Value.int IntKind.i64 (mul (w8 a) (w8 b) (1 : Nat))), AV.v (Value.int IntKind.i64 (mul (w8 a) (w8 b) (2 : Nat))), AV.v (Value.int IntKind.i64 (mul (w8 a) (w8 b) (3 : Nat))), AV.v (Value.int IntKind.i64 (mul (w8 a) (w8 b) (4 : Nat))), AV.v (Value.int IntKind.i64 (mul (w8 a) (w8 b) (5 : Nat))), AV.v (Value.int IntKind.i64 (mul (w8 a) (w8 b) (6 : Nat))), AV.v (Value.int IntKind.i64 (mul (w8 a) (w8 b) (7 : Nat)))], AV.v (Value.bool true)]] [] := by kernel_rfl

/-- The product of two points, if they and it are valid. -/
def FctO (pr : (Nat → Int) → (Nat → Int) → Nat → Int) (ok : (Nat → Int) → (Nat → Int) → Bool) : List SA → Option FR
  | [.v (.agg ⟨[.int .i64 a0, .int .i64 a1, .int .i64 a2, .int .i64 a3, .int .i64 a4, .int .i64 a5, .int .i64 a6, .int .i64 a7]⟩), .v (.agg ⟨[.int .i64 b0, .int .i64 b1, .int .i64 b2, .int .i64 b3, .int .i64 b4, .int .i64 b5, .int .i64 b6, .int .i64 b7]⟩)] => some { val := .tup [.agg (cyC (pr (v8 a0 a1 a2 a3 a4 a5 a6 a7) (v8 b0 b1 b2 b3 b4 b5 b6 b7))), .v (.bool (ok (v8 a0 a1 a2 a3 a4 a5 a6 a7) (v8 b0 b1 b2 b3 b4 b5 b6 b7)))] }
  | _ => none
def gmT1 (pr : (Nat → Int) → (Nat → Int) → Nat → Int) (ok : (Nat → Int) → (Nat → Int) → Bool) : Gam := ext g0 114 (specR [.val, .val] (FctO pr ok))
abbrev lvT2 : Ex → List Nat := lv3 [1, 6, 8, 22, 23, 24, 28, 29, 30] [1, 6, 22, 23, 24] [4, 5]
abbrev stT2 (m n k i j : Nat) : List AV := [.sl 1 9 0 0 n none, .own 2 k, .ptr 3 0 0 0, .sl 0 9 0 0 m none, .v (i64 m), .v (i64 i), .sl 1 9 0 0 n none, .v (i64 n), .v (i64 j)]
abbrev hpT0 (m : Nat) (f : Nat → Nat → Int) (n : Nat) (g : Nat → Nat → Int) (k : Nat) (h : Nat → Nat → Int) : List AB := [.row false m 9 (row9 f) 111, .row false n 9 (row9 g) 111, .row true k 9 (row9 h) 111]
abbrev hpT2 (m : Nat) (f : Nat → Nat → Int) (n : Nat) (g : Nat → Nat → Int) (k : Nat) (h : Nat → Nat → Int) (x : Nat → Int) : List AB := [.row false m 9 (row9 f) 111, .row false n 9 (row9 g) 111, .row true k 9 (row9 h) 111, .cells [.v (i64 (x 0)), .v (i64 (x 1)), .v (i64 (x 2)), .v (i64 (x 3)), .v (i64 (x 4)), .v (i64 (x 5)), .v (i64 (x 6)), .v (i64 (x 7)), .v (i64 (x 8))] 111]
abbrev hpTr (m : Nat) (f : Nat → Nat → Int) (n : Nat) (g : Nat → Nat → Int) : List AB := [.row false m 9 (row9 f) 111, .row false n 9 (row9 g) 111]
abbrev lvT0 : Ex → List Nat := lv3 [1, 6, 22, 23, 24] [6] [4, 5]
abbrev stT0 (m n k i : Nat) : List AV := [.sl 1 9 0 0 n none, .own 2 k, .sl 0 9 0 0 m none, .v (i64 m), .v (i64 i)]
noncomputable abbrev lamT2 (m : Nat) (f : Nat → Nat → Int) (n : Nat) (g : Nat → Nat → Int) (k : Nat) (h : Nat → Nat → Int) (x : Nat → Int) (i : Nat) (c : Bool) (k2 : Nat) (h2 : Nat → Nat → Int) : Nat → Option Sum := oneL 2 (atS 60 (lvT2 .normal) 2 (stT2 m n k i 0) (hpT2 m f n g k h x) (fun K => cond c (K .normal (mkT 0 60 ([1, 6, 22, 23, 24].zip (stT0 m n k2 i))) (hpT0 m f n g k2 h2)) (K .ret (mkT 0 60 [(4, .v (.slice none 0 0)), (5, .v (.bool false))]) (hpTr m f n g))))
noncomputable abbrev lamT0 (m : Nat) (f : Nat → Nat → Int) (n : Nat) (g : Nat → Nat → Int) (c : Bool) (k : Nat) (h : Nat → Nat → Int) : Nat → Option Sum := oneL 0 (atS 60 (lvT0 .normal) 2 (stT0 m n 0 0) (hpT0 m f n g 0 (wfun [])) (fun K => cond c (K .normal (mkT 0 60 [(6, .own 2 k)]) (hpT0 m f n g k h)) (K .ret (mkT 0 60 [(4, .v (.slice none 0 0)), (5, .v (.bool false))]) (hpTr m f n g))))
def gmS1 (pr : (Nat → Int) → (Nat → Int) → Nat → Int) (ok : (Nat → Int) → (Nat → Int) → Bool) : Gam := ext g0 118 (specR [.val, .val] (FctO pr ok))
abbrev lvS2 : Ex → List Nat := lv3 [0, 1, 6, 7, 8] [0, 1, 6, 7] [4, 5]
abbrev stS2 (m n k i j : Nat) : List AV := [.sl 0 9 0 0 m none, .sl 1 9 0 0 n none, .own 2 k, .v (i64 i), .v (i64 j)]
abbrev lvS0 : Ex → List Nat := lv3 [0, 1, 6, 7] [6] [4, 5]
abbrev stS0 (m n k i : Nat) : List AV := [.sl 0 9 0 0 m none, .sl 1 9 0 0 n none, .own 2 k, .v (i64 i)]
abbrev hpSr (m : Nat) (f : Nat → Nat → Int) (n : Nat) (g : Nat → Nat → Int) : List AB := hpT0 m f n g 0 (wfun [])
noncomputable abbrev lamS2 (m : Nat) (f : Nat → Nat → Int) (n : Nat) (g : Nat → Nat → Int) (k : Nat) (h : Nat → Nat → Int) (i : Nat) (c : Bool) (k2 : Nat) (h2 : Nat → Nat → Int) : Nat → Option Sum := oneL 2 (atS 70 (lvS2 .normal) 2 (stS2 m n k i 0) (hpT0 m f n g k h) (fun K => cond c (K .normal (mkT 0 70 ([0, 1, 6, 7].zip (stS0 m n k2 i))) (hpT0 m f n g k2 h2)) (K .ret (mkT 0 70 [(4, .own 2 0), (5, .v (.bool false))]) (hpSr m f n g))))
noncomputable abbrev lamS0 (m : Nat) (f : Nat → Nat → Int) (n : Nat) (g : Nat → Nat → Int) (c : Bool) (k : Nat) (h : Nat → Nat → Int) : Nat → Option Sum := oneL 0 (atS 70 (lvS0 .normal) 2 (stS0 m n 0 0) (hpT0 m f n g 0 (wfun [])) (fun K => cond c (K .normal (mkT 0 70 [(6, .own 2 k)]) (hpT0 m f n g k h)) (K .ret (mkT 0 70 [(4, .own 2 0), (5, .v (.bool false))]) (hpSr m f n g))))
def gmS2 (okd : List Wh → Bool) (ti : List Wh → List Wh) (okt : List Wh → Bool) : Gam := ext (ext g0 119 (specR md_ws (FdvO okd))) 138 (specR md_ws (FtidyO ti okt))
end Go.Proofs.Ytoligfhcogligaa

/- Products of designs: CycTimes of both, DesignTimes of both. Conditions: two lists of wheels. -/
namespace Go.Proofs.Ytoligfhcogligaa
open Go.RowKit
set_option maxRecDepth 100000

def okM (a b : Nat → Int) : Bool := (cyOk (cyOf a) && cyOk (cyOf b)) && cyOk (cyOf (mulF a b))
def prF (a b : Nat → Int) : Nat → Int := bif okM a b then mulF a b else fun _ => 0
theorem gmCT_ok : GamOk Try.prog (gmCT (fun v => cyOk (cyOf v)) mulF) := by
  have e3 : fAdd2 mulF = f_times := by funext l; rfl
  unfold gmCT
  rw [fOkc_eq, e3]
  exact ext_ok (ext_ok g0_ok ok_cvI) ok_times
theorem gmCS_ok : GamOk Try.prog (gmCS (fun v => cyOk (cyOf v)) mulF) := by
  have e3 : fAdd2 mulF = f_l2Times := by funext l; rfl
  unfold gmCS
  rw [fOkc_eq, e3]
  exact ext_ok (ext_ok g0_ok ok_cv) ok_l2Times
theorem ok_ctI : SpecOk Try.prog 114 (specR [.val, .val] (FctO prF okM)) := by
  refine specR_hr gmCT_ok Try.func114 rfl fun sas fr hF ho => ?_
  unfold FctO at hF
  split at hF
  · rename_i a0 a1 a2 a3 a4 a5 a6 a7 b0 b1 b2 b3 b4 b5 b6 b7
    cases hF
    refine ⟨[], noLam, 100, .nil, noLam' _, ?_⟩
    show GoodQ (execF Try.prog (gmCT (fun v => cyOk (cyOf v)) mulF) noLam 100 Try.f114 [.v (cyv (v8 a0 a1 a2 a3 a4 a5 a6 a7)), .v (cyv (v8 b0 b1 b2 b3 b4 b5 b6 b7))] [] (packK 0)) _
    rw [treeCTI]
    generalize hA : v8 a0 a1 a2 a3 a4 a5 a6 a7 = a
    generalize hB : v8 b0 b1 b2 b3 b4 b5 b6 b7 = b
    have fin : ∀ (v : Nat → Int) (o : Bool), prF a b = v → okM a b = o → GoodQ (.out .ret [.tup [.agg (cyC v), .v (.bool o)]] []) (GivR (abP [.val, .val] [.v (.agg ⟨[.int .i64 a0, .int .i64 a1, .int .i64 a2, .int .i64 a3, .int .i64 a4, .int .i64 a5, .int .i64 a6, .int .i64 a7]⟩), .v (.agg ⟨[.int .i64 b0, .int .i64 b1, .int .i64 b2, .int .i64 b3, .int .i64 b4, .int .i64 b5, .int .i64 b6, .int .i64 b7]⟩)] []) { val := .tup [.agg (cyC (prF a b)), .v (.bool (okM a b))] }) := by
      rintro v o rfl rfl
      exact good_out ⟨_, rfl, rfl, .nil⟩
    have bad : okM a b = false → GoodQ (.out .ret [.tup [.agg (cyC fun _ => 0), .v (.bool false)]] []) _ := fun e => fin _ _ (by rw [prF, e]; rfl) e
    refine good_cond (fun q => ?_) fun q => ?_
    · have q' : (!cyOk (cyOf a)) = true := q
      exact bad (by rw [okM, show cyOk (cyOf a) = false by simpa using q']; rfl)
    · have q' : (!cyOk (cyOf a)) = false := q
      have qa : cyOk (cyOf a) = true := by simpa using q'
      refine good_cond (fun q => ?_) fun q => ?_
      · have q' : (!cyOk (cyOf b)) = true := q
        exact bad (by rw [okM, qa, show cyOk (cyOf b) = false by simpa using q']; rfl)
      · have q' : (!cyOk (cyOf b)) = false := q
        have qb : cyOk (cyOf b) = true := by simpa using q'
        refine good_cond (fun q => ?_) fun q => ?_
        · have q' : (!cyOk (cyOf (mulF a b))) = true := q
          exact bad (by rw [okM, qa, qb, show cyOk (cyOf (mulF a b)) = false by simpa using q']; rfl)
        · have q' : (!cyOk (cyOf (mulF a b))) = false := q
          have qm : cyOk (cyOf (mulF a b)) = true := by simpa using q'
          have e : okM a b = true := by rw [okM, qa, qb, qm]; rfl
          exact fin (mulF a b) true (by rw [prF, e]; rfl) e
  · cases hF

theorem ok_ctS : SpecOk Try.prog 118 (specR [.val, .val] (FctO prF okM)) := by
  refine specR_hr gmCS_ok Try.func118 rfl fun sas fr hF ho => ?_
  unfold FctO at hF
  split at hF
  · rename_i a0 a1 a2 a3 a4 a5 a6 a7 b0 b1 b2 b3 b4 b5 b6 b7
    cases hF
    refine ⟨[], noLam, 100, .nil, noLam' _, ?_⟩
    show GoodQ (execF Try.prog (gmCS (fun v => cyOk (cyOf v)) mulF) noLam 100 Try.f118 [.v (cyv (v8 a0 a1 a2 a3 a4 a5 a6 a7)), .v (cyv (v8 b0 b1 b2 b3 b4 b5 b6 b7))] [] (packK 0)) _
    rw [treeCTS]
    generalize hA : v8 a0 a1 a2 a3 a4 a5 a6 a7 = a
    generalize hB : v8 b0 b1 b2 b3 b4 b5 b6 b7 = b
    have fin : ∀ (v : Nat → Int) (o : Bool), prF a b = v → okM a b = o → GoodQ (.out .ret [.tup [.agg (cyC v), .v (.bool o)]] []) (GivR (abP [.val, .val] [.v (.agg ⟨[.int .i64 a0, .int .i64 a1, .int .i64 a2, .int .i64 a3, .int .i64 a4, .int .i64 a5, .int .i64 a6, .int .i64 a7]⟩), .v (.agg ⟨[.int .i64 b0, .int .i64 b1, .int .i64 b2, .int .i64 b3, .int .i64 b4, .int .i64 b5, .int .i64 b6, .int .i64 b7]⟩)] []) { val := .tup [.agg (cyC (prF a b)), .v (.bool (okM a b))] }) := by
      rintro v o rfl rfl
      exact good_out ⟨_, rfl, rfl, .nil⟩
    have bad : okM a b = false → GoodQ (.out .ret [.tup [.agg (cyC fun _ => 0), .v (.bool false)]] []) _ := fun e => fin _ _ (by rw [prF, e]; rfl) e
    refine good_cond (fun q => ?_) fun q => ?_
    · have q' : (!cyOk (cyOf a)) = true := q
      exact bad (by rw [okM, show cyOk (cyOf a) = false by simpa using q']; rfl)
    · have q' : (!cyOk (cyOf a)) = false := q
      have qa : cyOk (cyOf a) = true := by simpa using q'
      refine good_cond (fun q => ?_) fun q => ?_
      · have q' : (!cyOk (cyOf b)) = true := q
        exact bad (by rw [okM, qa, show cyOk (cyOf b) = false by simpa using q']; rfl)
      · have q' : (!cyOk (cyOf b)) = false := q
        have qb : cyOk (cyOf b) = true := by simpa using q'
        refine good_cond (fun q => ?_) fun q => ?_
        · have q' : (!cyOk (cyOf (mulF a b))) = true := q
          exact bad (by rw [okM, qa, qb, show cyOk (cyOf (mulF a b)) = false by simpa using q']; rfl)
        · have q' : (!cyOk (cyOf (mulF a b))) = false := q
          have qm : cyOk (cyOf (mulF a b)) = true := by simpa using q'
          have e : okM a b = true := by rw [okM, qa, qb, qm]; rfl
          exact fin (mulF a b) true (by rw [prF, e]; rfl) e
  · cases hF

/-- The product of two wheels. -/
def prodW (x y : Wh) : Wh := ⟨IntKind.wrap IntKind.i64 (x.s + y.s), cyOf (prF x.r.f y.r.f)⟩
def okW2 (x y : Wh) : Bool := okM x.r.f y.r.f
def prodL (A B : List Wh) : List Wh := A.flatMap fun x => B.map (prodW x)
def okAll (A B : List Wh) : Bool := A.all fun x => B.all (okW2 x)
theorem prodL_snoc (A B : List Wh) (x : Wh) : prodL (A ++ [x]) B = prodL A B ++ B.map (prodW x) := by simp [prodL]
theorem okAll_snoc (A B : List Wh) (x : Wh) : okAll (A ++ [x]) B = (okAll A B && B.all (okW2 x)) := by simp [okAll]
theorem prodL_length (A B : List Wh) : (prodL A B).length = A.length * B.length := by
  induction A with
  | nil => simp [prodL]
  | cons x A ih =>
    have : prodL (x :: A) B = B.map (prodW x) ++ prodL A B := rfl
    rw [this, List.length_append, List.length_map, ih, List.length_cons, Nat.add_mul, Nat.one_mul, Nat.add_comm]
theorem prodL_in (A B : List Wh) : inW (prodL A B) := by
  intro w hw
  simp only [prodL, List.mem_flatMap, List.mem_map] at hw
  obtain ⟨x, _, y, _, rfl⟩ := hw
  refine cyOf_in fun k _ => ?_
  unfold prF
  cases okM x.r.f y.r.f with
  | true => exact w64_range _
  | false => show (-9223372036854775808 : Int) ≤ 0 ∧ (0 : Int) ≤ 9223372036854775807; omega
theorem okAll_no {A B : List Wh} {i : Nat} {f : Nat → Nat → Int} {m : Nat} (hA : A = listW f m) (hi : i < m) (h : B.all (okW2 (whOf (f i))) = false) : okAll A B = false := by
  subst hA
  cases e : okAll (listW f m) B with
  | false => rfl
  | true =>
    have := List.all_eq_true.1 e (whOf (f i)) (List.mem_of_getElem? (listW_get f hi))
    rw [h] at this
    cases this
theorem all_no {g : Nat → Nat → Int} {n j : Nat} {p : Wh → Bool} (hj : j < n) (h : p (whOf (g j)) = false) : (listW g n).all p = false := by
  cases e : (listW g n).all p with
  | false => rfl
  | true =>
    have := List.all_eq_true.1 e (whOf (g j)) (List.mem_of_getElem? (listW_get g hj))
    rw [h] at this
    cases this
theorem gmT1_ok : GamOk Try.prog (gmT1 prF okM) := ext_ok g0_ok ok_ctI
theorem gmS1_ok : GamOk Try.prog (gmS1 prF okM) := ext_ok g0_ok ok_ctS

end Go.Proofs.Ytoligfhcogligaa

/- DesignAt, the reference's: its word. Conditions: a list of wheels. -/
namespace Go.Proofs.Ytoligfhcogligaa
open Go.RowKit
set_option maxRecDepth 100000

theorem gmDA_ok : GamOk Try.prog (gmDA atF doneC (fun v => cyOk (cyOf v))) := by
  unfold gmDA
  rw [FdoO_eq]
  exact ext_ok (ext_ok (ext_ok (ext_ok g0_ok ok_dv) ok_l1Is) ok_l5At) ok_l2Done
theorem zero_row9 (f : Nat → Nat → Int) : (fun q => row9 f (0 + q)) = row9 f := by
  funext q
  rw [Nat.zero_add]
def daOk (f : Nat → Nat → Int) (n : Int) (m : Nat) : Bool := okD (listW f m) && inR n 0 23 && cyOk (cyOf (atF f n m))
def daV (f : Nat → Nat → Int) (n : Int) (m : Nat) : Nat → Int := bif daOk f n m then atF f n m else fun _ => 0
def F_DA : List SA → Option FR
  | [.row m g, .v (.int .i64 n)] => some { val := .tup [.agg (cyC (daV (itW g) n m)), .v (.bool (daOk (itW g) n m))], obl := [allW m g, decide (m ≤ 2 ^ 38)] }
  | _ => none
theorem ok_DA : SpecOk Try.prog 120 (specR md_wv F_DA) := by
  refine specR_hr gmDA_ok Try.func120 rfl fun sas fr hF ho => ?_
  unfold F_DA at hF
  split at hF
  · rename_i m g n
    cases hF
    simp only [ob_cons] at ho
    obtain ⟨h1, h2, _⟩ := ho
    have hm := of_decide_eq_true h2
    refine ⟨[.row false m 9 (row9 (itW g)) 111], noLam, 100, .cons (ABeq.row fun j hj => allW_get h1 j hj) .nil, noLam' _, ?_⟩
    show GoodQ (execF Try.prog (gmDA atF doneC (fun v => cyOk (cyOf v))) noLam 100 Try.f120 [.sl 0 9 0 0 m none, .v (i64 n)] [.row false m 9 (row9 (itW g)) 111] (packK 1)) _
    rw [treeDA, zero_row9, listW_itW, atF_row]
    have fin : ∀ (c : Bool) (b : Nat → Int), daOk (itW g) n m = c → cyC b = cyC (bif c then atF (itW g) n m else fun _ => 0) → GoodQ (.out .ret [.tup [.agg (cyC b), .v (.bool c)]] [.row false m 9 (row9 (itW g)) 111])
        (GivR (abP md_wv [.row m g, .v (.int .i64 n)] []) { val := .tup [.agg (cyC (daV (itW g) n m)), .v (.bool (daOk (itW g) n m))], obl := [allW m g, decide (m ≤ 2 ^ 38)] }) := by
      rintro c b rfl hb
      refine good_out ⟨_, rfl, ?_, .cons (ABeq.row fun j hj => (allW_get h1 j hj).symm) .nil⟩
      rw [hb]
      rfl
    have ob : ∀ k : Nat, m ≤ k → obls [Nat.ble (0 + m) m, allW m (row9 (itW g)), decide (m ≤ k)] = true := fun k hk => by
      simp only [ob_cons, ob_nil, and_true, decide_eq_true_eq, Nat.ble_eq, allW_row, true_and, Nat.zero_add, Nat.le_refl]
      exact hk
    refine good_needs (ob _ (by omega)) (good_cond (fun q => ?_) fun q => ?_)
    · have q : okD (listW (itW g) m) = false := by simpa using q
      exact fin false (fun _ => 0) (by unfold daOk; rw [q]; rfl) rfl
    · have q : okD (listW (itW g) m) = true := by simpa using q
      refine good_cond (fun q2 => ?_) fun q2 => ?_
      · have q2 : inR n 0 23 = false := by simpa using q2
        exact fin false (fun _ => 0) (by unfold daOk; rw [q, q2]; rfl) rfl
      · have q2 : inR n 0 23 = true := by simpa using q2
        refine good_needs (ob _ (by omega)) ?_
        refine fin (cyOk (cyOf (atF (itW g) n m))) (doneC (w8 (atF (itW g) n m))) (by unfold daOk; rw [q, q2]; rfl) ?_
        have e : cyOf (w8 (atF (itW g) n m)) = cyOf (atF (itW g) n m) := rfl
        unfold doneC
        rw [e]
        cases cyOk (cyOf (atF (itW g) n m)) <;> rfl
  · cases hF

end Go.Proofs.Ytoligfhcogligaa

/- impl.at and the program's DesignAt: the reference's word. Conditions: a list of wheels. -/
namespace Go.Proofs.Ytoligfhcogligaa
open Go.RowKit
set_option maxRecDepth 100000

abbrev lvAI : Ex → List Nat := lv3 [1, 4, 5, 8, 9, 10] [4, 5] [4]
abbrev stAI (m : Nat) (n : Int) (i : Nat) : List AV := [.v (i64 n), .ptr 1 0 0 0, .ptr 2 0 0 0, .sl 0 9 0 0 m none, .v (i64 m), .v (i64 i)]
noncomputable abbrev lamAI (m : Nat) (f : Nat → Nat → Int) (t : TypeId) (n : Int) (b : Nat → Int) : Nat → Option Sum := oneL 0 (atS 25 (lvAI .normal) 1 (stAI m n 0) (hpAt m f t fun _ => 0) (fun K => K .normal (mkT 0 25 [(4, .ptr 1 0 0 0), (5, .ptr 2 0 0 0)]) (hpAt m f t b)))
def FatI (at_ : (Nat → Nat → Int) → Int → Nat → Nat → Int) (okd : List Wh → Bool) : List SA → Option FR
  | [.row m g, .v (.int .i64 n)] => some { val := .agg (cyC (at_ (itW g) n m)), obl := [allW m g, decide (m ≤ 2 ^ 38), okd (listW (itW g) m)] }
  | _ => none
def FDAo (dv : (Nat → Nat → Int) → Int → Nat → Nat → Int) (dk : (Nat → Nat → Int) → Int → Nat → Bool) : List SA → Option FR
  | [.row m g, .v (.int .i64 n)] => some { val := .tup [.agg (cyC (dv (itW g) n m)), .v (.bool (dk (itW g) n m))], obl := [allW m g, decide (m ≤ 2 ^ 38)] }
  | _ => none
theorem atF_next (f : Nat → Nat → Int) (n : Int) (i : Nat) : atF f n (i + 1) = plusF (atF f n i) (tuF (v8 (f i 1) (f i 2) (f i 3) (f i 4) (f i 5) (f i 6) (f i 7) (f i 8)) (IntKind.wrap IntKind.i64 (n * f i 0))) := by
  funext k
  show W (atF f n i k + 1 * _) = W (atF f n i k + _)
  rw [Int.one_mul]
theorem FDAo_eq : FDAo daV daOk = F_DA := by
  funext l
  rfl
theorem daOk_row (f : Nat → Nat → Int) (n : Int) (m : Nat) : daOk (itW (row9 f)) n m = daOk f n m := by unfold daOk; rw [listW_itW, atF_row]
theorem daV_row (f : Nat → Nat → Int) (n : Int) (m : Nat) : daV (itW (row9 f)) n m = daV f n m := by unfold daV; rw [daOk_row, atF_row]
theorem daV_in (f : Nat → Nat → Int) (n : Int) (m : Nat) : inB (w8 (daV f n m)) = true := by
  refine smallF_iff.2 fun k hk => ?_
  have e : w8 (daV f n m) k = daV f n m k := by
    rcases (by omega : k = 0 ∨ k = 1 ∨ k = 2 ∨ k = 3 ∨ k = 4 ∨ k = 5 ∨ k = 6 ∨ k = 7) with rfl | rfl | rfl | rfl | rfl | rfl | rfl | rfl <;> rfl
  rw [e]
  unfold daV
  cases h : daOk f n m with
  | false => show (-9223372036854775808 : Int) ≤ 0 ∧ (0 : Int) ≤ 9223372036854775807; omega
  | true =>
    unfold daOk at h
    rw [Bool.and_eq_true] at h
    have := smallF_iff.1 h.2 k hk
    rw [cyOf_f8 _ k hk] at this
    show -9223372036854775808 ≤ atF f n m k ∧ atF f n m k ≤ 9223372036854775807
    omega

end Go.Proofs.Ytoligfhcogligaa

/- The program's CycMirror. Conditions: a point. -/
namespace Go.Proofs.Ytoligfhcogligaa
open Go.RowKit
set_option maxRecDepth 100000

def gmO2 (ok : (Nat → Int) → Bool) (mi : (Nat → Int) → Nat → Int) : Gam := ext (ext g0 112 (specV (fOkc ok))) 92 (specV (fMirO mi))
theorem treeO2 (ok : (Nat → Int) → Bool) (mi : (Nat → Int) → Nat → Int) (a : Nat → Int) : execF Try.prog (gmO2 ok mi) noLam 100 Try.f113 [.v (cyv a)] [] (packK 0)
    = bif !ok (w8 a) then Res.out Ex.ret [AV.tup [AV.agg [AV.v (Value.int IntKind.i64 (0 : Int)), AV.v (Value.int IntKind.i64 (0 : Int)), AV.v (Value.int IntKind.i64 (0 : Int)), AV.v (Value.int IntKind.i64 (0 : Int)), AV.v (Value.int IntKind.i64 (0 : Int)), AV.v (Value.int IntKind.i64 (0 : Int)), AV.v (Value.int IntKind.i64 (0 : Int)), AV.v (Value.int IntKind.i64 (0 : Int))], AV.v (Value.bool false)]] [] else bif !ok (w8 (mi (w8 a))) then Res.out Ex.ret [AV.tup [AV.agg [AV.v (Value.int IntKind.i64 (0 : Int)), AV.v (Value.int IntKind.i64 (0 : Int)), AV.v (Value.int IntKind.i64 (0 : Int)), AV.v (Value.int IntKind.i64 (0 : Int)), AV.v (Value.int IntKind.i64 (0 : Int)), AV.v (Value.int IntKind.i64 (0 : Int)), AV.v (Value.int IntKind.i64 (0 : Int)), AV.v (Value.int IntKind.i64 (0 : Int))], AV.v (Value.bool false)]] [] else Res.out Ex.ret [AV.tup [AV.agg [AV.v (Value.int IntKind.i64 (mi (w8 a) (0 : Nat))), AV.v (Value.int IntKind.i64 (mi (w8 a) (1 : Nat))), AV.v (Value.int IntKind.i64 (mi (w8 a) (2 : Nat))), AV.v (Value.int IntKind.i64 (mi (w8 a) (3 : Nat))), AV.v (Value.int IntKind.i64 (mi (w8 a) (4 : Nat))), AV.v (Value.int IntKind.i64 (mi (w8 a) (5 : Nat))), AV.v (Value.int IntKind.i64 (mi (w8 a) (6 : Nat))), AV.v (Value.int IntKind.i64 (mi (w8 a) (7 : Nat)))], AV.v (Value.bool true)]] [] := by kernel_rfl

theorem gmO2_ok : GamOk Try.prog (gmO2 (fun v => cyOk (cyOf v)) mirF) := by
  unfold gmO2
  rw [fOkc_eq, fMirO_eq]
  exact ext_ok (ext_ok g0_ok ok_cvI) ok_mirror
/-- A point: a point, and whether it is one. -/
def FcqO (v : (Nat → Int) → Nat → Int) (ok : (Nat → Int) → Bool) : List SA → Option FR
  | [.v (.agg ⟨[.int .i64 a0, .int .i64 a1, .int .i64 a2, .int .i64 a3, .int .i64 a4, .int .i64 a5, .int .i64 a6, .int .i64 a7]⟩)] => some { val := .tup [.agg (cyC (v (v8 a0 a1 a2 a3 a4 a5 a6 a7))), .v (.bool (ok (v8 a0 a1 a2 a3 a4 a5 a6 a7)))] }
  | _ => none
def okMi (a : Nat → Int) : Bool := cyOk (cyOf a) && cyOk (cyOf (mirF a))
def vMi (a : Nat → Int) : Nat → Int := bif okMi a then mirF a else fun _ => 0
theorem ok_cMi : SpecOk Try.prog 113 (specR [.val] (FcqO vMi okMi)) := by
  refine specR_hr gmO2_ok Try.func113 rfl fun sas fr hF ho => ?_
  unfold FcqO at hF
  split at hF
  · rename_i a0 a1 a2 a3 a4 a5 a6 a7
    cases hF
    refine ⟨[], noLam, 100, .nil, noLam' _, ?_⟩
    show GoodQ (execF Try.prog (gmO2 (fun v => cyOk (cyOf v)) mirF) noLam 100 Try.f113 [.v (cyv (v8 a0 a1 a2 a3 a4 a5 a6 a7))] [] (packK 0)) _
    rw [treeO2]
    generalize hA : v8 a0 a1 a2 a3 a4 a5 a6 a7 = a
    have hw : w8 a = a := by subst hA; rfl
    rw [hw]
    have fin : ∀ (v : Nat → Int) (o : Bool), vMi a = v → okMi a = o → GoodQ (.out .ret [.tup [.agg (cyC v), .v (.bool o)]] []) (GivR (abP [.val] [.v (.agg ⟨[.int .i64 a0, .int .i64 a1, .int .i64 a2, .int .i64 a3, .int .i64 a4, .int .i64 a5, .int .i64 a6, .int .i64 a7]⟩)] []) { val := .tup [.agg (cyC (vMi a)), .v (.bool (okMi a))] }) := by
      rintro v o rfl rfl
      exact good_out ⟨_, rfl, rfl, .nil⟩
    have bad : okMi a = false → GoodQ (.out .ret [.tup [.agg (cyC fun _ => 0), .v (.bool false)]] []) _ := fun e => fin _ _ (by rw [vMi, e]; rfl) e
    refine good_cond (fun q => ?_) fun q => ?_
    · have q' : (!cyOk (cyOf a)) = true := q
      exact bad (by rw [okMi, show cyOk (cyOf a) = false by simpa using q']; rfl)
    · have q' : (!cyOk (cyOf a)) = false := q
      have qa : cyOk (cyOf a) = true := by simpa using q'
      refine good_cond (fun q => ?_) fun q => ?_
      · have q' : (!cyOk (cyOf (mirF a))) = true := q
        exact bad (by rw [okMi, qa, show cyOk (cyOf (mirF a)) = false by simpa using q']; rfl)
      · have q' : (!cyOk (cyOf (mirF a))) = false := q
        have qm : cyOk (cyOf (mirF a)) = true := by simpa using q'
        have e : okMi a = true := by rw [okMi, qa, qm]; rfl
        exact fin (mirF a) true (by rw [vMi, e]; rfl) e
  · cases hF

end Go.Proofs.Ytoligfhcogligaa

/- A word for a callee that hands back an own list of points or none: read as one. Conditions: those of its two cases. -/
namespace Go.Proofs.Ytoligfhcogligaa
open Go.RowKit
set_option maxRecDepth 100000

/-- The points, or none. -/
structure PtR where
  b : Bool
  T : List Cy
  obl : List Bool
abbrev newG (T : List Cy) : List AB := [.row true T.length 8 (row8 (cfun T)) 40]
abbrev valG (T : List Cy) : AV := .tup [.own 0 T.length, .v (.bool true)]
def specG (mds : List Md) (U : List SA → Option PtR) : Spec := fun avs H base =>
  match saAll H mds avs with
  | some xs => match U (xs.map (·.sa)) with
    | some u => some { val := .tup [.sl base 8 0 0 u.T.length none, .v (.bool u.b)], rd := (ixC mds xs).filterMap id, put := [], new := [.row false u.T.length 8 (row8 (cfun u.T)) 40], obl := xs.flatMap (·.ob) ++ u.obl }
    | none => none
  | none => none

theorem specG_ok {P : Program} {f : FuncId} {mds : List Md} {FY FN : List SA → Option FR} {U : List SA → Option PtR} (hw : hasWr mds = false) (hY : SpecOk P f (specR mds FY)) (hN : SpecOk P f (specR mds FN))
    (h : ∀ sas u, U sas = some u → obls u.obl = true → Nat.beq (abP mds sas []).length (abC mds sas).length = true ∧ ((u.b = true ∧ ∃ ob, FY sas = some { val := valG u.T, new := newG u.T, obl := ob } ∧ obls ob = true) ∨ (u.b = false ∧ u.T = [] ∧ ∃ ob, FN sas = some { val := valN, obl := ob } ∧ obls ob = true))) : SpecOk P f (specG mds U) := by
  refine ⟨hY.1, fun avs H base δ ν vals w hS ho hv hr hlt hfree hsep => ?_⟩
  unfold specG at hS
  split at hS
  case h_2 => cases hS
  rename_i xs hxs
  split at hS
  case h_2 => cases hS
  rename_i u hu
  simp only [Option.some.injEq] at hS
  subst hS
  have ho' : obls (xs.flatMap (·.ob)) = true ∧ obls u.obl = true := by simpa [obls, List.all_append] using ho
  obtain ⟨hl, hc⟩ := h _ _ hu ho'.2
  have hput : putC (ixC mds xs) (abP mds (xs.map (·.sa)) []) = [] := putC_nil _ _ fun b hb => abP_rd hw b hb
  rcases hc with ⟨hb, ob, e1, e2⟩ | ⟨hb, hT, ob, e1, e2⟩
  · have hS2 : specR mds FY avs H base = some { val := .tup [.own base u.T.length, .v (.bool true)], rd := (ixC mds xs).filterMap id, put := [], new := newG u.T, obl := xs.flatMap (·.ob) ++ ob } := by
      unfold specR
      rw [hxs]
      simp only [e1]
      show cond _ _ _ = _
      rw [hw, hl, hput]
      rfl
    refine (hY.2 avs H base _ ν vals w hS2 (by simpa [obls, List.all_append] using And.intro ho'.1 e2) hv hr hlt hfree (fun i o j b b' hp => by cases hp)).mono ?_
    rintro e w' ⟨v, ν', rfl, d⟩
    have hnew := d.new 0 _ rfl
    have hv2 : VR ν' (.tup [.sl base 8 0 0 u.T.length none, .v (.bool u.b)]) v := by
      have := d.val
      simp only [VR] at this ⊢
      obtain ⟨l, e1, e2⟩ := this
      match l, e2 with
      | [a, c], ⟨⟨b0, hb0, ha⟩, hbb, _⟩ =>
        refine ⟨[a, c], e1, ⟨some ⟨b0.n, b0.o, none⟩, b0.c, ha, fun c' hc' => (by cases hc'), ?_, fun _ => ⟨b0, hb0, by simp⟩⟩, by rw [hb]; exact hbb, trivial⟩
        rcases hnew with ⟨h1, _, _⟩ | ⟨k, l, t', fz, h1, _, _, h4, _⟩
        · cases h1
        · rw [Nat.add_zero] at h1
          rw [hb0] at h1
          cases h1
          exact h4
    refine ⟨v, ν', rfl, d.le, d.dom, hv2, fun i b hl => (by cases hl), fun j b hj => ?_, d.os, d.tape, d.output, d.size, d.block, d.fresh, d.apart⟩
    match j with
    | 0 =>
      simp only [List.getElem?_cons_zero, Option.some.injEq] at hj
      subst hj
      rcases hnew with ⟨h1, _, _⟩ | ⟨k, l, t', fz, h1, h2, _, h4, h5⟩
      · cases h1
      · exact .inr ⟨k, l, t', fz, h1, h2, fun h => (by cases h), h4, h5⟩
    | j + 1 => simp at hj
  · have hS2 : specR mds FN avs H base = some { val := valN, rd := (ixC mds xs).filterMap id, put := [], new := [], obl := xs.flatMap (·.ob) ++ ob } := by
      unfold specR
      rw [hxs]
      simp only [e1]
      show cond _ _ _ = _
      rw [hw, hl, hput]
      rfl
    refine (hN.2 avs H base _ ν vals w hS2 (by simpa [obls, List.all_append] using And.intro ho'.1 e2) hv hr hlt (fun j hj => absurd hj (Nat.not_lt_zero _)) (fun i o j b b' hp => by cases hp)).mono ?_
    rintro e w' ⟨v, ν', rfl, d⟩
    have hnone : ν' base = none := by
      have h0 : ν base = none := hfree 0 (Nat.zero_lt_one)
      cases hq : ν' base with
      | none => rfl
      | some b =>
        have := d.dom base h0 (by rw [hq]; simp)
        simp at this
    have hv0 : VR ν' (.tup [.sl base 8 0 0 0 none, .v (.bool false)]) v := by
      have := d.val
      simp only [VR] at this ⊢
      obtain ⟨l, e1, e2⟩ := this
      match l, e2 with
      | [a, b], ⟨ha, hbb, _⟩ => exact ⟨[a, b], e1, ⟨none, 0, ha, fun c' hc' => (by cases hc'), Nat.le_refl _, fun hc => absurd hc (Nat.lt_irrefl 0)⟩, hbb, trivial⟩
    refine ⟨v, ν', rfl, d.le, fun i h1 h2 => ?_, by rw [hb, hT]; exact hv0, fun i b hl => (by cases hl), fun j b hj => ?_, d.os, d.tape, d.output, d.size, d.block, fun j b hj hq => ?_, fun j j' b b' hne hj hj' => ?_⟩
    · have := d.dom i h1 h2
      simp at this
      omega
    · match j with
      | 0 =>
        simp only [List.getElem?_cons_zero, Option.some.injEq] at hj
        subst hj
        rw [hT]
        exact .inl ⟨rfl, rfl, hnone⟩
      | j + 1 => simp at hj
    · have hj : j < 1 := hj
      have : j = 0 := by omega
      subst this
      rw [Nat.add_zero, hnone] at hq
      cases hq
    · have hj : j < 1 := hj
      have hj' : j' < 1 := hj'
      omega

end Go.Proofs.Ytoligfhcogligaa
