/- Plain algebra: exact points over the 24th roots as eight integers, their products, mirrors, real and imaginary parts, and signs of surds, all in wrapped 64-bit integers. No program, no conditions. -/
import Derived.Test.YtddhmidegldhdaaGreatDoorZD0
import Derived.Test.YtddhmidegldhdaaGreatDoorZD1
import Derived.RangeFuncNested
import Derived.RangeFuncBound
import Derived.RangeFuncCalls
import Derived.RangeFuncLeaves
import Derived.LoopNIn
import Derived.OrdersIn
import Derived.TacticsIn
import Derived.RowKit
import Derived.Laws.BitsLemmas
/- The abstract machine, 17: the same, in a frame of a round of a loop over a function. No conditions. -/
namespace Go.Proofs.YtddhmidegldhdaaGreatDoor
open Go.RowKit

def wideR (r : Option Nat) : Fence := { Fence.wide with round := r }
theorem wideR_none : wideR none = Fence.wide := rfl
theorem callsIn_wideR {r : Option Nat} {n : Nat} {P : Program} {f : FuncId} {args : Array Value} {w : World} {R : Ending → World → Prop} (h : Calls P f args w R) : CallsIn (wideR r) n P f args w R := by
  cases r with
  | none => exact callsIn_wide.2 h
  | some l => exact CallsIn.inRound l (callsIn_wide.2 h)

theorem stepsIn_wideR {r : Option Nat} {P : Program} {m m' : Machine} (h : Steps P m m') : StepsIn (Machine.fenced P (wideR r)) P m m' := by
  cases r with
  | none => exact stepsIn_wide.2 h
  | some l => exact stepsIn_wide.2 h

theorem rowsIn_wideR {r : Option Nat} {n : Nat} {P : Program} {row : String} {args : Array Value} {w : World} {R : Value → World → Prop} (h : Rows P row args w R) : RowsIn (wideR r) n P row args w R :=
  fun c cs _ => let ⟨v, w', q, s⟩ := h c cs; ⟨v, w', q, stepsIn_wideR s⟩

theorem op_in {r : Option Nat} {n : Nat} {P : Program} {o : Oper} {a : Act} {w : World} {next : Act → World → Prop} {Q : Exit → Act → World → Prop} (hd : ∀ c, o.op ≠ .defer c) (h : o.wp P a w next Q) : o.wpIn (wideR r) n P a w next Q := by
  refine ⟨fun _ _ => trivial, ?_⟩
  have hs : o.semAt (wideR r).round a.eval = execOp a.eval o := by
    cases r with
    | none => exact Oper.semAt_none _ _
    | some l => exact Oper.semAt_some l _ o hd
  rw [hs]
  unfold Oper.wp at h
  generalize (execOp a.eval o).run P w = R at h
  cases R with
  | ok x w' =>
    cases x with
    | value v => exact h
    | skip => exact h
    | defer d => exact h
    | enter f args => exact ⟨fun hdep => (by cases hdep), callsIn_wideR (h.mono fun e w'' he => by cases e <;> exact he)⟩
    | row row args => exact ⟨fun hdep => (by cases hdep), rowsIn_wideR h⟩
    | round => exact h.elim
    | _ => exact h.elim
  | halt x w' =>
    cases x with
    | panic v => exact h
    | _ => exact h.elim

def noDef (ops : Array Oper) : Bool := ops.toList.all fun o => match o.op with
  | .defer _ => false
  | _ => true
theorem noDef_get {ops : Array Oper} (h : noDef ops = true) {i : Nat} {o : Oper} (ho : ops[i]? = some o) : ∀ c, o.op ≠ .defer c := by
  intro c e
  have hm : o ∈ ops.toList := by
    have := Array.getElem?_eq_some_iff.1 ho
    obtain ⟨hlt, e⟩ := this
    rw [← e]
    simp
  have := List.all_eq_true.1 h o hm
  rw [e] at this
  cases this

theorem wpOp_in {r : Option Nat} {n : Nat} {P : Program} {ops : Array Oper} {Q : Exit → Act → World → Prop} (hd : noDef ops = true) (hQ : ¬ LetsOut Q) {i : Nat} {K : Act → World → Prop} {a : Act} {w : World} (h : wpOp P ops Q i K a w) : wpOpIn (wideR r) n P ops Q i K a w := by
  unfold wpOp at h
  unfold wpOpIn
  cases ho : ops[i]? with
  | none => rw [ho] at h; exact h
  | some o =>
    rw [ho] at h
    simp only at h ⊢
    split at h
    · rename_i hw
      rw [if_pos hw]
      rcases h with h | h
      · exact op_in (noDef_get hd ho) h
      · exact (hQ h.2).elim
    · rename_i hw
      rw [if_neg hw]
      exact ⟨fun _ _ => trivial, h⟩

theorem wpOps_in {r : Option Nat} {n : Nat} {P : Program} {ops : Array Oper} {Q : Exit → Act → World → Prop} (hd : noDef ops = true) (hQ : ¬ LetsOut Q) : ∀ {l : List Nat} {a : Act} {w : World}, wpOps P ops Q l a w → wpOpsIn (wideR r) n P ops Q l a w
  | [], a, w, h => h
  | i :: l, a, w, h => by
    rw [wpOps_cons] at h
    rw [wpOpsIn_cons]
    exact wpOpIn_mono (fun a w h => wpOps_in hd hQ h) (wpOp_in hd hQ h)

theorem wpAny_in {r : Option Nat} {n : Nat} {P : Program} {md : Region.Mode} {ops : Array Oper} {Q : Exit → Act → World → Prop} (hd : noDef ops = true) (hQ : ¬ LetsOut Q) : ∀ {fuel : Nat} {listed : Array Bool} {a : Act} {w : World}, wpAny P md ops Q fuel listed a w → wpAnyIn (wideR r) n P md ops Q fuel listed a w
  | 0, _, _, _, h => h
  | _ + 1, _, _, _, h => ⟨h.1, fun i hi => wpOpIn_mono (fun _ _ h => wpAny_in hd hQ h) (wpOp_in hd hQ (h.2 i hi))⟩

def postD (ds : List Deferred) (M : Nat → Prop) (w0 : World) (ν0 : Nu) (K : Kont) (Q : Ex → List AV → List AB → Prop) : Exit → Act → World → Prop :=
  fun e a w => ∃ e' T H ν, e = Ex.to e' ∧ (K e' T H).ok Q ∧ SR M w0 ν0 T H a w ν ∧ a.defers = ds

theorem postD_out {ds : List Deferred} {M : Nat → Prop} {w0 : World} {ν0 : Nu} {K : Kont} {Q : Ex → List AV → List AB → Prop} : ¬ LetsOut (postD ds M w0 ν0 K Q) := by
  rintro ⟨a, w, e', T, H, ν, h, _⟩
  cases e' <;> cases h

theorem postD_then {ds : List Deferred} {M : Nat → Prop} {w0 : World} {ν0 : Nu} {K : Kont} {k2 : List AV → List AB → Res} {Q : Ex → List AV → List AB → Prop} {Y : Act → World → Prop} {e : Exit} {a : Act} {w : World} (h : postD ds M w0 ν0 (thenK k2 K) Q e a w)
    (hY : ∀ T H ν, (k2 T H).ok Q → SR M w0 ν0 T H a w ν → a.defers = ds → Y a w) : Exit.then Y (postD ds M w0 ν0 K Q) e a w := by
  obtain ⟨e', T, H, ν, rfl, hk, hS, hd⟩ := h
  cases e' with
  | normal => exact hY T H ν hk hS hd
  | exit id => exact ⟨.exit id, T, H, ν, rfl, hk, hS, hd⟩
  | ret => exact ⟨.ret, T, H, ν, rfl, hk, hS, hd⟩

theorem postD_exit {ds : List Deferred} {M : Nat → Prop} {w0 : World} {ν0 : Nu} {K : Kont} {Q : Ex → List AV → List AB → Prop} {id : Nat} {e : Exit} {a : Act} {w : World} (h : postD ds M w0 ν0 (exitK id K) Q e a w) : Exit.inBlock id (postD ds M w0 ν0 K Q) e a w := by
  obtain ⟨e', T, H, ν, rfl, hk, hS, hd⟩ := h
  cases e' with
  | normal => exact ⟨.normal, T, H, ν, rfl, hk, hS, hd⟩
  | ret => exact ⟨.ret, T, H, ν, rfl, hk, hS, hd⟩
  | exit j =>
    simp only [Ex.to, Exit.inBlock]
    simp only [exitK] at hk
    split
    · rename_i hj
      subst hj
      rw [Nat.beq_refl] at hk
      exact ⟨.normal, T, H, ν, rfl, hk, hS, hd⟩
    · rename_i hj
      cases hb : Nat.beq j id with
      | true => exact (hj (Nat.eq_of_beq_eq_true hb)).elim
      | false =>
        rw [hb] at hk
        exact ⟨.exit j, T, H, ν, rfl, hk, hS, hd⟩

theorem postD_noGoto {ds : List Deferred} {M : Nat → Prop} {w0 : World} {ν0 : Nu} {K : Kont} {Q : Ex → List AV → List AB → Prop} {e : Exit} {a : Act} {w : World} (h : postD ds M w0 ν0 K Q e a w) : Exit.noGoto (postD ds M w0 ν0 K Q) e a w := by
  have h' := h
  obtain ⟨e', T, H, ν, rfl, h1, h2, h3⟩ := h
  cases e' with
  | normal => exact h'
  | ret => exact h'
  | exit j => exact h'
theorem stepR_scope {P : Program} {b : Frame} {a : Act} {k : List Go.Item} {cs : List Frame} {w : World} {c : Code} : step P (lone (b.atR a (.code (.scope c) :: k)) cs w) = .next (lone (b.atR a (.code c :: .inScope c :: k)) cs w) :=
  step_lone_go (by simp [stepG, stepG.exec, Frame.atR])
theorem stepR_inScope {P : Program} {b : Frame} {a : Act} {k : List Go.Item} {cs : List Frame} {w : World} {c : Code} : step P (lone (b.atR a (.inScope c :: k)) cs w) = .next (lone (b.atR a k) cs w) :=
  step_lone_go (by simp [stepG, stepG.exec, Frame.atR])
theorem wpIn_scope {F : Fence} {n : Nat} {P : Program} {c : Code} {Q : Exit → Act → World → Prop} {a : Act} {w : World} (h : c.wpIn F n P (Exit.noGoto Q) a w) : (Code.scope c).wpIn F n P Q a w := by
  intro b k cs hro hb hr
  have h0 : (lone (b.atR a (.code (.scope c) :: k)) cs w).fenced P F := fenced_calm hb hr rfl
  obtain ⟨e, a₁, w₁, hq, harr⟩ := h b (.inScope c :: k) cs hro hb hr
  cases e with
  | normal => exact ⟨.normal, a₁, w₁, hq, .head h0 stepR_scope (StepsIn.trans harr (.one (fenced_calm hb hr rfl) stepR_inScope))⟩
  | exit id =>
    have hx : exitTo id (.inScope c :: k) = exitTo id k := by simp [exitTo]
    exact ⟨.exit id, a₁, w₁, hq, fun k' hk => .head h0 stepR_scope (harr.1 k' (by rw [hx]; exact hk)),
      fun hr' hk => let ⟨k₁, h1, h2⟩ := harr.2 hr' (by rw [hx]; exact hk); ⟨k₁, h1, .head h0 stepR_scope h2⟩⟩
  | goto l => exact hq.elim
  | ret => exact ⟨_, a₁, w₁, hq, .of_steps (.one h0 stepR_scope) harr⟩
  | panic ch => exact ⟨_, a₁, w₁, hq, .of_steps (.one h0 stepR_scope) harr⟩
  | outgrown => exact ⟨_, a₁, w₁, hq, .of_steps (.one h0 stepR_scope) harr⟩
def codeDef : Code → Bool
  | .region _ ops _ => noDef ops
  | .seq a b => codeDef a && codeDef b
  | .cond _ a b => codeDef a && codeDef b
  | .block _ c => codeDef c
  | .loop c => codeDef c
  | .scope c => codeDef c
  | _ => true

end Go.Proofs.YtddhmidegldhdaaGreatDoor

/- The abstract machine, 18: code, in a frame of a round of a loop over a function. Conditions: those of the table of callees. -/
namespace Go.Proofs.YtddhmidegldhdaaGreatDoor
open Go.RowKit

theorem execC_in {P : Program} {Γ : Gam} (hΓ : GamOk P Γ) (hmix : P.follows .mixedOrders = true) (hent : Enters P) (r : Option Nat) (nn : Nat) (ds : List Deferred) : ∀ (n : Nat) (c : Code), codeDef c = true → ∀ (M : Nat → Prop) (w0 : World) (ν0 : Nu), (∀ k, w0.heap.size ≤ k → M k) → ∀ (T : List AV) (H : List AB) (K : Kont) (Q : Ex → List AV → List AB → Prop) (a : Act) (w : World) (ν : Nu),
    (execC P Γ n noLam c T H K).ok Q → SR M w0 ν0 T H a w ν → a.defers = ds → c.wpIn (wideR r) nn P (postD ds M w0 ν0 K Q) a w := by
  intro n
  induction n with
  | zero => intro c _ M w0 ν0 hM T H K Q a w ν h; exact h.elim
  | succ n ih =>
    intro c hD M w0 ν0 hM T H K Q a w ν h hS hd
    have halt : ∀ e, (K e T H).ok Q → postD ds M w0 ν0 K Q (Ex.to e) a w := fun e hk => ⟨e, T, H, ν, rfl, hk, hS, hd⟩
    cases c with
    | skip => exact wpIn_skip (halt .normal h)
    | label l => exact wpIn_label (halt .normal h)
    | region id ops draw =>
      cases draw with
      | true =>
        simp only [execC, cond_true] at h
        obtain ⟨es, T', H', r1, h2⟩ := execOps_run h
        rcases cond_ok h2 with ⟨hc, h2⟩ | ⟨_, h2⟩
        · have hB : drawOk ops.toList es = true := by simpa using hc
          refine wpIn_region_any hmix ?_
          have hS' : SR M w0 ν0 T H a { w with drawn := w.drawn + 1 } ν := ⟨hS.tmps, ⟨fun i => (hS.heap.br i).of_block fun _ _ _ => rfl, hS.heap.sep, hS.heap.own, hS.heap.lt, hS.heap.tab⟩, hS.fr.drew, hS.dom, hS.len, hS.le⟩
          have := any_sound (Q := postD ds M w0 ν0 K Q) hΓ hM r1 hB hS' fun a' w' ν' h' hd' => ⟨.normal, T', H', ν', rfl, h2, h', hd'.trans hd⟩
          exact wpAny_in hD postD_out (by simpa using this)
        · exact h2.elim
      | false =>
        refine wpIn_region ?_
        simp only [execC, cond_false] at h
        have := seqS_sound (Qw := postD ds M w0 ν0 K Q) (all := ops.toList) hΓ hM (Q := Q) (fun g avs H' Kc vals w' ν' hc hv hH hdom hM' => ?_) ops.toList 0 T H a w ν rfl h hS fun T' H' a' w' ν' hk hS' hd' => ⟨.normal, T', H', ν', rfl, hk, hS', hd'.trans hd⟩
        · refine wpOps_in hD postD_out ?_
          rw [← List.range_eq_range'] at this
          simpa using this
        · split at hc
          · rename_i fn hf
            split at hc
            · rename_i c' hb
              rw [fcAs_eq] at hc
              refine ⟨fun args w => hent g fn hf (by rw [hb]; rfl) args w, ?_⟩
              refine calls_of_wp hf hb (wp_mono (execC_sound hΓ hmix hent n H'.length (fun _ => none) c' (fun _ _ h => by cases h) M w' ν' hM' hdom _ H' (finC P fn Kc) Q _ w' ν' hc (start_sr hv hH hdom) rfl) fun e a' w'' hp => ?_)
              exact fin_post hp
            · exact hc.elim
          · exact hc.elim
    | seq x y =>
      simp only [codeDef, Bool.and_eq_true] at hD
      exact wpIn_seq (wpIn_mono (ih x hD.1 M w0 ν0 hM T H _ Q a w ν h hS hd) fun e a' w' hp => postD_then hp fun T' H' ν' hk hS' hd' => ih y hD.2 M w0 ν0 hM T' H' K Q a' w' ν' hk hS' hd')
    | cond c x y =>
      simp only [codeDef, Bool.and_eq_true] at hD
      simp only [execC] at h
      split at h
      · rename_i q hq
        have hv : a.eval c = .bool q := by
          have := evA_sound (T := T) (a := a) (ν := ν) (z := c) fun t _ => hS.tmps t
          rw [hq] at this
          simpa only [VR] using this
        refine wpIn_cond hv ?_
        rcases cond_ok h with ⟨rfl, h⟩ | ⟨rfl, h⟩
        · rw [setC_same hq] at h
          exact ih x hD.1 M w0 ν0 hM T H K Q a w ν h hS hd
        · rw [setC_same hq] at h
          exact ih y hD.2 M w0 ν0 hM T H K Q a w ν h hS hd
      · exact h.elim
    | block id b =>
      simp only [codeDef] at hD
      simp only [execC] at h
      exact wpIn_block (wpIn_mono (ih b hD M w0 ν0 hM T H _ Q a w ν h hS hd) fun e a' w' hp => postD_exit hp)
    | scope b =>
      simp only [codeDef] at hD
      simp only [execC] at h
      exact wpIn_scope (wpIn_mono (ih b hD M w0 ν0 hM T H K Q a w ν h hS hd) fun e a' w' hp => postD_noGoto hp)
    | loop b =>
      simp only [codeDef] at hD
      simp only [execC] at h
      refine wpIn_loop_rounds n ?_
      have key : ∀ (m : Nat) (T : List AV) (H : List AB) (a : Act) (w : World) (ν : Nu), (iter (execC P Γ n noLam b) m T H K).ok Q → SR M w0 ν0 T H a w ν → a.defers = ds → Code.roundsIn (wideR r) nn P b (postD ds M w0 ν0 K Q) m a w := by
        intro m
        induction m with
        | zero => intro T H a w ν h; exact h.elim
        | succ m ihm =>
          intro T H a w ν h hS hd
          rw [roundsIn_succ]
          exact wpIn_mono (ih b hD M w0 ν0 hM T H _ Q a w ν h hS hd) fun e a' w' hp => postD_then hp fun T' H' ν' hk hS' hd' => ihm T' H' a' w' ν' hk hS' hd'
      exact key n T H a w ν h hS hd
    | exit id => exact wpIn_exit (halt (.exit id) h)
    | ret => exact wpIn_ret (halt .ret h)
    | _ => simp only [execC] at h; exact h.elim

end Go.Proofs.YtddhmidegldhdaaGreatDoor

/- The abstract machine, 19: a loop over a function: the rounds, on the loop's own frame. Conditions: the word of the function that yields. -/
namespace Go.Proofs.YtddhmidegldhdaaGreatDoor
open Go.RowKit

def ownM (w : World) (ν : Nu) (H : List AB) : Nat → Prop := fun k => w.heap.size ≤ k ∨ ∃ i b, (H.getD i .gone).wr = true ∧ ν i = some b ∧ b.n = k

theorem SR.rebase {M : Nat → Prop} {w0 : World} {ν0 : Nu} {T : List AV} {H : List AB} {a : Act} {w : World} {ν : Nu} (h : SR M w0 ν0 T H a w ν) (hM : ∀ k, w0.heap.size ≤ k → M k := by first | assumption | exact fun k hk => .inl hk) : SR (ownM w ν H) w ν T H a w ν :=
  ⟨h.tmps, ⟨h.heap.br, h.heap.sep, fun i b hw hb => .inr ⟨i, b, hw, hb, rfl⟩, h.heap.lt, h.heap.tab.mono fun k _ hk => hk.elim (fun hk => hM k (Nat.le_trans h.fr.size hk)) fun ⟨i, b, hw, hb, e⟩ => e ▸ h.heap.own i b hw hb⟩, Fr.refl _ _, h.dom, h.len, Le.refl _⟩

theorem SR.unbase {M : Nat → Prop} {w0 : World} {ν0 : Nu} {T T' : List AV} {H H' : List AB} {a a' : Act} {w w' : World} {ν ν' : Nu} (hM : ∀ k, w0.heap.size ≤ k → M k) (h : SR M w0 ν0 T H a w ν) (h' : SR (ownM w ν H) w ν T' H' a' w' ν') : SR M w0 ν0 T' H' a' w' ν' := by
  have hsub : ∀ k, ownM w ν H k → M k := by
    rintro k (hk | ⟨i, b, hw, hb, rfl⟩)
    · exact hM k (Nat.le_trans h.fr.size hk)
    · exact h.heap.own i b hw hb
  exact ⟨h'.tmps, ⟨h'.heap.br, h'.heap.sep, fun i b hw hb => hsub _ (h'.heap.own i b hw hb), h'.heap.lt, h.heap.tab.fr (h'.fr.mono fun k _ hk => hsub k hk)⟩, h.fr.trans (h'.fr.mono fun k _ hk => hsub k hk), h'.dom, h'.len, h.le.trans h'.le⟩

theorem SR.turn {M : Nat → Prop} {w0 : World} {ν0 : Nu} {T : List AV} {H : List AB} {a : Act} {w w' : World} {ν : Nu} {row : Option Nat} (hM : ∀ k, w0.heap.size ≤ k → M k) (h : SR M w0 ν0 T H a w ν) (hg : w.grownBy w' row)
    (hr : ∀ r, row = some r → w0.heap.size ≤ r ∧ ∃ o : Obj, w.heap[r]? = some o ∧ o.isCells = false) : SR M w0 ν0 T H a w' ν := by
  have hb : ∀ i k, ν i = some k → (H.getD i .gone).live = true → w'.heap[k.n]? = w.heap[k.n]? := by
    intro i k hk hl
    refine hg.block _ (h.heap.lt i k hk) fun e => ?_
    obtain ⟨_, o, ho, hc⟩ := hr _ e.symm
    have hbr := h.heap.br i
    cases hH : H.getD i .gone with
    | cells cs t =>
      rw [hH] at hbr
      obtain ⟨b, l, h1, _, h2, _⟩ := hbr
      rw [hk] at h1
      cases h1
      rw [ho] at h2
      cases h2
      cases hc
    | row rw n s g t =>
      rw [hH] at hbr
      rcases hbr with ⟨_, _, h1⟩ | ⟨b, l, t', fz, h1, h2, _⟩
      · rw [hk] at h1; cases h1
      · rw [hk] at h1
        cases h1
        rw [ho] at h2
        cases h2
        cases hc
    | gone => rw [hH] at hl; cases hl
  refine ⟨h.tmps, ⟨fun i => (h.heap.br i).of_block fun k hk hl => hb i k hk hl, h.heap.sep, h.heap.own, fun i b hi => Nat.lt_of_lt_of_le (h.heap.lt i b hi) hg.size, h.heap.tab.block fun k hk hm => hg.block k hk fun e => hm (hM _ (hr _ e.symm).1)⟩, ?_, h.dom, h.len, h.le⟩
  refine ⟨hg.os.trans h.fr.os, hg.tape.trans h.fr.tape, hg.output.trans h.fr.output, Nat.le_trans h.fr.size hg.size, fun k hk hm => ?_⟩
  rw [hg.block k (Nat.lt_of_lt_of_le hk h.fr.size) fun e => ?_]
  · exact h.fr.block k hk hm
  · have := (hr _ e.symm).1
    omega

def parT : List Tmp → List Value → List AV → List AV
  | p :: ps, v :: vs, T => parT ps vs (T.set p (.v v))
  | _, _, T => T

theorem par_sr {ν : Nu} : ∀ {ps : List Tmp} {vs : List Value} {T : List AV} {t : Array Value}, (∀ p ∈ ps, p < T.length) → T.length ≤ t.size → (∀ i, VR ν (T.getD i .dead) (t.getD i undef)) →
    (∀ i, VR ν ((parT ps vs T).getD i .dead) (((ps.zip vs).foldl (fun t (p, v) => t.setIfInBounds p v) t).getD i undef)) ∧ (parT ps vs T).length ≤ ((ps.zip vs).foldl (fun t (p, v) => t.setIfInBounds p v) t).size
  | [], vs, T, t, _, hl, h => ⟨h, hl⟩
  | p :: ps, [], T, t, _, hl, h => ⟨h, hl⟩
  | p :: ps, v :: vs, T, t, hp, hl, h => by
    simp only [parT, List.zip_cons_cons, List.foldl_cons]
    refine par_sr (by simpa using fun q hq => hp q (List.mem_cons_of_mem _ hq)) (by simpa using hl) fun i => ?_
    have hpl := hp p (by simp)
    by_cases e : p = i
    · subst e
      have h1 : p < t.size := Nat.lt_of_lt_of_le hpl hl
      simp [List.getD_eq_getElem?_getD, Array.getD_eq_getD_getElem?, hpl, h1, VR]
    · simpa [List.getD_eq_getElem?_getD, Array.getD_eq_getD_getElem?, List.getElem?_set, Array.getElem?_setIfInBounds, e] using h i

def keepR (w : World) (M : Nat → Prop) (W W' : World) : Prop := W.heap.size ≤ W'.heap.size ∧ ∀ (k : Nat) (o : Obj), k < w.heap.size → ¬ M k → W.heap[k]? = some o → W'.heap[k]? = some o

theorem keepR.trans {w : World} {M : Nat → Prop} {A B C : World} (h : keepR w M A B) (k : keepR w M B C) : keepR w M A C := ⟨Nat.le_trans h.1 k.1, fun i o hi hm ho => k.2 i o hi hm (h.2 i o hi hm ho)⟩

theorem keepR.fr {w : World} {M M' : Nat → Prop} {W W' : World} (hs : w.heap.size ≤ W.heap.size) (hsub : ∀ k, k < w.heap.size → M' k → M k) (h : Fr M' W W') : keepR w M W W' :=
  ⟨h.size, fun k _ hk hm ho => (h.block k (by omega) fun hm' => hm (hsub k hk hm')).trans ho⟩

theorem keepR.put {w : World} {M : Nat → Prop} {W : World} {l : Nat} {o : Obj} (hl : w.heap.size ≤ l) : keepR w M W (W.putObj l o) :=
  ⟨by simp [World.putObj], fun k o' hk _ ho => (World.putObj_heap_other (by omega)).trans ho⟩

def deadK (m : Nat) : Kont := leafK (fun _ => []) m
def andK (P : Program) (Γ : Gam) (n : Nat) (body : Code) (m : Nat) : Kont := fun e T' H' => match e with
  | .normal => execC P Γ n noLam body T' H' (deadK m)
  | _ => .err

def jumpOf : Ex → Code
  | .ret => .ret
  | .exit id => .exit id
  | .normal => .skip

theorem SR.own_cells {M : Nat → Prop} {w0 : World} {ν0 : Nu} {T : List AV} {H : List AB} {a : Act} {w : World} {ν : Nu} (h : SR M w0 ν0 T H a w ν) {l : Nat} {o : Obj} (hl : w.heap[l]? = some o) (ho : o.isCells = false) : ¬ ownM w ν H l := by
  rintro (hk | ⟨i, b, hw, hb, rfl⟩)
  · rw [Array.getElem?_eq_none hk] at hl; cases hl
  · have hbr := h.heap.br i
    cases hH : H.getD i .gone with
    | cells cs t =>
      rw [hH] at hbr
      obtain ⟨b', l, h1, _, h2, _⟩ := hbr
      rw [hb] at h1
      cases h1
      rw [hl] at h2
      cases h2
      cases ho
    | row rw n s g t =>
      rw [hH] at hbr
      rcases hbr with ⟨_, _, h1⟩ | ⟨b', l, t', fz, h1, h2, _⟩
      · rw [hb] at h1; cases h1
      · rw [hb] at h1
        cases h1
        rw [hl] at h2
        cases h2
        cases ho
    | gone => rw [hH] at hw; cases hw

def RoundJ {α : Type} (Jv : List α → Prop) (Lx : Ex → List α → Prop) (hp : List α → List AB) (hx : Ex → List α → List AB) (pre : List α) : Ex → List AV → List AB → Prop := fun e _ H' => match e with
  | .normal => Jv pre ∧ Hsim H' (hp pre)
  | e => Lx e pre ∧ Hsim H' (hx e pre)
end Go.Proofs.YtddhmidegldhdaaGreatDoor

/- The abstract machine, 20: a region that draws its order, up to an operation behind which all is in line. Conditions: those of the table of callees. -/
namespace Go.Proofs.YtddhmidegldhdaaGreatDoor
open Go.RowKit

end Go.Proofs.YtddhmidegldhdaaGreatDoor

/- The abstract machine: a region that draws its order, of which one operation dies. Conditions: those of the table of callees. -/
namespace Go.Proofs.YtddhmidegldhdaaGreatDoor
open Go.RowKit

def dieOk (k : Nat) (all : List Oper) : Bool := (List.range all.length).all fun i => Nat.ble i k || ((befL all []).getD i 0).testBit k

def argsB (k : Nat) (all : List Oper) (args : List Operand) : Bool := args.all fun
  | .tmp t => (List.range k).all fun j => match all[j]? with
    | some o => (match o.dst with | some d => !(Nat.beq d t) | none => true) || ((befL all []).getD k 0).testBit j
    | none => true
  | _ => true
def lateB (k : Nat) (all : List Oper) : Bool := (List.range k).all fun j => ((befL all []).getD k 0).testBit j
end Go.Proofs.YtddhmidegldhdaaGreatDoor

/- Plain algebra: exact points over the 24th roots as eight integers, their products, mirrors, real and imaginary parts, and signs of surds, all in wrapped 64-bit integers. No program, no conditions. -/
namespace Go.Proofs.YtddhmidegldhdaaGreatDoor
open Go.RowKit

def W (n : Int) : Int := IntKind.i64.wrap n

theorem W_eq (x : Int) : W x = (x + 9223372036854775808) % 18446744073709551616 - 9223372036854775808 := by
  exact IntKind.wrap_i64 x
theorem w64_ex (x : Int) : ∃ q, W x = x + 18446744073709551616 * q := by
  refine ⟨-((x + 9223372036854775808) / 18446744073709551616), ?_⟩
  simp only [W_eq]
  omega

theorem w64_add_mul (x q : Int) : W (x + 18446744073709551616 * q) = W x := by
  simp only [W_eq]
  omega

theorem w64_add_l (x y : Int) : W (W x + y) = W (x + y) := by
  obtain ⟨q, h⟩ := w64_ex x
  rw [h, show x + 18446744073709551616 * q + y = x + y + 18446744073709551616 * q from by omega, w64_add_mul]

theorem w64_add_r (x y : Int) : W (x + W y) = W (x + y) := by
  rw [Int.add_comm, w64_add_l, Int.add_comm]

theorem w64_sub_l (x y : Int) : W (W x - y) = W (x - y) := by
  obtain ⟨q, h⟩ := w64_ex x
  rw [h, show x + 18446744073709551616 * q - y = x - y + 18446744073709551616 * q from by omega, w64_add_mul]

theorem w64_sub_r (x y : Int) : W (x - W y) = W (x - y) := by
  obtain ⟨q, h⟩ := w64_ex y
  rw [h, show x - (y + 18446744073709551616 * q) = x - y + 18446744073709551616 * (-q) from by omega, w64_add_mul]

theorem w64_neg (x : Int) : W (-W x) = W (-x) := by
  have := w64_sub_r 0 x
  simpa using this

theorem w64_w64 (x : Int) : W (W x) = W x := by
  have := w64_add_l x 0
  simpa using this

theorem w64_in {x : Int} (h1 : -9223372036854775808 ≤ x) (h2 : x ≤ 9223372036854775807) : W x = x := by
  simp only [W_eq]
  omega

def plusF (a b : Nat → Int) : Nat → Int := fun k => W (a k + b k)
def sumF (a : Nat → Int) (n : Int) (b : Nat → Int) : Nat → Int := fun k => W (a k + n * b k)

def convF (a b : Nat → Int) : Nat → Int
  | 0 => a 0 * b 0
  | 1 => a 0 * b 1 + a 1 * b 0
  | 2 => a 0 * b 2 + a 1 * b 1 + a 2 * b 0
  | 3 => a 0 * b 3 + a 1 * b 2 + a 2 * b 1 + a 3 * b 0
  | 4 => a 0 * b 4 + a 1 * b 3 + a 2 * b 2 + a 3 * b 1 + a 4 * b 0
  | 5 => a 0 * b 5 + a 1 * b 4 + a 2 * b 3 + a 3 * b 2 + a 4 * b 1 + a 5 * b 0
  | 6 => a 0 * b 6 + a 1 * b 5 + a 2 * b 4 + a 3 * b 3 + a 4 * b 2 + a 5 * b 1 + a 6 * b 0
  | 7 => a 0 * b 7 + a 1 * b 6 + a 2 * b 5 + a 3 * b 4 + a 4 * b 3 + a 5 * b 2 + a 6 * b 1 + a 7 * b 0
  | 8 => a 1 * b 7 + a 2 * b 6 + a 3 * b 5 + a 4 * b 4 + a 5 * b 3 + a 6 * b 2 + a 7 * b 1
  | 9 => a 2 * b 7 + a 3 * b 6 + a 4 * b 5 + a 5 * b 4 + a 6 * b 3 + a 7 * b 2
  | 10 => a 3 * b 7 + a 4 * b 6 + a 5 * b 5 + a 6 * b 4 + a 7 * b 3
  | 11 => a 4 * b 7 + a 5 * b 6 + a 6 * b 5 + a 7 * b 4
  | 12 => a 5 * b 7 + a 6 * b 6 + a 7 * b 5
  | 13 => a 6 * b 7 + a 7 * b 6
  | 14 => a 7 * b 7
  | _ => 0

def mulZ (a b : Nat → Int) : Nat → Int
  | 0 => convF a b 0 - convF a b 8 - convF a b 12
  | 1 => convF a b 1 - convF a b 9 - convF a b 13
  | 2 => convF a b 2 - convF a b 10 - convF a b 14
  | 3 => convF a b 3 - convF a b 11
  | 4 => convF a b 4 + convF a b 8
  | 5 => convF a b 5 + convF a b 9
  | 6 => convF a b 6 + convF a b 10
  | 7 => convF a b 7 + convF a b 11
  | _ => 0

def mulF (a b : Nat → Int) : Nat → Int := fun k => W (mulZ a b k)

def mirZ (a : Nat → Int) : Nat → Int
  | 0 => a 0 + a 4
  | 1 => a 3
  | 2 => a 2
  | 3 => a 1
  | 4 => -a 4
  | 5 => -a 3 - a 7
  | 6 => -a 2 - a 6
  | 7 => -a 1 - a 5
  | _ => 0

def mirF (a : Nat → Int) : Nat → Int := fun k => W (mirZ a k)

def stepF (a : Nat → Int) : Nat → Int
  | 0 => W (0 - a 7)
  | 4 => W (a 3 + a 7)
  | k + 1 => a k

def turnedF (a : Nat → Int) : Nat → Nat → Int
  | 0 => a
  | n + 1 => stepF (turnedF a n)

@[reducible] def zeroF : Nat → Int := fun _ => 0
def oneF : Nat → Int
  | 0 => 1
  | _ + 1 => 0
def rootF (t : Nat) : Nat → Int := turnedF oneF t

theorem forall8 {p : Nat → Prop} (h0 : p 0) (h1 : p 1) (h2 : p 2) (h3 : p 3) (h4 : p 4) (h5 : p 5) (h6 : p 6) (h7 : p 7) : ∀ k, k < 8 → p k := by
  intro k hk
  match k, hk with
  | 0, _ => exact h0
  | 1, _ => exact h1
  | 2, _ => exact h2
  | 3, _ => exact h3
  | 4, _ => exact h4
  | 5, _ => exact h5
  | 6, _ => exact h6
  | 7, _ => exact h7

theorem forall_succ {p : Nat → Prop} {n : Nat} (h : ∀ j, j < n → p j) (hn : p n) : ∀ j, j < n + 1 → p j := by
  intro j hj
  rcases Nat.lt_succ_iff_lt_or_eq.1 hj with h1 | h1
  · exact h j h1
  · subst h1; exact hn

theorem forall_zero {p : Nat → Prop} : ∀ j, j < 0 → p j := fun j hj => absurd hj (Nat.not_lt_zero j)

def inR (n lo hi : Int) : Bool := decide (lo ≤ n) && decide (n ≤ hi)

theorem inR_iff {n lo hi : Int} : inR n lo hi = true ↔ lo ≤ n ∧ n ≤ hi := by simp [inR]

def smallF (a : Nat → Int) (lo hi : Int) : Bool :=
  bif !inR (a 0) lo hi then false else bif !inR (a 1) lo hi then false else bif !inR (a 2) lo hi then false else bif !inR (a 3) lo hi then false else
  bif !inR (a 4) lo hi then false else bif !inR (a 5) lo hi then false else bif !inR (a 6) lo hi then false else bif !inR (a 7) lo hi then false else true

theorem smallF_iff {a : Nat → Int} {lo hi : Int} : smallF a lo hi = true ↔ ∀ k, k < 8 → lo ≤ a k ∧ a k ≤ hi := by
  constructor
  · intro h
    have key : ∀ (b : Bool) (c : Bool), (bif !b then false else c) = true → b = true ∧ c = true := by intro b c; cases b <;> simp
    unfold smallF at h
    obtain ⟨h0, h⟩ := key _ _ h
    obtain ⟨h1, h⟩ := key _ _ h
    obtain ⟨h2, h⟩ := key _ _ h
    obtain ⟨h3, h⟩ := key _ _ h
    obtain ⟨h4, h⟩ := key _ _ h
    obtain ⟨h5, h⟩ := key _ _ h
    obtain ⟨h6, h⟩ := key _ _ h
    obtain ⟨h7, h⟩ := key _ _ h
    exact forall8 (inR_iff.1 h0) (inR_iff.1 h1) (inR_iff.1 h2) (inR_iff.1 h3) (inR_iff.1 h4) (inR_iff.1 h5) (inR_iff.1 h6) (inR_iff.1 h7)
  · intro h
    simp [smallF, inR_iff.2 (h 0 (by decide)), inR_iff.2 (h 1 (by decide)), inR_iff.2 (h 2 (by decide)), inR_iff.2 (h 3 (by decide)), inR_iff.2 (h 4 (by decide)), inR_iff.2 (h 5 (by decide)), inR_iff.2 (h 6 (by decide)), inR_iff.2 (h 7 (by decide))]

theorem emod_tmod {n : Int} (h0 : -9223372036854775808 ≤ n) (h1 : n ≤ 9223372036854775807) : (W (n.tmod 24 + 24)).tmod 24 = n % 24 := by
  have h : n.tmod 24 = n % 24 ∨ n.tmod 24 = n % 24 - 24 := by
    rcases Int.le_total 0 n with h | h
    · left; exact Int.tmod_eq_emod_of_nonneg h
    · have e1 : n.tmod 24 = -((-n) % 24) := by
        rw [← Int.neg_neg n, Int.neg_tmod, Int.tmod_eq_emod_of_nonneg (by omega)]
        simp
      omega
  rw [w64_in (by omega) (by omega), Int.tmod_eq_emod_of_nonneg (by omega)]
  omega
theorem modZ_eq {n : Int} : (bif decide (n.tmod 24 < 0) then W (n.tmod 24 + 24) else n.tmod 24) = n % 24 := by
  have h : (n.tmod 24 = n % 24 ∧ 0 ≤ n) ∨ (n.tmod 24 = -((-n) % 24) ∧ n ≤ 0) := by
    rcases Int.le_total 0 n with h | h
    · left; exact ⟨Int.tmod_eq_emod_of_nonneg h, h⟩
    · right
      refine ⟨?_, h⟩
      rw [← Int.neg_neg n, Int.neg_tmod, Int.tmod_eq_emod_of_nonneg (by omega)]
      simp
  by_cases hn : n.tmod 24 < 0
  · rw [decide_eq_true hn, cond_true, w64_in (by omega) (by omega)]
    omega
  · rw [decide_eq_false hn, cond_false]
    omega

def v8 (a0 a1 a2 a3 a4 a5 a6 a7 : Int) : Nat → Int
  | 0 => a0
  | 1 => a1
  | 2 => a2
  | 3 => a3
  | 4 => a4
  | 5 => a5
  | 6 => a6
  | 7 => a7
  | _ => 0
abbrev w8 (f : Nat → Int) : Nat → Int := v8 (f 0) (f 1) (f 2) (f 3) (f 4) (f 5) (f 6) (f 7)
def v4 (a0 a1 a2 a3 : Int) : Nat → Int
  | 0 => a0
  | 1 => a1
  | 2 => a2
  | 3 => a3
  | _ => 0

end Go.Proofs.YtddhmidegldhdaaGreatDoor
