/- The law's own helpers on whole numbers. Conditions: those that each word names. -/
import Derived.Test.YtkbdppnlojlcdaaZC30
import Derived.Test.YtkbdppnlojlcdaaZC31
import Derived.Test.YtkbdppnlojlcdaaZC32
import Derived.Test.YtkbdppnlojlcdaaZC33
import Derived.RangeFuncNested
import Derived.RangeFuncBound
import Derived.RangeFuncCalls
import Derived.RangeFuncLeaves
import Derived.LoopNIn
import Derived.OrdersIn
import Derived.TacticsIn
/- The abstract machine, 17: the same, in a frame of a round of a loop over a function. No conditions. -/
namespace Go.Proofs.Ytkbdppnlojlcdaa
open Go.RowKit

/-- The wide fence, in a round or not. -/
def wideR (r : Option Nat) : Fence := { Fence.wide with round := r }
theorem wideR_none : wideR none = Fence.wide := rfl
theorem wideR_some (l : Nat) : wideR (some l) = Fence.wide.inRound l := rfl
theorem room_wideR (r : Option Nat) (n : Nat) : (wideR r).room n := fun _ h => by cases h

theorem callsIn_wideR {r : Option Nat} {n : Nat} {P : Program} {f : FuncId} {args : Array Value} {w : World} {R : Ending → World → Prop} (h : Calls P f args w R) : CallsIn (wideR r) n P f args w R := by
  cases r with
  | none => exact callsIn_wide.2 h
  | some l => exact CallsIn.inRound l (callsIn_wide.2 h)

theorem stepsIn_wideR {r : Option Nat} {P : Program} {m m' : Machine} (h : Steps P m m') : StepsIn (Machine.fenced P (wideR r)) P m m' := by
  cases r with
  | none => exact stepsIn_wide.2 h
  | some l => exact stepsIn_wide.2 h

theorem rowsIn_wideR {r : Option Nat} {n : Nat} {P : Program} {row : String} {args : Array Value} {w : World} {R : Value → World → Prop} (h : Rows P row args w R) : RowsIn (wideR r) n P row args w R :=
  fun c cs _ => let ⟨v, w', q, s⟩ := h c cs; ⟨v, w', q, stepsIn_wideR s⟩

theorem op_in {r : Option Nat} {n : Nat} {P : Program} {o : Oper} {a : Act} {w : World} {next : Act → World → Prop} {Q : Exit → Act → World → Prop} (hd : ∀ c, o.op ≠ .defer c) (h : o.wp P a w next Q) : o.wpIn (wideR r) n P a w next Q := by
  refine ⟨fun _ _ => trivial, ?_⟩
  have hs : o.semAt (wideR r).round a.eval = execOp a.eval o := by
    cases r with
    | none => exact Oper.semAt_none _ _
    | some l => exact Oper.semAt_some l _ o hd
  rw [hs]
  unfold Oper.wp at h
  generalize (execOp a.eval o).run P w = R at h
  cases R with
  | ok x w' =>
    cases x with
    | value v => exact h
    | skip => exact h
    | defer d => exact h
    | enter f args => exact ⟨fun hdep => (by cases hdep), callsIn_wideR (h.mono fun e w'' he => by cases e <;> exact he)⟩
    | row row args => exact ⟨fun hdep => (by cases hdep), rowsIn_wideR h⟩
    | round => exact h.elim
    | _ => exact h.elim
  | halt x w' =>
    cases x with
    | panic v => exact h
    | _ => exact h.elim

def noDef (ops : Array Oper) : Bool := ops.toList.all fun o => match o.op with
  | .defer _ => false
  | _ => true
theorem noDef_get {ops : Array Oper} (h : noDef ops = true) {i : Nat} {o : Oper} (ho : ops[i]? = some o) : ∀ c, o.op ≠ .defer c := by
  intro c e
  have hm : o ∈ ops.toList := by
    have := Array.getElem?_eq_some_iff.1 ho
    obtain ⟨hlt, e⟩ := this
    rw [← e]
    simp
  have := List.all_eq_true.1 h o hm
  rw [e] at this
  cases this

theorem wpOp_in {r : Option Nat} {n : Nat} {P : Program} {ops : Array Oper} {Q : Exit → Act → World → Prop} (hd : noDef ops = true) (hQ : ¬ LetsOut Q) {i : Nat} {K : Act → World → Prop} {a : Act} {w : World} (h : wpOp P ops Q i K a w) : wpOpIn (wideR r) n P ops Q i K a w := by
  unfold wpOp at h
  unfold wpOpIn
  cases ho : ops[i]? with
  | none => rw [ho] at h; exact h
  | some o =>
    rw [ho] at h
    simp only at h ⊢
    split at h
    · rename_i hw
      rw [if_pos hw]
      rcases h with h | h
      · exact op_in (noDef_get hd ho) h
      · exact (hQ h.2).elim
    · rename_i hw
      rw [if_neg hw]
      exact ⟨fun _ _ => trivial, h⟩

theorem wpOps_in {r : Option Nat} {n : Nat} {P : Program} {ops : Array Oper} {Q : Exit → Act → World → Prop} (hd : noDef ops = true) (hQ : ¬ LetsOut Q) : ∀ {l : List Nat} {a : Act} {w : World}, wpOps P ops Q l a w → wpOpsIn (wideR r) n P ops Q l a w
  | [], a, w, h => h
  | i :: l, a, w, h => by
    rw [wpOps_cons] at h
    rw [wpOpsIn_cons]
    exact wpOpIn_mono (fun a w h => wpOps_in hd hQ h) (wpOp_in hd hQ h)

theorem wpAny_in {r : Option Nat} {n : Nat} {P : Program} {md : Region.Mode} {ops : Array Oper} {Q : Exit → Act → World → Prop} (hd : noDef ops = true) (hQ : ¬ LetsOut Q) : ∀ {fuel : Nat} {listed : Array Bool} {a : Act} {w : World}, wpAny P md ops Q fuel listed a w → wpAnyIn (wideR r) n P md ops Q fuel listed a w
  | 0, _, _, _, h => h
  | fuel + 1, _, _, _, h => ⟨h.1, fun i hi => wpOpIn_mono (fun a w h => wpAny_in hd hQ h) (wpOp_in hd hQ (h.2 i hi))⟩

/-- What is known where a piece of code ends; the deferred calls stand as they stood. -/
def postD (ds : List Deferred) (M : Nat → Prop) (w0 : World) (ν0 : Nu) (K : Kont) (Q : Ex → List AV → List AB → Prop) : Exit → Act → World → Prop :=
  fun e a w => ∃ e' T H ν, e = Ex.to e' ∧ (K e' T H).ok Q ∧ SR M w0 ν0 T H a w ν ∧ a.defers = ds

theorem postD_out {ds : List Deferred} {M : Nat → Prop} {w0 : World} {ν0 : Nu} {K : Kont} {Q : Ex → List AV → List AB → Prop} : ¬ LetsOut (postD ds M w0 ν0 K Q) := by
  rintro ⟨a, w, e', T, H, ν, h, _⟩
  cases e' <;> cases h

theorem postD_then {ds : List Deferred} {M : Nat → Prop} {w0 : World} {ν0 : Nu} {K : Kont} {k2 : List AV → List AB → Res} {Q : Ex → List AV → List AB → Prop} {Y : Act → World → Prop} {e : Exit} {a : Act} {w : World} (h : postD ds M w0 ν0 (thenK k2 K) Q e a w)
    (hY : ∀ T H ν, (k2 T H).ok Q → SR M w0 ν0 T H a w ν → a.defers = ds → Y a w) : Exit.then Y (postD ds M w0 ν0 K Q) e a w := by
  obtain ⟨e', T, H, ν, rfl, hk, hS, hd⟩ := h
  cases e' with
  | normal => exact hY T H ν hk hS hd
  | exit id => exact ⟨.exit id, T, H, ν, rfl, hk, hS, hd⟩
  | ret => exact ⟨.ret, T, H, ν, rfl, hk, hS, hd⟩

theorem postD_exit {ds : List Deferred} {M : Nat → Prop} {w0 : World} {ν0 : Nu} {K : Kont} {Q : Ex → List AV → List AB → Prop} {id : Nat} {e : Exit} {a : Act} {w : World} (h : postD ds M w0 ν0 (exitK id K) Q e a w) : Exit.inBlock id (postD ds M w0 ν0 K Q) e a w := by
  obtain ⟨e', T, H, ν, rfl, hk, hS, hd⟩ := h
  cases e' with
  | normal => exact ⟨.normal, T, H, ν, rfl, hk, hS, hd⟩
  | ret => exact ⟨.ret, T, H, ν, rfl, hk, hS, hd⟩
  | exit j =>
    simp only [Ex.to, Exit.inBlock]
    simp only [exitK] at hk
    split
    · rename_i hj
      subst hj
      rw [Nat.beq_refl] at hk
      exact ⟨.normal, T, H, ν, rfl, hk, hS, hd⟩
    · rename_i hj
      cases hb : Nat.beq j id with
      | true => exact (hj (Nat.eq_of_beq_eq_true hb)).elim
      | false =>
        rw [hb] at hk
        exact ⟨.exit j, T, H, ν, rfl, hk, hS, hd⟩

def codeDef : Code → Bool
  | .region _ ops _ => noDef ops
  | .seq a b => codeDef a && codeDef b
  | .cond _ a b => codeDef a && codeDef b
  | .block _ c => codeDef c
  | .loop c => codeDef c
  | _ => true

end Go.Proofs.Ytkbdppnlojlcdaa

/- The abstract machine, 18: code, in a frame of a round of a loop over a function. Conditions: those of the table of callees. -/
namespace Go.Proofs.Ytkbdppnlojlcdaa
open Go.RowKit

theorem execC_in {P : Program} {Γ : Gam} (hΓ : GamOk P Γ) (hmix : P.follows .mixedOrders = true) (hent : Enters P) (r : Option Nat) (nn : Nat) (ds : List Deferred) : ∀ (n : Nat) (c : Code), codeDef c = true → ∀ (M : Nat → Prop) (w0 : World) (ν0 : Nu), (∀ k, w0.heap.size ≤ k → M k) → ∀ (T : List AV) (H : List AB) (K : Kont) (Q : Ex → List AV → List AB → Prop) (a : Act) (w : World) (ν : Nu),
    (execC P Γ n noLam c T H K).ok Q → SR M w0 ν0 T H a w ν → a.defers = ds → c.wpIn (wideR r) nn P (postD ds M w0 ν0 K Q) a w := by
  intro n
  induction n with
  | zero => intro c _ M w0 ν0 hM T H K Q a w ν h; exact h.elim
  | succ n ih =>
    intro c hD M w0 ν0 hM T H K Q a w ν h hS hd
    have halt : ∀ e, (K e T H).ok Q → postD ds M w0 ν0 K Q (Ex.to e) a w := fun e hk => ⟨e, T, H, ν, rfl, hk, hS, hd⟩
    cases c with
    | skip => exact wpIn_skip (halt .normal h)
    | label l => exact wpIn_label (halt .normal h)
    | region id ops draw =>
      cases draw with
      | true =>
        simp only [execC, cond_true] at h
        obtain ⟨es, T', H', r1, h2⟩ := execOps_run h
        rcases cond_ok h2 with ⟨hc, h2⟩ | ⟨_, h2⟩
        · have hB : drawOk ops.toList es = true := by simpa using hc
          refine wpIn_region_any hmix ?_
          have hS' : SR M w0 ν0 T H a { w with drawn := w.drawn + 1 } ν := ⟨hS.tmps, ⟨fun i => (hS.heap.br i).of_block fun _ _ _ => rfl, hS.heap.sep, hS.heap.own, hS.heap.lt⟩, hS.fr.drew, hS.dom, hS.len, hS.le⟩
          have := any_sound (Q := postD ds M w0 ν0 K Q) hΓ hM r1 hB hS' fun a' w' ν' h' hd' => ⟨.normal, T', H', ν', rfl, h2, h', hd'.trans hd⟩
          exact wpAny_in hD postD_out (by simpa using this)
        · exact h2.elim
      | false =>
        refine wpIn_region ?_
        simp only [execC, cond_false] at h
        have := seqS_sound (Qw := postD ds M w0 ν0 K Q) (all := ops.toList) hΓ hM (Q := Q) (fun g avs H' Kc vals w' ν' hc hv hH hdom hM' => ?_) ops.toList 0 T H a w ν rfl h hS fun T' H' a' w' ν' hk hS' hd' => ⟨.normal, T', H', ν', rfl, hk, hS', hd'.trans hd⟩
        · refine wpOps_in hD postD_out ?_
          rw [← List.range_eq_range'] at this
          simpa using this
        · split at hc
          · rename_i fn hf
            split at hc
            · rename_i c' hb
              rw [fcAs_eq] at hc
              refine ⟨fun args w => hent g fn hf (by rw [hb]; rfl) args w, ?_⟩
              refine calls_of_wp hf hb (wp_mono (execC_sound hΓ hmix hent n H'.length (fun _ => none) c' (fun _ _ h => by cases h) M w' ν' hM' hdom _ H' (finC P fn Kc) Q _ w' ν' hc (start_sr hv hH hdom) rfl) fun e a' w'' hp => ?_)
              exact fin_post hp
            · exact hc.elim
          · exact hc.elim
    | seq x y =>
      simp only [codeDef, Bool.and_eq_true] at hD
      exact wpIn_seq (wpIn_mono (ih x hD.1 M w0 ν0 hM T H _ Q a w ν h hS hd) fun e a' w' hp => postD_then hp fun T' H' ν' hk hS' hd' => ih y hD.2 M w0 ν0 hM T' H' K Q a' w' ν' hk hS' hd')
    | cond c x y =>
      simp only [codeDef, Bool.and_eq_true] at hD
      simp only [execC] at h
      split at h
      · rename_i q hq
        have hv : a.eval c = .bool q := by
          have := evA_sound (T := T) (a := a) (ν := ν) (z := c) fun t _ => hS.tmps t
          rw [hq] at this
          simpa only [VR] using this
        refine wpIn_cond hv ?_
        rcases cond_ok h with ⟨rfl, h⟩ | ⟨rfl, h⟩
        · rw [setC_same hq] at h
          exact ih x hD.1 M w0 ν0 hM T H K Q a w ν h hS hd
        · rw [setC_same hq] at h
          exact ih y hD.2 M w0 ν0 hM T H K Q a w ν h hS hd
      · exact h.elim
    | block id b =>
      simp only [codeDef] at hD
      simp only [execC] at h
      exact wpIn_block (wpIn_mono (ih b hD M w0 ν0 hM T H _ Q a w ν h hS hd) fun e a' w' hp => postD_exit hp)
    | loop b =>
      simp only [codeDef] at hD
      simp only [execC] at h
      refine wpIn_loop_rounds n ?_
      have key : ∀ (m : Nat) (T : List AV) (H : List AB) (a : Act) (w : World) (ν : Nu), (iter (execC P Γ n noLam b) m T H K).ok Q → SR M w0 ν0 T H a w ν → a.defers = ds → Code.roundsIn (wideR r) nn P b (postD ds M w0 ν0 K Q) m a w := by
        intro m
        induction m with
        | zero => intro T H a w ν h; exact h.elim
        | succ m ihm =>
          intro T H a w ν h hS hd
          rw [roundsIn_succ]
          exact wpIn_mono (ih b hD M w0 ν0 hM T H _ Q a w ν h hS hd) fun e a' w' hp => postD_then hp fun T' H' ν' hk hS' hd' => ihm T' H' a' w' ν' hk hS' hd'
      exact key n T H a w ν h hS hd
    | exit id => exact wpIn_exit (halt (.exit id) h)
    | ret => exact wpIn_ret (halt .ret h)
    | _ => simp only [execC] at h; exact h.elim

end Go.Proofs.Ytkbdppnlojlcdaa

/- The abstract machine, 19: a loop over a function: the rounds, on the loop's own frame. Conditions: the word of the function that yields. -/
namespace Go.Proofs.Ytkbdppnlojlcdaa
open Go.RowKit

/-- What may turn from here on: the own blocks, and what is new. -/
def ownM (w : World) (ν : Nu) (H : List AB) : Nat → Prop := fun k => w.heap.size ≤ k ∨ ∃ i b, (H.getD i .gone).wr = true ∧ ν i = some b ∧ b.n = k

theorem SR.rebase {M : Nat → Prop} {w0 : World} {ν0 : Nu} {T : List AV} {H : List AB} {a : Act} {w : World} {ν : Nu} (h : SR M w0 ν0 T H a w ν) : SR (ownM w ν H) w ν T H a w ν :=
  ⟨h.tmps, ⟨h.heap.br, h.heap.sep, fun i b hw hb => .inr ⟨i, b, hw, hb, rfl⟩, h.heap.lt⟩, Fr.refl _ _, h.dom, h.len, Le.refl _⟩

theorem SR.unbase {M : Nat → Prop} {w0 : World} {ν0 : Nu} {T T' : List AV} {H H' : List AB} {a a' : Act} {w w' : World} {ν ν' : Nu} (hM : ∀ k, w0.heap.size ≤ k → M k) (h : SR M w0 ν0 T H a w ν) (h' : SR (ownM w ν H) w ν T' H' a' w' ν') : SR M w0 ν0 T' H' a' w' ν' := by
  have hsub : ∀ k, ownM w ν H k → M k := by
    rintro k (hk | ⟨i, b, hw, hb, rfl⟩)
    · exact hM k (Nat.le_trans h.fr.size hk)
    · exact h.heap.own i b hw hb
  exact ⟨h'.tmps, ⟨h'.heap.br, h'.heap.sep, fun i b hw hb => hsub _ (h'.heap.own i b hw hb), h'.heap.lt⟩, h.fr.trans (h'.fr.mono fun k _ hk => hsub k hk), h'.dom, h'.len, h.le.trans h'.le⟩

/-- A block that is no cells turns, or new ones are laid. -/
theorem SR.turn {M : Nat → Prop} {w0 : World} {ν0 : Nu} {T : List AV} {H : List AB} {a : Act} {w w' : World} {ν : Nu} {row : Option Nat} (hM : ∀ k, w0.heap.size ≤ k → M k) (h : SR M w0 ν0 T H a w ν) (hg : w.grownBy w' row)
    (hr : ∀ r, row = some r → w0.heap.size ≤ r ∧ ∃ o : Obj, w.heap[r]? = some o ∧ o.isCells = false) : SR M w0 ν0 T H a w' ν := by
  have hb : ∀ i k, ν i = some k → (H.getD i .gone).live = true → w'.heap[k.n]? = w.heap[k.n]? := by
    intro i k hk hl
    refine hg.block _ (h.heap.lt i k hk) fun e => ?_
    obtain ⟨_, o, ho, hc⟩ := hr _ e.symm
    have hbr := h.heap.br i
    cases hH : H.getD i .gone with
    | cells cs t =>
      rw [hH] at hbr
      obtain ⟨b, l, h1, _, h2, _⟩ := hbr
      rw [hk] at h1
      cases h1
      rw [ho] at h2
      cases h2
      cases hc
    | row rw n s g t =>
      rw [hH] at hbr
      rcases hbr with ⟨_, _, h1⟩ | ⟨b, l, t', fz, h1, h2, _⟩
      · rw [hk] at h1; cases h1
      · rw [hk] at h1
        cases h1
        rw [ho] at h2
        cases h2
        cases hc
    | gone => rw [hH] at hl; cases hl
  refine ⟨h.tmps, ⟨fun i => (h.heap.br i).of_block fun k hk hl => hb i k hk hl, h.heap.sep, h.heap.own, fun i b hi => Nat.lt_of_lt_of_le (h.heap.lt i b hi) hg.size⟩, ?_, h.dom, h.len, h.le⟩
  refine ⟨hg.os.trans h.fr.os, hg.tape.trans h.fr.tape, hg.output.trans h.fr.output, Nat.le_trans h.fr.size hg.size, fun k hk hm => ?_⟩
  rw [hg.block k (Nat.lt_of_lt_of_le hk h.fr.size) fun e => ?_]
  · exact h.fr.block k hk hm
  · have := (hr _ e.symm).1
    omega

/-- yield's arguments in the loop's parameters. -/
def parT : List Tmp → List Value → List AV → List AV
  | p :: ps, v :: vs, T => parT ps vs (T.set p (.v v))
  | _, _, T => T

theorem par_sr {ν : Nu} : ∀ {ps : List Tmp} {vs : List Value} {T : List AV} {t : Array Value}, (∀ p ∈ ps, p < T.length) → T.length ≤ t.size → (∀ i, VR ν (T.getD i .dead) (t.getD i undef)) →
    (∀ i, VR ν ((parT ps vs T).getD i .dead) (((ps.zip vs).foldl (fun t (p, v) => t.setIfInBounds p v) t).getD i undef)) ∧ (parT ps vs T).length ≤ ((ps.zip vs).foldl (fun t (p, v) => t.setIfInBounds p v) t).size
  | [], vs, T, t, _, hl, h => ⟨h, hl⟩
  | p :: ps, [], T, t, _, hl, h => ⟨h, hl⟩
  | p :: ps, v :: vs, T, t, hp, hl, h => by
    simp only [parT, List.zip_cons_cons, List.foldl_cons]
    refine par_sr (by simpa using fun q hq => hp q (List.mem_cons_of_mem _ hq)) (by simpa using hl) fun i => ?_
    have hpl := hp p (by simp)
    by_cases e : p = i
    · subst e
      have h1 : p < t.size := Nat.lt_of_lt_of_le hpl hl
      simp [List.getD_eq_getElem?_getD, Array.getD_eq_getD_getElem?, hpl, h1, VR]
    · simpa [List.getD_eq_getElem?_getD, Array.getD_eq_getD_getElem?, List.getElem?_set, Array.getElem?_setIfInBounds, e] using h i

/-- What a round keeps: old blocks that are not the loop's own. -/
def keepR (w : World) (M : Nat → Prop) (W W' : World) : Prop := W.heap.size ≤ W'.heap.size ∧ ∀ (k : Nat) (o : Obj), k < w.heap.size → ¬ M k → W.heap[k]? = some o → W'.heap[k]? = some o

theorem keepR.trans {w : World} {M : Nat → Prop} {A B C : World} (h : keepR w M A B) (k : keepR w M B C) : keepR w M A C := ⟨Nat.le_trans h.1 k.1, fun i o hi hm ho => k.2 i o hi hm (h.2 i o hi hm ho)⟩

theorem keepR.fr {w : World} {M M' : Nat → Prop} {W W' : World} (hs : w.heap.size ≤ W.heap.size) (hsub : ∀ k, k < w.heap.size → M' k → M k) (h : Fr M' W W') : keepR w M W W' :=
  ⟨h.size, fun k _ hk hm ho => (h.block k (by omega) fun hm' => hm (hsub k hk hm')).trans ho⟩

theorem keepR.put {w : World} {M : Nat → Prop} {W : World} {l : Nat} {o : Obj} (hl : w.heap.size ≤ l) : keepR w M W (W.putObj l o) :=
  ⟨by simp [World.putObj], fun k o' hk _ ho => (World.putObj_heap_other (by omega)).trans ho⟩

def deadK (m : Nat) : Kont := leafK (fun _ => []) m
/-- The loop's assignment, and then its body. -/
def andK (P : Program) (Γ : Gam) (n : Nat) (body : Code) (m : Nat) : Kont := fun e T' H' => match e with
  | .normal => execC P Γ n noLam body T' H' (deadK m)
  | _ => .err

def jumpOf : Ex → Code
  | .ret => .ret
  | .exit id => .exit id
  | .normal => .skip

theorem SR.own_cells {M : Nat → Prop} {w0 : World} {ν0 : Nu} {T : List AV} {H : List AB} {a : Act} {w : World} {ν : Nu} (h : SR M w0 ν0 T H a w ν) {l : Nat} {o : Obj} (hl : w.heap[l]? = some o) (ho : o.isCells = false) : ¬ ownM w ν H l := by
  rintro (hk | ⟨i, b, hw, hb, rfl⟩)
  · rw [Array.getElem?_eq_none hk] at hl; cases hl
  · have hbr := h.heap.br i
    cases hH : H.getD i .gone with
    | cells cs t =>
      rw [hH] at hbr
      obtain ⟨b', l, h1, _, h2, _⟩ := hbr
      rw [hb] at h1
      cases h1
      rw [hl] at h2
      cases h2
      cases ho
    | row rw n s g t =>
      rw [hH] at hbr
      rcases hbr with ⟨_, _, h1⟩ | ⟨b', l, t', fz, h1, h2, _⟩
      · rw [hb] at h1; cases h1
      · rw [hb] at h1
        cases h1
        rw [hl] at h2
        cases h2
        cases ho
    | gone => rw [hH] at hw; cases hw

/-- HOW A ROUND MAY END, in blocks. -/
def RoundQ {α : Type} (lv : Ex → Bool) (hp : List α → List AB) (hx : Ex → List α → List AB) (pre : List α) : Ex → List AV → List AB → Prop := fun e _ H' => match e with
  | .normal => Hsim H' (hp pre)
  | e => lv e = true ∧ Hsim H' (hx e pre)

theorem range_law {α : Type} {P : Program} {Γ : Gam} (hΓ : GamOk P Γ) (hmix : P.follows .mixedOrders = true) (hent : Enters P) {g : Operand} {gf : Nat} {lb : Array Value} {encs : α → List Value} {ps : Array Tmp} {assign body : Code} {S Sp : List α → Prop} {N nn n : Nat} {T : List AV} {a : Act} {w : World} {ν : Nu}
    (hg : a.eval g = .func (.func gf) #[] lb) (eg : ∀ args w, (callFunc gf args).run P w = .ok (.enter gf args) w) (lv : Ex → Bool) (hp : List α → List AB) (hx : Ex → List α → List AB) (hD1 : codeDef assign = true) (hD2 : codeDef body = true)
    {m : Nat} (hm : (hp []).length = m) (h0 : SR (ownM w ν (hp [])) w ν T (hp []) a w ν)
    (hseq : SeqStopsK (wideR none) nn P gf lb (fun x => (encs x).toArray) (keepR w (ownM w ν (hp []))) S Sp N w)
    (hps : ∀ x, (encs x).length = ps.size) (hpT : ∀ p ∈ ps.toList, p < T.length)
    (hround : ∀ pre x, pre.length < N → (execC P Γ n noLam assign (parT ps.toList (encs x) T) (hp pre) (andK P Γ n body m)).ok (RoundQ lv hp hx (pre ++ [x])))
    {Q : Exit → Act → World → Prop}
    (hdone : ∀ D xs W ν', w.heap.size ≤ D → S xs → SR (ownM w ν (hp [])) w ν T (hp xs) a W ν' → W.heap[D]? = some (.deferred (some [])) → Q .normal { a with defers := { target := .collected D, args := #[] } :: a.defers } W)
    (hleave : ∀ D e pre W ν', w.heap.size ≤ D → e ≠ .normal → lv e = true → Sp pre → SR (ownM w ν (hp [])) w ν T (hx e pre) a W ν' → W.heap[D]? = some (.deferred (some [])) → Q (Ex.to e) { a with defers := { target := .collected D, args := #[] } :: a.defers } W) :
    (Code.rangeFunc g ps assign body).wpIn (wideR none) (nn + 1) P Q a w := by
  have hM : ∀ k, w.heap.size ≤ k → ownM w ν (hp []) k := fun k hk => .inl hk
  refine wpIn_rangeFunc fun fn hfn => ?_
  obtain ⟨rec, hrec⟩ : ∃ rec : LoopState → Option Code → Loop, rec = fun st pe => { state := st, pending := pe, fn, tmps := a.tmps, params := ps, assign, body, defers := w.heap.size } := ⟨_, rfl⟩
  obtain ⟨W1, hW1⟩ : ∃ W1, (w.alloc (.deferred (some []))).alloc (.loop (rec .ready none)) = W1 := ⟨_, rfl⟩
  have hsz : W1.heap.size = w.heap.size + 2 := by rw [← hW1]; simp
  have hL1 : W1.heap[w.heap.size + 1]? = some (.loop (rec .ready none)) := by
    rw [← hW1]; have := World.alloc_heap_new (w.alloc (.deferred (some []))) (.loop (rec .ready none)); rwa [World.size_alloc] at this
  have hK1 : W1.heap[w.heap.size]? = some (.deferred (some [])) := by
    rw [← hW1]; exact (Below.heap_alloc _ _ _ (by simp)).trans (World.alloc_heap_new w _)
  have hg1 : w.grownBy W1 none := by
    rw [← hW1]
    have e1 := World.grownBy_alloc w (.deferred (some [])) none
    have e2 := World.grownBy_alloc (w.alloc (.deferred (some []))) (.loop (rec .ready none)) none
    exact ⟨e2.os.trans e1.os, e2.tape.trans e1.tape, e2.output.trans e1.output, Nat.le_trans e1.size e2.size, fun k hk hn => (e2.block k (Nat.lt_of_lt_of_le hk e1.size) hn).trans (e1.block k hk hn)⟩
  have hb1 : Below w.heap.size w W1 := ⟨hg1.os, hg1.tape, hg1.output, hg1.size, fun k hk => hg1.block k hk (by simp)⟩
  -- the caller's word: I
  let I : List α → World → Prop := fun pre W => ∃ ν', SR (ownM w ν (hp [])) w ν T (hp pre) a W ν'
  let Ix : Ex → List α → World → Prop := fun e pre W => (e ≠ .normal ∧ lv e = true) ∧ ∃ ν', SR (ownM w ν (hp [])) w ν T (hx e pre) a W ν'
  have hI : ∀ pre W W' row, I pre W → W.grownBy W' row → (∀ r, row = some r → w.heap.size ≤ r ∧ ∃ o : Obj, W.heap[r]? = some o ∧ o.isCells = false) → I pre W' :=
    fun pre W W' row ⟨ν', hs⟩ hg hr => ⟨ν', hs.turn hM hg hr⟩
  have hIx : ∀ e pre W W' row, Ix e pre W → W.grownBy W' row → (∀ r, row = some r → w.heap.size ≤ r ∧ ∃ o : Obj, W.heap[r]? = some o ∧ o.isCells = false) → Ix e pre W' :=
    fun e pre W W' row ⟨hn, ν', hs⟩ hg hr => ⟨hn, ν', hs.turn hM hg hr⟩
  have hI1 : I [] W1 := hI [] w W1 none ⟨ν, h0⟩ hg1 fun r e => by cases e
  have hnw : ∀ {A : World} {row : Option Nat}, (∀ r, row = some r → W1.heap.size ≤ r ∧ ∃ o : Obj, A.heap[r]? = some o ∧ o.isWalk = true) → (∀ r, row = some r → w.heap.size ≤ r ∧ ∃ o : Obj, A.heap[r]? = some o ∧ o.isCells = false) :=
    fun hr r e => by obtain ⟨hB, o, ho, hw⟩ := hr r e; exact ⟨by omega, o, ho, Obj.not_cells_of_walk hw⟩
  refine ⟨w.heap.size + 1, [{ target := .collected w.heap.size, args := #[] }], W1, { target := .fn (.func gf) lb, args := #[.func (.yield (w.heap.size + 1)) #[] #[]] }, W1, gf,
    #[.func (.yield (w.heap.size + 1)) #[] #[]] ++ lb, W1, ?_, ?_, fun _ _ => trivial, ?_, fun h => (by cases h), ?_⟩
  · rw [← hW1, hrec]; exact run_enterLoop_outer _ _ _ _ _
  · simp only [resolve, hg]
    simp [go_sem]
  · simp [invoke, go_sem, eg]
  · refine (hseq (w.heap.size + 1)
      (fun pre W => I pre W ∧ W.heap[w.heap.size + 1]? = some (.loop (rec .ready none)) ∧ W.heap[w.heap.size]? = some (.deferred (some [])))
      (fun pre W => ∃ e, Ix e pre W ∧ W.heap[w.heap.size + 1]? = some (.loop (rec .done (some (jumpOf e)))) ∧ W.heap[w.heap.size]? = some (.deferred (some [])))
      W1 hb1
      (fun s A B row hs hg' hr => ⟨hI s A B row hs.1 hg' (hnw hr), (grownBy_keeps hg' (fun r e => (hr r e).2) hs.2.1 rfl).trans hs.2.1, (grownBy_keeps hg' (fun r e => (hr r e).2) hs.2.2 rfl).trans hs.2.2⟩)
      (fun s A B row hs hg' hr => by
        obtain ⟨e, hc, hl, hk⟩ := hs
        exact ⟨e, hIx e s A B row hc hg' (hnw hr), (grownBy_keeps hg' (fun r e => (hr r e).2) hl rfl).trans hl, (grownBy_keeps hg' (fun r e => (hr r e).2) hk rfl).trans hk⟩)
      ?_ ⟨hI1, hL1, hK1⟩).mono ?_
    · rintro pre x W ⟨⟨ν', hs⟩, hl, hk⟩ hlen
      have hlt : w.heap.size + 1 < W.heap.size := (Array.getElem?_eq_some_iff.1 hl).1
      have hy := run_yield (P := P) (args := (encs x).toArray) hl (by rw [hrec]; simp [hps x])
      rw [hrec] at hy
      refine ⟨fn, _, assign, body, hy, roundIn_of_wpIn hfn ?_⟩
      have hpar := par_sr (ps := ps.toList) (vs := encs x) (T := T) (t := a.tmps) hpT hs.len hs.tmps
      have hfold : (ps.zip (encs x).toArray).foldl (fun t (p, v) => t.setIfInBounds p v) a.tmps = (ps.toList.zip (encs x)).foldl (fun t (p, v) => t.setIfInBounds p v) a.tmps := by
        rw [← Array.foldl_toList, Array.toList_zip]
      have hstart : SR (ownM w ν (hp [])) w ν (parT ps.toList (encs x) T) (hp pre) { tmps := (ps.toList.zip (encs x)).foldl (fun t (p, v) => t.setIfInBounds p v) a.tmps, defers := [] } W ν' :=
        ⟨hpar.1, hs.heap, hs.fr, hs.dom, hpar.2, hs.le⟩
      have hsub1 : ∀ k, k < w.heap.size → ownM W ν' (hp pre) k → ownM w ν (hp []) k := by
        rintro k hk (hk' | ⟨i, b, hw, hb, rfl⟩)
        · have := hs.fr.size; omega
        · exact hs.heap.own i b hw hb
      have run1 := execC_in hΓ hmix hent (some (w.heap.size + 1)) (nn - 1) [] n assign hD1 (ownM W ν' (hp pre)) W ν' (fun k hk => .inl hk) _ _ _ _ _ W ν' (hround pre x hlen) hstart.rebase rfl
      show assign.wpIn (wideR (some (w.heap.size + 1))) (nn - 1) P _ _ W
      simp only [hfold]
      refine wpIn_mono run1 ?_
      rintro e a1 Wa ⟨e1, T1, H1, ν1, rfl, hk1, hS1, hd1⟩
      cases e1 with
      | exit id => exact hk1.elim
      | ret => exact hk1.elim
      | normal =>
        have hlA : Wa.heap[w.heap.size + 1]? = some (.loop (rec .ready none)) := (hS1.fr.block _ hlt (hs.own_cells hl rfl)).trans hl
        have hkA : Wa.heap[w.heap.size]? = some (.deferred (some [])) := (hS1.fr.block _ (by omega) (hs.own_cells hk rfl)).trans hk
        have hSu := hstart.unbase hM hS1
        refine ⟨_, run_beginRound hlA (by rw [hrec]), ?_⟩
        obtain ⟨W2, hW2⟩ : ∃ W2, Wa.putObj (w.heap.size + 1) (.loop { rec .ready none with state := .busy }) = W2 := ⟨_, rfl⟩
        have hl2 : W2.heap[w.heap.size + 1]? = some (.loop { rec .ready none with state := .busy }) := by rw [← hW2]; exact World.putObj_heap_same (Array.getElem?_eq_some_iff.1 hlA).1
        have hk2 : W2.heap[w.heap.size]? = some (.deferred (some [])) := by rw [← hW2]; exact (World.putObj_heap_other (by omega)).trans hkA
        have hS2 : SR (ownM w ν (hp [])) w ν T1 H1 a1 W2 ν1 := by
          rw [← hW2]
          refine hSu.turn hM (grownBy_putObj' Wa _ _) fun r e => ?_
          cases e
          exact ⟨by omega, _, hlA, rfl⟩
        have hkp2 : keepR w (ownM w ν (hp [])) W W2 := by
          rw [← hW2]
          exact (keepR.fr (hs.fr.size) hsub1 hS1.fr).trans (keepR.put (by omega))
        rw [hW2]
        have hsub2 : ∀ k, k < w.heap.size → ownM W2 ν1 H1 k → ownM w ν (hp []) k := by
          rintro k hk (hk' | ⟨i, b, hw, hb, rfl⟩)
          · have := hS2.fr.size; omega
          · exact hS2.heap.own i b hw hb
        have run2 := execC_in hΓ hmix hent (some (w.heap.size + 1)) (nn - 1) [] n body hD2 (ownM W2 ν1 H1) W2 ν1 (fun k hk => .inl hk) _ _ _ _ a1 W2 ν1 hk1 hS2.rebase hd1
        refine wpIn_mono run2 ?_
        rintro e a2 W3 ⟨e2, T2, H2, ν2, rfl, hk3, hS3, hd3⟩
        have hl3 : W3.heap[w.heap.size + 1]? = some (.loop { rec .ready none with state := .busy }) := (hS3.fr.block _ (Array.getElem?_eq_some_iff.1 hl2).1 (hS2.own_cells hl2 rfl)).trans hl2
        have hk3' : W3.heap[w.heap.size]? = some (.deferred (some [])) := (hS3.fr.block _ (Array.getElem?_eq_some_iff.1 hk2).1 (hS2.own_cells hk2 rfl)).trans hk2
        have hS4 := hS2.unbase hM hS3
        have hkp3 := hkp2.trans (keepR.fr hS2.fr.size hsub2 hS3.fr)
        unfold deadK leafK at hk3
        split at hk3
        · rename_i p hwk
          have hS5 := weak_sound hwk hS4 (by rw [← hm]; exact h0.dom)
          have fin : ∀ (jump : Option Code), (Instr.endRound (w.heap.size + 1) jump).run P W3 = .ok (.bool jump.isNone) (W3.putObj (w.heap.size + 1) (.loop (rec (if jump.isNone then .ready else .done) jump))) ∧
              (W3.putObj (w.heap.size + 1) (.loop (rec (if jump.isNone then .ready else .done) jump))).heap[w.heap.size + 1]? = some (.loop (rec (if jump.isNone then .ready else .done) jump)) ∧
              (W3.putObj (w.heap.size + 1) (.loop (rec (if jump.isNone then .ready else .done) jump))).heap[w.heap.size]? = some (.deferred (some [])) ∧ ∀ HH ν3, SR (ownM w ν (hp [])) w ν p.1 HH a2 W3 ν3 → SR (ownM w ν (hp [])) w ν T HH a (W3.putObj (w.heap.size + 1) (.loop (rec (if jump.isNone then .ready else .done) jump))) ν3 := fun jump => by
            have := run_endRound (P := P) jump hl3
            rw [hrec] at this ⊢
            refine ⟨this, World.putObj_heap_same (Array.getElem?_eq_some_iff.1 hl3).1, (World.putObj_heap_other (by omega)).trans hk3', fun HH ν3 hh => ?_⟩
            have h1 : SR (ownM w ν (hp [])) w ν T HH a W3 ν3 := ⟨fun t => (h0.tmps t).le hh.le, hh.heap, hh.fr, hh.dom, h0.len, hh.le⟩
            refine h1.turn hM (grownBy_putObj' W3 _ _) fun r e => ?_
            cases e
            exact ⟨by omega, _, hl3, rfl⟩
          cases e2 with
          | normal =>
            obtain ⟨f1, f2, f3, f4⟩ := fin none
            exact ⟨_, _, f1, .inl ⟨rfl, ⟨⟨_, f4 _ _ (hS5.sim hk3)⟩, f2, f3⟩, hkp3.trans (keepR.put (by omega))⟩⟩
          | ret =>
            obtain ⟨f1, f2, f3, f4⟩ := fin (some .ret)
            exact ⟨_, _, f1, .inr ⟨rfl, .ret, ⟨⟨(by simp), hk3.1⟩, _, f4 _ _ (hS5.sim hk3.2)⟩, f2, f3⟩⟩
          | exit id =>
            obtain ⟨f1, f2, f3, f4⟩ := fin (some (.exit id))
            exact ⟨_, _, f1, .inr ⟨rfl, .exit id, ⟨⟨(by simp), hk3.1⟩, _, f4 _ _ (hS5.sim hk3.2)⟩, f2, f3⟩⟩
        · exact hk3.elim
    · rintro e W2 ⟨⟨v, rfl⟩, (⟨xs, hS, ⟨ν', hi⟩, hl, hk⟩ | ⟨pre, hSp, e, ⟨hne, ν', hi⟩, hl, hk⟩)⟩
      · have hend := run_endLoop (P := P) hl (by rw [hrec]; simp)
        rw [hrec] at hend
        refine ⟨none, _, hend, hdone _ xs _ ν' (Nat.le_refl _) hS (hi.turn hM (grownBy_putObj' W2 _ _) fun r e => ?_) ((World.putObj_heap_other (by omega)).trans hk)⟩
        cases e
        exact ⟨by omega, _, hl, rfl⟩
      · have hend := run_endLoop (P := P) hl (by rw [hrec]; simp)
        rw [hrec] at hend
        have hi' := hi.turn (w' := W2.putObj (w.heap.size + 1) (.loop { rec .done (some (jumpOf e)) with state := .exhausted })) hM (grownBy_putObj' W2 _ _) fun r e => by
          cases e
          exact ⟨by omega, _, hl, rfl⟩
        have hk' : (W2.putObj (w.heap.size + 1) (.loop { rec .done (some (jumpOf e)) with state := .exhausted })).heap[w.heap.size]? = some (.deferred (some [])) := (World.putObj_heap_other (by omega)).trans hk
        rw [hrec] at hi' hk'
        refine ⟨_, _, hend, ?_⟩
        cases e with
        | normal => exact (hne.1 rfl).elim
        | ret => exact wpIn_ret (hleave _ .ret pre _ ν' (Nat.le_refl _) hne.1 hne.2 hSp hi' hk')
        | exit id => exact wpIn_exit (hleave _ (.exit id) pre _ ν' (Nat.le_refl _) hne.1 hne.2 hSp hi' hk')

end Go.Proofs.Ytkbdppnlojlcdaa

/- The abstract machine, 21: a function whose body holds a loop over a function. Conditions: the word of the function that yields. -/
namespace Go.Proofs.Ytkbdppnlojlcdaa
open Go.RowKit

def nestL : List Code → Code → Code
  | [], z => z
  | c :: cs, z => .seq c (nestL cs z)
def execL (P : Program) (Γ : Gam) (n : Nat) : List Code → List AV → List AB → Kont → Res
  | [], T, H, K => K .normal T H
  | c :: cs, T, H, K => execC P Γ n noLam c T H (fun e T' H' => match e with
    | .normal => execL P Γ n cs T' H' K
    | _ => .err)

theorem execL_in {P : Program} {Γ : Gam} (hΓ : GamOk P Γ) (hmix : P.follows .mixedOrders = true) (hent : Enters P) (nn n : Nat) {M : Nat → Prop} {w0 : World} {ν0 : Nu} (hM : ∀ k, w0.heap.size ≤ k → M k) {K : Kont} {Q : Ex → List AV → List AB → Prop} {z : Code} {Qw : Exit → Act → World → Prop}
    (hz : ∀ T H a w ν, (K .normal T H).ok Q → SR M w0 ν0 T H a w ν → a.defers = [] → z.wpIn (wideR none) nn P Qw a w) :
    ∀ (cs : List Code), cs.all codeDef = true → ∀ T H a w ν, (execL P Γ n cs T H K).ok Q → SR M w0 ν0 T H a w ν → a.defers = [] → (nestL cs z).wpIn (wideR none) nn P Qw a w
  | [], _, T, H, a, w, ν, h, hS, hd => hz T H a w ν h hS hd
  | c :: cs, hD, T, H, a, w, ν, h, hS, hd => by
    simp only [List.all_cons, Bool.and_eq_true] at hD
    refine wpIn_seq (wpIn_mono (execC_in hΓ hmix hent none nn [] n c hD.1 M w0 ν0 hM T H _ Q a w ν h hS hd) ?_)
    rintro e a' w' ⟨e', T', H', ν', rfl, hk, hS', hd'⟩
    cases e' with
    | normal => exact execL_in hΓ hmix hent nn n hM hz cs hD.2 T' H' a' w' ν' hk hS' hd'
    | exit id => exact hk.elim
    | ret => exact hk.elim

/-- Less is known. -/
theorem SR.less {M : Nat → Prop} {w0 : World} {ν0 : Nu} {T T' : List AV} {H H' : List AB} {a : Act} {w : World} {ν : Nu} (h : SR M w0 ν0 T H a w ν) (hl : T'.length = T.length) (hT : ∀ t, T'.getD t .dead = T.getD t .dead ∨ T'.getD t .dead = .dead) (hn : H'.length = H.length) (hH : ∀ i, H'.getD i .gone = H.getD i .gone ∨ H'.getD i .gone = .gone) : SR M w0 ν0 T' H' a w ν := by
  refine ⟨fun t => ?_, ⟨fun i => ?_, fun i j b b' hne hw hlv => ?_, fun i b hw => ?_, h.heap.lt⟩, h.fr, fun i b hb => by rw [hn]; exact h.dom i b hb, by rw [hl]; exact h.len, h.le⟩
  · rcases hT t with e | e
    · rw [e]; exact h.tmps t
    · rw [e]; simp only [VR]
  · rcases hH i with e | e
    · simp only [e]; exact h.heap.br i
    · simp only [e]; trivial
  · refine h.heap.sep i j b b' hne ?_ ?_
    · rcases hH i with e | e
      · rw [e] at hw; exact hw
      · rw [e] at hw; cases hw
    · rcases hH j with e | e
      · rw [e] at hlv; exact hlv
      · rw [e] at hlv; cases hlv
  · refine h.heap.own i b ?_
    rcases hH i with e | e
    · rw [e] at hw; exact hw
    · rw [e] at hw; cases hw

theorem mask_less {T TT : List AV} {live : List Nat} (h : T = maskT live 0 TT) (t : Nat) : T.getD t .dead = TT.getD t .dead ∨ T.getD t .dead = .dead := by
  subst h
  rw [maskT_get]
  split
  · exact .inl rfl
  · exact .inr rfl

/-- Behind the loop. -/
def behind (P : Program) (Γ : Gam) (n : Nat) (fn : Func) (id : Nat) (rest : Code) (Kc : AV → List AB → Res) : Kont :=
  exitK id (thenK (fun T H => execC P Γ n noLam rest T H (finC P fn Kc)) (finC P fn Kc))

theorem calls_range {α : Type} {P : Program} {Γ : Gam} (hΓ : GamOk P Γ) (hmix : P.follows .mixedOrders = true) (hent : Enters P) {f : FuncId} {fn : Func} (hf : P.funcs[f]? = some fn) {pre : List Code} {p2 rest assign body : Code} {id : Nat} {g : Operand} {ps : Array Tmp}
    (hb : fn.body = some (nestL pre (.seq (.seq p2 (.block id (.rangeFunc g ps assign body))) rest))) (hDp : pre.all codeDef = true) (hD2 : codeDef p2 = true) (hDr : codeDef rest = true) (hDa : codeDef assign = true) (hDb : codeDef body = true) {n nn : Nat}
    {avs : List AV} {TT : List AV} {HH H0 : List AB} {lvp : Ex → List Nat} {gf : Nat} {cs : List AV} {encs : α → List Value} {S Sp : List α → Prop} {N : Nat} {Q : Ex → List AV → List AB → Prop}
    (hpre : (execL P Γ n (pre ++ [p2]) (avs ++ List.replicate (fn.ntmps - avs.length) (.v undef)) H0 (leafK lvp H0.length)).ok (fun e T' H' => e = .normal ∧ T' = TT ∧ H' = HH)) (hg : evA TT g = .fn gf cs)
    (T : List AV) (hTl : T.length = TT.length) (hT : ∀ t, T.getD t .dead = TT.getD t .dead ∨ T.getD t .dead = .dead) (lv : Ex → Bool) (hp : List α → List AB) (hx : Ex → List α → List AB) (hHl : (hp []).length = HH.length) (hH : ∀ i, (hp []).getD i .gone = HH.getD i .gone ∨ (hp []).getD i .gone = .gone)
    (eg : ∀ args w, (callFunc gf args).run P w = .ok (.enter gf args) w)
    (hIter : ∀ W ν1 a1 lb, SR (ownM W ν1 HH) W ν1 TT HH a1 W ν1 → VRs ν1 cs lb → SeqStopsK (wideR none) nn P gf lb.toArray (fun x => (encs x).toArray) (keepR W (ownM W ν1 (hp []))) S Sp N W)
    (hps : ∀ x, (encs x).length = ps.size) (hpT : ∀ p ∈ ps.toList, p < T.length)
    (hround : ∀ pre x, pre.length < N → (execC P Γ n noLam assign (parT ps.toList (encs x) T) (hp pre) (andK P Γ n body HH.length)).ok (RoundQ lv hp hx (pre ++ [x])))
    (hdone : ∀ xs, S xs → (behind P Γ n fn id rest (packK H0.length) .normal T (hp xs)).ok Q)
    (hleave : ∀ e pre, e ≠ .normal → lv e = true → Sp pre → (behind P Γ n fn id rest (packK H0.length) e T (hx e pre)).ok Q) :
    ∀ (M : Nat → Prop) (vals : List Value) (w : World) (ν : Nu), (∀ k, w.heap.size ≤ k → M k) → VRs ν avs vals → RH M ν (fun b => H0.getD b .gone) w → (∀ i b, ν i = some b → i < H0.length) →
      Calls P f vals.toArray w (RetG Q M ν w) := by
  intro M vals w ν hM hv hR hdom
  rw [← callsIn_wide (n := nn + 1), ← wideR_none]
  refine callsIn_of_wp_marks hf hb trivial ?_
  have hst := start_sr (fn := fn) hv hR hdom
  -- the end of the function, deferred calls and all
  have leave : ∀ (e : Exit) (e' : Ex) (D : Nat) (T' : List AV) (H' : List AB) (a' : Act) (w' : World) (ν' : Nu), (e = .normal ∨ e = .ret) → a'.defers = [{ target := .collected D, args := #[] }] → (finC P fn (packK H0.length) .ret T' H').ok Q → SR M w ν T' H' a' w' ν' → w.heap.size ≤ D → w'.heap[D]? = some (.deferred (some [])) →
      bodyPostM (wideR none) (nn + 1) P fn (RetG Q M ν w) e a' w' := by
    intro e e' D T' H' a' w' ν' he hd hk hS hDl hDd
    have key : LeavesInM (wideR none) (nn + 1) P fn a'.tmps (RetG Q M ν w) a'.defers .returning w' := by
      rw [hd]
      refine ⟨by simp, .inl ⟨D, _, rfl, run_takeDeferred hDd, ?_⟩⟩
      have hS' := hS.turn (w' := w'.putObj D (.deferred none)) hM (grownBy_putObj' w' D _) fun r e => by
        cases e
        exact ⟨hDl, _, hDd, rfl⟩
      simp only [finC] at hk
      split at hk
      · rename_i vs ob hres
        obtain ⟨h1, h2⟩ := needs_ok hk
        obtain ⟨v, h3, h4⟩ := results_run hS'.tmps hS'.heap.br hres h1
        refine ⟨v, h3, ?_⟩
        unfold packK at h2
        split at h2
        · rename_i p hp'
          have hSo : SR M w ν [oneA vs] H' { tmps := #[v], defers := [] } (w'.putObj D (.deferred none)) ν' := by
            refine ⟨fun t => ?_, hS'.heap, hS'.fr, hS'.dom, by simp, hS'.le⟩
            cases t with
            | zero => simpa using h4
            | succ t => simp only [List.getD_cons_succ, List.getD_nil, VR]
          have hW := weak_sound hp' hSo hdom
          have hp1 : p.1.length = 1 := by
            have := hp'
            unfold weak at this
            split at this
            · rename_i T1 H1 hT hH1
              cases hc : (nodupB (keepOf H0.length (maskT [0] 0 [oneA vs]) H') && (keepOf H0.length (maskT [0] 0 [oneA vs]) H').take H0.length == upN 0 H0.length) with
              | false => rw [hc] at this; cases this
              | true =>
                rw [hc] at this
                cases this
                have := renAs_length hT
                simpa [maskT] using this
            · cases this
          match hp2 : p.1, hp1 with
          | [av'], _ =>
            rw [hp2] at h2 hW
            exact ⟨v, av', p.2, _, rfl, h2, by simpa using hW.tmps 0, hW.heap, hW.fr, hW.le, hW.dom⟩
        · exact h2.elim
      · exact hk.elim
    rcases he with rfl | rfl
    · exact key
    · exact key
  -- behind the loop: from what holds there
  have after : ∀ (e : Ex) (D : Nat) (T' : List AV) (H' : List AB) (a' : Act) (w' : World) (ν' : Nu), a'.defers = [{ target := .collected D, args := #[] }] → (behind P Γ n fn id rest (packK H0.length) e T' H').ok Q → SR M w ν T' H' a' w' ν' → w.heap.size ≤ D → w'.heap[D]? = some (.deferred (some [])) →
      Exit.inBlock id (Exit.then (rest.wpIn (wideR none) (nn + 1) P (bodyPostM (wideR none) (nn + 1) P fn (RetG Q M ν w))) (bodyPostM (wideR none) (nn + 1) P fn (RetG Q M ν w))) (Ex.to e) a' w' := by
    intro e D T' H' a' w' ν' hd hk hS hDl hDd
    have run : (execC P Γ n noLam rest T' H' (finC P fn (packK H0.length))).ok Q → rest.wpIn (wideR none) (nn + 1) P (bodyPostM (wideR none) (nn + 1) P fn (RetG Q M ν w)) a' w' := by
      intro hk
      refine wpIn_mono (execC_in hΓ hmix hent none (nn + 1) _ n rest hDr (ownM w' ν' H') w' ν' (fun k hk => .inl hk) T' H' _ Q a' w' ν' hk hS.rebase hd) ?_
      rintro e a2 w2 ⟨e2, T2, H2, ν2, rfl, hk2, hS2, hd2⟩
      have hD2 : w2.heap[D]? = some (.deferred (some [])) := (hS2.fr.block D (Array.getElem?_eq_some_iff.1 hDd).1 (hS.own_cells hDd rfl)).trans hDd
      have hS3 := hS.unbase hM hS2
      cases e2 with
      | normal => exact leave _ .normal D T2 H2 a2 w2 ν2 (.inl rfl) hd2 hk2 hS3 hDl hD2
      | ret => exact leave _ .ret D T2 H2 a2 w2 ν2 (.inr rfl) hd2 hk2 hS3 hDl hD2
      | exit j => exact hk2.elim
    cases e with
    | normal => exact run hk
    | ret => exact leave .ret .ret D T' H' a' w' ν' (.inr rfl) hd hk hS hDl hDd
    | exit j =>
      simp only [behind, exitK] at hk
      simp only [Ex.to, Exit.inBlock]
      cases hj : Nat.beq j id with
      | true =>
        rw [hj] at hk
        rw [if_pos (Nat.eq_of_beq_eq_true hj)]
        exact run hk
      | false =>
        rw [hj] at hk
        exact hk.elim
  have hpre' : (execL P Γ n pre (avs ++ List.replicate (fn.ntmps - avs.length) (.v undef)) H0 (fun e T' H' => match e with
      | .normal => execL P Γ n [p2] T' H' (leafK lvp H0.length)
      | _ => .err)).ok (fun e T' H' => e = .normal ∧ T' = TT ∧ H' = HH) := by
    have app : ∀ (l : List Code) (T : List AV) (H : List AB), execL P Γ n (l ++ [p2]) T H (leafK lvp H0.length) = execL P Γ n l T H (fun e T' H' => match e with
      | .normal => execL P Γ n [p2] T' H' (leafK lvp H0.length)
      | _ => .err) := by
      intro l
      induction l with
      | nil => intro T H; rfl
      | cons c l ih =>
        intro T H
        simp only [List.cons_append, execL]
        congr 1
        funext e T' H'
        cases e with
        | normal => exact ih T' H'
        | _ => rfl
    rw [← app]
    exact hpre
  refine execL_in hΓ hmix hent (nn + 1) n hM (fun T2 H2 a2 w2 ν2 hk2 hS2 hd2 => ?_) pre hDp _ _ _ _ _ hpre' hst rfl
  refine wpIn_seq (wpIn_seq (wpIn_mono (execC_in hΓ hmix hent none (nn + 1) [] n p2 hD2 M w ν hM T2 H2 _ _ a2 w2 ν2 hk2 hS2 hd2) ?_))
  rintro e a3 w3 ⟨e3, T3, H3, ν3, rfl, hk3, hS3, hd3⟩
  cases e3 with
  | exit j => exact hk3.elim
  | ret => exact hk3.elim
  | normal =>
    simp only [execL] at hk3
    unfold leafK at hk3
    split at hk3
    · rename_i p hwk
      obtain ⟨_, hp1, hp2⟩ := hk3
      have hS4 := weak_sound hwk hS3 hdom
      rw [hp1, hp2] at hS4
      generalize keepNu (keepOf H0.length (maskT (lvp .normal) 0 T3) H3) ν3 = ν4 at hS4
      have hSr := hS4.rebase
      have hgv : VR ν4 (.fn gf cs) (a3.eval g) := by
        have := evA_sound (T := TT) (a := a3) (ν := ν4) (z := g) fun t _ => hS4.tmps t
        rw [hg] at this
        exact this
      simp only [VR] at hgv
      obtain ⟨lb, hlb, hvs⟩ := hgv
      have hS5 : SR (ownM w3 ν4 (hp [])) w3 ν4 T (hp []) a3 w3 ν4 := (hS4.less (T' := T) (H' := hp []) hTl hT hHl hH).rebase
      have hS5M : SR M w ν T (hp []) a3 w3 ν4 := hS4.less (T' := T) (H' := hp []) hTl hT hHl hH
      show (Code.block id (.rangeFunc g ps assign body)).wpIn (wideR none) (nn + 1) P _ a3 w3
      refine wpIn_block ?_
      have sz := hS4.fr.size
      refine range_law hΓ hmix hent hlb eg lv hp hx hDa hDb hHl hS5 (hIter w3 ν4 a3 lb hSr hvs) hps hpT hround (fun D xs W ν' hD hs hS hDd => ?_) (fun D e pre W ν' hD hne hlv hs hS hDd => ?_)
      · refine after .normal D T (hp xs) _ W ν' (by rw [← hd3]) (hdone xs hs) ?_ (by omega) hDd
        have := hS5M.unbase hM hS
        exact ⟨this.tmps, this.heap, this.fr, this.dom, this.len, this.le⟩
      · refine after e D T (hx e pre) _ W ν' (by rw [← hd3]) (hleave e pre hne hlv hs) ?_ (by omega) hDd
        have := hS5M.unbase hM hS
        exact ⟨this.tmps, this.heap, this.fr, this.dom, this.len, this.le⟩
    · exact hk3.elim

end Go.Proofs.Ytkbdppnlojlcdaa

/- The abstract machine, 20: a region that draws its order, up to an operation behind which all is in line. Conditions: those of the table of callees. -/
namespace Go.Proofs.Ytkbdppnlojlcdaa
open Go.RowKit

/-- From k on each operation stands behind all of the first k. -/
def tailOk (k : Nat) (all : List Oper) : Bool := (List.range all.length).all fun i => Nat.blt i k || (List.range k).all fun j => ((befL all []).getD i 0).testBit j
def cutL (k n : Nat) : Array Bool := ((List.range n).map fun j => decide (j < k)).toArray

theorem cut_count : ∀ {k n : Nat}, k ≤ n → (((List.range n).map fun j => decide (j < k)).toArray.toList).count false = n - k := by
  intro k n
  induction n with
  | zero => intro h; simp
  | succ n ih =>
    intro h
    simp only [List.range_succ, List.map_append, List.map_cons, List.map_nil, List.count_append] at ih ⊢
    by_cases hk : k ≤ n
    · rw [ih hk, decide_eq_false (by omega)]
      simp
      omega
    · have : k = n + 1 := by omega
      subst this
      have h0 : ((List.range n).map fun j => decide (j < n + 1)).count false = 0 := by
        rw [List.count_eq_zero]
        intro hm
        obtain ⟨j, hj, e⟩ := List.mem_map.1 hm
        have := List.mem_range.1 hj
        simp at e
        omega
      rw [h0, decide_eq_true (by omega)]
      simp

theorem zip_take : ∀ (l : List Oper) (es : List Ent), List.zipWith Item.mk (l.take es.length) es = List.zipWith Item.mk l es
  | [], es => by simp
  | o :: l, [] => by simp
  | o :: l, e :: es => by simp [zip_take l es]

theorem any_cut {P : Program} {Γ : Gam} (hΓ : GamOk P Γ) {nn k : Nat} {all : List Oper} {es : List Ent} {M : Nat → Prop} {w0 : World} {ν0 : Nu} (hM : ∀ k, w0.heap.size ≤ k → M k) {T : List AV} {H : List AB} {T' : List AV} {H' : List AB} (r : RunOk P Γ all (all.take k) es T H T' H') (hkl : k ≤ all.length) (hnd : noDef all.toArray = true) (hB : drawOk all es = true) (hC : tailOk k all = true)
    {a : Act} {w : World} {ν : Nu} {Q : Exit → Act → World → Prop} (hQo : ¬ LetsOut Q) (h : SR M w0 ν0 T H a w ν) (hQ : ∀ a' w' ν', SR M w0 ν0 T' H' a' w' ν' → a'.defers = a.defers → wpAnyIn (wideR none) nn P .any all.toArray Q (all.length - k) (cutL k all.length) a' w') : wpAnyIn (wideR none) nn P .any all.toArray Q all.length (Array.replicate all.length false) a w := by
  have rl : es.length = k := by rw [run_len r]; simp; omega
  have hitems : items (all.take k) es = items all es := by
    simp only [items]
    rw [← rl]
    exact zip_take all es
  have ra : RunAt P Γ all all es T H T' H' := by
    have r0 := run_at r
    have := r0.at_
    exact ⟨by omega, r0.lenT, r0.lenH, by rw [← hitems]; exact r0.at_, by rw [← hitems]; exact r0.endT, by rw [← hitems]; exact r0.endH, by rw [← hitems]; exact r0.base, by rw [← hitems]; exact r0.apart, by rw [← hitems]; exact r0.lt⟩
  have hlen : (items all es).length = k := by simp [items, rl]; omega
  simp only [drawOk, Bool.and_eq_true] at hB
  obtain ⟨hB1, hB2⟩ := hB
  have edges : ∀ (i : Nat) o, all[i]? = some o → ∀ e ∈ o.after, Region.binds .any e = true → e.on < i := fun i o ho e he hb => by simpa using edgesOk_spec hB1 i o ho e he hb
  have races : ∀ (i j : Nat) x y, i < j → (items all es)[i]? = some x → (items all es)[j]? = some y → ((befL all []).getD j 0).testBit i = true ∨ apartI all.toArray x y = true := fun i j x y hij hx hy => raceFree_spec hB2 j y hy i x (by simpa using hij) (by simpa using hx)
  have key : ∀ (f : Nat) (listed : Array Bool) (a' : Act) (w' : World) (ν' : Nu), listed.size = all.length → listed.toList.count false = f → Closed all (fun j => listed.getD j false) → (∀ j, k ≤ j → listed.getD j false = false) →
      Stage M w0 ν0 T.length H.length (fun t => T.getD t .dead) (fun b => H.getD b .gone) (items all es) (fun j => listed.getD j false) a' w' ν' → a'.defers = a.defers → wpAnyIn (wideR none) nn P .any all.toArray Q f listed a' w' := by
    intro f
    have fin : ∀ (f : Nat) (listed : Array Bool) (a' : Act) (w' : World) (ν' : Nu), listed.size = all.length → listed.toList.count false = f → (∀ j, k ≤ j → listed.getD j false = false) →
        Stage M w0 ν0 T.length H.length (fun t => T.getD t .dead) (fun b => H.getD b .gone) (items all es) (fun j => listed.getD j false) a' w' ν' → a'.defers = a.defers → (∀ j, j < k → listed.getD j false = true) → wpAnyIn (wideR none) nn P .any all.toArray Q f listed a' w' := by
      intro f listed a' w' ν' hs hcnt hno st hd allT
      have e1 : listed = cutL k all.length := by
        apply Array.ext
        · simp [cutL, hs]
        · intro j hj1 hj2
          simp only [cutL, List.getElem_toArray, List.getElem_map, List.getElem_range]
          have h1 : listed.getD j false = listed[j] := by simp [Array.getD, hj1]
          rw [← h1]
          by_cases hjk : j < k
          · rw [allT j hjk, decide_eq_true hjk]
          · rw [hno j (by omega), decide_eq_false hjk]
      have e2 : f = all.length - k := by
        rw [← hcnt, e1]
        simp only [cutL]
        exact cut_count hkl
      rw [e2, e1]
      exact hQ a' w' ν' (stage_end ra st fun j hj => allT j (by omega)) hd
    induction f with
    | zero =>
      intro listed a' w' ν' hs hcnt hc hno st hd
      refine fin 0 listed a' w' ν' hs hcnt hno st hd fun j hj => ?_
      have hjs : j < listed.size := by omega
      have hne : false ∉ listed.toList := List.count_eq_zero.1 hcnt
      have : listed[j] ≠ false := fun e => hne (by rw [← e]; simp)
      simp [Array.getD, hjs]
      simpa using this
    | succ f ih =>
      intro listed a' w' ν' hs hcnt hc hno st hd
      by_cases hall : ∀ j, j < k → listed.getD j false = true
      · exact fin (f + 1) listed a' w' ν' hs hcnt hno st hd hall
      refine ⟨fun hnil => (hall fun j hj => ?_).elim, fun i hi => wpOp_in hnd hQo ?_⟩
      · induction j using Nat.strongRecOn with
        | _ j jh =>
          cases hl : listed.getD j false with
          | true => rfl
          | false =>
            have : j ∈ Region.ready .any all.toArray listed := by
              rw [mem_ready]
              refine ⟨by rw [getD_bool (by omega) true false]; exact hl, all[j], by simp [show j < all.length by omega], fun e he hb => ?_⟩
              have hlt := edges j all[j] (by simp [show j < all.length by omega]) e he hb
              exact jh e.on hlt (by omega)
            rw [hnil] at this
            cases this
      · obtain ⟨h1, o, ho, he⟩ := mem_ready.1 hi
        have hil : i < all.length := by simpa using (Array.getElem?_eq_some_iff.1 ho).1
        have hoa : all[i]? = some o := by simpa using ho
        have hS0 : listed.getD i false = false := by rw [getD_bool (by omega) false true]; exact h1
        have hik : i < k := by
          rcases Nat.lt_or_ge i k with h | h
          · exact h
          · exfalso
            have anc0 : ∀ q, ((befL all []).getD i 0).testBit q = true → listed.getD q false = true := befL_spec (S := fun j => listed.getD j false) (r := all) (acc := []) hc rfl (fun j o hj => by simp at hj) i o hoa he
            have := List.all_eq_true.1 hC i (by simpa using hil)
            rcases Bool.or_eq_true_iff.1 this with h' | h'
            · rw [Nat.blt_eq] at h'; omega
            · exact hall fun j hj => anc0 j (List.all_eq_true.1 h' j (by simpa using hj))
        have hix : (items all es)[i]? = some (items all es)[i] := List.getElem?_eq_getElem (by omega)
        generalize hxg : (items all es)[i] = x at hix
        have hxo : x.o = o := by
          simp only [items, List.getElem?_zipWith] at hix
          split at hix
          · rename_i o' e' h1' h2'
            cases hix
            rw [hoa] at h1'
            cases h1'
            rfl
          · cases hix
        -- ancestors of i are listed; those of a listed one are listed
        have anc : ∀ q, ((befL all []).getD i 0).testBit q = true → listed.getD q false = true := befL_spec (S := fun j => listed.getD j false) (r := all) (acc := []) hc rfl (fun j o hj => by simp at hj) i o hoa he
        have anc' : ∀ j, listed.getD j false = true → j < all.length → ∀ q, ((befL all []).getD j 0).testBit q = true → listed.getD q false = true := by
          intro j hj hjl
          have hjx : all[j]? = some all[j] := List.getElem?_eq_getElem hjl
          exact befL_spec (S := fun j => listed.getD j false) (r := all) (acc := []) hc rfl (fun j o hj => by simp at hj) j _ hjx (hc.cl j _ hjx hj)
        have before : ∀ (j : Nat) y, j < i → (items all es)[j]? = some y → apartI all.toArray y x = true ∨ listed.getD j false = true := by
          intro j y hj hy
          rcases races j i y x hj hy hix with h | h
          · exact .inr (anc j h)
          · exact .inl h
        have after' : ∀ (j : Nat) y, i < j → (items all es)[j]? = some y → apartI all.toArray x y = true ∨ listed.getD j false = false := by
          intro j y hj hy
          rcases races i j x y hj hix hy with h | h
          · right
            cases hl : listed.getD j false with
            | false => rfl
            | true =>
              have hjl : j < all.length := by
                have := (List.getElem?_eq_some_iff.1 hy).1
                omega
              have := anc' j hl hjl i h
              rw [hS0] at this
              cases this
          · exact .inl h
        refine stage_step hΓ hM ra hix st hS0 (fun t ht => ?_) (fun b hb => ?_) (fun t ht j y hj hy hdy => ?_) (fun b hb j y hj hy hwy => ?_) fun a'' w'' ν'' st' hd' => ?_
        · refine foldT_congr rfl fun j y hy hdy => ?_
          simp only [Nat.zero_add]
          rcases Nat.lt_trichotomy j i with hj | hj | hj
          · rw [decide_eq_true hj]
            exact (before j y hj hy).resolve_left fun ha => ((apartI_tmps ha).1 t hdy).1 ht
          · subst hj
            rw [hS0]
            simp
          · rw [decide_eq_false (by omega)]
            exact (after' j y hj hy).resolve_left fun ha => (apartI_tmps ha).2 t hdy ht
        · refine foldH_congr rfl fun j y hy hdy => ?_
          simp only [Nat.zero_add]
          rcases Nat.lt_trichotomy j i with hj | hj | hj
          · rw [decide_eq_true hj]
            exact (before j y hj hy).resolve_left fun ha => ((apartI_blocks ha).1 b hdy).1 hb
          · subst hj
            rw [hS0]
            simp
          · rw [decide_eq_false (by omega)]
            exact (after' j y hj hy).resolve_left fun ha => (apartI_blocks ha).2 b hdy hb
        · rcases after' j y hj hy with h | h
          · exact absurd hdy ((apartI_tmps h).1 t ht).2
          · exact h
        · rcases after' j y hj hy with h | h
          · exact absurd hwy ((apartI_blocks h).1 b hb).2
          · exact h
        · have hset : (fun j => (listed.setIfInBounds i true).getD j false) = also (fun j => listed.getD j false) i := by
            funext j
            simp only [also]
            by_cases e : i = j
            · subst e
              simp [Array.getD, show i < listed.size by omega]
            · rw [getD_set_ne false e]
              have : (j == i) = false := by simp; exact fun h => e h.symm
              rw [this, Bool.or_false]
          refine ih (listed.setIfInBounds i true) a'' w'' ν'' (by simpa using hs) ?_ ⟨fun j o' ho' hj e he' hb => ?_⟩ (fun j hj => by rw [getD_set_ne false (by omega)]; exact hno j hj) (by rw [hset]; exact st') (hd'.trans hd)
          · have hi' : i < listed.toList.length := by simp; omega
            have hval : listed.toList[i] = false := by
              have : i < listed.size := by omega
              simp [Array.getD, this] at hS0
              simpa using hS0
            simp only [Array.toList_setIfInBounds]
            rw [List.count_set hi']
            simp [hval, hcnt]
          · have hset' : ∀ j, (listed.setIfInBounds i true).getD j false = also (fun j => listed.getD j false) i j := congrFun hset
            rw [hset'] at hj ⊢
            simp only [also, Bool.or_eq_true, beq_iff_eq] at hj ⊢
            rcases hj with hj | rfl
            · exact .inl (hc.cl j o' ho' hj e he' hb)
            · rw [hoa] at ho'
              cases ho'
              exact .inl (he e he' hb)
  have rep : ∀ j, (Array.replicate all.length false).getD j false = false := by
    intro j
    rw [Array.getD_eq_getD_getElem?, Array.getElem?_replicate]
    split <;> rfl
  refine key all.length _ a w ν (by simp) (by simp) ⟨fun j o ho hj => ?_⟩ (fun j _ => rep j) (stage_start h _ fun j => rep j) rfl
  rw [rep j] at hj
  cases hj

end Go.Proofs.Ytkbdppnlojlcdaa

/- The function that yields the sides of a polygon: its word. Conditions: the list holds points. -/
namespace Go.Proofs.Ytkbdppnlojlcdaa
open Go.RowKit
set_option maxRecDepth 100000

abbrev rowC (a : Nat → Nat → Int) : Nat → List Value := fun j => [i64 (a j 0), i64 (a j 1), i64 (a j 2), i64 (a j 3), i64 (a j 4), i64 (a j 5), i64 (a j 6), i64 (a j 7)]
/-- A side, as yield is handed it. -/
abbrev pairV (p q : Nat → Int) : Value := .agg #[i64 (p 0), i64 (p 1), i64 (p 2), i64 (p 3), i64 (p 4), i64 (p 5), i64 (p 6), i64 (p 7), i64 (q 0), i64 (q 1), i64 (q 2), i64 (q 3), i64 (q 4), i64 (q 5), i64 (q 6), i64 (q 7)]

def outK : Kont := fun e T H => .out e T H
abbrev yv (l : Nat) : Value := .func (.yield l) #[] #[]
abbrev slI (m c : Nat) : AV := .sl 1 8 0 0 m (some c)
abbrev hpI (a : Nat → Nat → Int) (m c : Nat) (tB tr : TypeId) : List AB := [.cells [slI m c] tB, .row false m 8 (rowC a) tr]
def stI (l m c i : Nat) : List AV := mkT 0 26 [(0, .v (yv l)), (1, .ptr 0 1 0 0), (5, slI m c), (6, .v (i64 m)), (7, .v (i64 i))]

noncomputable def regI0 : Code := match (Try.f101).body with | some (.seq r _) => r | _ => .skip
noncomputable def loopI : Code := loopAt 0 Try.f101
def sqA : Code → Code | .seq a _ => a | c => c
def sqB : Code → Code | .seq _ b => b | c => c
def blB : Code → Code | .block _ b => b | c => c
theorem bodyI : (Try.f101).body = some (.seq regI0 (.block 0 (.loop loopI))) := by kernel_rfl
noncomputable def regI1 : Code := sqA loopI
noncomputable def condI : Code := sqA (sqB loopI)
noncomputable def regI2 : Code := sqA (blB (sqA (sqB (sqB loopI))))
noncomputable def regI3 : Code := sqA (sqB (blB (sqA (sqB (sqB loopI)))))
noncomputable def regI4 : Code := sqB (sqB (sqB loopI))
noncomputable def opsI3 : Array Oper := match regI3 with | .region _ o _ => o | _ => #[]
theorem loopI_eq : loopI = .seq regI1 (.seq (.cond (.tmp 8) .skip (.exit 0)) (.seq (.block 1 (.seq regI2 (.seq (.region 3 opsI3 true) (.cond (.tmp 24) .ret .skip)))) regI4)) := by kernel_rfl

theorem runI0 (l m c : Nat) (a : Nat → Nat → Int) (tB tr : TypeId) : execC Try.prog g0 100 noLam regI0 ([.v (yv l), .ptr 0 1 0 0] ++ List.replicate 24 (.v undef)) (hpI a m c tB tr) (leafK (lv3 [0, 1, 5, 6, 7] [] []) 2)
    = .out .normal (stI l m c 0) (hpI a m c tB tr) := by kernel_rfl
theorem runI1 (l m c i : Nat) (a : Nat → Nat → Int) (tB tr : TypeId) : execC Try.prog g0 100 noLam regI1 (stI l m c i) (hpI a m c tB tr) outK
    = .out .normal ((stI l m c i).set 8 (.v (.bool (decide ((i : Int) < m))))) (hpI a m c tB tr) := by kernel_rfl
noncomputable def opsL : List Oper := opsI3.toList
/-- Region 2, and region 3 up to the call of yield. -/
noncomputable def runR (T : List AV) (H : List AB) : Res := execC Try.prog g0 100 noLam regI2 T H fun e T' H' => match e with
  | .normal => execOps Try.prog g0 opsL (opsL.take 11) T' H' [] fun T'' H'' tr => cond (drawOk opsL tr.reverse) (leafK (lv3 [0, 1, 5, 6, 7, 12, 22] [] []) 2 .normal T'' H'') .err
  | _ => .err
theorem runI2 (l m c i : Nat) (q : Bool) (a : Nat → Nat → Int) (tB tr : TypeId) : runR ((stI l m c i).set 8 (.v (.bool q))) (hpI a m c tB tr)
    = needs [decide ((i : Int) < m), decide (0 + i < m), !decide ((m : Int) = 0), decide (0 ≤ (W (i + 1)).tmod m), decide ((W (i + 1)).tmod m < m), decide (0 + ((W (i + 1)).tmod m).toNat < m)]
      (.out .normal (((stI l m c i).set 12 (.v (yv l))).set 22 (.v (pairV (a (0 + i)) (a (0 + ((W (i + 1)).tmod m).toNat))))) (hpI a m c tB tr)) := by kernel_rfl

theorem runI4 (l m c i : Nat) (b : Bool) (v : Value) (a : Nat → Nat → Int) (tB tr : TypeId) : execC Try.prog g0 100 noLam regI4 (((((stI l m c i).set 12 (.v (yv l))).set 22 (.v v)).set 23 (.v (.bool true))).set 24 (.v (.bool b))) (hpI a m c tB tr) (leafK (lv3 [0, 1, 5, 6, 7] [] []) 2)
    = .out .normal (mkT 0 26 [(0, .v (yv l)), (1, .ptr 0 1 0 0), (5, slI m c), (6, .v (i64 m)), (7, .v (i64 (W (i + 1))))]) (hpI a m c tB tr) := by kernel_rfl

theorem leaf_post {ds : List Deferred} {M : Nat → Prop} {w0 : World} {ν0 : Nu} {lv : Ex → List Nat} {m : Nat} {Q : Ex → List AV → List AB → Prop} {e : Exit} {a : Act} {w : World} (h : postD ds M w0 ν0 (leafK lv m) Q e a w) (hν : ∀ i b, ν0 i = some b → i < m) :
    ∃ e' T H ν, e = Ex.to e' ∧ Q e' T H ∧ SR M w0 ν0 T H a w ν ∧ a.defers = ds := by
  obtain ⟨e', T, H, ν, rfl, hk, hS, hd⟩ := h
  unfold leafK at hk
  split at hk
  · rename_i p hp
    exact ⟨e', p.1, p.2, _, rfl, hk, weak_sound hp hS hν, hd⟩
  · exact hk.elim

theorem yield_op {nn : Nat} {P : Program} {ops : Array Oper} {Q : Exit → Act → World → Prop} {i l : Nat} {o : Oper} {x y : Operand} {ts : Array TypeId} {K : Act → World → Prop} {R : Ending → World → Prop} {a : Act} {w : World} {v : Value} (ho : ops[i]? = some o) (hop : o.op = .call ⟨.value x, #[y], ts⟩) (hgu : o.guard = none)
    (hx : a.eval x = yv l) (hy : a.eval y = v) (h : YieldAt (wideR none) (nn - 1) P l #[v] w R) (hR : ∀ e w', R e w' → ∃ b, e = .returned b ∧ K (a.put o.dst b) w') : wpOpIn (wideR none) nn P ops Q i K a w := by
  unfold wpOpIn
  rw [ho]
  simp only
  rw [if_pos (by simp [Region.wanted, hgu])]
  refine ⟨fun _ _ => trivial, ?_⟩
  obtain ⟨fn, tmps, assign, body, e, hr⟩ := h
  have hs : (o.semAt (wideR none).round a.eval).run P w = .ok (.round l fn tmps assign body) w := by
    rw [show (wideR none).round = none from rfl, Oper.semAt_none]
    cases o with
    | mk dst op ty pos after guard =>
      simp only at hop
      subst hop
      simp [execOp, resolve, hx, hy, Deferred.ofValue, invoke, e]
  rw [hs, Oper.uponIn_round]
  refine ⟨fun h => (by cases h), hr.mono fun e w' he => ?_⟩
  obtain ⟨b, rfl, hk⟩ := hR e w' he
  exact hk

theorem not_op {nn : Nat} {P : Program} {ops : Array Oper} {Q : Exit → Act → World → Prop} {i : Nat} {t : TypeId} {o : Oper} {x : Operand} {K : Act → World → Prop} {a : Act} {w : World} {b : Bool} (ho : ops[i]? = some o) (hop : o.op = .unOp .not t x) (hgu : o.guard = none)
    (hx : a.eval x = .bool b) (hK : K (a.put o.dst (.bool (!b))) w) : wpOpIn (wideR none) nn P ops Q i K a w := by
  unfold wpOpIn
  rw [ho]
  simp only
  rw [if_pos (by simp [Region.wanted, hgu])]
  refine ⟨fun _ _ => trivial, ?_⟩
  have hs : (o.semAt (wideR none).round a.eval).run P w = .ok (.value (.bool (!b))) w := by
    rw [show (wideR none).round = none from rfl, Oper.semAt_none]
    cases o with
    | mk dst op ty pos after guard =>
      simp only at hop
      subst hop
      have he : execOp a.eval ⟨dst, .unOp .not t x, ty, pos, after, guard⟩ = (do pure (.value (← Op.unary .not (a.eval x)))) := rfl
      rw [he, hx]
      simp [Op.unary]
  rw [hs]
  exact hK

noncomputable def opY : Oper := opsL.getD 11 default
noncomputable def opN : Oper := opsL.getD 12 default
theorem opY_at : opsL.toArray[11]? = some opY := by kernel_rfl
theorem opN_at : opsL.toArray[12]? = some opN := by kernel_rfl
theorem opY_op : opY.op = .call ⟨.value (.tmp 12), #[.tmp 22], #[72]⟩ := by kernel_rfl
theorem opN_op : opN.op = .unOp .not 4 (.tmp 23) := by kernel_rfl
theorem opY_g : opY.guard = none := by kernel_rfl
theorem opN_g : opN.guard = none := by kernel_rfl
theorem opY_d : opY.dst = some 23 := by kernel_rfl
theorem opN_d : opN.dst = some 24 := by kernel_rfl
theorem rdy11 : Region.ready .any opsL.toArray (cutL 11 13) = [11] := by kernel_rfl
theorem rdy12 : Region.ready .any opsL.toArray ((cutL 11 13).setIfInBounds 11 true) = [12] := by kernel_rfl
theorem rdyN : Region.ready .any opsL.toArray (((cutL 11 13).setIfInBounds 11 true).setIfInBounds 12 true) = [] := by kernel_rfl
theorem len_ops : opsL.length = 13 := by kernel_rfl
theorem def_ops : noDef opsL.toArray = true := by kernel_rfl
theorem tail_ops : tailOk 11 opsL = true := by kernel_rfl

end Go.Proofs.Ytkbdppnlojlcdaa

/- The function that yields the sides of a polygon: its word. Conditions: the list holds points. -/
namespace Go.Proofs.Ytkbdppnlojlcdaa
open Go.RowKit
set_option maxRecDepth 100000

abbrev MI (W : World) (bB : Nat) : Nat → Prop := fun k => W.heap.size ≤ k ∨ k = bB

theorem box_val {ν : Nu} {a : Nat → Nat → Int} {m c bB cB : Nat} {bL : Bk} {tB tr : TypeId} {X : World} (h : BR ν 0 ((hpI a m c tB tr).getD 0 .gone) X) (h0 : ν 0 = some ⟨bB, 0, cB⟩) (h1 : ν 1 = some bL) (hm : 0 < m) :
    X.heap[bB]? = some (.cells #[.slice (some ⟨bL.n, bL.o, none⟩) m c] tB (0, 0)) := by
  simp only [hpI, List.getD_cons_zero] at h
  obtain ⟨b, l, e1, e2, e3, e4⟩ := h
  rw [h0] at e1
  cases e1
  rw [e3]
  cases l with
  | nil => simp only [VRs] at e4
  | cons y ys =>
    cases ys with
    | cons => simp only [VRs] at e4; exact e4.2.elim
    | nil =>
      simp only [VRs, VR, and_true] at e4
      obtain ⟨p, cc, rfl, h2, h3, h4⟩ := e4
      have := h2 c rfl
      subst this
      obtain ⟨b', h5, h6⟩ := h4 (by omega)
      rw [h1] at h5
      cases h5
      rw [h6]
      simp

theorem sides_stops {nn : Nat} {w : World} {νI : Nu} {bB cB : Nat} {bL : Bk} {a : Nat → Nat → Int} {m c : Nat} {tB tr : TypeId} {M : Nat → Prop}
    (hH : RH (fun k => w.heap.size ≤ k ∨ k = bB) νI (fun b => (hpI a m c tB tr).getD b .gone) w) (h0 : νI 0 = some ⟨bB, 0, cB⟩) (h1 : νI 1 = some bL) (hdom : ∀ i b, νI i = some b → i < 2) (hm0 : 0 < m) (hm : m ≤ 2 ^ 40) (hMb : ¬ M bB) (hML : ¬ M bL.n) :
    SeqStopsK (wideR none) nn Try.prog 101 #[.pointer (some ⟨bB, 0, none⟩)] (fun x : Fin m => [pairV (a x) (a ((x + 1) % m))].toArray) (keepR w M) (fun xs => xs = List.finRange m) (fun _ => True) m w := by
  intro l J Jx W hW hJ hJx hY hJ0
  have ltB : bB < w.heap.size := hH.lt 0 _ h0
  have ltL : bL.n < w.heap.size := hH.lt 1 _ h1
  have keepH : ∀ X : World, w.heap.size ≤ X.heap.size → X.heap[bB]? = w.heap[bB]? → X.heap[bL.n]? = w.heap[bL.n]? → RH (MI X bB) νI (fun b => (hpI a m c tB tr).getD b .gone) X := by
    intro X hs e1 e2
    refine ⟨fun i => (hH.br i).of_block fun k hk _ => ?_, hH.sep, fun i b hw hb => ?_, fun i b hb => Nat.lt_of_lt_of_le (hH.lt i b hb) hs⟩
    · have := hdom i k hk
      rcases (by omega : i = 0 ∨ i = 1) with rfl | rfl
      · rw [h0] at hk; cases hk; exact e1
      · rw [h1] at hk; cases hk; exact e2
    · have := hdom i b hb
      rcases (by omega : i = 0 ∨ i = 1) with rfl | rfl
      · rw [h0] at hb; cases hb; exact .inr rfl
      · simp [AB.wr] at hw
  have nuEq : ∀ ν', Le νI ν' → (∀ i b, ν' i = some b → i < 2) → ν' = νI := by
    intro ν' hle hd
    funext i
    rcases (by omega : i = 0 ∨ i = 1 ∨ 2 ≤ i) with rfl | rfl | hi
    · rw [h0, hle _ _ h0]
    · rw [h1, hle _ _ h1]
    · cases e : ν' i with
      | none =>
        cases e' : νI i with
        | none => rfl
        | some b => have := hdom i b e'; omega
      | some b => have := hd i b e; omega
  have boxW := box_val (hH.br 0) h0 h1 hm0
  -- own steps: new blocks alone
  have grown : ∀ {X X' : World} {T : List AV} {A : Act}, X.heap[bB]? = w.heap[bB]? → SR (MI X bB) X νI T (hpI a m c tB tr) A X' νI → X.grownBy X' none := by
    intro X X' T A hX hS
    refine ⟨hS.fr.os, hS.fr.tape, hS.fr.output, hS.fr.size, fun k hk _ => ?_⟩
    by_cases e : k = bB
    · subst e
      rw [box_val (hS.heap.br 0) h0 h1 hm0, hX, boxW]
    · exact hS.fr.block k hk fun h => by
        rcases h with h | h
        · omega
        · exact e h
  have hpos : ∀ T (A : Act) X X' ν', SR (MI X bB) X νI T (hpI a m c tB tr) A X' ν' → ν' = νI := fun T A X X' ν' h => nuEq ν' h.le fun i b hb => by simpa [hpI] using h.dom i b hb
  -- at the loop's head
  let HD : Nat → Act → World → Prop := fun i A X => A.defers = [] ∧ SR (MI X bB) X νI (stI l m c i) (hpI a m c tB tr) A X νI ∧ J ((List.finRange m).take i) X ∧ X.heap[bB]? = w.heap[bB]? ∧ X.heap[bL.n]? = w.heap[bL.n]? ∧ W.heap.size ≤ X.heap.size
  have hWsz := hW.size
  have e1W : W.heap[bB]? = w.heap[bB]? := hW.block bB ltB
  have e2W : W.heap[bL.n]? = w.heap[bL.n]? := hW.block bL.n ltL
  -- what an own piece of code leaves
  have own : ∀ {X X' : World} {T T' : List AV} {A A' : Act} {ν' : Nu} {i : Nat}, W.heap.size ≤ X.heap.size → X.heap[bB]? = w.heap[bB]? → X.heap[bL.n]? = w.heap[bL.n]? → J ((List.finRange m).take i) X → SR (MI X bB) X νI T (hpI a m c tB tr) A X' ν' →
      J ((List.finRange m).take i) X' ∧ X'.heap[bB]? = w.heap[bB]? ∧ X'.heap[bL.n]? = w.heap[bL.n]? ∧ W.heap.size ≤ X'.heap.size ∧ SR (MI X' bB) X' νI T (hpI a m c tB tr) A X' νI := by
    intro X X' T T' A A' ν' i hs g1 g2 hj hS
    have := hpos _ _ _ _ _ hS
    subst this
    have hg := grown g1 hS
    have k1 := (hg.block bB (by omega) (by simp)).trans g1
    have k2 := (hg.block bL.n (by omega) (by simp)).trans g2
    exact ⟨hJ _ _ _ none hj hg (fun r e => by cases e), k1, k2, Nat.le_trans hs hg.size, ⟨hS.tmps, keepH X' (by have := hg.size; omega) k1 k2, Fr.refl _ _, hS.dom, hS.len, Le.refl _⟩⟩
  refine callsIn_of_wp Try.func101 bodyI trivial ?_
  have hvr : VRs νI [.v (yv l), .ptr 0 1 0 0] [yv l, .pointer (some ⟨bB, 0, none⟩)] := by
    simp only [VRs, VR, and_true, true_and]
    exact ⟨_, h0, by simp⟩
  have hst := start_sr (M := MI W bB) (fn := Try.f101) hvr (keepH W hWsz e1W e2W) (fun i b hb => by simpa [hpI] using hdom i b hb)
  have fin : ∀ (A : Act) (X : World), A.defers = [] → ((J (List.finRange m) X) ∨ ∃ pre, Jx pre X) → bodyPost Try.prog Try.f101 (fun e W' => (∃ v, e = .returned v) ∧ ((∃ xs, xs = List.finRange m ∧ J xs W') ∨ (∃ pre, True ∧ Jx pre W'))) .ret A X := by
    intro A X hd hx
    refine ⟨hd, _, results_none rfl _ _ _, ⟨_, rfl⟩, ?_⟩
    rcases hx with hx | ⟨pre, hx⟩
    · exact .inl ⟨_, rfl, hx⟩
    · exact .inr ⟨pre, trivial, hx⟩
  refine wpIn_seq (wpIn_mono (execC_in (nn := nn) g0_ok mixed enters none [] 100 regI0 (by kernel_rfl) (MI W bB) W νI (fun k hk => .inl hk) _ _ _ (fun e T' H' => e = .normal ∧ T' = stI l m c 0 ∧ H' = hpI a m c tB tr) _ W νI (by rw [show [AV.v (yv l), .ptr 0 1 0 0] ++ List.replicate ((Try.f101).ntmps - [AV.v (yv l), .ptr 0 1 0 0].length) (AV.v undef) = [.v (yv l), .ptr 0 1 0 0] ++ List.replicate 24 (.v undef) from rfl, runI0]; exact ⟨rfl, rfl, rfl⟩) hst rfl) ?_)
  intro e A X hp
  obtain ⟨e', T', H', ν', rfl, ⟨rfl, rfl, rfl⟩, hS, hd⟩ := leaf_post hp hdom
  obtain ⟨j1, k1, k2, k3, hS1⟩ := own (T' := []) (A' := A) (i := 0) (Nat.le_refl _) e1W e2W (by simpa using hJ0) hS
  show (Code.block 0 (.loop loopI)).wpIn (wideR none) nn Try.prog _ A X
  refine wpIn_block (wpIn_loop (fun A X => ∃ i, i ≤ m ∧ HD i A X) (fun A _ => m - (intOf (A.tmps.getD 7 undef)).toNat) ⟨0, Nat.zero_le _, hd, hS1, j1, k1, k2, k3⟩ ?_)
  clear hS hd hS1 j1 k1 k2 k3 hp hst hvr
  rintro A X ⟨i, him, hd, hS, hj, g1, g2, g3⟩
  have mu : ∀ {i : Nat} {A : Act} {X X0 : World}, SR (MI X0 bB) X0 νI (stI l m c i) (hpI a m c tB tr) A X νI → (intOf (A.tmps.getD 7 undef)).toNat = i := by
    intro i A X X0 h
    have := h.tmps 7
    rw [show (stI l m c i).getD 7 .dead = .v (i64 i) from by kernel_rfl] at this
    simp only [VR] at this
    rw [this]
    simp [intOf]
  have hmu := mu hS
  rw [loopI_eq]
  refine wpIn_seq (wpIn_mono (execC_in (nn := nn) g0_ok mixed enters none [] 100 regI1 (by kernel_rfl) (MI X bB) X νI (fun k hk => .inl hk) _ _ _ (fun e T' H' => e = .normal ∧ T' = (stI l m c i).set 8 (.v (.bool (decide ((i : Int) < m)))) ∧ H' = hpI a m c tB tr) _ X νI (by rw [runI1]; exact ⟨rfl, rfl, rfl⟩) hS hd) ?_)
  rintro e A1 X1 ⟨e', T', H', ν', rfl, ⟨rfl, rfl, rfl⟩, hS1, hd1⟩
  obtain ⟨hj1, g11, g12, g13, hS1⟩ := own (T' := []) (A' := A) g3 g1 g2 hj hS1
  have hc8 : A1.eval (.tmp 8) = .bool (decide ((i : Int) < m)) := by
    have := hS1.tmps 8
    rw [show ((stI l m c i).set 8 (.v (.bool (decide ((i : Int) < m))))).getD 8 .dead = .v (.bool (decide ((i : Int) < m))) from by kernel_rfl] at this
    simp only [VR] at this
    exact this
  show (Code.seq (.cond (.tmp 8) .skip (.exit 0)) _).wpIn (wideR none) nn Try.prog _ A1 X1
  refine wpIn_seq (wpIn_cond hc8 ?_)
  rcases (Nat.lt_or_ge i m).symm with hge | hlt
  · -- the end
    rw [if_neg (by simp; omega)]
    refine wpIn_exit ?_
    have : i = m := by omega
    subst this
    simp only [Exit.then, Exit.inBlock, if_true]
    refine fin A1 X1 hd1 (.inl ?_)
    rw [List.take_of_length_le (by simp)] at hj1
    exact hj1
  · rw [if_pos (by simp; omega)]
    refine wpIn_skip ?_
    show (Code.seq (.block 1 _) _).wpIn (wideR none) nn Try.prog _ A1 X1
    refine wpIn_seq (wpIn_block (wpIn_seq ?_))
    -- region 2, and the head of region 3
    have hW1 : Go.Proofs.Ytkbdppnlojlcdaa.W (i + 1) = ((i + 1 : Nat) : Int) := by rw [w64_in (by omega) (by omega)]; omega
    have hnx : (Go.Proofs.Ytkbdppnlojlcdaa.W (i + 1)).tmod m = (((i + 1) % m : Nat) : Int) := by rw [hW1]; exact (Int.ofNat_tmod _ _).symm
    have hml : (i + 1) % m < m := Nat.mod_lt _ hm0
    have hr2 := runI2 l m c i (decide ((i : Int) < m)) a tB tr
    rw [hnx] at hr2
    have hr2 : (runR ((stI l m c i).set 8 (.v (.bool (decide ((i : Int) < m))))) (hpI a m c tB tr)).ok (fun e T' H' => e = .normal ∧ T' = ((stI l m c i).set 12 (.v (yv l))).set 22 (.v (pairV (a i) (a ((i + 1) % m)))) ∧ H' = hpI a m c tB tr) := by
      rw [hr2]
      have ok : obls [decide ((i : Int) < m), decide (0 + i < m), !decide ((m : Int) = 0), decide ((0 : Int) ≤ (((i + 1) % m : Nat) : Int)), decide ((((i + 1) % m : Nat) : Int) < m), decide (0 + (((i + 1) % m : Nat) : Int).toNat < m)] = true := by
        simp only [ob_cons, ob_nil, and_true, decide_eq_true_eq, Bool.not_eq_true', decide_eq_false_iff_not, Int.toNat_natCast]
        refine ⟨by omega, by omega, by omega, by omega, by omega, by omega⟩
      refine (good_needs ok ⟨?_⟩).out
      simp only [Int.toNat_natCast, Nat.zero_add]
      exact ⟨rfl, rfl, rfl⟩
    refine wpIn_mono (execC_in (nn := nn) g0_ok mixed enters none [] 100 regI2 (by kernel_rfl) (MI X1 bB) X1 νI (fun k hk => .inl hk) _ _ _ _ _ X1 νI hr2 hS1 hd1) ?_
    rintro e A2 X2 ⟨e', T2, H2, ν2, rfl, hk2, hS2, hd2⟩
    cases e' with
    | exit id => exact hk2.elim
    | ret => exact hk2.elim
    | normal =>
      obtain ⟨es, T3, H3, hrun, hk3⟩ := execOps_run hk2
      rcases (cond_ok hk3).symm with ⟨_, hk3⟩ | ⟨hdr, hk3⟩
      · exact hk3.elim
      show (Code.seq (.region 3 opsI3 true) _).wpIn (wideR none) nn Try.prog _ A2 X2
      refine wpIn_seq (wpIn_region_any mixed ?_)
      rw [show opsI3 = opsL.toArray by simp [opsL]]
      have hS2' : SR (MI X1 bB) X1 νI T2 H2 A2 { X2 with drawn := X2.drawn + 1 } ν2 := ⟨hS2.tmps, ⟨fun i => (hS2.heap.br i).of_block fun _ _ _ => rfl, hS2.heap.sep, hS2.heap.own, hS2.heap.lt⟩, hS2.fr.drew, hS2.dom, hS2.len, hS2.le⟩
      rw [show opsL.toArray.size = opsL.length by simp]
      refine any_cut (k := 11) g0_ok (fun k hk => .inl hk) hrun (by rw [len_ops]; decide) def_ops (by simpa using hdr) tail_ops ?_ hS2' ?_
      · rintro ⟨A9, X9, ⟨v, hv⟩, _⟩
        cases hv
      · intro A3 X3 ν3 hS3 hd3
        unfold leafK at hk3
        split at hk3
        · rename_i p hwk
          obtain ⟨_, hp1, hp2⟩ := hk3
          have hS4 := weak_sound hwk hS3 hdom
          rw [hp1, hp2] at hS4
          obtain ⟨hj3, g31, g32, g33, hS5⟩ := own (T' := []) (A' := A) g13 g11 g12 hj1 hS4
          have hx12 : A3.eval (.tmp 12) = yv l := by
            have := hS5.tmps 12
            rw [show (((stI l m c i).set 12 (.v (yv l))).set 22 (.v (pairV (a i) (a ((i + 1) % m))))).getD 12 .dead = .v (yv l) from by kernel_rfl] at this
            simp only [VR] at this
            exact this
          have hx22 : A3.eval (.tmp 22) = pairV (a i) (a ((i + 1) % m)) := by
            have := hS5.tmps 22
            rw [show (((stI l m c i).set 12 (.v (yv l))).set 22 (.v (pairV (a i) (a ((i + 1) % m))))).getD 22 .dead = .v (pairV (a i) (a ((i + 1) % m))) from by kernel_rfl] at this
            simp only [VR] at this
            exact this
          have hyl := hY ((List.finRange m).take i) ⟨i, hlt⟩ X3 hj3 (by simp; omega)
          have htake : (List.finRange m).take (i + 1) = (List.finRange m).take i ++ [⟨i, hlt⟩] := by
            rw [List.take_add_one]
            simp [hlt]
          have hsz3 : 24 < A3.tmps.size := by
            have := hS5.len
            have e : (((stI l m c i).set 12 (.v (yv l))).set 22 (.v (pairV (a i) (a ((i + 1) % m))))).length = 26 := by kernel_rfl
            omega
          rw [len_ops]
          refine wpAnyIn_all (fuel := 1) rdy11 (by simp) fun q hq => ?_
          obtain rfl : q = 11 := by simpa using hq
          refine yield_op opY_at opY_op opY_g hx12 hx22 hyl ?_
          rintro e X4 (⟨rfl, hj4, hk4⟩ | ⟨rfl, hjx⟩)
          · refine ⟨.bool true, rfl, wpAnyIn_all (fuel := 0) rdy12 (by simp) fun q hq => ?_⟩
            obtain rfl : q = 12 := by simpa using hq
            rw [opY_d]
            have hx23 : (A3.put (some 23) (.bool true)).eval (.tmp 23) = .bool true := by
              show (A3.put (some 23) (.bool true)).tmps.getD 23 undef = _
              rw [put_getD (fun d e => by cases e; show (23 : Nat) < _; omega)]
              simp
            refine not_op opN_at opN_op opN_g hx23 ⟨rdyN, ?_⟩
            rw [opN_d]
            have hsz4 : w.heap.size ≤ X4.heap.size := by have := hk4.1; omega
            have k1 : X4.heap[bB]? = w.heap[bB]? := by rw [boxW]; exact hk4.2 bB _ ltB hMb (g31.trans boxW)
            have k2 : X4.heap[bL.n]? = w.heap[bL.n]? := by
              cases ho : w.heap[bL.n]? with
              | none => rw [Array.getElem?_eq_none_iff] at ho; omega
              | some o => exact hk4.2 bL.n o ltL hML (g32.trans ho)
            have hS6 : SR (MI X4 bB) X4 νI _ (hpI a m c tB tr) A3 X4 νI := ⟨hS5.tmps, keepH X4 hsz4 k1 k2, Fr.refl _ _, hS5.dom, hS5.len, Le.refl _⟩
            have hS7 := SR.put (dst := some 23) (x := .v (.bool true)) (v := .bool true) hS6 (by kernel_rfl) (Le.refl _) (by simp only [VR]) hS6.heap hS6.fr hS6.dom
            have hS8 := SR.put (dst := some 24) (x := .v (.bool false)) (v := .bool false) hS7 (by kernel_rfl) (Le.refl _) (by simp only [VR]) hS7.heap hS7.fr hS7.dom
            have hx24 : ((A3.put (some 23) (.bool true)).put (some 24) (.bool (!true))).eval (.tmp 24) = .bool false := by
              show ((A3.put (some 23) (.bool true)).put (some 24) (.bool (!true))).tmps.getD 24 undef = _
              rw [put_getD (fun d e => by cases e; rw [put_size']; exact hsz3)]
              simp
            show (Code.cond (.tmp 24) .ret .skip).wpIn (wideR none) nn Try.prog _ _ X4
            refine wpIn_cond_false hx24 (wpIn_skip ?_)
            show regI4.wpIn (wideR none) nn Try.prog _ _ X4
            have hd8 : ((A3.put (some 23) (.bool true)).put (some 24) (.bool (!true))).defers = [] := by rw [put_defers', put_defers']; exact hd3.trans hd2
            refine wpIn_mono (execC_in (nn := nn) g0_ok mixed enters none [] 100 regI4 (by kernel_rfl) (MI X4 bB) X4 νI (fun k hk => .inl hk) _ _ _ (fun e T' H' => e = .normal ∧ T' = stI l m c (i + 1) ∧ H' = hpI a m c tB tr) _ X4 νI (by
              have := runI4 l m c i false (pairV (a i) (a ((i + 1) % m))) a tB tr
              rw [hW1] at this
              show (execC Try.prog g0 100 noLam regI4 (((((stI l m c i).set 12 (.v (yv l))).set 22 (.v (pairV (a i) (a ((i + 1) % m))))).set 23 (.v (.bool true))).set 24 (.v (.bool false))) (hpI a m c tB tr) (leafK (lv3 [0, 1, 5, 6, 7] [] []) 2)).ok _
              rw [this]
              exact ⟨rfl, rfl, rfl⟩) hS8 hd8) ?_
            intro e A6 X6 hp6
            obtain ⟨e', T', H', ν', rfl, ⟨rfl, rfl, rfl⟩, hS9, hd9⟩ := leaf_post hp6 hdom
            obtain ⟨j9, k91, k92, k93, hS9⟩ := own (T' := []) (A' := A) (i := i + 1) (by have := hk4.1; omega) k1 k2 (by rw [htake]; exact hj4) hS9
            refine ⟨⟨i + 1, by omega, hd9, hS9, j9, k91, k92, k93⟩, ?_⟩
            rw [mu hS9, hmu]
            omega
          · refine ⟨.bool false, rfl, wpAnyIn_all (fuel := 0) rdy12 (by simp) fun q hq => ?_⟩
            obtain rfl : q = 12 := by simpa using hq
            rw [opY_d]
            have hx23 : (A3.put (some 23) (.bool false)).eval (.tmp 23) = .bool false := by
              show (A3.put (some 23) (.bool false)).tmps.getD 23 undef = _
              rw [put_getD (fun d e => by cases e; show (23 : Nat) < _; omega)]
              simp
            refine not_op opN_at opN_op opN_g hx23 ⟨rdyN, ?_⟩
            rw [opN_d]
            have hx24 : ((A3.put (some 23) (.bool false)).put (some 24) (.bool (!false))).eval (.tmp 24) = .bool true := by
              show ((A3.put (some 23) (.bool false)).put (some 24) (.bool (!false))).tmps.getD 24 undef = _
              rw [put_getD (fun d e => by cases e; rw [put_size']; exact hsz3)]
              simp
            have hd8 : ((A3.put (some 23) (.bool false)).put (some 24) (.bool (!false))).defers = [] := by rw [put_defers', put_defers']; exact hd3.trans hd2
            show (Code.cond (.tmp 24) .ret .skip).wpIn (wideR none) nn Try.prog _ _ X4
            exact wpIn_cond_true hx24 (wpIn_ret (fin _ X4 hd8 (.inr ⟨_, hjx⟩)))
        · exact hk3.elim

end Go.Proofs.Ytkbdppnlojlcdaa

/- Plain algebra: the program's own ways to the product, the mirrored point, and the signs. No program, no conditions. -/
namespace Go.Proofs.Ytkbdppnlojlcdaa
open Go.RowKit

/-- One step of the reduction: the power k is written in lower ones. -/
def redStep (p : Nat → Int) (k : Nat) : Nat → Int := fun m => if m = k then 0 else if m + 4 = k then W (p m + p k) else if m + 8 = k then W (p m - p k) else p m
/-- d steps, from the power n - 1 on. -/
def redD (p : Nat → Int) (n : Nat) : Nat → Nat → Int
  | 0 => p
  | d + 1 => redStep (redD p n d) (n - 1 - d)

/-- The powers ahead of the reduction, of the mirrored point. -/
def mirP (a : Nat → Int) (m : Nat) : Int := if m = 0 then W (0 + a 0) else if 17 ≤ m ∧ m ≤ 23 then W (0 + a (24 - m)) else 0

set_option maxRecDepth 100000 in
set_option maxHeartbeats 4000000 in
theorem mir_eq (a : Nat → Int) : ∀ k, k < 8 → redD (mirP a) 25 17 k = mirF a k := by
  refine forall8 ?_ ?_ ?_ ?_ ?_ ?_ ?_ ?_ <;>
    simp [redD, redStep, mirP, mirF, mirZ, w64_w64, w64_neg, w64_add_l, w64_add_r, w64_sub_l, w64_sub_r] <;> (congr 1; omega)

/-- The powers ahead of the reduction, of the product, behind s of the sixty-four rounds. -/
def tP (a b : Nat → Int) : Nat → Nat → Int
  | 0 => zeroF
  | s + 1 => fun m => if m = s / 8 + s % 8 then W (tP a b s m + W (a (s / 8) * b (s % 8))) else tP a b s m

set_option maxRecDepth 100000 in
set_option maxHeartbeats 8000000 in
theorem tP_eq (a b : Nat → Int) : ∀ m, m < 15 → tP a b 64 m = W (convF a b m) := by
  iterate 15 refine forall_succ ?_ ?_
  · exact forall_zero
  all_goals
    simp [tP, convF, w64_w64, w64_add_l, w64_add_r]

set_option maxRecDepth 100000 in
set_option maxHeartbeats 4000000 in
theorem red15_eq (p q : Nat → Int) (h : ∀ m, m < 15 → p m = W (q m)) : redD p 15 7 0 = W (q 0 - q 8 - q 12) ∧ redD p 15 7 1 = W (q 1 - q 9 - q 13) ∧ redD p 15 7 2 = W (q 2 - q 10 - q 14) ∧
    redD p 15 7 3 = W (q 3 - q 11) ∧ redD p 15 7 4 = W (q 4 + q 8) ∧ redD p 15 7 5 = W (q 5 + q 9) ∧ redD p 15 7 6 = W (q 6 + q 10) ∧ redD p 15 7 7 = W (q 7 + q 11) := by
  refine ⟨?_, ?_, ?_, ?_, ?_, ?_, ?_, ?_⟩ <;>
    simp [redD, redStep, h, w64_w64, w64_neg, w64_add_l, w64_add_r, w64_sub_l, w64_sub_r] <;> (congr 1; omega)

theorem times_eq (a b : Nat → Int) : ∀ k, k < 8 → redD (tP a b 64) 15 7 k = mulF a b k := by
  obtain ⟨h0, h1, h2, h3, h4, h5, h6, h7⟩ := red15_eq _ _ (tP_eq a b)
  exact forall8 h0 h1 h2 h3 h4 h5 h6 h7


/-- The sign of a - b. -/
def sgZ (a b : Int) : Int := bif decide (a < b) then -1 else bif decide (a > b) then 1 else 0

end Go.Proofs.Ytkbdppnlojlcdaa

/- The abstract machine at the small functions on exact points and surds. No conditions. -/
namespace Go.Proofs.Ytkbdppnlojlcdaa
open Go.RowKit
set_option maxRecDepth 100000

def f_within : List Value → Option (Value × List Bool)
  | [.int .i64 n, .int .i64 l, .int .i64 h] => some (.bool (inR n l h), [])
  | _ => none

theorem ok_within : SpecOk Try.prog 72 (specV f_within) := by
  refine mkV (n := 100) g0_ok Try.func72 rfl fun vs x ob hF ho => ?_
  unfold f_within at hF
  split at hF
  · rename_i n l h
    simp only [Option.some.injEq, Prod.mk.injEq] at hF
    obtain ⟨rfl, rfl⟩ := hF
    have e : execF Try.prog g0 noLam 100 Try.f72 ([.int .i64 n, .int .i64 l, .int .i64 h].map .v) [] valK = cond (decide (n ≥ l)) (rv (.bool (decide (n ≤ h)))) (rv (.bool false)) := by kernel_rfl
    rw [e]
    exact gives_of (by simp only [outV_cond, outV_rv, inR]; cases decide (l ≤ n) <;> rfl)
  · cases hF

def gm_within : Gam := ext g0 72 (specV f_within)
theorem gm_within_ok : GamOk Try.prog gm_within := ext_ok g0_ok ok_within

theorem ok_l6In : SpecOk Try.prog 77 (specV f_within) := by
  refine mkV (n := 100) gm_within_ok Try.func77 rfl fun vs x ob hF ho => ?_
  unfold f_within at hF
  split at hF
  · rename_i n l h
    simp only [Option.some.injEq, Prod.mk.injEq] at hF
    obtain ⟨rfl, rfl⟩ := hF
    have e : execF Try.prog gm_within noLam 100 Try.f77 ([.int .i64 n, .int .i64 l, .int .i64 h].map .v) [] valK = cond (decide (n ≥ l)) (rv (.bool (decide (n ≤ h)))) (rv (.bool false)) := by kernel_rfl
    rw [e]
    exact gives_of (by simp only [outV_cond, outV_rv, inR]; cases decide (l ≤ n) <;> rfl)
  · cases hF

def gm_l6In : Gam := ext gm_within 77 (specV f_within)
theorem gm_l6In_ok : GamOk Try.prog gm_l6In := ext_ok gm_within_ok ok_l6In

def f_small : List Value → Option (Value × List Bool)
  | [.agg ⟨[.int .i64 a0, .int .i64 a1, .int .i64 a2, .int .i64 a3, .int .i64 a4, .int .i64 a5, .int .i64 a6, .int .i64 a7]⟩, .int .i64 m] => some (.bool (smallF (v8 a0 a1 a2 a3 a4 a5 a6 a7) (W (0 - m)) m), [])
  | _ => none

theorem ok_small : SpecOk Try.prog 75 (specV f_small) := by
  refine mkV (n := 100) gm_l6In_ok Try.func75 rfl fun vs x ob hF ho => ?_
  unfold f_small at hF
  split at hF
  · rename_i a0 a1 a2 a3 a4 a5 a6 a7 m
    simp only [Option.some.injEq, Prod.mk.injEq] at hF
    obtain ⟨rfl, rfl⟩ := hF
    have e : execF Try.prog gm_l6In noLam 100 Try.f75 ([.agg ⟨[.int .i64 a0, .int .i64 a1, .int .i64 a2, .int .i64 a3, .int .i64 a4, .int .i64 a5, .int .i64 a6, .int .i64 a7]⟩, .int .i64 m].map .v) [] valK = cond (!inR ((v8 a0 a1 a2 a3 a4 a5 a6 a7) 0) (W (0 - m)) m) (rv (.bool false)) (cond (!inR ((v8 a0 a1 a2 a3 a4 a5 a6 a7) 1) (W (0 - m)) m) (rv (.bool false)) (cond (!inR ((v8 a0 a1 a2 a3 a4 a5 a6 a7) 2) (W (0 - m)) m) (rv (.bool false)) (cond (!inR ((v8 a0 a1 a2 a3 a4 a5 a6 a7) 3) (W (0 - m)) m) (rv (.bool false)) (cond (!inR ((v8 a0 a1 a2 a3 a4 a5 a6 a7) 4) (W (0 - m)) m) (rv (.bool false)) (cond (!inR ((v8 a0 a1 a2 a3 a4 a5 a6 a7) 5) (W (0 - m)) m) (rv (.bool false)) (cond (!inR ((v8 a0 a1 a2 a3 a4 a5 a6 a7) 6) (W (0 - m)) m) (rv (.bool false)) (cond (!inR ((v8 a0 a1 a2 a3 a4 a5 a6 a7) 7) (W (0 - m)) m) (rv (.bool false)) (rv (.bool true))))))))) := by kernel_rfl
    rw [e]
    exact gives_of (by simp only [outV_cond, outV_rv, smallF, v8, cond_some, cond_bool])
  · cases hF

def gm_small : Gam := ext gm_l6In 75 (specV f_small)
theorem gm_small_ok : GamOk Try.prog gm_small := ext_ok gm_l6In_ok ok_small

theorem ok_l8Small : SpecOk Try.prog 76 (specV f_small) := by
  refine mkV (n := 100) gm_small_ok Try.func76 rfl fun vs x ob hF ho => ?_
  unfold f_small at hF
  split at hF
  · rename_i a0 a1 a2 a3 a4 a5 a6 a7 m
    simp only [Option.some.injEq, Prod.mk.injEq] at hF
    obtain ⟨rfl, rfl⟩ := hF
    have e : execF Try.prog gm_small noLam 100 Try.f76 ([.agg ⟨[.int .i64 a0, .int .i64 a1, .int .i64 a2, .int .i64 a3, .int .i64 a4, .int .i64 a5, .int .i64 a6, .int .i64 a7]⟩, .int .i64 m].map .v) [] valK = cond (!inR ((v8 a0 a1 a2 a3 a4 a5 a6 a7) 0) (W (0 - m)) m) (rv (.bool false)) (cond (!inR ((v8 a0 a1 a2 a3 a4 a5 a6 a7) 1) (W (0 - m)) m) (rv (.bool false)) (cond (!inR ((v8 a0 a1 a2 a3 a4 a5 a6 a7) 2) (W (0 - m)) m) (rv (.bool false)) (cond (!inR ((v8 a0 a1 a2 a3 a4 a5 a6 a7) 3) (W (0 - m)) m) (rv (.bool false)) (cond (!inR ((v8 a0 a1 a2 a3 a4 a5 a6 a7) 4) (W (0 - m)) m) (rv (.bool false)) (cond (!inR ((v8 a0 a1 a2 a3 a4 a5 a6 a7) 5) (W (0 - m)) m) (rv (.bool false)) (cond (!inR ((v8 a0 a1 a2 a3 a4 a5 a6 a7) 6) (W (0 - m)) m) (rv (.bool false)) (cond (!inR ((v8 a0 a1 a2 a3 a4 a5 a6 a7) 7) (W (0 - m)) m) (rv (.bool false)) (rv (.bool true))))))))) := by kernel_rfl
    rw [e]
    exact gives_of (by simp only [outV_cond, outV_rv, smallF, v8, cond_some, cond_bool])
  · cases hF

def gm_l8Small : Gam := ext gm_small 76 (specV f_small)
theorem gm_l8Small_ok : GamOk Try.prog gm_l8Small := ext_ok gm_small_ok ok_l8Small

def f_plus : List Value → Option (Value × List Bool)
  | [.agg ⟨[.int .i64 a0, .int .i64 a1, .int .i64 a2, .int .i64 a3, .int .i64 a4, .int .i64 a5, .int .i64 a6, .int .i64 a7]⟩, .agg ⟨[.int .i64 b0, .int .i64 b1, .int .i64 b2, .int .i64 b3, .int .i64 b4, .int .i64 b5, .int .i64 b6, .int .i64 b7]⟩] => some (cyv (plusF (v8 a0 a1 a2 a3 a4 a5 a6 a7) (v8 b0 b1 b2 b3 b4 b5 b6 b7)), [])
  | _ => none

theorem ok_plus : SpecOk Try.prog 105 (specV f_plus) := by
  refine mkV (n := 100) gm_l8Small_ok Try.func105 rfl fun vs x ob hF ho => ?_
  unfold f_plus at hF
  split at hF
  · rename_i a0 a1 a2 a3 a4 a5 a6 a7 b0 b1 b2 b3 b4 b5 b6 b7
    simp only [Option.some.injEq, Prod.mk.injEq] at hF
    obtain ⟨rfl, rfl⟩ := hF
    exact one (by kernel_rfl)
  · cases hF

def gm_plus : Gam := ext gm_l8Small 105 (specV f_plus)
theorem gm_plus_ok : GamOk Try.prog gm_plus := ext_ok gm_l8Small_ok ok_plus

def f_scaled : List Value → Option (Value × List Bool)
  | [.agg ⟨[.int .i64 a0, .int .i64 a1, .int .i64 a2, .int .i64 a3, .int .i64 a4, .int .i64 a5, .int .i64 a6, .int .i64 a7]⟩, .int .i64 n] => some (cyv (scaledF (v8 a0 a1 a2 a3 a4 a5 a6 a7) n), [])
  | _ => none

theorem ok_scaled : SpecOk Try.prog 106 (specV f_scaled) := by
  refine mkV (n := 100) gm_plus_ok Try.func106 rfl fun vs x ob hF ho => ?_
  unfold f_scaled at hF
  split at hF
  · rename_i a0 a1 a2 a3 a4 a5 a6 a7 n
    simp only [Option.some.injEq, Prod.mk.injEq] at hF
    obtain ⟨rfl, rfl⟩ := hF
    exact one (by kernel_rfl)
  · cases hF

def gm_scaled : Gam := ext gm_plus 106 (specV f_scaled)
theorem gm_scaled_ok : GamOk Try.prog gm_scaled := ext_ok gm_plus_ok ok_scaled

def f_minus : List Value → Option (Value × List Bool)
  | [.agg ⟨[.int .i64 a0, .int .i64 a1, .int .i64 a2, .int .i64 a3, .int .i64 a4, .int .i64 a5, .int .i64 a6, .int .i64 a7]⟩, .agg ⟨[.int .i64 b0, .int .i64 b1, .int .i64 b2, .int .i64 b3, .int .i64 b4, .int .i64 b5, .int .i64 b6, .int .i64 b7]⟩] => some (cyv (plusF (v8 a0 a1 a2 a3 a4 a5 a6 a7) (scaledF (v8 b0 b1 b2 b3 b4 b5 b6 b7) (-1))), [])
  | _ => none

theorem ok_minus : SpecOk Try.prog 81 (specV f_minus) := by
  refine mkV (n := 100) gm_scaled_ok Try.func81 rfl fun vs x ob hF ho => ?_
  unfold f_minus at hF
  split at hF
  · rename_i a0 a1 a2 a3 a4 a5 a6 a7 b0 b1 b2 b3 b4 b5 b6 b7
    simp only [Option.some.injEq, Prod.mk.injEq] at hF
    obtain ⟨rfl, rfl⟩ := hF
    exact one (by kernel_rfl)
  · cases hF

def gm_minus : Gam := ext gm_scaled 81 (specV f_minus)
theorem gm_minus_ok : GamOk Try.prog gm_minus := ext_ok gm_scaled_ok ok_minus

def f_turnOf : List Value → Option (Value × List Bool)
  | [.int .i64 n] => some (.int .i64 (n % 24), [inR n (-9223372036854775808) 9223372036854775807])
  | _ => none

theorem ok_turnOf : SpecOk Try.prog 108 (specV f_turnOf) := by
  refine mkV (n := 100) gm_minus_ok Try.func108 rfl fun vs x ob hF ho => ?_
  unfold f_turnOf at hF
  split at hF
  · rename_i n
    simp only [Option.some.injEq, Prod.mk.injEq] at hF
    obtain ⟨rfl, rfl⟩ := hF
    have hb := inR_iff.1 (show inR n (-9223372036854775808) 9223372036854775807 = true by simpa [obls] using ho)
    have e : getV (execF Try.prog gm_minus noLam 100 Try.f108 ([.int .i64 n].map .v) [] valK) = some (.int .i64 ((W (n.tmod 24 + 24)).tmod 24)) := by kernel_rfl
    rw [emod_tmod hb.1 hb.2] at e
    exact one e
  · cases hF

def gm_turnOf : Gam := ext gm_minus 108 (specV f_turnOf)
theorem gm_turnOf_ok : GamOk Try.prog gm_turnOf := ext_ok gm_minus_ok ok_turnOf

def f_l1Mod : List Value → Option (Value × List Bool)
  | [.int .i64 n] => some (.int .i64 (n % 24), [])
  | _ => none

theorem ok_l1Mod : SpecOk Try.prog 91 (specV f_l1Mod) := by
  refine mkV (n := 100) gm_turnOf_ok Try.func91 rfl fun vs x ob hF ho => ?_
  unfold f_l1Mod at hF
  split at hF
  · rename_i n
    simp only [Option.some.injEq, Prod.mk.injEq] at hF
    obtain ⟨rfl, rfl⟩ := hF
    have e : execF Try.prog gm_turnOf noLam 100 Try.f91 ([.int .i64 n].map .v) [] valK = cond (decide (n.tmod 24 < 0)) (rv (.int .i64 (W (n.tmod 24 + 24)))) (rv (.int .i64 (n.tmod 24))) := by kernel_rfl
    rw [e]
    exact gives_of (by rw [outV_cond, outV_rv, outV_rv, cond_some, cond_int, modZ_eq])
  · cases hF

def gm_l1Mod : Gam := ext gm_turnOf 91 (specV f_l1Mod)
theorem gm_l1Mod_ok : GamOk Try.prog gm_l1Mod := ext_ok gm_turnOf_ok ok_l1Mod

def f_l1Is : List Value → Option (Value × List Bool)
  | [.int .i64 n] => some (.bool (inR n 0 23), [])
  | _ => none

theorem ok_l1Is : SpecOk Try.prog 112 (specV f_l1Is) := by
  refine mkV (n := 100) gm_l1Mod_ok Try.func112 rfl fun vs x ob hF ho => ?_
  unfold f_l1Is at hF
  split at hF
  · rename_i n
    simp only [Option.some.injEq, Prod.mk.injEq] at hF
    obtain ⟨rfl, rfl⟩ := hF
    exact one (by kernel_rfl)
  · cases hF

def gm_l1Is : Gam := ext gm_l1Mod 112 (specV f_l1Is)
theorem gm_l1Is_ok : GamOk Try.prog gm_l1Is := ext_ok gm_l1Mod_ok ok_l1Is

def f_splus : List Value → Option (Value × List Bool)
  | [.agg ⟨[.int .i64 s0, .int .i64 s1, .int .i64 s2, .int .i64 s3]⟩, .agg ⟨[.int .i64 t0, .int .i64 t1, .int .i64 t2, .int .i64 t3]⟩] => some (sdv (fun k => W ((v4 s0 s1 s2 s3) k + (v4 t0 t1 t2 t3) k)), [])
  | _ => none

theorem ok_splus : SpecOk Try.prog 62 (specV f_splus) := by
  refine mkV (n := 100) gm_l1Is_ok Try.func62 rfl fun vs x ob hF ho => ?_
  unfold f_splus at hF
  split at hF
  · rename_i s0 s1 s2 s3 t0 t1 t2 t3
    simp only [Option.some.injEq, Prod.mk.injEq] at hF
    obtain ⟨rfl, rfl⟩ := hF
    exact one (by kernel_rfl)
  · cases hF

def gm_splus : Gam := ext gm_l1Is 62 (specV f_splus)
theorem gm_splus_ok : GamOk Try.prog gm_splus := ext_ok gm_l1Is_ok ok_splus

def f_sscaled : List Value → Option (Value × List Bool)
  | [.agg ⟨[.int .i64 s0, .int .i64 s1, .int .i64 s2, .int .i64 s3]⟩, .int .i64 n] => some (sdv (fun k => W (n * (v4 s0 s1 s2 s3) k)), [])
  | _ => none

theorem ok_sscaled : SpecOk Try.prog 109 (specV f_sscaled) := by
  refine mkV (n := 100) gm_splus_ok Try.func109 rfl fun vs x ob hF ho => ?_
  unfold f_sscaled at hF
  split at hF
  · rename_i s0 s1 s2 s3 n
    simp only [Option.some.injEq, Prod.mk.injEq] at hF
    obtain ⟨rfl, rfl⟩ := hF
    exact one (by kernel_rfl)
  · cases hF

def gm_sscaled : Gam := ext gm_splus 109 (specV f_sscaled)
theorem gm_sscaled_ok : GamOk Try.prog gm_sscaled := ext_ok gm_splus_ok ok_sscaled

def f_coslo : List Value → Option (Value × List Bool)
  | [.int .i64 n] => some (sdv (cosT n.toNat), [decide (0 ≤ n), decide (n ≤ (12 : Nat))])
  | _ => none

theorem ok_coslo : SpecOk Try.prog 107 (specV f_coslo) := by
  refine mkV (n := 100) gm_sscaled_ok Try.func107 rfl fun vs x ob hF ho => ?_
  unfold f_coslo at hF
  split at hF
  · rename_i n
    simp only [Option.some.injEq, Prod.mk.injEq] at hF
    obtain ⟨rfl, rfl⟩ := hF
    obtain ⟨h0, h1⟩ := obl2 ho
    have h0 := of_decide_eq_true h0
    have h1 := of_decide_eq_true h1
    obtain ⟨k, rfl⟩ := Int.eq_ofNat_of_zero_le h0
    have hc : k = 0 ∨ k = 1 ∨ k = 2 ∨ k = 3 ∨ k = 4 ∨ k = 5 ∨ k = 6 ∨ k = 7 ∨ k = 8 ∨ k = 9 ∨ k = 10 ∨ k = 11 ∨ k = 12 := by omega
    clear ho h0 h1
    rcases hc with rfl | rfl | rfl | rfl | rfl | rfl | rfl | rfl | rfl | rfl | rfl | rfl | rfl
    · exact one (by kernel_rfl)
    · exact one (by kernel_rfl)
    · exact one (by kernel_rfl)
    · exact one (by kernel_rfl)
    · exact one (by kernel_rfl)
    · exact one (by kernel_rfl)
    · exact one (by kernel_rfl)
    · exact one (by kernel_rfl)
    · exact one (by kernel_rfl)
    · exact one (by kernel_rfl)
    · exact one (by kernel_rfl)
    · exact one (by kernel_rfl)
    · exact one (by kernel_rfl)
  · cases hF

def gm_coslo : Gam := ext gm_sscaled 107 (specV f_coslo)
theorem gm_coslo_ok : GamOk Try.prog gm_coslo := ext_ok gm_sscaled_ok ok_coslo

def f_cosine : List Value → Option (Value × List Bool)
  | [.int .i64 n] => some (sdv (cosT n.toNat), [decide (0 ≤ n), decide (n ≤ (23 : Nat))])
  | _ => none

theorem ok_cosine : SpecOk Try.prog 107 (specV f_cosine) := by
  refine mkV (n := 100) gm_coslo_ok Try.func107 rfl fun vs x ob hF ho => ?_
  unfold f_cosine at hF
  split at hF
  · rename_i n
    simp only [Option.some.injEq, Prod.mk.injEq] at hF
    obtain ⟨rfl, rfl⟩ := hF
    obtain ⟨h0, h1⟩ := obl2 ho
    have h0 := of_decide_eq_true h0
    have h1 := of_decide_eq_true h1
    obtain ⟨k, rfl⟩ := Int.eq_ofNat_of_zero_le h0
    have hc : k = 0 ∨ k = 1 ∨ k = 2 ∨ k = 3 ∨ k = 4 ∨ k = 5 ∨ k = 6 ∨ k = 7 ∨ k = 8 ∨ k = 9 ∨ k = 10 ∨ k = 11 ∨ k = 12 ∨ k = 13 ∨ k = 14 ∨ k = 15 ∨ k = 16 ∨ k = 17 ∨ k = 18 ∨ k = 19 ∨ k = 20 ∨ k = 21 ∨ k = 22 ∨ k = 23 := by omega
    clear ho h0 h1
    rcases hc with rfl | rfl | rfl | rfl | rfl | rfl | rfl | rfl | rfl | rfl | rfl | rfl | rfl | rfl | rfl | rfl | rfl | rfl | rfl | rfl | rfl | rfl | rfl | rfl
    · exact one (by kernel_rfl)
    · exact one (by kernel_rfl)
    · exact one (by kernel_rfl)
    · exact one (by kernel_rfl)
    · exact one (by kernel_rfl)
    · exact one (by kernel_rfl)
    · exact one (by kernel_rfl)
    · exact one (by kernel_rfl)
    · exact one (by kernel_rfl)
    · exact one (by kernel_rfl)
    · exact one (by kernel_rfl)
    · exact one (by kernel_rfl)
    · exact one (by kernel_rfl)
    · exact one (by kernel_rfl)
    · exact one (by kernel_rfl)
    · exact one (by kernel_rfl)
    · exact one (by kernel_rfl)
    · exact one (by kernel_rfl)
    · exact one (by kernel_rfl)
    · exact one (by kernel_rfl)
    · exact one (by kernel_rfl)
    · exact one (by kernel_rfl)
    · exact one (by kernel_rfl)
    · exact one (by kernel_rfl)
  · cases hF

def gm_cosine : Gam := ext gm_coslo 107 (specV f_cosine)
theorem gm_cosine_ok : GamOk Try.prog gm_cosine := ext_ok gm_coslo_ok ok_cosine

def f_mirror : List Value → Option (Value × List Bool)
  | [.agg ⟨[.int .i64 a0, .int .i64 a1, .int .i64 a2, .int .i64 a3, .int .i64 a4, .int .i64 a5, .int .i64 a6, .int .i64 a7]⟩] => some (cyv (mirF (v8 a0 a1 a2 a3 a4 a5 a6 a7)), [])
  | _ => none

theorem ok_mirror : SpecOk Try.prog 92 (specV f_mirror) := by
  refine mkV (n := 100) gm_cosine_ok Try.func92 rfl fun vs x ob hF ho => ?_
  unfold f_mirror at hF
  split at hF
  · rename_i a0 a1 a2 a3 a4 a5 a6 a7
    simp only [Option.some.injEq, Prod.mk.injEq] at hF
    obtain ⟨rfl, rfl⟩ := hF
    have e : getV (execF Try.prog gm_cosine noLam 100 Try.f92 ([.agg ⟨[.int .i64 a0, .int .i64 a1, .int .i64 a2, .int .i64 a3, .int .i64 a4, .int .i64 a5, .int .i64 a6, .int .i64 a7]⟩].map .v) [] valK) = some (cyv (redD (mirP (v8 a0 a1 a2 a3 a4 a5 a6 a7)) 25 17)) := by kernel_rfl
    rw [cyv_congr (mir_eq (v8 a0 a1 a2 a3 a4 a5 a6 a7))] at e
    exact one e
  · cases hF

def gm_mirror : Gam := ext gm_cosine 92 (specV f_mirror)
theorem gm_mirror_ok : GamOk Try.prog gm_mirror := ext_ok gm_cosine_ok ok_mirror

def f_times : List Value → Option (Value × List Bool)
  | [.agg ⟨[.int .i64 a0, .int .i64 a1, .int .i64 a2, .int .i64 a3, .int .i64 a4, .int .i64 a5, .int .i64 a6, .int .i64 a7]⟩, .agg ⟨[.int .i64 b0, .int .i64 b1, .int .i64 b2, .int .i64 b3, .int .i64 b4, .int .i64 b5, .int .i64 b6, .int .i64 b7]⟩] => some (cyv (mulF (v8 a0 a1 a2 a3 a4 a5 a6 a7) (v8 b0 b1 b2 b3 b4 b5 b6 b7)), [])
  | _ => none

theorem ok_times : SpecOk Try.prog 93 (specV f_times) := by
  refine mkV (n := 100) gm_mirror_ok Try.func93 rfl fun vs x ob hF ho => ?_
  unfold f_times at hF
  split at hF
  · rename_i a0 a1 a2 a3 a4 a5 a6 a7 b0 b1 b2 b3 b4 b5 b6 b7
    simp only [Option.some.injEq, Prod.mk.injEq] at hF
    obtain ⟨rfl, rfl⟩ := hF
    have e : getV (execF Try.prog gm_mirror noLam 100 Try.f93 ([.agg ⟨[.int .i64 a0, .int .i64 a1, .int .i64 a2, .int .i64 a3, .int .i64 a4, .int .i64 a5, .int .i64 a6, .int .i64 a7]⟩, .agg ⟨[.int .i64 b0, .int .i64 b1, .int .i64 b2, .int .i64 b3, .int .i64 b4, .int .i64 b5, .int .i64 b6, .int .i64 b7]⟩].map .v) [] valK) = some (cyv (redD (tP (v8 a0 a1 a2 a3 a4 a5 a6 a7) (v8 b0 b1 b2 b3 b4 b5 b6 b7) 64) 15 7)) := by kernel_rfl
    rw [cyv_congr (times_eq (v8 a0 a1 a2 a3 a4 a5 a6 a7) (v8 b0 b1 b2 b3 b4 b5 b6 b7))] at e
    exact one e
  · cases hF

def gm_times : Gam := ext gm_mirror 93 (specV f_times)
theorem gm_times_ok : GamOk Try.prog gm_times := ext_ok gm_mirror_ok ok_times

def f_im : List Value → Option (Value × List Bool)
  | [.agg ⟨[.int .i64 a0, .int .i64 a1, .int .i64 a2, .int .i64 a3, .int .i64 a4, .int .i64 a5, .int .i64 a6, .int .i64 a7]⟩] => some (sdv (imF (v8 a0 a1 a2 a3 a4 a5 a6 a7)), [])
  | _ => none

theorem ok_im : SpecOk Try.prog 82 (specV f_im) := by
  refine mkV (n := 100) gm_times_ok Try.func82 rfl fun vs x ob hF ho => ?_
  unfold f_im at hF
  split at hF
  · rename_i a0 a1 a2 a3 a4 a5 a6 a7
    simp only [Option.some.injEq, Prod.mk.injEq] at hF
    obtain ⟨rfl, rfl⟩ := hF
    have e : getV (execF Try.prog gm_times noLam 100 Try.f82 ([.agg ⟨[.int .i64 a0, .int .i64 a1, .int .i64 a2, .int .i64 a3, .int .i64 a4, .int .i64 a5, .int .i64 a6, .int .i64 a7]⟩].map .v) [] valK) = some (sdv (imO (v8 a0 a1 a2 a3 a4 a5 a6 a7) 8)) := by kernel_rfl
    rw [sdv_congr (imO_eq (v8 a0 a1 a2 a3 a4 a5 a6 a7))] at e
    exact one e
  · cases hF

def gm_im : Gam := ext gm_times 82 (specV f_im)
theorem gm_im_ok : GamOk Try.prog gm_im := ext_ok gm_times_ok ok_im

def f_re : List Value → Option (Value × List Bool)
  | [.agg ⟨[.int .i64 a0, .int .i64 a1, .int .i64 a2, .int .i64 a3, .int .i64 a4, .int .i64 a5, .int .i64 a6, .int .i64 a7]⟩] => some (sdv (reF (v8 a0 a1 a2 a3 a4 a5 a6 a7)), [])
  | _ => none

theorem ok_re : SpecOk Try.prog 94 (specV f_re) := by
  refine mkV (n := 100) gm_im_ok Try.func94 rfl fun vs x ob hF ho => ?_
  unfold f_re at hF
  split at hF
  · rename_i a0 a1 a2 a3 a4 a5 a6 a7
    simp only [Option.some.injEq, Prod.mk.injEq] at hF
    obtain ⟨rfl, rfl⟩ := hF
    have e : getV (execF Try.prog gm_im noLam 100 Try.f94 ([.agg ⟨[.int .i64 a0, .int .i64 a1, .int .i64 a2, .int .i64 a3, .int .i64 a4, .int .i64 a5, .int .i64 a6, .int .i64 a7]⟩].map .v) [] valK) = some (sdv (reO (v8 a0 a1 a2 a3 a4 a5 a6 a7) 8)) := by kernel_rfl
    rw [sdv_congr (reO_eq (v8 a0 a1 a2 a3 a4 a5 a6 a7))] at e
    exact one e
  · cases hF

def gm_re : Gam := ext gm_im 94 (specV f_re)
theorem gm_re_ok : GamOk Try.prog gm_re := ext_ok gm_im_ok ok_re

def f_cross : List Value → Option (Value × List Bool)
  | [.agg ⟨[.int .i64 a0, .int .i64 a1, .int .i64 a2, .int .i64 a3, .int .i64 a4, .int .i64 a5, .int .i64 a6, .int .i64 a7]⟩, .agg ⟨[.int .i64 b0, .int .i64 b1, .int .i64 b2, .int .i64 b3, .int .i64 b4, .int .i64 b5, .int .i64 b6, .int .i64 b7]⟩] => some (sdv (imF (mulF (mirF (v8 a0 a1 a2 a3 a4 a5 a6 a7)) (v8 b0 b1 b2 b3 b4 b5 b6 b7))), [])
  | _ => none

theorem ok_cross : SpecOk Try.prog 63 (specV f_cross) := by
  refine mkV (n := 100) gm_re_ok Try.func63 rfl fun vs x ob hF ho => ?_
  unfold f_cross at hF
  split at hF
  · rename_i a0 a1 a2 a3 a4 a5 a6 a7 b0 b1 b2 b3 b4 b5 b6 b7
    simp only [Option.some.injEq, Prod.mk.injEq] at hF
    obtain ⟨rfl, rfl⟩ := hF
    exact one (by kernel_rfl)
  · cases hF

def gm_cross : Gam := ext gm_re 63 (specV f_cross)
theorem gm_cross_ok : GamOk Try.prog gm_cross := ext_ok gm_re_ok ok_cross

def f_along : List Value → Option (Value × List Bool)
  | [.agg ⟨[.int .i64 a0, .int .i64 a1, .int .i64 a2, .int .i64 a3, .int .i64 a4, .int .i64 a5, .int .i64 a6, .int .i64 a7]⟩, .agg ⟨[.int .i64 b0, .int .i64 b1, .int .i64 b2, .int .i64 b3, .int .i64 b4, .int .i64 b5, .int .i64 b6, .int .i64 b7]⟩] => some (sdv (reF (mulF (mirF (v8 a0 a1 a2 a3 a4 a5 a6 a7)) (v8 b0 b1 b2 b3 b4 b5 b6 b7))), [])
  | _ => none

theorem ok_along : SpecOk Try.prog 56 (specV f_along) := by
  refine mkV (n := 100) gm_cross_ok Try.func56 rfl fun vs x ob hF ho => ?_
  unfold f_along at hF
  split at hF
  · rename_i a0 a1 a2 a3 a4 a5 a6 a7 b0 b1 b2 b3 b4 b5 b6 b7
    simp only [Option.some.injEq, Prod.mk.injEq] at hF
    obtain ⟨rfl, rfl⟩ := hF
    exact one (by kernel_rfl)
  · cases hF

def gm_along : Gam := ext gm_cross 56 (specV f_along)
theorem gm_along_ok : GamOk Try.prog gm_along := ext_ok gm_cross_ok ok_along

def f_l2Sum : List Value → Option (Value × List Bool)
  | [.agg ⟨[.int .i64 a0, .int .i64 a1, .int .i64 a2, .int .i64 a3, .int .i64 a4, .int .i64 a5, .int .i64 a6, .int .i64 a7]⟩, .int .i64 n, .agg ⟨[.int .i64 b0, .int .i64 b1, .int .i64 b2, .int .i64 b3, .int .i64 b4, .int .i64 b5, .int .i64 b6, .int .i64 b7]⟩] => some (cyv (sumF (v8 a0 a1 a2 a3 a4 a5 a6 a7) n (v8 b0 b1 b2 b3 b4 b5 b6 b7)), [])
  | _ => none

theorem ok_l2Sum : SpecOk Try.prog 83 (specV f_l2Sum) := by
  refine mkV (n := 100) gm_along_ok Try.func83 rfl fun vs x ob hF ho => ?_
  unfold f_l2Sum at hF
  split at hF
  · rename_i a0 a1 a2 a3 a4 a5 a6 a7 n b0 b1 b2 b3 b4 b5 b6 b7
    simp only [Option.some.injEq, Prod.mk.injEq] at hF
    obtain ⟨rfl, rfl⟩ := hF
    have e : getV (execF Try.prog gm_along noLam 100 Try.f83 ([.agg ⟨[.int .i64 a0, .int .i64 a1, .int .i64 a2, .int .i64 a3, .int .i64 a4, .int .i64 a5, .int .i64 a6, .int .i64 a7]⟩, .int .i64 n, .agg ⟨[.int .i64 b0, .int .i64 b1, .int .i64 b2, .int .i64 b3, .int .i64 b4, .int .i64 b5, .int .i64 b6, .int .i64 b7]⟩].map .v) [] valK) = some (cyv (fun k => W ((v8 a0 a1 a2 a3 a4 a5 a6 a7) k + W (n * (v8 b0 b1 b2 b3 b4 b5 b6 b7) k)))) := by kernel_rfl
    rw [cyv_congr (g := sumF (v8 a0 a1 a2 a3 a4 a5 a6 a7) n (v8 b0 b1 b2 b3 b4 b5 b6 b7)) fun k _ => w64_add_r _ _] at e
    exact one e
  · cases hF

def gm_l2Sum : Gam := ext gm_along 83 (specV f_l2Sum)
theorem gm_l2Sum_ok : GamOk Try.prog gm_l2Sum := ext_ok gm_along_ok ok_l2Sum

def f_l2Step : List Value → Option (Value × List Bool)
  | [.agg ⟨[.int .i64 a0, .int .i64 a1, .int .i64 a2, .int .i64 a3, .int .i64 a4, .int .i64 a5, .int .i64 a6, .int .i64 a7]⟩] => some (cyv (stepF (v8 a0 a1 a2 a3 a4 a5 a6 a7)), [])
  | _ => none

theorem ok_l2Step : SpecOk Try.prog 89 (specV f_l2Step) := by
  refine mkV (n := 100) gm_l2Sum_ok Try.func89 rfl fun vs x ob hF ho => ?_
  unfold f_l2Step at hF
  split at hF
  · rename_i a0 a1 a2 a3 a4 a5 a6 a7
    simp only [Option.some.injEq, Prod.mk.injEq] at hF
    obtain ⟨rfl, rfl⟩ := hF
    exact one (by kernel_rfl)
  · cases hF

def gm_l2Step : Gam := ext gm_l2Sum 89 (specV f_l2Step)
theorem gm_l2Step_ok : GamOk Try.prog gm_l2Step := ext_ok gm_l2Sum_ok ok_l2Step

def f_l2Turned : List Value → Option (Value × List Bool)
  | [.agg ⟨[.int .i64 a0, .int .i64 a1, .int .i64 a2, .int .i64 a3, .int .i64 a4, .int .i64 a5, .int .i64 a6, .int .i64 a7]⟩, .int .i64 n] => some (cyv (turnedF (v8 a0 a1 a2 a3 a4 a5 a6 a7) n.toNat), [decide (0 ≤ n), decide (n ≤ (23 : Nat))])
  | _ => none

theorem ok_l2Turned : SpecOk Try.prog 113 (specV f_l2Turned) := by
  refine mkV (n := 100) gm_l2Step_ok Try.func113 rfl fun vs x ob hF ho => ?_
  unfold f_l2Turned at hF
  split at hF
  · rename_i a0 a1 a2 a3 a4 a5 a6 a7 n
    simp only [Option.some.injEq, Prod.mk.injEq] at hF
    obtain ⟨rfl, rfl⟩ := hF
    obtain ⟨h0, h1⟩ := obl2 ho
    have h0 := of_decide_eq_true h0
    have h1 := of_decide_eq_true h1
    obtain ⟨k, rfl⟩ := Int.eq_ofNat_of_zero_le h0
    have hc : k = 0 ∨ k = 1 ∨ k = 2 ∨ k = 3 ∨ k = 4 ∨ k = 5 ∨ k = 6 ∨ k = 7 ∨ k = 8 ∨ k = 9 ∨ k = 10 ∨ k = 11 ∨ k = 12 ∨ k = 13 ∨ k = 14 ∨ k = 15 ∨ k = 16 ∨ k = 17 ∨ k = 18 ∨ k = 19 ∨ k = 20 ∨ k = 21 ∨ k = 22 ∨ k = 23 := by omega
    clear ho h0 h1
    rcases hc with rfl | rfl | rfl | rfl | rfl | rfl | rfl | rfl | rfl | rfl | rfl | rfl | rfl | rfl | rfl | rfl | rfl | rfl | rfl | rfl | rfl | rfl | rfl | rfl
    · exact one (by kernel_rfl)
    · exact one (by kernel_rfl)
    · exact one (by kernel_rfl)
    · exact one (by kernel_rfl)
    · exact one (by kernel_rfl)
    · exact one (by kernel_rfl)
    · exact one (by kernel_rfl)
    · exact one (by kernel_rfl)
    · exact one (by kernel_rfl)
    · exact one (by kernel_rfl)
    · exact one (by kernel_rfl)
    · exact one (by kernel_rfl)
    · exact one (by kernel_rfl)
    · exact one (by kernel_rfl)
    · exact one (by kernel_rfl)
    · exact one (by kernel_rfl)
    · exact one (by kernel_rfl)
    · exact one (by kernel_rfl)
    · exact one (by kernel_rfl)
    · exact one (by kernel_rfl)
    · exact one (by kernel_rfl)
    · exact one (by kernel_rfl)
    · exact one (by kernel_rfl)
    · exact one (by kernel_rfl)
  · cases hF

def gm_l2Turned : Gam := ext gm_l2Step 113 (specV f_l2Turned)
theorem gm_l2Turned_ok : GamOk Try.prog gm_l2Turned := ext_ok gm_l2Step_ok ok_l2Turned

def f_l2Times : List Value → Option (Value × List Bool)
  | [.agg ⟨[.int .i64 a0, .int .i64 a1, .int .i64 a2, .int .i64 a3, .int .i64 a4, .int .i64 a5, .int .i64 a6, .int .i64 a7]⟩, .agg ⟨[.int .i64 b0, .int .i64 b1, .int .i64 b2, .int .i64 b3, .int .i64 b4, .int .i64 b5, .int .i64 b6, .int .i64 b7]⟩] => some (cyv (mulF (v8 a0 a1 a2 a3 a4 a5 a6 a7) (v8 b0 b1 b2 b3 b4 b5 b6 b7)), [])
  | _ => none

theorem ok_l2Times : SpecOk Try.prog 52 (specV f_l2Times) := by
  refine mkV (n := 100) gm_l2Turned_ok Try.func52 rfl fun vs x ob hF ho => ?_
  unfold f_l2Times at hF
  split at hF
  · rename_i a0 a1 a2 a3 a4 a5 a6 a7 b0 b1 b2 b3 b4 b5 b6 b7
    simp only [Option.some.injEq, Prod.mk.injEq] at hF
    obtain ⟨rfl, rfl⟩ := hF
    have e : getV (execF Try.prog gm_l2Turned noLam 100 Try.f52 ([.agg ⟨[.int .i64 a0, .int .i64 a1, .int .i64 a2, .int .i64 a3, .int .i64 a4, .int .i64 a5, .int .i64 a6, .int .i64 a7]⟩, .agg ⟨[.int .i64 b0, .int .i64 b1, .int .i64 b2, .int .i64 b3, .int .i64 b4, .int .i64 b5, .int .i64 b6, .int .i64 b7]⟩].map .v) [] valK) = some (cyv (timesS (v8 a0 a1 a2 a3 a4 a5 a6 a7) (v8 b0 b1 b2 b3 b4 b5 b6 b7))) := by kernel_rfl
    rw [cyv_congr (timesS_eq (v8 a0 a1 a2 a3 a4 a5 a6 a7) (v8 b0 b1 b2 b3 b4 b5 b6 b7))] at e
    exact one e
  · cases hF

def gm_l2Times : Gam := ext gm_l2Turned 52 (specV f_l2Times)
theorem gm_l2Times_ok : GamOk Try.prog gm_l2Times := ext_ok gm_l2Turned_ok ok_l2Times

def f_l2Mirror : List Value → Option (Value × List Bool)
  | [.agg ⟨[.int .i64 a0, .int .i64 a1, .int .i64 a2, .int .i64 a3, .int .i64 a4, .int .i64 a5, .int .i64 a6, .int .i64 a7]⟩] => some (cyv (mirF (v8 a0 a1 a2 a3 a4 a5 a6 a7)), [])
  | _ => none

theorem ok_l2Mirror : SpecOk Try.prog 53 (specV f_l2Mirror) := by
  refine mkV (n := 100) gm_l2Times_ok Try.func53 rfl fun vs x ob hF ho => ?_
  unfold f_l2Mirror at hF
  split at hF
  · rename_i a0 a1 a2 a3 a4 a5 a6 a7
    simp only [Option.some.injEq, Prod.mk.injEq] at hF
    obtain ⟨rfl, rfl⟩ := hF
    have e : getV (execF Try.prog gm_l2Times noLam 100 Try.f53 ([.agg ⟨[.int .i64 a0, .int .i64 a1, .int .i64 a2, .int .i64 a3, .int .i64 a4, .int .i64 a5, .int .i64 a6, .int .i64 a7]⟩].map .v) [] valK) = some (cyv (mirrorS (v8 a0 a1 a2 a3 a4 a5 a6 a7))) := by kernel_rfl
    rw [cyv_congr (mirrorS_eq (v8 a0 a1 a2 a3 a4 a5 a6 a7))] at e
    exact one e
  · cases hF

def gm_l2Mirror : Gam := ext gm_l2Times 53 (specV f_l2Mirror)
theorem gm_l2Mirror_ok : GamOk Try.prog gm_l2Mirror := ext_ok gm_l2Times_ok ok_l2Mirror

def f_l3Im : List Value → Option (Value × List Bool)
  | [.agg ⟨[.int .i64 a0, .int .i64 a1, .int .i64 a2, .int .i64 a3, .int .i64 a4, .int .i64 a5, .int .i64 a6, .int .i64 a7]⟩] => some (sdv (imF (v8 a0 a1 a2 a3 a4 a5 a6 a7)), [])
  | _ => none

theorem ok_l3Im : SpecOk Try.prog 84 (specV f_l3Im) := by
  refine mkV (n := 100) gm_l2Mirror_ok Try.func84 rfl fun vs x ob hF ho => ?_
  unfold f_l3Im at hF
  split at hF
  · rename_i a0 a1 a2 a3 a4 a5 a6 a7
    simp only [Option.some.injEq, Prod.mk.injEq] at hF
    obtain ⟨rfl, rfl⟩ := hF
    have e : getV (execF Try.prog gm_l2Mirror noLam 100 Try.f84 ([.agg ⟨[.int .i64 a0, .int .i64 a1, .int .i64 a2, .int .i64 a3, .int .i64 a4, .int .i64 a5, .int .i64 a6, .int .i64 a7]⟩].map .v) [] valK) = some (sdv (v4 (W (W (2 * (v8 a0 a1 a2 a3 a4 a5 a6 a7) 2) + W (4 * (v8 a0 a1 a2 a3 a4 a5 a6 a7) 6))) (W (W (W (W (0 - (v8 a0 a1 a2 a3 a4 a5 a6 a7) 1) + W (2 * (v8 a0 a1 a2 a3 a4 a5 a6 a7) 3)) + (v8 a0 a1 a2 a3 a4 a5 a6 a7) 5) + (v8 a0 a1 a2 a3 a4 a5 a6 a7) 7)) (W (2 * (v8 a0 a1 a2 a3 a4 a5 a6 a7) 4)) (W (W ((v8 a0 a1 a2 a3 a4 a5 a6 a7) 1 + (v8 a0 a1 a2 a3 a4 a5 a6 a7) 5) + (v8 a0 a1 a2 a3 a4 a5 a6 a7) 7)))) := by kernel_rfl
    rw [sdv_congr (g := imF (v8 a0 a1 a2 a3 a4 a5 a6 a7)) (forall4 ?_ ?_ ?_ ?_)] at e
    · exact one e
    all_goals (simp only [v4, imF, imZ, w64_add_l, w64_add_r, Int.zero_sub])
  · cases hF

def gm_l3Im : Gam := ext gm_l2Mirror 84 (specV f_l3Im)
theorem gm_l3Im_ok : GamOk Try.prog gm_l3Im := ext_ok gm_l2Mirror_ok ok_l3Im

def f_l3Re : List Value → Option (Value × List Bool)
  | [.agg ⟨[.int .i64 a0, .int .i64 a1, .int .i64 a2, .int .i64 a3, .int .i64 a4, .int .i64 a5, .int .i64 a6, .int .i64 a7]⟩] => some (sdv (reF (v8 a0 a1 a2 a3 a4 a5 a6 a7)), [])
  | _ => none

theorem ok_l3Re : SpecOk Try.prog 51 (specV f_l3Re) := by
  refine mkV (n := 100) gm_l3Im_ok Try.func51 rfl fun vs x ob hF ho => ?_
  unfold f_l3Re at hF
  split at hF
  · rename_i a0 a1 a2 a3 a4 a5 a6 a7
    simp only [Option.some.injEq, Prod.mk.injEq] at hF
    obtain ⟨rfl, rfl⟩ := hF
    have e : getV (execF Try.prog gm_l3Im noLam 100 Try.f51 ([.agg ⟨[.int .i64 a0, .int .i64 a1, .int .i64 a2, .int .i64 a3, .int .i64 a4, .int .i64 a5, .int .i64 a6, .int .i64 a7]⟩].map .v) [] valK) = some (sdv (v4 (W (W (4 * (v8 a0 a1 a2 a3 a4 a5 a6 a7) 0) + W (2 * (v8 a0 a1 a2 a3 a4 a5 a6 a7) 4))) (W (W (W ((v8 a0 a1 a2 a3 a4 a5 a6 a7) 1 + W (2 * (v8 a0 a1 a2 a3 a4 a5 a6 a7) 3)) - (v8 a0 a1 a2 a3 a4 a5 a6 a7) 5) + (v8 a0 a1 a2 a3 a4 a5 a6 a7) 7)) (W (2 * (v8 a0 a1 a2 a3 a4 a5 a6 a7) 2)) (W (W ((v8 a0 a1 a2 a3 a4 a5 a6 a7) 1 + (v8 a0 a1 a2 a3 a4 a5 a6 a7) 5) - (v8 a0 a1 a2 a3 a4 a5 a6 a7) 7)))) := by kernel_rfl
    rw [sdv_congr (g := reF (v8 a0 a1 a2 a3 a4 a5 a6 a7)) (forall4 ?_ ?_ ?_ ?_)] at e
    · exact one e
    all_goals (simp only [v4, reF, reZ, w64_add_l, w64_add_r, w64_sub_l])
  · cases hF

def gm_l3Re : Gam := ext gm_l3Im 51 (specV f_l3Re)
theorem gm_l3Re_ok : GamOk Try.prog gm_l3Re := ext_ok gm_l3Im_ok ok_l3Re

def f_l8Cross : List Value → Option (Value × List Bool)
  | [.agg ⟨[.int .i64 a0, .int .i64 a1, .int .i64 a2, .int .i64 a3, .int .i64 a4, .int .i64 a5, .int .i64 a6, .int .i64 a7]⟩, .agg ⟨[.int .i64 b0, .int .i64 b1, .int .i64 b2, .int .i64 b3, .int .i64 b4, .int .i64 b5, .int .i64 b6, .int .i64 b7]⟩] => some (sdv (imF (mulF (mirF (v8 a0 a1 a2 a3 a4 a5 a6 a7)) (v8 b0 b1 b2 b3 b4 b5 b6 b7))), [])
  | _ => none

theorem ok_l8Cross : SpecOk Try.prog 47 (specV f_l8Cross) := by
  refine mkV (n := 100) gm_l3Re_ok Try.func47 rfl fun vs x ob hF ho => ?_
  unfold f_l8Cross at hF
  split at hF
  · rename_i a0 a1 a2 a3 a4 a5 a6 a7 b0 b1 b2 b3 b4 b5 b6 b7
    simp only [Option.some.injEq, Prod.mk.injEq] at hF
    obtain ⟨rfl, rfl⟩ := hF
    exact one (by kernel_rfl)
  · cases hF

def gm_l8Cross : Gam := ext gm_l3Re 47 (specV f_l8Cross)
theorem gm_l8Cross_ok : GamOk Try.prog gm_l8Cross := ext_ok gm_l3Re_ok ok_l8Cross

def f_l3Sum : List Value → Option (Value × List Bool)
  | [.agg ⟨[.int .i64 s0, .int .i64 s1, .int .i64 s2, .int .i64 s3]⟩, .int .i64 n, .agg ⟨[.int .i64 t0, .int .i64 t1, .int .i64 t2, .int .i64 t3]⟩] => some (sdv (fun k => W ((v4 s0 s1 s2 s3) k + W (n * (v4 t0 t1 t2 t3) k))), [])
  | _ => none

theorem ok_l3Sum : SpecOk Try.prog 65 (specV f_l3Sum) := by
  refine mkV (n := 100) gm_l8Cross_ok Try.func65 rfl fun vs x ob hF ho => ?_
  unfold f_l3Sum at hF
  split at hF
  · rename_i s0 s1 s2 s3 n t0 t1 t2 t3
    simp only [Option.some.injEq, Prod.mk.injEq] at hF
    obtain ⟨rfl, rfl⟩ := hF
    exact one (by kernel_rfl)
  · cases hF

def gm_l3Sum : Gam := ext gm_l8Cross 65 (specV f_l3Sum)
theorem gm_l3Sum_ok : GamOk Try.prog gm_l3Sum := ext_ok gm_l8Cross_ok ok_l3Sum

end Go.Proofs.Ytkbdppnlojlcdaa

/- steps: the steps of a polygon. Conditions: a list of points, not empty. -/
namespace Go.Proofs.Ytkbdppnlojlcdaa
open Go.RowKit
set_option maxRecDepth 100000

/-- Rows of points. -/
def isC : List Value → Bool
  | [.int .i64 _, .int .i64 _, .int .i64 _, .int .i64 _, .int .i64 _, .int .i64 _, .int .i64 _, .int .i64 _] => true
  | _ => false
def itC (g : Nat → List Value) : Nat → Nat → Int := fun j k => intOf ((g j).getD k undef)
def allC (m : Nat) (g : Nat → List Value) : Bool := (List.range m).all fun j => isC (g j)
theorem allC_get {m : Nat} {g : Nat → List Value} (h : allC m g = true) (j : Nat) (hj : j < m) : g j = rowC (itC g) j := by
  have := List.all_eq_true.1 h j (by simpa using hj)
  simp only [rowC, itC, i64]
  unfold isC at this
  split at this
  · rename_i e; rw [e]; rfl
  · cases this
theorem allC_of {m : Nat} {a : Nat → Nat → Int} {g : Nat → List Value} (h : ∀ j, j < m → g j = rowC a j) : allC m g = true := List.all_eq_true.2 fun j hj => by
  rw [h j (by simpa using hj)]; rfl

noncomputable def fSt : Func := Try.f55
noncomputable def bSt : Code := (Try.f55).body.getD .skip
noncomputable def stR0 : Code := sqA bSt
noncomputable def stR1 : Code := sqA (sqB bSt)
noncomputable def stP2 : Code := sqA (sqA (sqB (sqB bSt)))
noncomputable def stRest : Code := sqB (sqB (sqB bSt))
def rfA : Code → Code | .rangeFunc _ _ a _ => a | c => c
def rfB : Code → Code | .rangeFunc _ _ _ b => b | c => c
noncomputable def stAs : Code := rfA (blB (sqB (sqA (sqB (sqB bSt)))))
noncomputable def stBd : Code := rfB (blB (sqB (sqA (sqB (sqB bSt)))))
theorem bSt_eq : (Try.f55).body = some (nestL [stR0, stR1] (.seq (.seq stP2 (.block 0 (.rangeFunc (.tmp 9) #[10] stAs stBd))) stRest)) := by kernel_rfl

abbrev zC : Nat → List Value := fun _ => [i64 0, i64 0, i64 0, i64 0, i64 0, i64 0, i64 0, i64 0]
abbrev hhSt (a : Nat → Nat → Int) (m : Nat) (t : TypeId) : List AB := [.row false m 8 (rowC a) t, .cells [.own 3 0] 27, .cells [.sl 0 8 0 0 m none] 27, .row true 0 8 zC 46]
abbrev ttSt : List AV := mkT 0 20 [(3, .ptr 1 0 0 0), (9, .fn 101 [.ptr 2 0 0 0])]

theorem preSt (a : Nat → Nat → Int) (m : Nat) (t : TypeId) : execL Try.prog gm_l3Sum 100 ([stR0, stR1] ++ [stP2]) ([.sl 0 8 0 0 m none] ++ List.replicate ((Try.f55).ntmps - 1) (.v undef)) [.row false m 8 (rowC a) t] (leafK (lv3 [3, 9] [] []) 1)
    = needs [decide ((m : Int) ≤ 1099511627776)] (.out .normal ttSt (hhSt a m t)) := by kernel_rfl


/-- One more element. -/
def snocR (G : Nat → List Value) (n w : Nat) (r : List Value) : Nat → List Value := fun k => bif Nat.blt k n then G k else (r.drop ((k - n) * w)).take w
theorem snocR_lt {G : Nat → List Value} {n w k : Nat} {r : List Value} (h : k < n) : snocR G n w r k = G k := by
  have : Nat.blt k n = true := by rw [Nat.blt_eq]; exact h
  simp [snocR, this]
theorem snocR_eq {G : Nat → List Value} {n w : Nat} {r : List Value} (h : r.length = w) : snocR G n w r n = r := by
  have : Nat.blt n n = false := by
    cases hb : Nat.blt n n with
    | false => rfl
    | true => rw [Nat.blt_eq] at hb; omega
  simp only [snocR, this, cond_false, Nat.sub_self, Nat.zero_mul, List.drop_zero]
  rw [← h]
  exact List.take_length

def stepsF (a : Nat → Nat → Int) (m : Nat) : Nat → Nat → Int := fun j => plusF (a ((j + 1) % m)) (scaledF (a j) (-1))
def rowX {m : Nat} (f : Nat → Nat → Int) (xs : List (Fin m)) : Nat → List Value := fun j => match xs[j]? with | some x => rowC f x | none => []
theorem rowX_snoc {m : Nat} {f : Nat → Nat → Int} {xs : List (Fin m)} {x : Fin m} {j : Nat} (hj : j < xs.length + 1) : snocR (rowX f xs) xs.length 8 (rowC f x) j = rowX f (xs ++ [x]) j := by
  rcases Nat.lt_or_ge j xs.length with h | h
  · rw [snocR_lt h]
    simp only [rowX]
    rw [List.getElem?_append_left h]
  · have : j = xs.length := by omega
    subst this
    rw [snocR_eq (w := 8) (by simp)]
    simp [rowX]
theorem rowX_all {m : Nat} {f : Nat → Nat → Int} {j : Nat} (hj : j < m) : rowX f (List.finRange m) j = rowC f j := by
  simp [rowX, hj]

noncomputable abbrev blkSt (a : Nat → Nat → Int) (m : Nat) (t : TypeId) (n : Nat) (G : Nat → List Value) : List AB := [.row false m 8 (rowC a) t, .cells [.own 4 n] 27, .gone, .gone, .row true n 8 G 46]
noncomputable def hpSt (a : Nat → Nat → Int) {m : Nat} (t : TypeId) (xs : List (Fin m)) : List AB := match xs with
  | [] => [.row false m 8 (rowC a) t, .cells [.own 3 0] 27, .gone, .row true 0 8 zC 46]
  | x :: ys => blkSt a m t (x :: ys).length (rowX (stepsF a m) (x :: ys))
theorem hpSt_snoc (a : Nat → Nat → Int) {m : Nat} (t : TypeId) (xs : List (Fin m)) (x : Fin m) : hpSt a t (xs ++ [x]) = blkSt a m t (xs.length + 1) (rowX (stepsF a m) (xs ++ [x])) := by
  cases xs with
  | nil => rfl
  | cons y ys => simp [hpSt]

abbrev ttL : List AV := mkT 0 20 [(3, .ptr 1 0 0 0)]
abbrev deadL (n : Nat) : List AV := mkT 0 n []

theorem rndSt (a : Nat → Nat → Int) (m : Nat) (t : TypeId) (j n : Nat) (G : Nat → List Value) : execC Try.prog gm_l3Sum 100 noLam stAs (parT [10] [pairV (a j) (a ((j + 1) % m))] ttL) (blkSt a m t n G) (andK Try.prog gm_l3Sum 100 stBd 4) = needs [Nat.ble n n, Nat.ble (n + 1) 549755813888] (.out .normal (deadL 20) (blkSt a m t (n + 1) (snocR G n 8 (rowC (stepsF a m) j)))) := by kernel_rfl
theorem rndSt0 (a : Nat → Nat → Int) (m : Nat) (t : TypeId) (j : Nat) : execC Try.prog gm_l3Sum 100 noLam stAs (parT [10] [pairV (a j) (a ((j + 1) % m))] ttL) [.row false m 8 (rowC a) t, .cells [.own 3 0] 27, .gone, .row true 0 8 zC 46] (andK Try.prog gm_l3Sum 100 stBd 4) = .out .normal (deadL 20) (blkSt a m t 1 (snocR zC 0 8 (rowC (stepsF a m) j))) := by kernel_rfl
theorem endSt (a : Nat → Nat → Int) (m : Nat) (t : TypeId) (n : Nat) (G : Nat → List Value) : behind Try.prog gm_l3Sum 100 Try.f55 0 stRest (packK 1) .normal ttL (blkSt a m t n G)
    = .out .ret [.own 1 n] [.row false m 8 (rowC a) t, .row true n 8 G 46] := by kernel_rfl

/-- Where the list of sides lies: from what holds at the loop. -/
theorem sides_at {nn : Nat} {W : World} {ν1 : Nu} {TT : List AV} {HH H' : List AB} {a1 : Act} {lb : List Value} {a : Nat → Nat → Int} {m ib il : Nat} {tB tr : TypeId} (hS : SR (ownM W ν1 HH) W ν1 TT HH a1 W ν1) (hlb : VRs ν1 [.ptr ib 0 0 0] lb)
    (hib : HH.getD ib .gone = .cells [.sl il 8 0 0 m none] tB) (hil : HH.getD il .gone = .row false m 8 (rowC a) tr) (hne : ib ≠ il) (hm0 : 0 < m) (hm : m ≤ 2 ^ 40) (hH : ∀ i, (H'.getD i .gone).wr = true → (HH.getD i .gone).wr = true ∧ i ≠ ib) :
    SeqStopsK (wideR none) nn Try.prog 101 lb.toArray (fun x : Fin m => [pairV (a x) (a ((x + 1) % m))].toArray) (keepR W (ownM W ν1 H')) (fun xs => xs = List.finRange m) (fun _ => True) m W := by
  cases lb with
  | nil => simp only [VRs] at hlb
  | cons y ys =>
    cases ys with
    | cons => simp only [VRs] at hlb; exact hlb.2.elim
    | nil =>
      simp only [VRs, VR, and_true] at hlb
      obtain ⟨b, hb, rfl⟩ := hlb
      have hbr := hS.heap.br ib
      simp only [hib] at hbr
      obtain ⟨b', l, e1, e2, e3, e4⟩ := hbr
      rw [hb] at e1
      cases e1
      cases l with
      | nil => simp only [VRs] at e4
      | cons z zs =>
        cases zs with
        | cons => simp only [VRs] at e4; exact e4.2.elim
        | nil =>
          simp only [VRs, VR, and_true] at e4
          obtain ⟨p, c, rfl, _, h3, h4⟩ := e4
          obtain ⟨bL, h5, h6⟩ := h4 (by omega)
          let νI : Nu := fun i => match i with | 0 => some b | 1 => some bL | _ => none
          have hH1 : RH (fun k => W.heap.size ≤ k ∨ k = b.n) νI (fun i => (hpI a m c tB tr).getD i .gone) W := by
            have hbl := hS.heap.br il
            simp only [hil] at hbl
            have hsep := hS.heap.sep ib il b bL hne (by rw [hib]; rfl) (by rw [hil]; rfl) hb h5
            refine ⟨fun i => ?_, fun i j b1 b2 hij hw hl h1 h2 => ?_, fun i b1 hw h1 => ?_, fun i b1 h1 => ?_⟩
            · match i with
              | 0 =>
                refine ⟨b, _, rfl, e2, e3, ?_⟩
                simp only [VRs, VR, and_true]
                exact ⟨p, c, rfl, fun c' h => by cases h; rfl, h3, fun _ => ⟨bL, rfl, h6⟩⟩
              | 1 =>
                rcases hbl with ⟨_, h0, _⟩ | ⟨bb, l, t', fz, g1, g2⟩
                · omega
                · rw [h5] at g1
                  cases g1
                  exact .inr ⟨bL, l, t', fz, rfl, g2⟩
              | n + 2 => trivial
            · match i, j with
              | 0, 1 => cases h1; cases h2; exact hsep
              | 1, _ => simp [AB.wr] at hw
              | 0, 0 => exact (hij rfl).elim
              | 0, n + 2 => cases h2
              | n + 2, _ => cases h1
            · match i with
              | 0 => cases h1; exact .inr rfl
              | 1 => simp [AB.wr] at hw
              | n + 2 => cases h1
            · match i with
              | 0 => cases h1; exact hS.heap.lt ib b hb
              | 1 => cases h1; exact hS.heap.lt il bL h5
              | n + 2 => cases h1
          have ltB := hS.heap.lt ib b hb
          have ltL := hS.heap.lt il bL h5
          have key := sides_stops (nn := nn) (M := ownM W ν1 H') (bB := b.n) (cB := b.c) (bL := bL) (a := a) (c := c) (tB := tB) (tr := tr) hH1 (by show some b = _; rw [show b = ⟨b.n, 0, b.c⟩ by rw [← e2]]) rfl (fun i b1 h1 => by
            match i with
            | 0 => omega
            | 1 => omega
            | n + 2 => cases h1) hm0 hm ?_ ?_
          · rw [e2] 
            exact key
          · rintro (hk | ⟨i, b1, hw, hb1, e⟩)
            · omega
            · obtain ⟨hw1, hne1⟩ := hH i hw
              exact hS.heap.sep i ib b1 b hne1 hw1 (by rw [hib]; rfl) hb1 hb e
          · rintro (hk | ⟨i, b1, hw, hb1, e⟩)
            · omega
            · obtain ⟨hw1, hne1⟩ := hH i hw
              refine hS.heap.sep i il b1 bL (fun e => ?_) hw1 (by rw [hil]; rfl) hb1 h5 e
              subst e
              rw [hil] at hw1
              simp [AB.wr] at hw1

theorem enters_of' {f : FuncId} {fn : Func} (hf : Try.prog.funcs[f]? = some fn) (hb : fn.body.isSome = true) : ∀ args w, (callFunc f args).run Try.prog w = .ok (.enter f args) w := fun args w => enters f fn hf hb args w

def md_steps : List Md := [.rd 8 46]
def F_steps : List SA → Option FR
  | [.row m g] => some { val := .own 0 m, new := [.row true m 8 (rowC (stepsF (itC g) m)) 46], obl := [allC m g, decide (0 < m), decide (m ≤ 2 ^ 38)] }
  | _ => none

theorem finRange_cons {m : Nat} (h : 0 < m) : ∃ x xs, List.finRange m = x :: xs := by
  cases hl : List.finRange m with
  | nil => have := congrArg List.length hl; simp at this; omega
  | cons x xs => exact ⟨x, xs, rfl⟩

theorem ok_steps : SpecOk Try.prog 55 (specR md_steps F_steps) := by
  refine specR_calls enters Try.func55 rfl fun sas fr hF ho => ?_
  unfold F_steps at hF
  split at hF
  · rename_i m g
    cases hF
    simp only [ob_cons, decide_eq_true_eq] at ho
    obtain ⟨h1, hm0, hm, _⟩ := ho
    refine ⟨[.row false m 8 (rowC (itC g)) 46], .cons (ABeq.row fun j hj => allC_get h1 j hj) .nil, ?_⟩
    refine calls_range (α := Fin m) (n := 100) (nn := 0) gm_l3Sum_ok mixed enters Try.func55 bSt_eq (by kernel_rfl) (by kernel_rfl) (by kernel_rfl) (by kernel_rfl) (by kernel_rfl) (lvp := lv3 [3, 9] [] []) (TT := ttSt) (HH := hhSt (itC g) m 46)
      (encs := fun x => [pairV (itC g x) (itC g ((x + 1) % m))]) (S := fun xs => xs = List.finRange m) (Sp := fun _ => True) (N := m) ?_ (gf := 101) (cs := [.ptr 2 0 0 0]) (by kernel_rfl) ttL (by kernel_rfl) (mask_less (live := [3]) (by kernel_rfl)) (fun _ => false) (hpSt (itC g) 46) (fun _ _ => []) rfl (fun i => ?_)
      (enters_of' Try.func101 rfl) (fun W ν1 a1 lb hS hv => ?_) (fun _ => rfl) (by decide) (fun pre x hlen => ?_) (fun xs hxs => ?_) (fun e pre _ h => by cases h)
    · show (execL Try.prog gm_l3Sum 100 ([stR0, stR1] ++ [stP2]) ([.sl 0 8 0 0 m none] ++ List.replicate ((Try.f55).ntmps - 1) (.v undef)) [.row false m 8 (rowC (itC g)) 46] (leafK (lv3 [3, 9] [] []) 1)).ok _
      rw [preSt]
      exact (good_needs (Q := fun e T' H' => e = .normal ∧ T' = ttSt ∧ H' = hhSt (itC g) m 46) (r := .out .normal ttSt (hhSt (itC g) m 46)) (by simp only [ob_cons, ob_nil, decide_eq_true_eq, and_true]; omega) ⟨⟨rfl, rfl, rfl⟩⟩).out
    · rcases (by omega : i = 0 ∨ i = 1 ∨ i = 2 ∨ i = 3 ∨ 4 ≤ i) with rfl | rfl | rfl | rfl | h
      · exact .inl rfl
      · exact .inl rfl
      · exact .inr rfl
      · exact .inl rfl
      · right
        simp [hpSt, List.getD_eq_getElem?_getD, List.getElem?_eq_none, h]
    · refine sides_at hS hv (ib := 2) (il := 0) rfl rfl (by decide) hm0 (by omega) fun i hw => ?_
      rcases (by omega : i = 0 ∨ i = 1 ∨ i = 2 ∨ i = 3 ∨ 4 ≤ i) with rfl | rfl | rfl | rfl | h
      · simp [hpSt, AB.wr] at hw
      · exact ⟨rfl, by decide⟩
      · simp [hpSt, AB.wr] at hw
      · exact ⟨rfl, by decide⟩
      · simp [hpSt, List.getD_eq_getElem?_getD, List.getElem?_eq_none, h, AB.wr] at hw
    · cases pre with
      | nil =>
        show (execC Try.prog gm_l3Sum 100 noLam stAs (parT [10] [pairV (itC g x) (itC g ((x + 1) % m))] ttL) [.row false m 8 (rowC (itC g)) 46, .cells [.own 3 0] 27, .gone, .row true 0 8 zC 46] (andK Try.prog gm_l3Sum 100 stBd 4)).ok _
        rw [rndSt0 (itC g) m 46 x]
        show Hsim _ (hpSt (itC g) 46 ([] ++ [x]))
        rw [hpSt_snoc]
        refine .cons (ABeq.refl _) (.cons (ABeq.refl _) (.cons (ABeq.refl _) (.cons (ABeq.refl _) (.cons (ABeq.row fun j hj => ?_) .nil))))
        have : j = 0 := by omega
        subst this
        exact (snocR_eq (G := zC) (n := 0) (w := 8) (r := rowC (stepsF (itC g) m) x) (by simp)).trans (by simp [rowX])
      | cons y ys =>
        show (execC Try.prog gm_l3Sum 100 noLam stAs (parT [10] [pairV (itC g x) (itC g ((x + 1) % m))] ttL) (blkSt (itC g) m 46 (y :: ys).length (rowX (stepsF (itC g) m) (y :: ys))) (andK Try.prog gm_l3Sum 100 stBd 4)).ok _
        rw [rndSt (itC g) m 46 x]
        refine (good_needs (by simp only [ob_cons, ob_nil, and_true, Nat.ble_eq]; omega) ⟨?_⟩).out
        show Hsim _ (hpSt (itC g) 46 ((y :: ys) ++ [x]))
        rw [hpSt_snoc]
        exact .cons (ABeq.refl _) (.cons (ABeq.refl _) (.cons (ABeq.refl _) (.cons (ABeq.refl _) (.cons (ABeq.row fun j hj => rowX_snoc hj) .nil))))
    · obtain ⟨x, ys, hl⟩ := finRange_cons hm0
      subst hxs
      have hlen : (x :: ys).length = m := by rw [← hl]; simp
      have hrow : ∀ j, j < m → rowX (stepsF (itC g) m) (x :: ys) j = rowC (stepsF (itC g) m) j := fun j hj => by rw [← hl]; exact rowX_all hj
      rw [hl]
      show (behind Try.prog gm_l3Sum 100 Try.f55 0 stRest (packK 1) .normal ttL (blkSt (itC g) m 46 (x :: ys).length (rowX (stepsF (itC g) m) (x :: ys)))).ok _
      rw [endSt, hlen]
      exact ⟨_, rfl, rfl, .cons (ABeq.row fun j hj => (allC_get h1 j hj).symm) (.cons (ABeq.row hrow) .nil)⟩
  · cases hF

end Go.Proofs.Ytkbdppnlojlcdaa

/- A list of points that came in. No conditions. -/
namespace Go.Proofs.Ytkbdppnlojlcdaa
open Go.ChangeShapes Go.WideShapes Go.ChangeAt Go.RowKit Go.Deep
set_option maxRecDepth 100000

section
variable {H : Type} {enc : TypeId × Value → H} {W : World}
theorem cyc_elem (n : Nat) (cs : List Value) (x : DataW H × List MemPlace) (hl : cs.length = 8) (h : DataW.trod enc Try.prog W 0 (fun _ => true) true n 58 cs = some x) :
    ∃ f : Nat → Int, True ∧ cs = [i64 (f 0), i64 (f 1), i64 (f 2), i64 (f 3), i64 (f 4), i64 (f 5), i64 (f 6), i64 (f 7)] := by
  obtain ⟨xs, n', _, _, _, hlen, hg⟩ := DataW.trod_struct Try.underlying58 h
  have h0 : DataW.trod enc Try.prog W 0 (fun _ => true) true n' 44 ((cs.drop 0).take (Try.prog.cellsOf 44)) = xs[0]? := hg 0 _ rfl
  have hx0 : xs[0]? = some (xs[0]'(by rw [hlen]; decide)) := List.getElem?_eq_getElem _
  rw [hx0] at h0
  obtain ⟨ys, n2, _, _, _, hlen2, hg2⟩ := DataW.trod_array Try.underlying44 h0
  have c44 : Try.prog.cellsOf 44 = 8 := by kernel_rfl
  have c3 : Try.prog.cellsOf 3 = 1 := by kernel_rfl
  simp only [c44, c3, List.drop_zero, Nat.mul_one, List.take_of_length_le (Nat.le_of_eq hl)] at hg2
  have each : ∀ i, i < 8 → ∃ k, (cs.drop i).take 1 = [i64 k] := by
    intro i hi
    have h1 := hg2 i hi
    have hy : ys[i]? = some (ys[i]'(by omega)) := List.getElem?_eq_getElem _
    rw [hy] at h1
    obtain ⟨k, e1, _, _⟩ := DataW.trod_int Try.underlying3 h1
    exact ⟨k, e1⟩
  match cs, hl with
  | [c0, c1, c2, c3, c4, c5, c6, c7], _ =>
    obtain ⟨k0, e0⟩ := each 0 (by omega)
    obtain ⟨k1, e1⟩ := each 1 (by omega)
    obtain ⟨k2, e2⟩ := each 2 (by omega)
    obtain ⟨k3, e3⟩ := each 3 (by omega)
    obtain ⟨k4, e4⟩ := each 4 (by omega)
    obtain ⟨k5, e5⟩ := each 5 (by omega)
    obtain ⟨k6, e6⟩ := each 6 (by omega)
    obtain ⟨k7, e7⟩ := each 7 (by omega)
    simp at e0 e1 e2 e3 e4 e5 e6 e7
    subst e0 e1 e2 e3 e4 e5 e6 e7
    exact ⟨v8 k0 k1 k2 k3 k4 k5 k6 k7, trivial, rfl⟩
end

/-- A law over a list of points: what it comes to, whatever came in. -/
theorem contractC {f : FuncId} {fn : Func} {spec : ChangeSpec} (hf : Try.prog.funcs[f]? = some fn) (hp : fn.params = #[22]) (hr : fn.resultTypes = #[4]) (hvars : spec.vars = []) (hspec : ∀ (H : Type) (d : DataW H), spec.fn H [d] = { results := [.lit (.bool true)], args := [d] })
    (yes : ∀ (m : Nat) (a : Nat → Nat → Int), m ≤ 9223372036854775807 → ∃ Γ n, GamOk Try.prog Γ ∧ GoodQ (execF Try.prog Γ noLam n fn [.sl 0 8 0 0 m none] [.row false m 8 (rowC a) 46] (packK 1)) SaysYes)
    (H : Type) (enc : TypeId × Value → H) (W : World) (base : Nat) (args : Array Value) (ds gs : List (DataW H)) (before : List MemPlace)
    (hval : ∀ (j : Nat) t v, fn.params[j]? = some t → args[j]? = some v → Value.okWide Try.prog W .any base t v)
    (hW : DataW.Whole enc Try.prog fn.params.toList spec.vars false W args.toList ds gs before) :
    Calls Try.prog f args W fun e W' => ∃ v, e = .returned v ∧ spec.post enc Try.prog fn false true false false W args v W' := by
  have hW' := hW
  obtain ⟨p, q, hA0, hV, rfl, hfz, hnd⟩ := hW
  have hA : DataW.TrodAll enc Try.prog W 0 (fun _ => true) true fn.params.toList args.toList ds p := hA0
  rw [hp] at hA hval
  rw [hvars] at hV
  obtain ⟨v0, vs0, d0, ds0, p0, q0, hargs, rfl, rfl, h0, r0⟩ := trodAll_cons hA
  obtain ⟨rfl, rfl, rfl⟩ := trodAll_nil r0
  obtain rfl : args = #[v0] := by cases args; simp_all
  obtain ⟨rfl, rfl⟩ := trodVars_none hV
  clear hA0 hA r0
  obtain ⟨m, ν, g, hm, _, hvr, hRH, hdom⟩ := arg_row (H := H) Try.underlying22 (by kernel_rfl) (by omega) (hval 0 22 v0 rfl rfl) h0 (fun f => [i64 (f 0), i64 (f 1), i64 (f 2), i64 (f 3), i64 (f 4), i64 (f 5), i64 (f 6), i64 (f 7)]) (fun _ => True) (fun f => ⟨rfl, by simp [Value.oneCell']⟩) cyc_elem 46
  obtain ⟨Γ, n, hΓ, hgood⟩ := yes m g hm
  have hcall := yes_calls hΓ (n := n) (vals := [v0]) (w := W) hf (Λ := noLam) (fun c _ => noLam_ok _ _ _) hgood (by simp only [VRs, and_true]; exact hvr) hRH hdom
  refine hcall.mono fun e W' ⟨he, hb⟩ => ?_
  subst he
  have hlt : ∀ x ∈ p0, x.block < W.heap.size := fun x hx => by simpa using hW'.lt x (by simpa using hx)
  refine ⟨_, rfl, post_below (pa := p0) (pv := []) hW' ?_ ?_ ?_ (by simp) hb ?_⟩
  · intro b sp hd
    rw [hr]
    simp only [List.append_nil, hspec]
    exact trodAll_cons_mk (shut_bool Try.underlying4 _) trodAll_mk0
  · intro sp hsp
    rw [hp]
    simp only [List.append_nil, hspec]
    refine trodAll_mk1 (WideElems.Trod_stays laidOut (by kernel_rfl) (of_decide_eq_true (by kernel_rfl)) h0 (fun x hx => hb.same (hlt x hx)) fun x hx => hsp x (by simpa using hx))
  · intro sp _
    rw [hvars]
    simp only [List.append_nil, hspec]
    rfl
  · exact ok_one hr rfl (okWide_bool_mk Try.underlying4 _)

end Go.Proofs.Ytkbdppnlojlcdaa

/- Squares in two parts of 64 bits; signs. Plain numbers. -/
namespace Go.Proofs.Ytkbdppnlojlcdaa
open Go.RowKit

abbrev U (n : Int) : Int := IntKind.u64.wrap n
theorem u64_in {n : Int} (h0 : 0 ≤ n) (h1 : n < 18446744073709551616) : U n = n := by
  have : U n = n % 18446744073709551616 := by simp [U, IntKind.wrap, IntKind.signed, IntKind.bits]
  rw [this]; omega
theorem u64_mod (n : Int) : U n = n % 18446744073709551616 := by simp [U, IntKind.wrap, IntKind.signed, IntKind.bits]

abbrev maskU (x : Int) : Int := U ↑(BitVec.ofInt IntKind.u64.bits x &&& BitVec.ofInt IntKind.u64.bits 4294967295).toNat
theorem maskU_eq {x : Int} (h0 : 0 ≤ x) (h1 : x < 18446744073709551616) : maskU x = x % 4294967296 := by
  obtain ⟨k, rfl⟩ := Int.eq_ofNat_of_zero_le h0
  have e : (BitVec.ofInt IntKind.u64.bits (k : Int) &&& BitVec.ofInt IntKind.u64.bits 4294967295).toNat = k % 4294967296 := by
    rw [BitVec.toNat_and]
    simp only [BitVec.toNat_ofInt, IntKind.bits]
    have e1 : ((k : Int) % ((2 ^ 64 : Nat) : Int)).toNat = k := by omega
    have e2 : ((4294967295 : Int) % ((2 ^ 64 : Nat) : Int)).toNat = 2 ^ 32 - 1 := by decide
    rw [e1, e2, Nat.and_two_pow_sub_one_eq_mod]
  show U _ = _
  rw [e, u64_in (by omega) (by omega)]
  omega

abbrev shrU (x : Int) (n : Int) : Int := x.fdiv (2 ^ min n.toNat IntKind.u64.bits)
theorem shr32 (x : Int) : shrU x 32 = x / 4294967296 := by
  show x.fdiv 4294967296 = _
  rw [Int.fdiv_eq_ediv_of_nonneg _ (by decide)]
theorem shr31 (x : Int) : shrU x 31 = x / 2147483648 := by
  show x.fdiv 2147483648 = _
  rw [Int.fdiv_eq_ediv_of_nonneg _ (by decide)]
theorem shr63 (x : Int) : shrU x 63 = x / 9223372036854775808 := by
  show x.fdiv 9223372036854775808 = _
  rw [Int.fdiv_eq_ediv_of_nonneg _ (by decide)]

theorem mul_bound {a b : Int} {m : Int} (ha : 0 ≤ a) (hb : 0 ≤ b) (ha1 : a ≤ m) (hb1 : b ≤ m) : 0 ≤ a * b ∧ a * b ≤ m * m :=
  ⟨Int.mul_nonneg ha hb, Int.mul_le_mul ha1 hb1 hb (by omega)⟩

/-- The square, by halves. -/
theorem sq_parts {x : Int} (h0 : 0 ≤ x) (h1 : x < 18446744073709551616) :
    let lo := x % 4294967296
    let hi := x / 4294967296
    let mid := U (lo * hi)
    let out := U (lo * lo)
    let sum := U (out + U (mid * 8589934592))
    let top := U (U (hi * hi) + mid / 2147483648)
    sum = x * x % 18446744073709551616 ∧ (if sum < out then U (top + 1) else top) = x * x / 18446744073709551616 := by
  intro lo hi mid out sum top
  have hlo0 : 0 ≤ lo := Int.emod_nonneg _ (by decide)
  have hlo1 : lo ≤ 4294967295 := by show x % 4294967296 ≤ _; omega
  have hhi0 : 0 ≤ hi := by show 0 ≤ x / 4294967296; omega
  have hhi1 : hi ≤ 4294967295 := by show x / 4294967296 ≤ _; omega
  have hx : x = hi * 4294967296 + lo := by show x = x / 4294967296 * 4294967296 + x % 4294967296; omega
  have hxx : x * x = (hi * hi) * 18446744073709551616 + (lo * hi) * 8589934592 + lo * lo := by
    rw [hx]
    simp only [Int.add_mul, Int.mul_add]
    rw [Int.mul_comm (hi * 4294967296) lo, ← Int.mul_assoc lo hi, show hi * 4294967296 * (hi * 4294967296) = hi * hi * 18446744073709551616 by
      rw [Int.mul_assoc, Int.mul_left_comm 4294967296 hi 4294967296, ← Int.mul_assoc]; rfl]
    omega
  obtain ⟨A0, A1⟩ := mul_bound hlo0 hlo0 hlo1 hlo1
  obtain ⟨B0, B1⟩ := mul_bound hlo0 hhi0 hlo1 hhi1
  obtain ⟨C0, C1⟩ := mul_bound hhi0 hhi0 hhi1 hhi1
  have hmid : mid = lo * hi := u64_in B0 (by omega)
  have hout : out = lo * lo := u64_in A0 (by omega)
  have hC : U (hi * hi) = hi * hi := u64_in C0 (by omega)
  have hsum : sum = (lo * lo + lo * hi * 8589934592 % 18446744073709551616) % 18446744073709551616 := by
    show U (out + U (mid * 8589934592)) = _
    rw [hout, hmid, u64_mod, u64_mod]
  have htop : top = hi * hi + lo * hi / 2147483648 := by
    show U (U (hi * hi) + mid / 2147483648) = _
    rw [hC, hmid]
    exact u64_in (by omega) (by omega)
  rw [htop, hsum, hout, hxx, u64_mod]
  generalize lo * lo = A at *
  generalize lo * hi = B at *
  generalize hi * hi = C at *
  clear hxx hmid hout hC hsum htop
  constructor
  · omega
  · split <;> omega

/-- The product, by halves. -/
theorem mul_parts {x y : Int} (h0 : 0 ≤ x) (h1 : x < 18446744073709551616) (k0 : 0 ≤ y) (k1 : y < 18446744073709551616) :
    let x0 := x % 4294967296
    let x1 := x / 4294967296
    let y0 := y % 4294967296
    let y1 := y / 4294967296
    let t := U (U (x1 * y0) + U (x0 * y0) / 4294967296)
    U (U (U (x1 * y1) + t / 4294967296) + U (t % 4294967296 + U (x0 * y1)) / 4294967296) = x * y / 18446744073709551616 ∧ 0 ≤ t ∧ t < 18446744073709551616 := by
  intro x0 x1 y0 y1 t
  have a0 : 0 ≤ x0 := Int.emod_nonneg _ (by decide)
  have a1 : x0 ≤ 4294967295 := by show x % 4294967296 ≤ _; omega
  have b0 : 0 ≤ x1 := by show 0 ≤ x / 4294967296; omega
  have b1 : x1 ≤ 4294967295 := by show x / 4294967296 ≤ _; omega
  have c0 : 0 ≤ y0 := Int.emod_nonneg _ (by decide)
  have c1 : y0 ≤ 4294967295 := by show y % 4294967296 ≤ _; omega
  have d0 : 0 ≤ y1 := by show 0 ≤ y / 4294967296; omega
  have d1 : y1 ≤ 4294967295 := by show y / 4294967296 ≤ _; omega
  have hx : x = x1 * 4294967296 + x0 := by show x = x / 4294967296 * 4294967296 + x % 4294967296; omega
  have hy : y = y1 * 4294967296 + y0 := by show y = y / 4294967296 * 4294967296 + y % 4294967296; omega
  have hxy : x * y = (x1 * y1) * 18446744073709551616 + (x1 * y0 + x0 * y1) * 4294967296 + x0 * y0 := by
    rw [hx, hy]
    simp only [Int.add_mul, Int.mul_add]
    rw [show x1 * 4294967296 * (y1 * 4294967296) = x1 * y1 * 18446744073709551616 by
      rw [Int.mul_assoc, Int.mul_left_comm 4294967296 y1 4294967296, ← Int.mul_assoc]; rfl, show x1 * 4294967296 * y0 = x1 * y0 * 4294967296 by rw [Int.mul_assoc, Int.mul_comm 4294967296 y0, Int.mul_assoc], ← Int.mul_assoc x0 y1]
    omega
  obtain ⟨A0, A1⟩ := mul_bound a0 c0 a1 c1
  obtain ⟨B0, B1⟩ := mul_bound b0 c0 b1 c1
  obtain ⟨C0, C1⟩ := mul_bound a0 d0 a1 d1
  obtain ⟨D0, D1⟩ := mul_bound b0 d0 b1 d1
  have ht : t = x1 * y0 + x0 * y0 / 4294967296 := by
    show U (U (x1 * y0) + U (x0 * y0) / 4294967296) = _
    rw [u64_in B0 (by omega), u64_in A0 (by omega), u64_in (by omega) (by omega)]
  rw [ht, hxy, u64_in C0 (by omega), u64_in D0 (by omega)]
  generalize x0 * y0 = A at *
  generalize x1 * y0 = B at *
  generalize x0 * y1 = C at *
  generalize x1 * y1 = D at *
  clear hxy ht t
  refine ⟨?_, by omega, by omega⟩
  rw [u64_in (n := (B + A / 4294967296) % 4294967296 + C) (by omega) (by omega), u64_in (n := D + (B + A / 4294967296) / 4294967296) (by omega) (by omega), u64_in (by omega) (by omega)]
  omega

theorem size_eq {x : Int} (h0 : -9223372036854775808 ≤ x) (h1 : x ≤ 9223372036854775807) : U (if W (0 - x) > x then W (0 - x) else x) = (x.natAbs : Int) := by
  by_cases hx : x = -9223372036854775808
  · subst hx; rfl
  · rw [w64_in (x := 0 - x) (by omega) (by omega)]
    split
    · rw [u64_in (by omega) (by omega)]; omega
    · rw [u64_in (by omega) (by omega)]; omega

end Go.Proofs.Ytkbdppnlojlcdaa

/- Signs: the functions on words of 64 bits. No conditions but bounds. -/
namespace Go.Proofs.Ytkbdppnlojlcdaa
open Go.RowKit
set_option maxRecDepth 100000

theorem f_bool {v : Value} {x y : Bool} (h : outV (rv (.bool x)) = some v) (e : x = y) : outV (rv (.bool y)) = some v := e ▸ h

def f_nanI : List Value → Option (Value × List Bool)
  | [.int .i64 x] => some (.bool false, [])
  | _ => none

theorem ok_nanI : SpecOk Try.prog 134 (specV f_nanI) := by
  refine mkV (n := 100) gm_l3Sum_ok Try.func134 rfl fun vs x ob hF ho => ?_
  unfold f_nanI at hF
  split at hF
  · rename_i x
    simp only [Option.some.injEq, Prod.mk.injEq] at hF
    obtain ⟨rfl, rfl⟩ := hF
    have e : getV (execF Try.prog gm_l3Sum noLam 100 Try.f134 ([.int .i64 x].map .v) [] valK) = some (.bool (bif x == x then false else true)) := by kernel_rfl
    rw [show (bif x == x then false else true) = false by simp] at e
    exact one e
  · cases hF

def gm_nanI : Gam := ext gm_l3Sum 134 (specV f_nanI)
theorem gm_nanI_ok : GamOk Try.prog gm_nanI := ext_ok gm_l3Sum_ok ok_nanI

def f_nanU : List Value → Option (Value × List Bool)
  | [.int .u64 x] => some (.bool false, [])
  | _ => none

theorem ok_nanU : SpecOk Try.prog 126 (specV f_nanU) := by
  refine mkV (n := 100) gm_nanI_ok Try.func126 rfl fun vs x ob hF ho => ?_
  unfold f_nanU at hF
  split at hF
  · rename_i x
    simp only [Option.some.injEq, Prod.mk.injEq] at hF
    obtain ⟨rfl, rfl⟩ := hF
    have e : getV (execF Try.prog gm_nanI noLam 100 Try.f126 ([.int .u64 x].map .v) [] valK) = some (.bool (bif x == x then false else true)) := by kernel_rfl
    rw [show (bif x == x then false else true) = false by simp] at e
    exact one e
  · cases hF

def gm_nanU : Gam := ext gm_nanI 126 (specV f_nanU)
theorem gm_nanU_ok : GamOk Try.prog gm_nanU := ext_ok gm_nanI_ok ok_nanU

def f_cmpI : List Value → Option (Value × List Bool)
  | [.int .i64 x, .int .i64 y] => some (.int .i64 (sgZ x y), [])
  | _ => none

theorem ok_cmpI : SpecOk Try.prog 125 (specV f_cmpI) := by
  refine mkV (n := 100) gm_nanU_ok Try.func125 rfl fun vs x ob hF ho => ?_
  unfold f_cmpI at hF
  split at hF
  · rename_i x y
    simp only [Option.some.injEq, Prod.mk.injEq] at hF
    obtain ⟨rfl, rfl⟩ := hF
    have e : execF Try.prog gm_nanU noLam 100 Try.f125 ([.int .i64 x, .int .i64 y].map .v) [] valK = cond (decide (x < y)) (rv (.int .i64 (-1))) (cond (decide (x > y)) (rv (.int .i64 1)) (rv (.int .i64 0))) := by kernel_rfl
    rw [e]
    exact gives_of (by simp only [outV_cond, outV_rv, cond_some, cond_int, sgZ])
  · cases hF

def gm_cmpI : Gam := ext gm_nanU 125 (specV f_cmpI)
theorem gm_cmpI_ok : GamOk Try.prog gm_cmpI := ext_ok gm_nanU_ok ok_cmpI

def f_cmpU : List Value → Option (Value × List Bool)
  | [.int .u64 x, .int .u64 y] => some (.int .i64 (sgZ x y), [])
  | _ => none

theorem ok_cmpU : SpecOk Try.prog 119 (specV f_cmpU) := by
  refine mkV (n := 100) gm_cmpI_ok Try.func119 rfl fun vs x ob hF ho => ?_
  unfold f_cmpU at hF
  split at hF
  · rename_i x y
    simp only [Option.some.injEq, Prod.mk.injEq] at hF
    obtain ⟨rfl, rfl⟩ := hF
    have e : execF Try.prog gm_cmpI noLam 100 Try.f119 ([.int .u64 x, .int .u64 y].map .v) [] valK = cond (decide (x < y)) (rv (.int .i64 (-1))) (cond (decide (x > y)) (rv (.int .i64 1)) (rv (.int .i64 0))) := by kernel_rfl
    rw [e]
    exact gives_of (by simp only [outV_cond, outV_rv, cond_some, cond_int, sgZ])
  · cases hF

def gm_cmpU : Gam := ext gm_cmpI 119 (specV f_cmpU)
theorem gm_cmpU_ok : GamOk Try.prog gm_cmpU := ext_ok gm_cmpI_ok ok_cmpU

def f_size : List Value → Option (Value × List Bool)
  | [.int .i64 x] => some (.int .u64 (x.natAbs : Int), [inR x (-9223372036854775808) 9223372036854775807])
  | _ => none

theorem ok_size : SpecOk Try.prog 117 (specV f_size) := by
  refine mkV (n := 100) gm_cmpU_ok Try.func117 rfl fun vs x ob hF ho => ?_
  unfold f_size at hF
  split at hF
  · rename_i x
    simp only [Option.some.injEq, Prod.mk.injEq] at hF
    obtain ⟨rfl, rfl⟩ := hF
    have hb := inR_iff.1 (show inR x (-9223372036854775808) 9223372036854775807 = true by simpa [obls] using ho)
    have e : getV (execF Try.prog gm_cmpU noLam 100 Try.f117 ([.int .i64 x].map .v) [] valK) = some (.int .u64 (U (if W (0 - x) > x then W (0 - x) else x))) := by kernel_rfl
    rw [size_eq hb.1 hb.2] at e
    exact one e
  · cases hF

def gm_size : Gam := ext gm_cmpU 117 (specV f_size)
theorem gm_size_ok : GamOk Try.prog gm_size := ext_ok gm_cmpU_ok ok_size

def f_l3Size : List Value → Option (Value × List Bool)
  | [.int .i64 x] => some (.int .u64 (x.natAbs : Int), [inR x (-9223372036854775808) 9223372036854775807])
  | _ => none

theorem ok_l3Size : SpecOk Try.prog 111 (specV f_l3Size) := by
  refine mkV (n := 100) gm_size_ok Try.func111 rfl fun vs x ob hF ho => ?_
  unfold f_l3Size at hF
  split at hF
  · rename_i x
    simp only [Option.some.injEq, Prod.mk.injEq] at hF
    obtain ⟨rfl, rfl⟩ := hF
    have hb := inR_iff.1 (show inR x (-9223372036854775808) 9223372036854775807 = true by simpa [obls] using ho)
    have e : getV (execF Try.prog gm_size noLam 100 Try.f111 ([.int .i64 x].map .v) [] valK) = some (.int .u64 (U (if W (0 - x) > x then W (0 - x) else x))) := by kernel_rfl
    rw [size_eq hb.1 hb.2] at e
    exact one e
  · cases hF

def gm_l3Size : Gam := ext gm_size 111 (specV f_l3Size)
theorem gm_l3Size_ok : GamOk Try.prog gm_l3Size := ext_ok gm_size_ok ok_l3Size

def f_l3Square : List Value → Option (Value × List Bool)
  | [.int .u64 x] => some (.tuple #[.int .u64 (x * x / 18446744073709551616), .int .u64 (x * x % 18446744073709551616)], [decide (0 ≤ x), decide (x < 18446744073709551616)])
  | _ => none

theorem ok_l3Square : SpecOk Try.prog 110 (specV f_l3Square) := by
  refine mkV (n := 100) gm_l3Size_ok Try.func110 rfl fun vs x ob hF ho => ?_
  unfold f_l3Square at hF
  split at hF
  · rename_i x
    simp only [Option.some.injEq, Prod.mk.injEq] at hF
    obtain ⟨rfl, rfl⟩ := hF
    obtain ⟨h0, h1⟩ := obl2 ho
    have h0 := of_decide_eq_true h0
    have h1 := of_decide_eq_true h1
    have e : execF Try.prog gm_l3Size noLam 100 Try.f110 ([.int .u64 x].map .v) [] valK = cond (decide (U (U (maskU x * maskU x) + U (U (maskU x * shrU x 32) * 8589934592)) < U (maskU x * maskU x)))
      (rt [.v (.int .u64 (U (U (U (shrU x 32 * shrU x 32) + shrU (U (maskU x * shrU x 32)) 31) + 1))), .v (.int .u64 (U (U (maskU x * maskU x) + U (U (maskU x * shrU x 32) * 8589934592))))])
      (rt [.v (.int .u64 (U (U (shrU x 32 * shrU x 32) + shrU (U (maskU x * shrU x 32)) 31))), .v (.int .u64 (U (U (maskU x * maskU x) + U (U (maskU x * shrU x 32) * 8589934592))))]) := by kernel_rfl
    rw [e, maskU_eq h0 h1, shr32, shr31]
    obtain ⟨p1, p2⟩ := sq_parts h0 h1
    clear e
    rw [p1]
    rw [p1] at p2
    by_cases hc : x * x % 18446744073709551616 < U (x % 4294967296 * (x % 4294967296))
    · rw [if_pos hc] at p2
      rw [decide_eq_true hc, cond_true, p2]
      exact one rfl
    · rw [if_neg hc] at p2
      rw [decide_eq_false hc, cond_false, p2]
      exact one rfl
  · cases hF

def gm_l3Square : Gam := ext gm_l3Size 110 (specV f_l3Square)
theorem gm_l3Square_ok : GamOk Try.prog gm_l3Square := ext_ok gm_l3Size_ok ok_l3Square

def f_mul64 : List Value → Option (Value × List Bool)
  | [.int .u64 x, .int .u64 y] => some (.tuple #[.int .u64 (x * y / 18446744073709551616), .int .u64 (U (x * y))], [decide (0 ≤ x), decide (x < 18446744073709551616), decide (0 ≤ y), decide (y < 18446744073709551616)])
  | _ => none

theorem ok_mul64 : SpecOk Try.prog 116 (specV f_mul64) := by
  refine mkV (n := 100) gm_l3Square_ok Try.func116 rfl fun vs x ob hF ho => ?_
  unfold f_mul64 at hF
  split at hF
  · rename_i x y
    simp only [Option.some.injEq, Prod.mk.injEq] at hF
    obtain ⟨rfl, rfl⟩ := hF
    simp only [obls, List.all_cons, List.all_nil, Bool.and_true, Bool.and_eq_true, id, decide_eq_true_eq] at ho
    obtain ⟨h0, h1, k0, k1⟩ := ho
    have e : getV (execF Try.prog gm_l3Square noLam 100 Try.f116 ([.int .u64 x, .int .u64 y].map .v) [] valK) = some (.tuple #[.int .u64 (U (U (U (shrU x 32 * shrU y 32) + shrU (U (U (shrU x 32 * maskU y) + shrU (U (maskU x * maskU y)) 32)) 32) + shrU (U (maskU (U (U (shrU x 32 * maskU y) + shrU (U (maskU x * maskU y)) 32)) + U (maskU x * shrU y 32))) 32)), .int .u64 (U (x * y))]) := by kernel_rfl
    obtain ⟨p1, p2, p3⟩ := mul_parts h0 h1 k0 k1
    simp only [shr32] at e
    rw [maskU_eq h0 h1, maskU_eq k0 k1, maskU_eq p2 p3, p1] at e
    exact one e
  · cases hF

def gm_mul64 : Gam := ext gm_l3Square 116 (specV f_mul64)
theorem gm_mul64_ok : GamOk Try.prog gm_mul64 := ext_ok gm_l3Square_ok ok_mul64

end Go.Proofs.Ytkbdppnlojlcdaa

/- The sign of x + y root 2. Plain numbers. -/
namespace Go.Proofs.Ytkbdppnlojlcdaa
open Go.RowKit

theorem no_root : ∀ (n x y : Nat), x ≤ n → x * x = 2 * (y * y) → x = 0
  | 0, x, y, h, _ => by omega
  | n + 1, x, y, h, e => by
    rcases Nat.eq_zero_or_pos x with hx | hx
    · exact hx
    · exfalso
      have h2 : x % 2 = 0 := by
        have : (x * x) % 2 = 0 := by omega
        rw [Nat.mul_mod] at this
        rcases Nat.mod_two_eq_zero_or_one x with h | h
        · exact h
        · rw [h] at this; simp at this
      obtain ⟨a, rfl⟩ : ∃ a, x = 2 * a := ⟨x / 2, by omega⟩
      have e1 : y * y = 2 * (a * a) := by
        have : 2 * a * (2 * a) = 4 * (a * a) := by rw [Nat.mul_mul_mul_comm]
        omega
      have ha : a * a < y * y := by
        have : 0 < a * a := Nat.mul_pos (by omega) (by omega)
        omega
      have hy : y * y < 2 * a * (2 * a) := by
        have : 2 * a * (2 * a) = 4 * (a * a) := by rw [Nat.mul_mul_mul_comm]
        have : 0 < a * a := Nat.mul_pos (by omega) (by omega)
        omega
      have hlt : y < 2 * a := by
        rcases Nat.lt_or_ge y (2 * a) with h | h
        · exact h
        · have := Nat.mul_le_mul h h; omega
      have := no_root n y a (by omega) e1
      subst this
      omega

/-- The sign of x + y root 2. -/
def sg2 (x y : Int) : Int :=
  if 0 ≤ x ∧ 0 ≤ y then (if x = 0 ∧ y = 0 then 0 else 1)
  else if x ≤ 0 ∧ y ≤ 0 then -1
  else if x < 0 then (if x * x > 2 * (y * y) then -1 else 1)
  else (if x * x > 2 * (y * y) then 1 else -1)

abbrev topU (h l : Int) : Int := U ↑(BitVec.ofInt IntKind.u64.bits (U (h * 2)) ||| BitVec.ofInt IntKind.u64.bits (shrU l 63)).toNat
theorem topU_eq {h l : Int} (h0 : 0 ≤ h) (h1 : h * 2 < 18446744073709551616) (l0 : 0 ≤ l) (l1 : l < 18446744073709551616) : topU h l = h * 2 + l / 9223372036854775808 := by
  obtain ⟨a, rfl⟩ := Int.eq_ofNat_of_zero_le h0
  obtain ⟨b, hb⟩ := Int.eq_ofNat_of_zero_le (a := l / 9223372036854775808) (by omega)
  have hb2 : b < 2 := by omega
  show U _ = _
  rw [shr63, u64_in (n := (a : Int) * 2) (by omega) h1, hb]
  have e : (BitVec.ofInt IntKind.u64.bits ((a : Int) * 2) ||| BitVec.ofInt IntKind.u64.bits (b : Int)).toNat = a * 2 + b := by
    rw [BitVec.toNat_or]
    simp only [BitVec.toNat_ofInt, IntKind.bits]
    have e1 : (((a : Int) * 2) % ((2 ^ 64 : Nat) : Int)).toNat = a * 2 := by omega
    have e2 : ((b : Int) % ((2 ^ 64 : Nat) : Int)).toNat = b := by omega
    rw [e1, e2]
    have := Nat.shiftLeft_add_eq_or_of_lt (i := 1) (b := b) (by omega) a
    rw [Nat.shiftLeft_eq] at this
    simpa using this.symm
  rw [e, u64_in (by omega) (by omega)]
  omega

/-- Squares of 64 bits against twice squares. -/
theorem sq_cmp {x y : Int} (hx0 : -9223372036854775808 ≤ x) (hx1 : x ≤ 9223372036854775807) (hy0 : -9223372036854775808 ≤ y) (hy1 : y ≤ 9223372036854775807) :
    let X : Int := x.natAbs
    let Y : Int := y.natAbs
    let hx := X * X / 18446744073709551616
    let lx := X * X % 18446744073709551616
    let hy := Y * Y / 18446744073709551616
    let ly := Y * Y % 18446744073709551616
    let top := topU hy ly
    let rest := U (ly * 2)
    (hx > top ∨ (hx = top ∧ lx > rest) ↔ x * x > 2 * (y * y)) ∧ (hx = top ∧ lx = rest ↔ x * x = 2 * (y * y)) := by
  intro X Y hx lx hy ly top rest
  have eX : X * X = x * x := by show (x.natAbs : Int) * x.natAbs = _; exact Int.natAbs_mul_self
  have eY : Y * Y = y * y := by show (y.natAbs : Int) * y.natAbs = _; exact Int.natAbs_mul_self
  have bY : 0 ≤ Y * Y ∧ Y * Y ≤ 9223372036854775808 * 9223372036854775808 := mul_bound (by show (0 : Int) ≤ (y.natAbs : Int); omega) (by show (0 : Int) ≤ (y.natAbs : Int); omega) (by show (y.natAbs : Int) ≤ _; omega) (by show (y.natAbs : Int) ≤ _; omega)
  have bX : 0 ≤ X * X ∧ X * X ≤ 9223372036854775808 * 9223372036854775808 := mul_bound (by show (0 : Int) ≤ (x.natAbs : Int); omega) (by show (0 : Int) ≤ (x.natAbs : Int); omega) (by show (x.natAbs : Int) ≤ _; omega) (by show (x.natAbs : Int) ≤ _; omega)
  have ht : top = hy * 2 + ly / 9223372036854775808 := topU_eq (by show 0 ≤ Y * Y / _; omega) (by show Y * Y / 18446744073709551616 * 2 < _; omega) (by show 0 ≤ Y * Y % _; omega) (by show Y * Y % 18446744073709551616 < _; omega)
  have hr : rest = (ly * 2) % 18446744073709551616 := u64_mod _
  rw [ht, hr, ← eX, ← eY]
  simp only [hx, lx, hy, ly]
  generalize X * X = P at *
  generalize Y * Y = R at *
  clear ht hr eX eY
  omega

theorem no_root_int {x y : Int} (h : x * x = 2 * (y * y)) : x = 0 := by
  have e : x.natAbs * x.natAbs = 2 * (y.natAbs * y.natAbs) := by
    have h1 : ((x.natAbs * x.natAbs : Nat) : Int) = ((2 * (y.natAbs * y.natAbs) : Nat) : Int) := by
      push_cast
      rw [Int.natAbs_mul_self', Int.natAbs_mul_self']
      exact h
    exact_mod_cast h1
  have := no_root _ _ _ (Nat.le_refl _) e
  omega

theorem sgZ_cases (a b : Int) : (a < b ∧ sgZ a b = -1) ∨ (a = b ∧ sgZ a b = 0) ∨ (a > b ∧ sgZ a b = 1) := by
  unfold sgZ
  by_cases h1 : a < b
  · exact .inl ⟨h1, by rw [decide_eq_true h1]; rfl⟩
  · by_cases h2 : a > b
    · exact .inr (.inr ⟨h2, by rw [decide_eq_false h1, decide_eq_true h2]; rfl⟩)
    · exact .inr (.inl ⟨by omega, by rw [decide_eq_false h1, decide_eq_false h2]; rfl⟩)

theorem beqI (a b : Int) : (a == b) = decide (a = b) := by
  by_cases h : a = b
  · subst h; simp
  · simp [h]

/-- By the signs of both, and then by the squares. -/
theorem signA_eq {x y : Int} {u1 u2 v1 v2 : Int} (h1 : u1 > v1 ∨ (u1 = v1 ∧ u2 > v2) ↔ x * x > 2 * (y * y)) (h2 : u1 = v1 ∧ u2 = v2 ↔ x * x = 2 * (y * y)) :
    (bif sgZ x 0 == sgZ y 0 then sgZ x 0 else bif sgZ y 0 == 0 then sgZ x 0 else bif sgZ x 0 == 0 then sgZ y 0 else
      bif sgZ u1 v1 != 0 then (bif sgZ u1 v1 == 1 then sgZ x 0 else bif sgZ u1 v1 == -1 then sgZ y 0 else 0) else
      bif sgZ u2 v2 != 0 then (bif sgZ u2 v2 == 1 then sgZ x 0 else bif sgZ u2 v2 == -1 then sgZ y 0 else 0) else 0) = sg2 x y := by
  have h3 : x * x = 2 * (y * y) → x = 0 := no_root_int
  unfold sg2
  generalize x * x = P at *
  generalize y * y = R at *
  rcases sgZ_cases x 0 with ⟨a1, a2⟩ | ⟨a1, a2⟩ | ⟨a1, a2⟩ <;> rcases sgZ_cases y 0 with ⟨b1, b2⟩ | ⟨b1, b2⟩ | ⟨b1, b2⟩ <;> rw [a2, b2] <;>
    first
      | (simp only [show ((-1 : Int) == -1) = true from rfl, show ((0 : Int) == 0) = true from rfl, show ((1 : Int) == 1) = true from rfl, show ((-1 : Int) == 0) = false from rfl, show ((-1 : Int) == 1) = false from rfl, show ((1 : Int) == 0) = false from rfl, show ((1 : Int) == -1) = false from rfl, show ((0 : Int) == 1) = false from rfl, show ((0 : Int) == -1) = false from rfl, cond_true, cond_false]
         repeat' split
         all_goals omega)
      | (rcases sgZ_cases u1 v1 with ⟨c1, c2⟩ | ⟨c1, c2⟩ | ⟨c1, c2⟩ <;> rcases sgZ_cases u2 v2 with ⟨d1, d2⟩ | ⟨d1, d2⟩ | ⟨d1, d2⟩ <;> rw [c2, d2] <;>
          simp only [bne, show ((-1 : Int) == -1) = true from rfl, show ((0 : Int) == 0) = true from rfl, show ((1 : Int) == 1) = true from rfl, show ((-1 : Int) == 0) = false from rfl, show ((-1 : Int) == 1) = false from rfl, show ((1 : Int) == 0) = false from rfl, show ((1 : Int) == -1) = false from rfl, show ((0 : Int) == 1) = false from rfl, show ((0 : Int) == -1) = false from rfl, cond_true, cond_false, Bool.not_true, Bool.not_false] <;>
          (repeat' split) <;> omega)

theorem flat_eq {x y : Int} (h : 0 ≤ x ∧ 0 ≤ y ∨ x ≤ 0 ∧ y ≤ 0) :
    (if (if IntKind.i64.wrap ((if (if x < 1 then x else 1) > -1 then (if x < 1 then x else 1) else -1) + (if (if y < 1 then y else 1) > -1 then (if y < 1 then y else 1) else -1)) > -1 then IntKind.i64.wrap ((if (if x < 1 then x else 1) > -1 then (if x < 1 then x else 1) else -1) + (if (if y < 1 then y else 1) > -1 then (if y < 1 then y else 1) else -1)) else -1) < 1 then
      (if IntKind.i64.wrap ((if (if x < 1 then x else 1) > -1 then (if x < 1 then x else 1) else -1) + (if (if y < 1 then y else 1) > -1 then (if y < 1 then y else 1) else -1)) > -1 then IntKind.i64.wrap ((if (if x < 1 then x else 1) > -1 then (if x < 1 then x else 1) else -1) + (if (if y < 1 then y else 1) > -1 then (if y < 1 then y else 1) else -1)) else -1) else 1) = sg2 x y := by
  have e : ∀ z : Int, (if (if z < 1 then z else 1) > -1 then (if z < 1 then z else 1) else -1) = (if z < 0 then -1 else if z = 0 then 0 else 1) := by
    intro z
    repeat' split
    all_goals omega
  rw [e x, e y]
  have w : ∀ n : Int, -2 ≤ n → n ≤ 2 → IntKind.i64.wrap n = n := fun n h1 h2 => w64_in (by omega) (by omega)
  rw [w _ (by repeat' split; all_goals omega) (by repeat' split; all_goals omega)]
  unfold sg2
  generalize x * x = P at *
  generalize y * y = R at *
  repeat' split
  all_goals omega

end Go.Proofs.Ytkbdppnlojlcdaa

/- The sign of x + y root 2, by the program and by the reference. No conditions but bounds. -/
namespace Go.Proofs.Ytkbdppnlojlcdaa
open Go.RowKit
set_option maxRecDepth 100000

def fMul (hi : Int → Int → Int) : List Value → Option (Value × List Bool)
  | [.int .u64 x, .int .u64 y] => some (.tuple #[.int .u64 (hi x y), .int .u64 (U (x * y))], [])
  | _ => none
def fSq (hi lo : Int → Int) : List Value → Option (Value × List Bool)
  | [.int .u64 x] => some (.tuple #[.int .u64 (hi x), .int .u64 (lo x)], [])
  | _ => none
def fSz (sz : Int → Int) : List Value → Option (Value × List Bool)
  | [.int .i64 x] => some (.int .u64 (sz x), [])
  | _ => none
def fSg (sg : Int → Int) : List Value → Option (Value × List Bool)
  | [.int .i64 x] => some (.int .i64 (sg x), [])
  | _ => none
def fCu (cu : Int → Int → Int) : List Value → Option (Value × List Bool)
  | [.int .u64 x, .int .u64 y] => some (.int .i64 (cu x y), [])
  | _ => none

def rawHi (x y : Int) : Int := U (U (U (shrU x 32 * shrU y 32) + shrU (U (U (shrU x 32 * maskU y) + shrU (U (maskU x * maskU y)) 32)) 32) + shrU (U (maskU (U (U (shrU x 32 * maskU y) + shrU (U (maskU x * maskU y)) 32)) + U (maskU x * shrU y 32))) 32)
def rawSz (x : Int) : Int := U (if W (0 - x) > x then W (0 - x) else x)
def rawLo (x : Int) : Int := U (U (maskU x * maskU x) + U (U (maskU x * shrU x 32) * 8589934592))
def rawTop (x : Int) : Int := bif decide (U (U (maskU x * maskU x) + U (U (maskU x * shrU x 32) * 8589934592)) < U (maskU x * maskU x)) then U (U (U (shrU x 32 * shrU x 32) + shrU (U (maskU x * shrU x 32)) 31) + 1) else U (U (shrU x 32 * shrU x 32) + shrU (U (maskU x * shrU x 32)) 31)

theorem rawHi_eq {x : Int} (h0 : 0 ≤ x) (h1 : x < 18446744073709551616) : rawHi x x = x * x / 18446744073709551616 := by
  obtain ⟨p1, p2, p3⟩ := mul_parts h0 h1 h0 h1
  unfold rawHi
  simp only [shr32]
  rw [maskU_eq h0 h1, maskU_eq p2 p3, p1]
theorem rawLo_eq {x : Int} (h0 : 0 ≤ x) (h1 : x < 18446744073709551616) : rawLo x = x * x % 18446744073709551616 := by
  unfold rawLo
  rw [maskU_eq h0 h1, shr32]
  exact (sq_parts h0 h1).1
theorem rawTop_eq {x : Int} (h0 : 0 ≤ x) (h1 : x < 18446744073709551616) : rawTop x = x * x / 18446744073709551616 := by
  unfold rawTop
  rw [maskU_eq h0 h1, shr32, shr31]
  rw [← (sq_parts h0 h1).2, Bool.cond_decide]
theorem rawSz_eq {x : Int} (h0 : -9223372036854775808 ≤ x) (h1 : x ≤ 9223372036854775807) : rawSz x = x.natAbs := size_eq h0 h1

theorem okr_mul : SpecOk Try.prog 116 (specV (fMul rawHi)) := by
  refine mkV (n := 100) g0_ok Try.func116 rfl fun vs x ob hF ho => ?_
  unfold fMul at hF
  split at hF
  · rename_i x y
    cases hF
    exact one (by kernel_rfl)
  · cases hF
theorem okr_size : SpecOk Try.prog 117 (specV (fSz rawSz)) := by
  refine mkV (n := 100) g0_ok Try.func117 rfl fun vs x ob hF ho => ?_
  unfold fSz at hF
  split at hF
  · rename_i x
    cases hF
    exact one (by kernel_rfl)
  · cases hF
theorem okr_size' : SpecOk Try.prog 111 (specV (fSz rawSz)) := by
  refine mkV (n := 100) g0_ok Try.func111 rfl fun vs x ob hF ho => ?_
  unfold fSz at hF
  split at hF
  · rename_i x
    cases hF
    exact one (by kernel_rfl)
  · cases hF
theorem okr_sq : SpecOk Try.prog 110 (specV (fSq rawTop rawLo)) := by
  refine mkV (n := 100) g0_ok Try.func110 rfl fun vs x ob hF ho => ?_
  unfold fSq at hF
  split at hF
  · rename_i x
    cases hF
    have e : execF Try.prog g0 noLam 100 Try.f110 ([.int .u64 x].map .v) [] valK = cond (decide (U (U (maskU x * maskU x) + U (U (maskU x * shrU x 32) * 8589934592)) < U (maskU x * maskU x)))
        (rt [.v (.int .u64 (U (U (U (shrU x 32 * shrU x 32) + shrU (U (maskU x * shrU x 32)) 31) + 1))), .v (.int .u64 (rawLo x))])
        (rt [.v (.int .u64 (U (U (shrU x 32 * shrU x 32) + shrU (U (maskU x * shrU x 32)) 31))), .v (.int .u64 (rawLo x))]) := by kernel_rfl
    rw [e]
    unfold rawTop
    generalize hb : decide (U (U (maskU x * maskU x) + U (U (maskU x * shrU x 32) * 8589934592)) < U (maskU x * maskU x)) = b
    cases b
    · exact one rfl
    · exact one rfl
  · cases hF
theorem okr_sg : SpecOk Try.prog 115 (specV (fSg fun x => sgZ x 0)) := by
  refine mkV (n := 100) gm_cmpU_ok Try.func115 rfl fun vs x ob hF ho => ?_
  unfold fSg at hF
  split at hF
  · rename_i x
    cases hF
    exact one (by kernel_rfl)
  · cases hF
theorem okr_cu : SpecOk Try.prog 119 (specV (fCu sgZ)) := by
  refine mkV (n := 100) gm_nanU_ok Try.func119 rfl fun vs x ob hF ho => ?_
  unfold fCu at hF
  split at hF
  · rename_i x y
    cases hF
    have e : execF Try.prog gm_nanU noLam 100 Try.f119 ([.int .u64 x, .int .u64 y].map .v) [] valK = cond (decide (x < y)) (rv (.int .i64 (-1))) (cond (decide (x > y)) (rv (.int .i64 1)) (rv (.int .i64 0))) := by kernel_rfl
    rw [e]
    exact gives_of (by simp only [outV_cond, outV_rv, cond_some, cond_int, sgZ])
  · cases hF

/-- The tables, with what the callees return left open. -/
def gmA (hi cu : Int → Int → Int) (sg sz : Int → Int) : Gam := ext (ext (ext (ext g0 116 (specV (fMul hi))) 117 (specV (fSz sz))) 115 (specV (fSg sg))) 119 (specV (fCu cu))
def gmB (hi lo sz : Int → Int) : Gam := ext (ext g0 110 (specV (fSq hi lo))) 111 (specV (fSz sz))
theorem gmA_ok : GamOk Try.prog (gmA rawHi sgZ (fun x => sgZ x 0) rawSz) := ext_ok (ext_ok (ext_ok (ext_ok g0_ok okr_mul) okr_size) okr_sg) okr_cu
theorem gmB_ok : GamOk Try.prog (gmB rawTop rawLo rawSz) := ext_ok (ext_ok g0_ok okr_sq) okr_size'

abbrev ri (x : Int) : Res := rv (.int .i64 x)
theorem treeA (x y : Int) (hi cu : Int → Int → Int) (sg sz : Int → Int) : execF Try.prog (gmA hi cu sg sz) noLam 100 Try.f95 ([.int .i64 x, .int .i64 y].map .v) [] valK
    = cond (sg x == sg y) (ri (sg x)) (cond (sg y == 0) (ri (sg x)) (cond (sg x == 0) (ri (sg y))
      (cond (cu (hi (sz x) (sz x)) (topU (hi (sz y) (sz y)) (U (sz y * sz y))) != 0)
        (cond (cu (hi (sz x) (sz x)) (topU (hi (sz y) (sz y)) (U (sz y * sz y))) == 1) (ri (sg x)) (cond (cu (hi (sz x) (sz x)) (topU (hi (sz y) (sz y)) (U (sz y * sz y))) == -1) (ri (sg y)) (ri 0)))
        (cond (cu (U (sz x * sz x)) (U (U (sz y * sz y) * 2)) != 0)
          (cond (cu (U (sz x * sz x)) (U (U (sz y * sz y) * 2)) == 1) (ri (sg x)) (cond (cu (U (sz x * sz x)) (U (U (sz y * sz y) * 2)) == -1) (ri (sg y)) (ri 0))) (ri 0))))) := by kernel_rfl

abbrev mnI (a : Int) : Int := if a < 1 then a else 1
abbrev mxI (a : Int) : Int := if a > -1 then a else -1
abbrev flatI (x y : Int) : Int := mnI (mxI (IntKind.i64.wrap (mxI (mnI x) + mxI (mnI y))))
abbrev cmpB (x y : Int) (hi lo sz : Int → Int) (s : Int) : Res := cond (decide (hi (sz x) > topU (hi (sz y)) (lo (sz y)))) (ri s) (cond (hi (sz x) == topU (hi (sz y)) (lo (sz y))) (cond (decide (lo (sz x) > U (lo (sz y) * 2))) (ri s) (ri (IntKind.i64.wrap (0 - s)))) (ri (IntKind.i64.wrap (0 - s))))
abbrev tailB (x y : Int) (hi lo sz : Int → Int) : Res := cond (decide (x < 0)) (cmpB x y hi lo sz (-1)) (cmpB x y hi lo sz 1)
theorem treeB (x y : Int) (hi lo sz : Int → Int) : execF Try.prog (gmB hi lo sz) noLam 100 Try.f86 ([.int .i64 x, .int .i64 y].map .v) [] valK
    = cond (decide (x ≥ 0)) (cond (decide (y ≥ 0)) (ri (flatI x y)) (cond (decide (x ≤ 0)) (cond (decide (y ≤ 0)) (ri (flatI x y)) (tailB x y hi lo sz)) (tailB x y hi lo sz)))
      (cond (decide (x ≤ 0)) (cond (decide (y ≤ 0)) (ri (flatI x y)) (tailB x y hi lo sz)) (tailB x y hi lo sz)) := by kernel_rfl

theorem topU_raw {x y : Int} (hx : inR x (-9223372036854775808) 9223372036854775807 = true) (hy : inR y (-9223372036854775808) 9223372036854775807 = true) {u1 v1 u2 v2 : Int}
    (e1 : u1 = (x.natAbs : Int) * x.natAbs / 18446744073709551616) (e2 : v1 = topU ((y.natAbs : Int) * y.natAbs / 18446744073709551616) ((y.natAbs : Int) * y.natAbs % 18446744073709551616)) (e3 : u2 = (x.natAbs : Int) * x.natAbs % 18446744073709551616) (e4 : v2 = U ((y.natAbs : Int) * y.natAbs % 18446744073709551616 * 2)) :
    (u1 > v1 ∨ (u1 = v1 ∧ u2 > v2) ↔ x * x > 2 * (y * y)) ∧ (u1 = v1 ∧ u2 = v2 ↔ x * x = 2 * (y * y)) := by
  have hx := inR_iff.1 hx
  have hy := inR_iff.1 hy
  subst e1 e2 e3 e4
  exact sq_cmp hx.1 hx.2 hy.1 hy.2

def f_two : List Value → Option (Value × List Bool)
  | [.int .i64 x, .int .i64 y] => some (.int .i64 (sg2 x y), [inR x (-9223372036854775808) 9223372036854775807, inR y (-9223372036854775808) 9223372036854775807])
  | _ => none

theorem nat_in {x : Int} (hx : inR x (-9223372036854775808) 9223372036854775807 = true) : (0 : Int) ≤ (x.natAbs : Int) ∧ (x.natAbs : Int) < 18446744073709551616 := by
  have hx := inR_iff.1 hx
  omega

theorem ok_sign2 : SpecOk Try.prog 95 (specV f_two) := by
  refine mkV (n := 100) gmA_ok Try.func95 rfl fun vs v ob hF ho => ?_
  unfold f_two at hF
  split at hF
  · rename_i x y
    cases hF
    obtain ⟨hx, hy⟩ := obl2 ho
    have hx' := inR_iff.1 hx
    have hy' := inR_iff.1 hy
    rw [treeA x y rawHi sgZ (fun x => sgZ x 0) rawSz]
    refine gives_of ?_
    simp only [outV_cond, outV_rv, cond_some, cond_int]
    congr 2
    obtain ⟨h1, h2⟩ := topU_raw hx hy (u1 := rawHi (rawSz x) (rawSz x)) (v1 := topU (rawHi (rawSz y) (rawSz y)) (U (rawSz y * rawSz y))) (u2 := U (rawSz x * rawSz x)) (v2 := U (U (rawSz y * rawSz y) * 2))
      (by rw [rawSz_eq hx'.1 hx'.2, rawHi_eq (nat_in hx).1 (nat_in hx).2]) (by rw [rawSz_eq hy'.1 hy'.2, rawHi_eq (nat_in hy).1 (nat_in hy).2, u64_mod (_ * _)]) (by rw [rawSz_eq hx'.1 hx'.2, u64_mod]) (by rw [rawSz_eq hy'.1 hy'.2, u64_mod ((y.natAbs : Int) * (y.natAbs : Int))])
    exact signA_eq h1 h2
  · cases hF

theorem two_eq {x y : Int} {u1 u2 v1 v2 : Int} (h1 : u1 > v1 ∨ (u1 = v1 ∧ u2 > v2) ↔ x * x > 2 * (y * y)) (s : Int) (hs : s = 1 ∨ s = -1) :
    (bif decide (u1 > v1) then s else bif u1 == v1 then (bif decide (u2 > v2) then s else IntKind.i64.wrap (0 - s)) else IntKind.i64.wrap (0 - s)) = if x * x > 2 * (y * y) then s else 0 - s := by
  have hw : IntKind.i64.wrap (0 - s) = 0 - s := by rcases hs with rfl | rfl <;> rfl
  rw [hw, beqI]
  generalize x * x = P at *
  generalize y * y = R at *
  simp only [Bool.cond_decide]
  repeat' split
  all_goals first | rfl | (exfalso; omega)

theorem ok_l3Two : SpecOk Try.prog 86 (specV f_two) := by
  refine mkV (n := 100) gmB_ok Try.func86 rfl fun vs v ob hF ho => ?_
  unfold f_two at hF
  split at hF
  · rename_i x y
    cases hF
    obtain ⟨hx, hy⟩ := obl2 ho
    have hx' := inR_iff.1 hx
    have hy' := inR_iff.1 hy
    rw [treeB x y rawTop rawLo rawSz]
    refine gives_of ?_
    obtain ⟨h1, h2⟩ := topU_raw hx hy (u1 := rawTop (rawSz x)) (v1 := topU (rawTop (rawSz y)) (rawLo (rawSz y))) (u2 := rawLo (rawSz x)) (v2 := U (rawLo (rawSz y) * 2))
      (by rw [rawSz_eq hx'.1 hx'.2, rawTop_eq (nat_in hx).1 (nat_in hx).2]) (by rw [rawSz_eq hy'.1 hy'.2, rawTop_eq (nat_in hy).1 (nat_in hy).2, rawLo_eq (nat_in hy).1 (nat_in hy).2]) (by rw [rawSz_eq hx'.1 hx'.2, rawLo_eq (nat_in hx).1 (nat_in hx).2]) (by rw [rawSz_eq hy'.1 hy'.2, rawLo_eq (nat_in hy).1 (nat_in hy).2])
    have t1 := two_eq h1 1 (.inl rfl)
    have t2 := two_eq h1 (-1) (.inr rfl)
    simp only [outV_cond, outV_rv, cond_some, cond_int]
    rw [t1, t2]
    have fl := @flat_eq x y
    congr 2
    by_cases c : (0 ≤ x ∧ 0 ≤ y) ∨ (x ≤ 0 ∧ y ≤ 0)
    · have fl := fl c
      simp only [flatI, mnI, mxI]
      rw [fl]
      simp only [Bool.cond_decide]
      repeat' split
      all_goals first | rfl | (exfalso; omega)
    · clear fl
      unfold sg2
      generalize x * x = P at *
      generalize y * y = R at *
      simp only [Bool.cond_decide]
      repeat' split
      all_goals first | rfl | (exfalso; omega)
  · cases hF

end Go.Proofs.Ytkbdppnlojlcdaa

/- The sign of a surd, by the program and by the reference. No conditions but bounds. -/
namespace Go.Proofs.Ytkbdppnlojlcdaa
open Go.RowKit
set_option maxRecDepth 100000

def fTwo (two : Int → Int → Int) (ob : Int → Bool) : List Value → Option (Value × List Bool)
  | [.int .i64 x, .int .i64 y] => some (.int .i64 (two x y), [ob x, ob y])
  | _ => none
abbrev i64B (x : Int) : Bool := inR x (-9223372036854775808) 9223372036854775807
theorem fTwo_eq : fTwo sg2 i64B = f_two := by
  funext vs
  unfold fTwo f_two
  rfl
theorem i64B_W (x : Int) : i64B (W x) = true := inR_iff.2 (w64_range x)

def gmT (two : Int → Int → Int) (ob : Int → Bool) (f : FuncId) : Gam := ext g0 f (specV (fTwo two ob))
abbrev xq (s : Nat → Int) : Int := W (W (W (W (s 0 * s 0) + W (W (2 * s 1) * s 1)) - W (W (3 * s 2) * s 2)) - W (W (6 * s 3) * s 3))
abbrev yq (s : Nat → Int) : Int := W (W (W (2 * s 0) * s 1) - W (W (6 * s 2) * s 3))
theorem treeS (s : Nat → Int) (two : Int → Int → Int) (ob : Int → Bool) : execF Try.prog (gmT two ob 95) noLam 100 Try.f57 ([sdv s].map .v) [] valK
    = needs [ob (s 0), ob (s 1), ob (s 2), ob (s 3)] (cond (two (s 0) (s 1) == two (s 2) (s 3)) (ri (two (s 0) (s 1))) (cond (two (s 2) (s 3) == 0) (ri (two (s 0) (s 1))) (cond (two (s 0) (s 1) == 0) (ri (two (s 2) (s 3)))
      (needs [ob (xq s), ob (yq s)] (ri (W (two (s 0) (s 1) * two (xq s) (yq s)))))))) := by kernel_rfl
theorem treeS' (s : Nat → Int) (two : Int → Int → Int) (ob : Int → Bool) : execF Try.prog (gmT two ob 86) noLam 100 Try.f46 ([sdv s].map .v) [] valK
    = needs [ob (s 0), ob (s 1), ob (s 2), ob (s 3)] (cond (decide (W (two (s 0) (s 1) * two (s 2) (s 3)) ≥ 0)) (ri (mnI (mxI (W (two (s 0) (s 1) + two (s 2) (s 3))))))
      (needs [ob (xq s), ob (yq s)] (ri (W (two (s 0) (s 1) * two (xq s) (yq s)))))) := by kernel_rfl

theorem gmT_ok {f : FuncId} (h : SpecOk Try.prog f (specV f_two)) : GamOk Try.prog (gmT sg2 i64B f) := ext_ok g0_ok (fTwo_eq ▸ h)

theorem sg2_range (x y : Int) : sg2 x y = -1 ∨ sg2 x y = 0 ∨ sg2 x y = 1 := by
  unfold sg2
  repeat' split
  all_goals omega

/-- The sign of a surd. -/
def sgn4 (s : Nat → Int) : Int := if sg2 (s 0) (s 1) = sg2 (s 2) (s 3) ∨ sg2 (s 2) (s 3) = 0 then sg2 (s 0) (s 1) else if sg2 (s 0) (s 1) = 0 then sg2 (s 2) (s 3) else sg2 (s 0) (s 1) * sg2 (xq s) (yq s)
theorem sgn4_range (s : Nat → Int) : sgn4 s = -1 ∨ sgn4 s = 0 ∨ sgn4 s = 1 := by
  have h1 := sg2_range (s 0) (s 1)
  have h2 := sg2_range (s 2) (s 3)
  have h3 := sg2_range (xq s) (yq s)
  unfold sgn4
  generalize sg2 (s 0) (s 1) = p at *
  generalize sg2 (s 2) (s 3) = q at *
  generalize sg2 (xq s) (yq s) = r at *
  rcases h1 with rfl | rfl | rfl <;> rcases h2 with rfl | rfl | rfl <;> rcases h3 with rfl | rfl | rfl <;> decide

theorem good_needsV {bs : List Bool} {r : Res} {x : Value} (h : obls bs = true) (k : Good r x) : Good (needs bs r) x := by
  induction bs with
  | nil => exact k
  | cons b bs ih =>
    have : b = true ∧ obls bs = true := by simpa [obls] using h
    rw [this.1]
    exact ⟨(ih this.2).out⟩

def f_sgn : List Value → Option (Value × List Bool)
  | [.agg ⟨[.int .i64 s0, .int .i64 s1, .int .i64 s2, .int .i64 s3]⟩] => some (.int .i64 (sgn4 (v4 s0 s1 s2 s3)), [i64B s0, i64B s1, i64B s2, i64B s3])
  | _ => none

theorem ok_sign : SpecOk Try.prog 57 (specV f_sgn) := by
  refine mkV (n := 100) (gmT_ok ok_sign2) Try.func57 rfl fun vs v ob hF ho => ?_
  unfold f_sgn at hF
  split at hF
  · rename_i s0 s1 s2 s3
    cases hF
    show Good (execF Try.prog (gmT sg2 i64B 95) noLam 100 Try.f57 ([sdv (v4 s0 s1 s2 s3)].map .v) [] valK) _
    rw [treeS]
    generalize hs : v4 s0 s1 s2 s3 = s
    have e0 : s 0 = s0 := by rw [← hs]; rfl
    have e1 : s 1 = s1 := by rw [← hs]; rfl
    have e2 : s 2 = s2 := by rw [← hs]; rfl
    have e3 : s 3 = s3 := by rw [← hs]; rfl
    refine good_needsV (by rw [e0, e1, e2, e3]; exact ho) ?_
    have ho2 : obls [i64B (xq s), i64B (yq s)] = true := by simp [obls, i64B_W]
    have h1 := sg2_range (s 0) (s 1)
    have h2 := sg2_range (s 2) (s 3)
    have h3 := sg2_range (xq s) (yq s)
    unfold sgn4
    generalize sg2 (s 0) (s 1) = p at *
    generalize sg2 (s 2) (s 3) = q at *
    generalize hr : sg2 (xq s) (yq s) = r at *
    rcases h1 with rfl | rfl | rfl <;> rcases h2 with rfl | rfl | rfl <;> first | exact one rfl | exact good_needsV ho2 (by rcases h3 with rfl | rfl | rfl <;> exact one rfl)
  · cases hF

theorem ok_l3Sign : SpecOk Try.prog 46 (specV f_sgn) := by
  refine mkV (n := 100) (gmT_ok ok_l3Two) Try.func46 rfl fun vs v ob hF ho => ?_
  unfold f_sgn at hF
  split at hF
  · rename_i s0 s1 s2 s3
    cases hF
    show Good (execF Try.prog (gmT sg2 i64B 86) noLam 100 Try.f46 ([sdv (v4 s0 s1 s2 s3)].map .v) [] valK) _
    rw [treeS']
    generalize hs : v4 s0 s1 s2 s3 = s
    have e0 : s 0 = s0 := by rw [← hs]; rfl
    have e1 : s 1 = s1 := by rw [← hs]; rfl
    have e2 : s 2 = s2 := by rw [← hs]; rfl
    have e3 : s 3 = s3 := by rw [← hs]; rfl
    refine good_needsV (by rw [e0, e1, e2, e3]; exact ho) ?_
    have ho2 : obls [i64B (xq s), i64B (yq s)] = true := by simp [obls, i64B_W]
    have h1 := sg2_range (s 0) (s 1)
    have h2 := sg2_range (s 2) (s 3)
    have h3 := sg2_range (xq s) (yq s)
    unfold sgn4
    generalize sg2 (s 0) (s 1) = p at *
    generalize sg2 (s 2) (s 3) = q at *
    generalize hr : sg2 (xq s) (yq s) = r at *
    rcases h1 with rfl | rfl | rfl <;> rcases h2 with rfl | rfl | rfl <;> first | exact one rfl | exact good_needsV ho2 (by rcases h3 with rfl | rfl | rfl <;> exact one rfl)
  · cases hF

def gm_sign : Gam := ext gm_l3Sum 57 (specV f_sgn)
theorem gm_sign_ok : GamOk Try.prog gm_sign := ext_ok gm_l3Sum_ok ok_sign
def gm_l3Sign : Gam := ext gm_sign 46 (specV f_sgn)
theorem gm_l3Sign_ok : GamOk Try.prog gm_l3Sign := ext_ok gm_sign_ok ok_l3Sign

end Go.Proofs.Ytkbdppnlojlcdaa

/- PolyValid, by the program and by the reference. Conditions: a list of points. -/
namespace Go.Proofs.Ytkbdppnlojlcdaa
open Go.RowKit
set_option maxRecDepth 100000

def okP (a : Nat → Nat → Int) (j : Nat) : Bool := smallF (a j) (-100) 100
def okB (a : Nat → Nat → Int) (n : Nat) : Bool := (List.range n).all fun j => okP a j
theorem okB_get {a : Nat → Nat → Int} {n j : Nat} (h : okB a n = true) (hj : j < n) : okP a j = true := List.all_eq_true.1 h j (by simpa using hj)
theorem okB_succ {a : Nat → Nat → Int} {n : Nat} (h : okB a n = true) (h1 : okP a n = true) : okB a (n + 1) = true := by
  unfold okB
  rw [List.range_succ, List.all_append]
  simp only [List.all_cons, List.all_nil, Bool.and_true, Bool.and_eq_true]
  exact ⟨h, h1⟩
theorem okB_no {a : Nat → Nat → Int} {n j : Nat} (hj : j < n) (h1 : okP a j = false) : okB a n = false := by
  cases h : okB a n with
  | false => rfl
  | true => rw [okB_get h hj] at h1; cases h1

/-- A list of points, read from its start. -/
structure PV where
  m : Nat
  n : Nat
  g : Nat → List Value
  t : TypeId
abbrev slP (m : Nat) : AV := .sl 0 8 0 0 m none
def hpPV (s : PV) : List AB := [.row false s.m 8 (rowC (itC s.g)) s.t]
def prePV (s : PV) : List Bool := [Nat.beq s.n s.m, allC s.m s.g, decide (s.m ≤ 2 ^ 38)]

abbrev lvV : Ex → List Nat := lv3 [0, 3] [0] [2]
def decV : List AV → List AB → Option PV
  | [.sl 0 8 0 0 m none, .v (.int .i64 0)], [.row false n 8 g t] => some ⟨m, n, g, t⟩
  | _, _ => none
def stV (s : PV) (i : Nat) : List (Nat × AV) := [(0, slP s.m), (3, .v (i64 i))]

def outV' (s : PV) (K : Kont) : Res := cond (okB (itC s.g) s.m) (K .normal (mkT 0 19 [(0, slP s.m)]) (hpPV s)) (K .ret (mkT 0 19 [(2, .v (.bool false))]) (hpPV s))
theorem rndV (s : PV) (i : Nat) : execC Try.prog gm_l3Sign 100 noLam (loopAt 0 Try.f32) (mkT 0 19 (stV s i)) (hpPV s) (leafK lvV 1)
    = cond (decide ((i : Int) < s.m)) (needs [decide ((i : Int) < s.m), decide (0 + i < s.m)] (cond (!okP (itC s.g) (0 + i)) (.out .ret (mkT 0 19 [(2, .v (.bool false))]) (hpPV s)) (.out .normal (mkT 0 19 [(0, slP s.m), (3, .v (i64 (W (i + 1))))]) (hpPV s))))
      (.out (.exit 0) (mkT 0 19 [(0, slP s.m)]) (hpPV s)) := by kernel_rfl

theorem pv_ok {s : PV} (ho : obls (prePV s) = true) : s.n = s.m ∧ (∀ j, j < s.m → s.g j = rowC (itC s.g) j) ∧ s.m ≤ 2 ^ 38 := by
  simp only [prePV, ob_cons, decide_eq_true_eq] at ho
  exact ⟨Nat.eq_of_beq_eq_true ho.1, allC_get ho.2.1, ho.2.2.1⟩

theorem sumV : SumOk Try.prog 1 (.block 0 (.loop (loopAt 0 Try.f32))) (loopS 19 [0, 3] decV prePV outV') := by
  refine mkFor gm_l3Sign_ok (n := 100) (m := 1) (lv := lvV) (Λ := noLam) stV (fun s _ => hpPV s) (fun s i => okB (itC s.g) i = true) (fun s => s.m) rfl (noLam_ok _ _ _) (Nat.le_refl _) ?_ ?_
  · intro avs H s hd ho
    unfold decV at hd
    split at hd
    · rename_i m n g t
      cases hd
      obtain ⟨h1, h2, h3⟩ := pv_ok ho
      simp only at h1 h2 h3
      subst h1
      exact ⟨[.row false n 8 g t], by kernel_rfl, .cons (ABeq.row h2) .nil, rfl⟩
    · cases hd
  · intro s K Q ho hk i hi him
    obtain ⟨_, _, hm⟩ := pv_ok ho
    show GoodQ (execC Try.prog gm_l3Sign 100 noLam (loopAt 0 Try.f32) (mkT 0 19 (stV s i)) (hpPV s) (leafK lvV 1)) _
    rw [rndV, Nat.zero_add]
    refine good_cond (fun h1 => ?_) fun h1 => ?_
    · have h1 := of_decide_eq_true h1
      have h1' : i < s.m := by omega
      refine good_needs (by simp only [ob_cons, ob_nil, and_true, decide_eq_true_eq]; omega) (good_cond (fun h2 => ?_) fun h2 => ?_)
      · refine good_out ⟨_, Hsim.refl _, ?_⟩
        rw [outV', okB_no h1' (by simpa using h2)] at hk
        exact hk
      · refine good_out ⟨h1', ?_, Hsim.refl _, okB_succ hi (by simpa using h2)⟩
        rw [w64_in (x := (i : Int) + 1) (by omega) (by omega)]
        rfl
    · have h1 := of_decide_eq_false h1
      have : i = s.m := by omega
      subst this
      refine good_out ⟨_, Hsim.refl _, ?_⟩
      rw [if_pos rfl]
      rw [outV', hi] at hk
      exact hk

def f_valid (a : Nat → Nat → Int) (m : Nat) : Bool := okB a m && inR m 1 48
def F_valid : List SA → Option FR
  | [.row m g] => some { val := .v (.bool (f_valid (itC g) m)), obl := [allC m g, decide (m ≤ 2 ^ 38)] }
  | _ => none
def md_list : List Md := [.rd 8 46]

theorem ok_validS : SpecOk Try.prog 32 (specR md_list F_valid) := by
  refine mkR (n := 100) (Λ := oneL 0 (loopS 19 [0, 3] decV prePV outV')) gm_l3Sign_ok Try.func32 rfl fun sas fr hF ho => ?_
  unfold F_valid at hF
  split at hF
  · rename_i m g
    cases hF
    simp only [ob_cons] at ho
    obtain ⟨h1, h2, _⟩ := ho
    refine ⟨[.row false m 8 (rowC (itC g)) 46], .cons (ABeq.row fun j hj => allC_get h1 j hj) .nil, lam1 (by kernel_rfl) sumV, ?_⟩
    have e : execF Try.prog gm_l3Sign (oneL 0 (loopS 19 [0, 3] decV prePV outV')) 100 Try.f32 (avC 0 md_list [.row m g]) [.row false m 8 (rowC (itC g)) 46] (packK 1)
      = needs [Nat.beq m m, allC m (rowC (itC g)), decide (m ≤ 2 ^ 38)] (cond (okB (itC g) m) (.out .ret [.v (.bool (inR m 1 48))] [.row false m 8 (rowC (itC g)) 46]) (.out .ret [.v (.bool false)] [.row false m 8 (rowC (itC g)) 46])) := by kernel_rfl
    rw [show ([AB.row false m 8 (rowC (itC g)) 46]).length = 1 from rfl, e]
    refine good_needs (by simp only [ob_cons, ob_nil, allC_of (m := m) (a := itC g) fun j _ => rfl, h2, beq_me, and_self]) (good_cond (fun hb => ?_) fun hb => ?_)
    · refine good_out ⟨_, rfl, ?_, .cons (ABeq.row fun j hj => (allC_get h1 j hj).symm) .nil⟩
      rw [f_valid, hb]
      rfl
    · refine good_out ⟨_, rfl, ?_, .cons (ABeq.row fun j hj => (allC_get h1 j hj).symm) .nil⟩
      rw [f_valid, hb]
      rfl
  · cases hF

/-- The place of the first that is not small. -/
def badAt (a : Nat → Nat → Int) (m : Nat) : Int := match (List.range m).find? fun j => !okP a j with
  | some j => (j : Int)
  | none => -1
theorem badAt_ge (a : Nat → Nat → Int) (m : Nat) : decide (badAt a m ≥ 0) = !okB a m := by
  unfold badAt okB
  cases h : (List.range m).find? fun j => !okP a j with
  | none =>
    have : (List.range m).all (fun j => okP a j) = true := by
      rw [List.all_eq_true]
      intro j hj
      have := List.find?_eq_none.1 h j hj
      simpa using this
    rw [this]
    rfl
  | some j =>
    have h1 := List.find?_some h
    have h2 := List.mem_of_find?_eq_some h
    have : (List.range m).all (fun j => okP a j) = false := by
      cases hb : (List.range m).all (fun j => okP a j) with
      | false => rfl
      | true => have := List.all_eq_true.1 hb j h2; simp [this] at h1
    rw [this]
    simp
theorem badAt_at {a : Nat → Nat → Int} {m i : Nat} (h : okB a i = true) (hi : i < m) (h1 : okP a i = false) : badAt a m = i := by
  have : (List.range m).find? (fun j => !okP a j) = some i := by
    rw [List.find?_range_eq_some]
    refine ⟨by simp [h1], by simpa using hi, fun j hj => ?_⟩
    simp [okB_get h hj]
  rw [badAt, this]
theorem badAt_no {a : Nat → Nat → Int} {m : Nat} (h : okB a m = true) : badAt a m = -1 := by
  have : (List.range m).find? (fun j => !okP a j) = none := by
    rw [List.find?_eq_none]
    intro j hj
    simp [okB_get h (by simpa using hj)]
  rw [badAt, this]

abbrev fnV : Value := .func (.func 74) ⟨[]⟩ ⟨[]⟩
abbrev lvX : Ex → List Nat := lv3 [0, 1, 7, 8] [] [4]
def decX : List AV → List AB → Option (PV × Nat × FuncId)
  | [.sl 0 8 0 0 m none, .v (.func (.func f) ⟨[]⟩ ⟨[]⟩), .v (.int .i64 (.ofNat k)), .v (.int .i64 0)], [.row false n 8 g t] => some (⟨m, n, g, t⟩, k, f)
  | _, _ => none
def stX (s : PV × Nat × FuncId) (i : Nat) : List (Nat × AV) := [(0, slP s.1.m), (1, .v fnV), (7, .v (i64 s.1.m)), (8, .v (i64 i))]
def preX (s : PV × Nat × FuncId) : List Bool := Nat.beq s.2.2 74 :: Nat.beq s.2.1 s.1.m :: prePV s.1
def outX (s : PV × Nat × FuncId) (K : Kont) : Res := cond (okB (itC s.1.g) s.1.m) (K .normal (mkT 0 19 []) (hpPV s.1)) (K .ret (mkT 0 19 [(4, .v (i64 (badAt (itC s.1.g) s.1.m)))]) (hpPV s.1))
noncomputable abbrev fIF : Func := Try.f104
theorem rndX (s : PV × Nat × FuncId) (i : Nat) : execC Try.prog gm_l3Sign 100 noLam (loopAt 0 fIF) (mkT 0 19 (stX s i)) (hpPV s.1) (leafK lvX 1)
    = cond (decide ((i : Int) < s.1.m)) (needs [decide ((i : Int) < s.1.m), decide (0 + i < s.1.m)] (cond (!okP (itC s.1.g) (0 + i)) (.out .ret (mkT 0 19 [(4, .v (i64 i))]) (hpPV s.1)) (.out .normal (mkT 0 19 [(0, slP s.1.m), (1, .v fnV), (7, .v (i64 s.1.m)), (8, .v (i64 (W (i + 1))))]) (hpPV s.1))))
      (.out (.exit 0) (mkT 0 19 []) (hpPV s.1)) := by kernel_rfl

theorem sumX : SumOk Try.prog 1 (.block 0 (.loop (loopAt 0 fIF))) (loopS 19 [0, 1, 7, 8] decX preX outX) := by
  refine mkFor gm_l3Sign_ok (n := 100) (m := 1) (lv := lvX) (Λ := noLam) stX (fun s _ => hpPV s.1) (fun s i => okB (itC s.1.g) i = true) (fun s => s.1.m) rfl (noLam_ok _ _ _) (Nat.le_refl _) ?_ ?_
  · intro avs H s hd ho
    unfold decX at hd
    split at hd
    · rename_i m f k n g t
      cases hd
      simp only [preX, ob_cons (b := Nat.beq _ _)] at ho
      obtain ⟨hf, hk, ho⟩ := ho
      have hf := Nat.eq_of_beq_eq_true hf
      have hk := Nat.eq_of_beq_eq_true hk
      obtain ⟨h1, h2, h3⟩ := pv_ok (s := ⟨m, n, g, t⟩) (by simpa only [prePV, ob_cons] using ho)
      simp only at h1 h2 h3
      subst h1 hf hk
      exact ⟨[.row false _ 8 g t], by kernel_rfl, .cons (ABeq.row h2) .nil, rfl⟩
    · cases hd
  · intro s K Q ho hk i hi him
    simp only [preX, ob_cons (b := Nat.beq _ _)] at ho
    obtain ⟨_, _, hm⟩ := pv_ok (s := s.1) (by simpa only [prePV, ob_cons] using ho.2.2)
    show GoodQ (execC Try.prog gm_l3Sign 100 noLam (loopAt 0 fIF) (mkT 0 19 (stX s i)) (hpPV s.1) (leafK lvX 1)) _
    rw [rndX, Nat.zero_add]
    refine good_cond (fun h1 => ?_) fun h1 => ?_
    · have h1 := of_decide_eq_true h1
      have h1' : i < s.1.m := by omega
      refine good_needs (by simp only [ob_cons, ob_nil, and_true, decide_eq_true_eq]; omega) (good_cond (fun h2 => ?_) fun h2 => ?_)
      · refine good_out ⟨_, Hsim.refl _, ?_⟩
        rw [outX, okB_no h1' (by simpa using h2), badAt_at hi h1' (by simpa using h2)] at hk
        exact hk
      · refine good_out ⟨h1', ?_, Hsim.refl _, okB_succ hi (by simpa using h2)⟩
        rw [w64_in (x := (i : Int) + 1) (by omega) (by omega)]
        rfl
    · have h1 := of_decide_eq_false h1
      have : i = s.1.m := by omega
      subst this
      refine good_out ⟨_, Hsim.refl _, ?_⟩
      rw [if_pos rfl]
      rw [outX, hi] at hk
      exact hk

def F_if : List SA → Option FR
  | [.row m g, .v (.func (.func f) ⟨[]⟩ ⟨[]⟩)] => some { val := .v (i64 (badAt (itC g) m)), obl := [Nat.beq f 74, allC m g, decide (m ≤ 2 ^ 38)] }
  | _ => none
def md_if : List Md := [.rd 8 46, .val]
theorem ok_if : SpecOk Try.prog 104 (specR md_if F_if) := by
  refine mkR (n := 100) (Λ := oneL 0 (loopS 19 [0, 1, 7, 8] decX preX outX)) gm_l3Sign_ok (fn := fIF) Try.func104 rfl fun sas fr hF ho => ?_
  unfold F_if at hF
  split at hF
  · rename_i m g f
    cases hF
    simp only [ob_cons] at ho
    obtain ⟨hf, h1, h2, _⟩ := ho
    have hf := Nat.eq_of_beq_eq_true hf
    subst hf
    refine ⟨[.row false m 8 (rowC (itC g)) 46], .cons (ABeq.row fun j hj => allC_get h1 j hj) .nil, lam1 (by kernel_rfl) sumX, ?_⟩
    have e : execF Try.prog gm_l3Sign (oneL 0 (loopS 19 [0, 1, 7, 8] decX preX outX)) 100 fIF (avC 0 md_if [.row m g, .v fnV]) [.row false m 8 (rowC (itC g)) 46] (packK 1)
      = needs [Nat.beq m m, Nat.beq m m, allC m (rowC (itC g)), decide (m ≤ 2 ^ 38)] (cond (okB (itC g) m) (.out .ret [.v (i64 (-1))] [.row false m 8 (rowC (itC g)) 46]) (.out .ret [.v (i64 (badAt (itC g) m))] [.row false m 8 (rowC (itC g)) 46])) := by kernel_rfl
    rw [show ([AB.row false m 8 (rowC (itC g)) 46]).length = 1 from rfl]
    show GoodQ (execF Try.prog gm_l3Sign (oneL 0 (loopS 19 [0, 1, 7, 8] decX preX outX)) 100 fIF (avC 0 md_if [.row m g, .v fnV]) [.row false m 8 (rowC (itC g)) 46] (packK 1)) _
    rw [e]
    refine good_needs (by simp only [ob_cons, ob_nil, allC_of (m := m) (a := itC g) fun j _ => rfl, h2, beq_me, and_self]) (good_cond (fun hb => ?_) fun hb => ?_)
    · refine good_out ⟨_, rfl, ?_, .cons (ABeq.row fun j hj => (allC_get h1 j hj).symm) .nil⟩
      rw [badAt_no hb]
    · exact good_out ⟨_, rfl, rfl, .cons (ABeq.row fun j hj => (allC_get h1 j hj).symm) .nil⟩
  · cases hF

def gm_if : Gam := ext gm_l3Sign 104 (specR md_if F_if)
theorem gm_if_ok : GamOk Try.prog gm_if := ext_ok gm_l3Sign_ok ok_if

theorem ok_valid : SpecOk Try.prog 31 (specR md_list F_valid) := by
  refine mkR (n := 100) (Λ := noLam) gm_if_ok Try.func31 rfl fun sas fr hF ho => ?_
  unfold F_valid at hF
  split at hF
  · rename_i m g
    cases hF
    simp only [ob_cons] at ho
    obtain ⟨h1, h2, _⟩ := ho
    refine ⟨[.row false m 8 (rowC (itC g)) 46], .cons (ABeq.row fun j hj => allC_get h1 j hj) .nil, noLam' _, ?_⟩
    have e : execF Try.prog gm_if noLam 100 Try.f31 (avC 0 md_list [.row m g]) [.row false m 8 (rowC (itC g)) 46] (packK 1)
      = cond (inR m 1 48) (needs [Nat.ble (0 + m) m, allC m (fun q => rowC (itC g) (0 + q)), decide (m ≤ 2 ^ 38)] (.out .ret [.v (.bool (bif decide (badAt (itC fun q => rowC (itC g) (0 + q)) m ≥ 0) then false else true))] [.row false m 8 (rowC (itC g)) 46])) (.out .ret [.v (.bool false)] [.row false m 8 (rowC (itC g)) 46]) := by kernel_rfl
    rw [show ([AB.row false m 8 (rowC (itC g)) 46]).length = 1 from rfl, e]
    have hb : badAt (itC fun q => rowC (itC g) (0 + q)) m = badAt (itC g) m := by
      have : (fun j => !okP (itC fun q => rowC (itC g) (0 + q)) j) = fun j => !okP (itC g) j := by
        funext j
        show (!okP (itC g) (0 + j)) = _
        rw [Nat.zero_add]
      unfold badAt
      rw [this]
    rw [hb, badAt_ge]
    refine good_cond (fun h3 => ?_) fun h3 => ?_
    · refine good_needs ?_ (good_out ⟨_, rfl, ?_, .cons (ABeq.row fun j hj => (allC_get h1 j hj).symm) .nil⟩)
      · simp only [ob_cons, ob_nil, Nat.zero_add, and_true]
        exact ⟨by simp, allC_of (a := itC g) fun j _ => rfl, h2⟩
      · rw [f_valid, h3]
        cases okB (itC g) m <;> rfl
    · refine good_out ⟨_, rfl, ?_, .cons (ABeq.row fun j hj => (allC_get h1 j hj).symm) .nil⟩
      rw [f_valid, h3, Bool.and_false]
  · cases hF

def gm_valid : Gam := ext gm_if 31 (specR md_list F_valid)
theorem gm_valid_ok : GamOk Try.prog gm_valid := ext_ok gm_if_ok ok_valid
def gm_validS : Gam := ext gm_valid 32 (specR md_list F_valid)
theorem gm_validS_ok : GamOk Try.prog gm_validS := ext_ok gm_valid_ok ok_validS
def gm_steps : Gam := ext gm_validS 55 (specR md_steps F_steps)
theorem gm_steps_ok : GamOk Try.prog gm_steps := ext_ok gm_validS_ok ok_steps

end Go.Proofs.Ytkbdppnlojlcdaa

/- l8Steps: the steps of a polygon, by the reference. Conditions: a list of points. -/
namespace Go.Proofs.Ytkbdppnlojlcdaa
open Go.RowKit
set_option maxRecDepth 100000

theorem steps_alike (a : Nat → Nat → Int) (m j : Nat) : rowC (fun j => sumF (a ((j + 1) % m)) (-1) (a j)) j = rowC (stepsF a m) j := by
  have : ∀ k, sumF (a ((j + 1) % m)) (-1) (a j) k = stepsF a m j k := by
    intro k
    show W (a ((j + 1) % m) k + -1 * a j k) = W (a ((j + 1) % m) k + W (a j k * -1))
    rw [w64_add_r, Int.mul_comm]
  simp only [rowC, this]

/-- The next place round the list. -/
theorem next_at {i m : Nat} (hi : i < m) (hm : m ≤ 2 ^ 38) : (IntKind.i64.wrap ((i : Int) + 1)).tmod m = (((i + 1) % m : Nat) : Int) := by
  have : IntKind.i64.wrap ((i : Int) + 1) = ((i + 1 : Nat) : Int) := by
    rw [show IntKind.i64.wrap ((i : Int) + 1) = W ((i : Int) + 1) from rfl, w64_in (by omega) (by omega)]; omega
  rw [this]
  exact (Int.ofNat_tmod _ _).symm

abbrev lvL : Ex → List Nat := lv3 [0, 3, 4] [3] []
def decL : List AV → List AB → Option PV
  | [.sl 0 8 0 0 m none, .own 1 0, .v (.int .i64 0)], [.row false n 8 g t, .row true 0 8 _ 46] => some ⟨m, n, g, t⟩
  | _, _ => none
def stL (s : PV) (i : Nat) : List (Nat × AV) := [(0, slP s.m), (3, .own 1 i), (4, .v (i64 i))]
def hpL (s : PV) (i : Nat) : List AB := [.row false s.m 8 (rowC (itC s.g)) s.t, .row true i 8 (rowC (stepsF (itC s.g) s.m)) 46]
def outL (s : PV) (K : Kont) : Res := K .normal (mkT 0 29 [(3, .own 1 s.m)]) (hpL s s.m)
theorem rndL (s : PV) (i : Nat) : execC Try.prog gm_steps 100 noLam (loopAt 0 Try.f45) (mkT 0 29 (stL s i)) (hpL s i) (leafK lvL 1)
    = cond (decide ((i : Int) < s.m)) (needs [!decide ((s.m : Int) = 0), decide (0 ≤ (IntKind.i64.wrap ((i : Int) + 1)).tmod s.m), decide ((IntKind.i64.wrap ((i : Int) + 1)).tmod s.m < s.m), decide (0 + ((IntKind.i64.wrap ((i : Int) + 1)).tmod s.m).toNat < s.m), decide ((i : Int) < s.m), decide (0 + i < s.m), Nat.ble i i, Nat.ble (i + 1) 549755813888]
        (.out .normal (mkT 0 29 [(0, slP s.m), (3, .own 1 (i + 1)), (4, .v (i64 (IntKind.i64.wrap ((i : Int) + 1))))]) [.row false s.m 8 (rowC (itC s.g)) s.t,
          .row true (i + 1) 8 (snocR (rowC (stepsF (itC s.g) s.m)) i 8 (rowC (fun _ => sumF (itC s.g (0 + ((IntKind.i64.wrap ((i : Int) + 1)).tmod s.m).toNat)) (-1) (itC s.g (0 + i))) i)) 46]))
      (.out (.exit 0) (mkT 0 29 [(3, .own 1 i)]) (hpL s i)) := by kernel_rfl

theorem sumL : SumOk Try.prog 1 (.block 0 (.loop (loopAt 0 Try.f45))) (loopS 29 [0, 3, 4] decL prePV outL) := by
  refine mkFor gm_steps_ok (n := 100) (m := 1) (lv := lvL) (Λ := noLam) stL hpL (fun _ _ => True) (fun s => s.m) rfl (noLam_ok _ _ _) (Nat.le_refl _) ?_ ?_
  · intro avs H s hd ho
    unfold decL at hd
    split at hd
    · rename_i m n g t G
      cases hd
      obtain ⟨h1, h2, h3⟩ := pv_ok ho
      simp only at h1 h2 h3
      subst h1
      exact ⟨[.row false n 8 g t, .row true 0 8 G 46], by kernel_rfl, .cons (ABeq.row h2) (.cons (ABeq.row fun j hj => by omega) .nil), trivial⟩
    · cases hd
  · intro s K Q ho hk i _ him
    obtain ⟨_, _, hm⟩ := pv_ok ho
    rw [rndL]
    refine good_cond (fun h1 => ?_) fun h1 => ?_
    · have h1 := of_decide_eq_true h1
      have h1' : i < s.m := by omega
      have hml : (i + 1) % s.m < s.m := Nat.mod_lt _ (by omega)
      rw [next_at h1' hm]
      simp only [Int.toNat_natCast, Nat.zero_add]
      refine good_needs (by simp only [ob_cons, ob_nil, and_true, decide_eq_true_eq, Bool.not_eq_true', decide_eq_false_iff_not, Nat.ble_eq]; omega) (good_out ⟨h1', ?_, ?_, trivial⟩)
      · rw [show IntKind.i64.wrap ((i : Int) + 1) = W ((i : Int) + 1) from rfl, w64_in (x := (i : Int) + 1) (by omega) (by omega)]
        rfl
      · refine .cons (ABeq.refl _) (.cons (ABeq.row fun j hj => ?_) .nil)
        rcases Nat.lt_or_ge j i with h | h
        · rw [snocR_lt h]
        · have : j = i := by omega
          subst this
          rw [snocR_eq (by simp)]
          exact steps_alike (itC s.g) s.m j
    · have h1 := of_decide_eq_false h1
      have : i = s.m := by omega
      subst this
      refine good_out ⟨_, Hsim.refl _, ?_⟩
      rw [if_pos rfl]
      exact hk

theorem ok_l8Steps : SpecOk Try.prog 45 (specR md_list F_steps) := by
  refine mkR (n := 100) (Λ := oneL 0 (loopS 29 [0, 3, 4] decL prePV outL)) gm_steps_ok Try.func45 rfl fun sas fr hF ho => ?_
  unfold F_steps at hF
  split at hF
  · rename_i m g
    cases hF
    simp only [ob_cons] at ho
    obtain ⟨h1, _, h2, _⟩ := ho
    refine ⟨[.row false m 8 (rowC (itC g)) 46], .cons (ABeq.row fun j hj => allC_get h1 j hj) .nil, lam1 (by kernel_rfl) sumL, ?_⟩
    have e : execF Try.prog gm_steps (oneL 0 (loopS 29 [0, 3, 4] decL prePV outL)) 100 Try.f45 (avC 0 md_list [.row m g]) [.row false m 8 (rowC (itC g)) 46] (packK 1)
      = needs [Nat.beq m m, allC m (rowC (itC g)), decide (m ≤ 2 ^ 38)] (.out .ret [.own 1 m] [.row false m 8 (rowC (itC g)) 46, .row true m 8 (rowC (stepsF (itC (rowC (itC g))) m)) 46]) := by kernel_rfl
    rw [show ([AB.row false m 8 (rowC (itC g)) 46]).length = 1 from rfl, e]
    exact good_needs (by simp only [ob_cons, ob_nil, allC_of (m := m) (a := itC g) fun j _ => rfl, h2, beq_me, and_self]) (good_out ⟨_, rfl, rfl, .cons (ABeq.row fun j hj => (allC_get h1 j hj).symm) (.cons (ABeq.row fun j hj => rfl) .nil)⟩)
  · cases hF

def gm_l8Steps : Gam := ext gm_steps 45 (specR md_list F_steps)
theorem gm_l8Steps_ok : GamOk Try.prog gm_l8Steps := ext_ok gm_steps_ok ok_l8Steps

end Go.Proofs.Ytkbdppnlojlcdaa

/- The abstract machine, 22: one case of a word. No conditions. -/
namespace Go.Proofs.Ytkbdppnlojlcdaa
open Go.RowKit

theorem specR_case {P : Program} {f : FuncId} {mds : List Md} {F F' : List SA → Option FR} (h : SpecOk P f (specR mds F))
    (hF : ∀ sas fr, F' sas = some fr → obls fr.obl = true → ∃ ob, F sas = some { fr with obl := ob } ∧ obls ob = true) : SpecOk P f (specR mds F') := by
  refine ⟨h.1, fun avs H base δ ν vals w hS ho hv hr hlt hfree hsep => ?_⟩
  unfold specR at hS
  split at hS
  · rename_i xs hxs
    split at hS
    · rename_i fr hFr
      split at hS
      · rename_i av hav
        cases hc : ((!hasWr mds || nodupB ((ixC mds xs).filterMap id)) && fr.new.all isRowT && Nat.beq (abP mds (xs.map (·.sa)) fr.put).length (abC mds (xs.map (·.sa))).length) with
        | false => rw [hc] at hS; cases hS
        | true =>
          rw [hc] at hS
          simp only [cond_true, Option.some.injEq] at hS
          subst hS
          have ho' : obls (xs.flatMap (·.ob)) = true ∧ obls fr.obl = true := by simpa [obls, List.all_append] using ho
          obtain ⟨ob, e1, e2⟩ := hF _ _ hFr ho'.2
          have hS2 : specR mds F avs H base = some { val := av, rd := (ixC mds xs).filterMap id, put := putC (ixC mds xs) (abP mds (xs.map (·.sa)) fr.put), new := fr.new, obl := xs.flatMap (·.ob) ++ ob } := by
            unfold specR
            rw [hxs]
            simp only [e1, hav]
            rw [hc]
            rfl
          refine (h.2 avs H base _ ν vals w hS2 (by simpa [obls, List.all_append] using And.intro ho'.1 e2) hv hr hlt hfree hsep).mono ?_
          rintro e w' ⟨v, ν', rfl, d⟩
          exact ⟨v, ν', rfl, d.le, d.dom, d.val, d.put, d.new, d.os, d.tape, d.output, d.size, d.block, d.fresh, d.apart⟩
      · cases hS
    · cases hS
  · cases hS

end Go.Proofs.Ytkbdppnlojlcdaa

/- The bends. Conditions: a list of points. -/
namespace Go.Proofs.Ytkbdppnlojlcdaa
open Go.RowKit
set_option maxRecDepth 100000

/-- PolyValid where it says b. -/
def F_validB (b : Bool) : List SA → Option FR
  | [.row m g] => some { val := .v (.bool b), obl := [allC m g, decide (m ≤ 2 ^ 38), f_valid (itC g) m == b] }
  | _ => none
theorem validB_of {f : FuncId} (h : SpecOk Try.prog f (specR md_list F_valid)) (b : Bool) : SpecOk Try.prog f (specR md_list (F_validB b)) := by
  refine specR_case h fun sas fr hF ho => ?_
  unfold F_validB at hF
  split at hF
  · rename_i m g
    cases hF
    simp only [ob_cons] at ho
    refine ⟨[allC m g, decide (m ≤ 2 ^ 38)], ?_, by simp only [ob_cons, ob_nil, and_true]; exact ⟨ho.1, ho.2.1⟩⟩
    have : f_valid (itC g) m = b := by simpa using ho.2.2.1
    simp only [F_valid, this]
  · cases hF

def gm_y : Gam := ext (ext gm_l8Steps 31 (specR md_list (F_validB true))) 32 (specR md_list (F_validB true))
theorem gm_y_ok : GamOk Try.prog gm_y := ext_ok (ext_ok gm_l8Steps_ok (validB_of ok_valid true)) (validB_of ok_validS true)
def gm_n : Gam := ext (ext gm_l8Steps 31 (specR md_list (F_validB false))) 32 (specR md_list (F_validB false))
theorem gm_n_ok : GamOk Try.prog gm_n := ext_ok (ext_ok gm_l8Steps_ok (validB_of ok_valid false)) (validB_of ok_validS false)

abbrev w8 (f : Nat → Int) : Nat → Int := v8 (f 0) (f 1) (f 2) (f 3) (f 4) (f 5) (f 6) (f 7)
abbrev w4 (s : Nat → Int) : Nat → Int := v4 (s 0) (s 1) (s 2) (s 3)
def crossW (p q : Nat → Int) : Nat → Int := imF (mulF (mirF (w8 p)) (w8 q))
def bendV (p q : Nat → Int) : Int := sgn4 (w4 (crossW p q))
/-- The bends of the steps b. -/
def bendsF (b : Nat → Nat → Int) (m : Nat) : Nat → Int := fun i => bendV (b ((i + m - 1) % m)) (b i)
theorem cross_in (p q : Nat → Int) (k : Nat) : i64B (crossW p q k) = true := i64B_W _

/-- The place before, round the list. -/
theorem prev_at {i m : Nat} (hi : i < m) (hm : m ≤ 2 ^ 38) : (IntKind.i64.wrap (IntKind.i64.wrap ((i : Int) + m) - 1)).tmod m = (((i + m - 1) % m : Nat) : Int) := by
  have e1 : IntKind.i64.wrap ((i : Int) + m) = ((i + m : Nat) : Int) := by
    rw [show IntKind.i64.wrap ((i : Int) + m) = W ((i : Int) + m) from rfl, w64_in (by omega) (by omega)]; omega
  have e2 : IntKind.i64.wrap (((i + m : Nat) : Int) - 1) = ((i + m - 1 : Nat) : Int) := by
    rw [show IntKind.i64.wrap (((i + m : Nat) : Int) - 1) = W (((i + m : Nat) : Int) - 1) from rfl, w64_in (by omega) (by omega)]; omega
  rw [e1, e2]
  exact (Int.ofNat_tmod _ _).symm

structure PB where
  m : Nat
  m' : Nat
  k : Nat
  gb : Nat → List Value
  n : Nat
  g : Nat → List Value
  t : TypeId
abbrev prI (i m : Int) : Int := (IntKind.i64.wrap (IntKind.i64.wrap (i + m) - 1)).tmod m
abbrev lvB : Ex → List Nat := lv3 [4, 5, 6, 7] [4] []
def stB (s : PB) (i : Nat) : List (Nat × AV) := [(4, .own 1 i), (5, .own 2 s.m), (6, .v (i64 s.m)), (7, .v (i64 i))]
def hpB (s : PB) (i : Nat) : List AB := [.row false s.n 8 s.g s.t, .row true i 1 (rowI (bendsF (itC s.gb) s.m)) 3, .row true s.m 8 (rowC (itC s.gb)) 46]
def preB (s : PB) : List Bool := [Nat.beq s.m' s.m, Nat.beq s.k s.m, allC s.m s.gb, decide (s.m ≤ 2 ^ 38)]
def decB : List AV → List AB → Option PB
  | [.own 1 0, .own 2 m, .v (.int .i64 (.ofNat k)), .v (.int .i64 0)], [.row false n 8 g t, .row true 0 1 _ 3, .row true m' 8 gb 46] => some ⟨m, m', k, gb, n, g, t⟩
  | _, _ => none
def outB (s : PB) (K : Kont) : Res := K .normal (mkT 0 41 [(4, .own 1 s.m)]) [.row false s.n 8 s.g s.t, .row true s.m 1 (rowI (bendsF (itC s.gb) s.m)) 3]
theorem rndB (m : Nat) (b : Nat → Nat → Int) (n : Nat) (g : Nat → List Value) (t : TypeId) (G : Nat → List Value) (i : Nat) : execC Try.prog gm_y 100 noLam (loopAt 0 Try.f14) (mkT 0 41 [(4, .own 1 i), (5, .own 2 m), (6, .v (i64 m)), (7, .v (i64 i))]) [.row false n 8 g t, .row true i 1 G 3, .row true m 8 (rowC b) 46] (leafK lvB 1)
    = cond (decide ((i : Int) < m)) (needs [!decide ((m : Int) = 0), decide (0 ≤ prI i m), decide (prI i m < m), decide ((prI i m).toNat < m), decide ((i : Int) < m), decide (i < m), i64B (crossW (b (prI i m).toNat) (b i) 0), i64B (crossW (b (prI i m).toNat) (b i) 1), i64B (crossW (b (prI i m).toNat) (b i) 2), i64B (crossW (b (prI i m).toNat) (b i) 3), Nat.ble i i, Nat.ble (i + 1) 549755813888]
        (.out .normal (mkT 0 41 [(4, .own 1 (i + 1)), (5, .own 2 m), (6, .v (i64 m)), (7, .v (i64 (IntKind.i64.wrap ((i : Int) + 1))))]) [.row false n 8 g t, .row true (i + 1) 1 (snocR G i 1 [i64 (bendV (b (prI i m).toNat) (b i))]) 3, .row true m 8 (rowC b) 46]))
      (.out (.exit 0) (mkT 0 41 [(4, .own 1 i)]) [.row false n 8 g t, .row true i 1 G 3]) := by kernel_rfl

theorem sumB : SumOk Try.prog 1 (.block 0 (.loop (loopAt 0 Try.f14))) (loopS 41 [4, 5, 6, 7] decB preB outB) := by
  refine mkFor gm_y_ok (n := 100) (m := 1) (lv := lvB) (Λ := noLam) stB hpB (fun _ _ => True) (fun s => s.m) rfl (noLam_ok _ _ _) (Nat.le_refl _) ?_ ?_
  · intro avs H s hd ho
    unfold decB at hd
    split at hd
    · rename_i m k n g t G m' gb
      cases hd
      simp only [preB, ob_cons, decide_eq_true_eq] at ho
      obtain ⟨h1, h2, h3, h4, _⟩ := ho
      have h1 := Nat.eq_of_beq_eq_true h1
      have h2 := Nat.eq_of_beq_eq_true h2
      subst h1 h2
      exact ⟨[.row false n 8 g t, .row true 0 1 G 3, .row true _ 8 gb 46], by kernel_rfl, .cons (ABeq.refl _) (.cons (ABeq.row fun j hj => by omega) (.cons (ABeq.row fun j hj => allC_get h3 j hj) .nil)), trivial⟩
    · cases hd
  · intro s K Q ho hk i _ him
    simp only [preB, ob_cons, decide_eq_true_eq] at ho
    obtain ⟨_, _, _, hm, _⟩ := ho
    show GoodQ (execC Try.prog gm_y 100 noLam (loopAt 0 Try.f14) (mkT 0 41 [(4, .own 1 i), (5, .own 2 s.m), (6, .v (i64 s.m)), (7, .v (i64 i))]) [.row false s.n 8 s.g s.t, .row true i 1 (rowI (bendsF (itC s.gb) s.m)) 3, .row true s.m 8 (rowC (itC s.gb)) 46] (leafK lvB 1)) _
    rw [rndB]
    refine good_cond (fun h1 => ?_) fun h1 => ?_
    · have h1 := of_decide_eq_true h1
      have h1' : i < s.m := by omega
      have hml : (i + s.m - 1) % s.m < s.m := Nat.mod_lt _ (by omega)
      rw [show prI (i : Int) s.m = _ from prev_at h1' hm]
      simp only [Int.toNat_natCast]
      refine good_needs (by simp only [ob_cons, ob_nil, cross_in, and_true, true_and, decide_eq_true_eq, Bool.not_eq_true', decide_eq_false_iff_not, Nat.ble_eq]; omega) (good_out ⟨h1', ?_, ?_, trivial⟩)
      · rw [show IntKind.i64.wrap ((i : Int) + 1) = W ((i : Int) + 1) from rfl, w64_in (x := (i : Int) + 1) (by omega) (by omega)]
        rfl
      · refine .cons (ABeq.refl _) (.cons (ABeq.row fun j hj => ?_) (.cons (ABeq.refl _) .nil))
        rcases Nat.lt_or_ge j i with h | h
        · rw [snocR_lt h]
        · have : j = i := by omega
          subst this
          rw [snocR_eq (by simp)]
          rfl
    · have h1 := of_decide_eq_false h1
      have : i = s.m := by omega
      subst this
      refine good_out ⟨_, Hsim.refl _, ?_⟩
      rw [if_pos rfl]
      exact hk

theorem zero_row (a : Nat → Nat → Int) : (fun q => rowC a (0 + q)) = rowC a := by
  funext q
  rw [Nat.zero_add]

def F_bendsY : List SA → Option FR
  | [.row m g] => some { val := .tup [.own 0 m, .v (.bool true)], new := [.row true m 1 (rowI (bendsF (stepsF (itC g) m) m)) 3], obl := [allC m g, decide (m ≤ 2 ^ 38), f_valid (itC g) m == true] }
  | _ => none

theorem valid_pos {a : Nat → Nat → Int} {m : Nat} (h : (f_valid a m == true) = true) : 0 < m := by
  have : f_valid a m = true := by simpa using h
  simp only [f_valid, Bool.and_eq_true] at this
  have := inR_iff.1 this.2
  omega

theorem ok_bendsSY : SpecOk Try.prog 14 (specR md_list F_bendsY) := by
  refine mkR (n := 100) (Λ := oneL 0 (loopS 41 [4, 5, 6, 7] decB preB outB)) gm_y_ok Try.func14 rfl fun sas fr hF ho => ?_
  unfold F_bendsY at hF
  split at hF
  · rename_i m g
    cases hF
    simp only [ob_cons] at ho
    obtain ⟨h1, h2, h3, _⟩ := ho
    refine ⟨[.row false m 8 (rowC (itC g)) 46], .cons (ABeq.row fun j hj => allC_get h1 j hj) .nil, lam1 (by kernel_rfl) sumB, ?_⟩
    have e : execF Try.prog gm_y (oneL 0 (loopS 41 [4, 5, 6, 7] decB preB outB)) 100 Try.f14 (avC 0 md_list [.row m g]) [.row false m 8 (rowC (itC g)) 46] (packK 1)
      = needs [Nat.ble (0 + m) m, allC m (fun q => rowC (itC g) (0 + q)), decide (m ≤ 2 ^ 38), f_valid (itC fun q => rowC (itC g) (0 + q)) m == true, Nat.ble (0 + m) m, allC m (fun q => rowC (itC g) (0 + q)), decide (0 < m), decide (m ≤ 2 ^ 38),
          Nat.beq m m, Nat.beq m m, allC m (rowC (stepsF (itC fun q => rowC (itC g) (0 + q)) m)), decide (m ≤ 2 ^ 38)]
        (.out .ret [.tup [.own 1 m, .v (.bool true)]] [.row false m 8 (rowC (itC g)) 46, .row true m 1 (rowI (bendsF (itC (rowC (stepsF (itC fun q => rowC (itC g) (0 + q)) m))) m)) 3]) := by kernel_rfl
    rw [show ([AB.row false m 8 (rowC (itC g)) 46]).length = 1 from rfl, e, zero_row]
    have hpos := valid_pos h3
    refine good_needs ?_ (good_out ⟨_, rfl, rfl, .cons (ABeq.row fun j hj => (allC_get h1 j hj).symm) (.cons (ABeq.row fun j hj => ?_) .nil)⟩)
    · simp only [ob_cons, ob_nil, allC_of (m := m) (a := itC g) fun j _ => rfl, allC_of (m := m) (a := stepsF (itC (rowC (itC g))) m) fun j _ => rfl, h2, beq_me, and_self, and_true, true_and, Nat.zero_add, Nat.ble_eq, Nat.le_refl, decide_eq_true_eq]
      exact ⟨h3, hpos⟩
    · kernel_rfl
  · cases hF

end Go.Proofs.Ytkbdppnlojlcdaa

/- bends; PolyBends of both, where the list is a polygon. Conditions: a list of points. -/
namespace Go.Proofs.Ytkbdppnlojlcdaa
open Go.RowKit
set_option maxRecDepth 100000
abbrev lvA : Ex → List Nat := lv3 [3, 4, 12, 13, 14] [4] []
def stA (s : PB) (i : Nat) : List (Nat × AV) := [(3, .own 1 s.m), (4, .own 2 i), (12, .own 1 s.m), (13, .v (i64 s.m)), (14, .v (i64 i))]
def hpA (s : PB) (i : Nat) : List AB := [.row false s.n 8 s.g s.t, .row true s.m 8 (rowC (itC s.gb)) 46, .row true i 1 (rowI (bendsF (itC s.gb) s.m)) 3]
def decA : List AV → List AB → Option (PB × Nat)
  | [.own 1 m, .own 2 0, .own 1 k', .v (.int .i64 (.ofNat k)), .v (.int .i64 0)], [.row false n 8 g t, .row true m' 8 gb 46, .row true 0 1 _ 3] => some (⟨m, m', k, gb, n, g, t⟩, k')
  | _, _ => none
def preA (s : PB × Nat) : List Bool := Nat.beq s.2 s.1.m :: preB s.1
def outA (s : PB × Nat) (K : Kont) : Res := K .normal (mkT 0 38 [(4, .own 1 s.1.m)]) [.row false s.1.n 8 s.1.g s.1.t, .row true s.1.m 1 (rowI (bendsF (itC s.1.gb) s.1.m)) 3]
theorem rndA (m : Nat) (b : Nat → Nat → Int) (n : Nat) (g : Nat → List Value) (t : TypeId) (G : Nat → List Value) (i : Nat) : execC Try.prog gm_y 100 noLam (loopAt 0 Try.f49) (mkT 0 38 [(3, .own 1 m), (4, .own 2 i), (12, .own 1 m), (13, .v (i64 m)), (14, .v (i64 i))]) [.row false n 8 g t, .row true m 8 (rowC b) 46, .row true i 1 G 3] (leafK lvA 1)
    = cond (decide ((i : Int) < m)) (needs [decide ((i : Int) < m), decide (i < m), !decide ((m : Int) = 0), decide (0 ≤ prI i m), decide (prI i m < m), decide ((prI i m).toNat < m), i64B (crossW (b (prI i m).toNat) (b i) 0), i64B (crossW (b (prI i m).toNat) (b i) 1), i64B (crossW (b (prI i m).toNat) (b i) 2), i64B (crossW (b (prI i m).toNat) (b i) 3), Nat.ble i i, Nat.ble (i + 1) 549755813888]
        (.out .normal (mkT 0 38 [(3, .own 1 m), (4, .own 2 (i + 1)), (12, .own 1 m), (13, .v (i64 m)), (14, .v (i64 (IntKind.i64.wrap ((i : Int) + 1))))]) [.row false n 8 g t, .row true m 8 (rowC b) 46, .row true (i + 1) 1 (snocR G i 1 [i64 (bendV (b (prI i m).toNat) (b i))]) 3]))
      (.out (.exit 0) (mkT 0 38 [(4, .own 1 i)]) [.row false n 8 g t, .row true i 1 G 3]) := by kernel_rfl

theorem sumA : SumOk Try.prog 1 (.block 0 (.loop (loopAt 0 Try.f49))) (loopS 38 [3, 4, 12, 13, 14] decA preA outA) := by
  refine mkFor gm_y_ok (n := 100) (m := 1) (lv := lvA) (Λ := noLam) (fun s => stA s.1) (fun s => hpA s.1) (fun _ _ => True) (fun s => s.1.m) rfl (noLam_ok _ _ _) (Nat.le_refl _) ?_ ?_
  · intro avs H s hd ho
    unfold decA at hd
    split at hd
    · rename_i m k' k n g t m' gb G
      cases hd
      simp only [preA, preB, ob_cons, decide_eq_true_eq] at ho
      obtain ⟨h0, h1, h2, h3, h4, _⟩ := ho
      have h0 := Nat.eq_of_beq_eq_true h0
      have h1 := Nat.eq_of_beq_eq_true h1
      have h2 := Nat.eq_of_beq_eq_true h2
      subst h0 h1 h2
      exact ⟨[.row false n 8 g t, .row true _ 8 gb 46, .row true 0 1 G 3], by kernel_rfl, .cons (ABeq.refl _) (.cons (ABeq.row fun j hj => allC_get h3 j hj) (.cons (ABeq.row fun j hj => by omega) .nil)), trivial⟩
    · cases hd
  · rintro ⟨s, k'⟩ K Q ho hk i _ him
    simp only [preA, preB, ob_cons, decide_eq_true_eq] at ho
    obtain ⟨_, _, _, _, hm, _⟩ := ho
    simp only at him
    show GoodQ (execC Try.prog gm_y 100 noLam (loopAt 0 Try.f49) (mkT 0 38 [(3, .own 1 s.m), (4, .own 2 i), (12, .own 1 s.m), (13, .v (i64 s.m)), (14, .v (i64 i))]) [.row false s.n 8 s.g s.t, .row true s.m 8 (rowC (itC s.gb)) 46, .row true i 1 (rowI (bendsF (itC s.gb) s.m)) 3] (leafK lvA 1)) _
    rw [rndA]
    refine good_cond (fun h1 => ?_) fun h1 => ?_
    · have h1 := of_decide_eq_true h1
      have h1' : i < s.m := by omega
      have hml : (i + s.m - 1) % s.m < s.m := Nat.mod_lt _ (by omega)
      rw [show prI (i : Int) s.m = _ from prev_at h1' hm]
      simp only [Int.toNat_natCast]
      refine good_needs (by simp only [ob_cons, ob_nil, cross_in, and_true, true_and, decide_eq_true_eq, Bool.not_eq_true', decide_eq_false_iff_not, Nat.ble_eq]; omega) (good_out ⟨h1', ?_, ?_, trivial⟩)
      · rw [show IntKind.i64.wrap ((i : Int) + 1) = W ((i : Int) + 1) from rfl, w64_in (x := (i : Int) + 1) (by omega) (by omega)]
        rfl
      · refine .cons (ABeq.refl _) (.cons (ABeq.refl _) (.cons (ABeq.row fun j hj => ?_) .nil))
        rcases Nat.lt_or_ge j i with h | h
        · rw [snocR_lt h]
        · have : j = i := by omega
          subst this
          rw [snocR_eq (by simp)]
          rfl
    · have h1 := of_decide_eq_false h1
      have : i = s.m := by omega
      subst this
      refine good_out ⟨_, Hsim.refl _, ?_⟩
      rw [if_pos rfl]
      exact hk

/-- The bends of a list. -/
def F_bends : List SA → Option FR
  | [.row m g] => some { val := .own 0 m, new := [.row true m 1 (rowI (bendsF (stepsF (itC g) m) m)) 3], obl := [allC m g, decide (0 < m), decide (m ≤ 2 ^ 38)] }
  | _ => none
theorem ok_bends : SpecOk Try.prog 49 (specR md_list F_bends) := by
  refine mkR (n := 100) (Λ := oneL 0 (loopS 38 [3, 4, 12, 13, 14] decA preA outA)) gm_y_ok Try.func49 rfl fun sas fr hF ho => ?_
  unfold F_bends at hF
  split at hF
  · rename_i m g
    cases hF
    simp only [ob_cons] at ho
    obtain ⟨h1, h3, h2, _⟩ := ho
    have h2' := of_decide_eq_true h2
    refine ⟨[.row false m 8 (rowC (itC g)) 46], .cons (ABeq.row fun j hj => allC_get h1 j hj) .nil, lam1 (by kernel_rfl) sumA, ?_⟩
    have e : execF Try.prog gm_y (oneL 0 (loopS 38 [3, 4, 12, 13, 14] decA preA outA)) 100 Try.f49 (avC 0 md_list [.row m g]) [.row false m 8 (rowC (itC g)) 46] (packK 1)
      = needs [Nat.ble (0 + m) m, allC m (fun q => rowC (itC g) (0 + q)), decide (0 < m), decide (m ≤ 2 ^ 38), decide ((m : Int) ≤ 1099511627776),
          Nat.beq m m, Nat.beq m m, Nat.beq m m, allC m (rowC (stepsF (itC fun q => rowC (itC g) (0 + q)) m)), decide (m ≤ 2 ^ 38)]
        (.out .ret [.own 1 m] [.row false m 8 (rowC (itC g)) 46, .row true m 1 (rowI (bendsF (itC (rowC (stepsF (itC fun q => rowC (itC g) (0 + q)) m))) m)) 3]) := by kernel_rfl
    rw [show ([AB.row false m 8 (rowC (itC g)) 46]).length = 1 from rfl, e, zero_row]
    refine good_needs ?_ (good_out ⟨_, rfl, rfl, .cons (ABeq.row fun j hj => (allC_get h1 j hj).symm) (.cons (ABeq.row fun j hj => ?_) .nil)⟩)
    · simp only [ob_cons, ob_nil, allC_of (m := m) (a := itC g) fun j _ => rfl, allC_of (m := m) (a := stepsF (itC (rowC (itC g))) m) fun j _ => rfl, h2, h3, beq_me, and_self, and_true, true_and, Nat.zero_add, Nat.ble_eq, Nat.le_refl, decide_eq_true_eq]
      omega
    · kernel_rfl
  · cases hF

end Go.Proofs.Ytkbdppnlojlcdaa

/- PolyBends of both, in each case. Conditions: a list of points. -/
namespace Go.Proofs.Ytkbdppnlojlcdaa
open Go.RowKit
set_option maxRecDepth 100000

def gm_yb : Gam := ext gm_y 49 (specR md_list F_bends)
theorem gm_yb_ok : GamOk Try.prog gm_yb := ext_ok gm_y_ok ok_bends

theorem ok_bendsY : SpecOk Try.prog 16 (specR md_list F_bendsY) := by
  refine mkR (n := 100) (Λ := noLam) gm_yb_ok Try.func16 rfl fun sas fr hF ho => ?_
  unfold F_bendsY at hF
  split at hF
  · rename_i m g
    cases hF
    simp only [ob_cons] at ho
    obtain ⟨h1, h2, h3, _⟩ := ho
    refine ⟨[.row false m 8 (rowC (itC g)) 46], .cons (ABeq.row fun j hj => allC_get h1 j hj) .nil, noLam' _, ?_⟩
    have e : execF Try.prog gm_yb noLam 100 Try.f16 (avC 0 md_list [.row m g]) [.row false m 8 (rowC (itC g)) 46] (packK 1)
      = needs [Nat.ble (0 + m) m, allC m (fun q => rowC (itC g) (0 + q)), decide (m ≤ 2 ^ 38), f_valid (itC fun q => rowC (itC g) (0 + q)) m == true, Nat.ble (0 + m) m, allC m (fun q => rowC (itC g) (0 + q)), decide (0 < m), decide (m ≤ 2 ^ 38)]
        (.out .ret [.tup [.own 1 m, .v (.bool true)]] [.row false m 8 (rowC (itC g)) 46, .row true m 1 (rowI (bendsF (stepsF (itC fun q => rowC (itC g) (0 + q)) m) m)) 3]) := by kernel_rfl
    rw [show ([AB.row false m 8 (rowC (itC g)) 46]).length = 1 from rfl, e, zero_row]
    have hpos := valid_pos h3
    refine good_needs ?_ (good_out ⟨_, rfl, rfl, .cons (ABeq.row fun j hj => (allC_get h1 j hj).symm) (.cons (ABeq.row fun j hj => ?_) .nil)⟩)
    · simp only [ob_cons, ob_nil, allC_of (m := m) (a := itC g) fun j _ => rfl, h2, beq_me, and_self, and_true, true_and, Nat.zero_add, Nat.ble_eq, Nat.le_refl, decide_eq_true_eq]
      exact ⟨h3, hpos⟩
    · kernel_rfl
  · cases hF

/-- Not a polygon: the reference's. -/
def F_bendsSN : List SA → Option FR
  | [.row m g] => some { val := .tup [.own 0 0, .v (.bool false)], new := [.row true 0 1 (fun _ => []) 3], obl := [allC m g, decide (m ≤ 2 ^ 38), f_valid (itC g) m == false] }
  | _ => none
/-- Not a polygon: the program's. -/
def F_bendsN : List SA → Option FR
  | [.row m g] => some { val := .tup [.v (.slice none 0 0), .v (.bool false)], obl := [allC m g, decide (m ≤ 2 ^ 38), f_valid (itC g) m == false] }
  | _ => none

theorem ok_bendsSN : SpecOk Try.prog 14 (specR md_list F_bendsSN) := by
  refine mkR (n := 100) (Λ := noLam) gm_n_ok Try.func14 rfl fun sas fr hF ho => ?_
  unfold F_bendsSN at hF
  split at hF
  · rename_i m g
    cases hF
    simp only [ob_cons] at ho
    obtain ⟨h1, h2, h3, _⟩ := ho
    refine ⟨[.row false m 8 (rowC (itC g)) 46], .cons (ABeq.row fun j hj => allC_get h1 j hj) .nil, noLam' _, ?_⟩
    have e : execF Try.prog gm_n noLam 100 Try.f14 (avC 0 md_list [.row m g]) [.row false m 8 (rowC (itC g)) 46] (packK 1)
      = needs [Nat.ble (0 + m) m, allC m (fun q => rowC (itC g) (0 + q)), decide (m ≤ 2 ^ 38), f_valid (itC fun q => rowC (itC g) (0 + q)) m == false]
        (.out .ret [.tup [.own 1 0, .v (.bool false)]] [.row false m 8 (rowC (itC g)) 46, .row true 0 1 (fun _ => []) 3]) := by kernel_rfl
    rw [show ([AB.row false m 8 (rowC (itC g)) 46]).length = 1 from rfl, e, zero_row]
    refine good_needs ?_ (good_out ⟨_, rfl, rfl, .cons (ABeq.row fun j hj => (allC_get h1 j hj).symm) (.cons (ABeq.refl _) .nil)⟩)
    simp only [ob_cons, ob_nil, allC_of (m := m) (a := itC g) fun j _ => rfl, h2, and_self, and_true, true_and, Nat.zero_add, Nat.ble_eq, Nat.le_refl]
    exact h3
  · cases hF

theorem ok_bendsN : SpecOk Try.prog 16 (specR md_list F_bendsN) := by
  refine mkR (n := 100) (Λ := noLam) gm_n_ok Try.func16 rfl fun sas fr hF ho => ?_
  unfold F_bendsN at hF
  split at hF
  · rename_i m g
    cases hF
    simp only [ob_cons] at ho
    obtain ⟨h1, h2, h3, _⟩ := ho
    refine ⟨[.row false m 8 (rowC (itC g)) 46], .cons (ABeq.row fun j hj => allC_get h1 j hj) .nil, noLam' _, ?_⟩
    have e : execF Try.prog gm_n noLam 100 Try.f16 (avC 0 md_list [.row m g]) [.row false m 8 (rowC (itC g)) 46] (packK 1)
      = needs [Nat.ble (0 + m) m, allC m (fun q => rowC (itC g) (0 + q)), decide (m ≤ 2 ^ 38), f_valid (itC fun q => rowC (itC g) (0 + q)) m == false]
        (.out .ret [.tup [.v (.slice none 0 0), .v (.bool false)]] [.row false m 8 (rowC (itC g)) 46]) := by kernel_rfl
    rw [show ([AB.row false m 8 (rowC (itC g)) 46]).length = 1 from rfl, e, zero_row]
    refine good_needs ?_ (good_out ⟨_, rfl, rfl, .cons (ABeq.row fun j hj => (allC_get h1 j hj).symm) .nil⟩)
    simp only [ob_cons, ob_nil, allC_of (m := m) (a := itC g) fun j _ => rfl, h2, and_self, and_true, true_and, Nat.zero_add, Nat.ble_eq, Nat.le_refl]
    exact h3
  · cases hF

end Go.Proofs.Ytkbdppnlojlcdaa

/- Loops over slices: heldIntS as the pattern. -/
namespace Go.Proofs.Ytkbdppnlojlcdaa
open Go.RowKit
set_option maxRecDepth 100000

/-- The first n elements are k, k+1, .. -/
def upB (a : Nat → Int) (k : Int) (n : Nat) : Bool := (List.range n).all fun j => decide (a j = k + j)

structure HI where
  m : Nat
  n : Nat
  k : Int
  kv : Int
  i : Nat
  g : Nat → List Value
  t : TypeId
abbrev lvHI : Ex → List Nat := lv3 [0, 1, 5] [0, 1] [4]
def decHI : List AV → List AB → Option HI
  | [.sl 0 1 0 0 m none, .v (.int .i64 k), .v (.int .i64 0)], [.row false n 1 g t] => some ⟨m, n, k, k, 0, g, t⟩
  | _, _ => none
def stHI (s : HI) : List (Nat × AV) := [(0, .sl 0 1 0 0 s.m none), (1, .v (i64 s.kv)), (5, .v (i64 s.i))]
def hpHI (s : HI) : List AB := [.row false s.m 1 (rowI (itI s.g)) s.t]
def preHI (s : HI) : List Bool := [Nat.beq s.n s.m, allI s.m s.g, decide (0 ≤ s.k), decide (s.k ≤ 2 ^ 40), decide (s.m ≤ 2 ^ 40)]
def outHI (s : HI) (K : Kont) : Res := cond (upB (itI s.g) s.k s.m) (K .normal (mkT 0 21 [(0, .sl 0 1 0 0 s.m none), (1, .v (i64 (s.k + s.m)))]) (hpHI s)) (K .ret (mkT 0 21 [(4, .v (i64 (-1)))]) (hpHI s))
theorem upB_get {a : Nat → Int} {k : Int} {n : Nat} (h : upB a k n = true) {j : Nat} (hj : j < n) : a j = k + j := by
  simpa using List.all_eq_true.1 h j (by simpa using hj)
theorem upB_succ {a : Nat → Int} {k : Int} {n : Nat} (h : upB a k n = true) (h1 : a n = k + n) : upB a k (n + 1) = true := by
  unfold upB
  rw [List.range_succ, List.all_append]
  simp only [List.all_cons, List.all_nil, Bool.and_true, Bool.and_eq_true]
  exact ⟨h, by simpa using h1⟩
theorem upB_no {a : Nat → Int} {k : Int} {n j : Nat} (hj : j < n) (h1 : a j ≠ k + j) : upB a k n = false := by
  cases h : upB a k n with
  | false => rfl
  | true => exact (h1 (upB_get h hj)).elim

theorem roundHI (s : HI) : execC Try.prog g0 100 noLam (loopAt 0 Try.f21) (mkT 0 21 (stHI s)) (hpHI s) (leafK lvHI 1)
    = cond (decide ((s.i : Int) < s.m)) (cond (decide ((s.i : Int) < s.m)) (cond (decide (0 + s.i < s.m)) (cond (!decide (itI s.g (0 + s.i) = s.kv)) (.out .ret (mkT 0 21 [(4, .v (i64 (-1)))]) (hpHI s))
      (.out .normal (mkT 0 21 [(0, .sl 0 1 0 0 s.m none), (1, .v (i64 (W (s.kv + 1)))), (5, .v (i64 (W (s.i + 1))))]) (hpHI s))) .err) .err) (.out (.exit 0) (mkT 0 21 [(0, .sl 0 1 0 0 s.m none), (1, .v (i64 s.kv))]) (hpHI s)) := by kernel_rfl

theorem sumHI : SumOk Try.prog 1 (.block 0 (.loop (loopAt 0 Try.f21))) (loopS 21 [0, 1, 5] decHI preHI outHI) := by
  refine mkLoop g0_ok (n := 100) (m := 1) (lv := lvHI) (Λ := noLam) stHI hpHI (fun s0 s => s = { s0 with i := s.i, kv := s0.k + s.i } ∧ s.i ≤ s.m ∧ upB (itI s.g) s.k s.i = true ∧ 0 ≤ s.k ∧ s.k ≤ 2 ^ 40 ∧ s.m ≤ 2 ^ 40 ∧ s.kv = s.k + s.i) (fun s => s.m - s.i) rfl (noLam_ok _ _ _) (Nat.le_refl _) ?_ ?_
  · intro avs H s hd ho
    unfold decHI at hd
    split at hd
    · rename_i m n k g t
      cases hd
      simp only [preHI, ob_cons, decide_eq_true_eq] at ho
      obtain ⟨h1, h2, h3, h4, h5, _⟩ := ho
      cases Nat.eq_of_beq_eq_true h1
      exact ⟨[.row false m 1 g t], by kernel_rfl, .cons (ABeq.row fun j hj => allI_get h2 j hj) .nil, by simp, Nat.zero_le _, rfl, h3, h4, h5, by simp⟩
    · cases hd
  · intro s0 K Q ho hk s hi
    rw [roundHI]
    obtain ⟨hs, him, hup, hk0, hk1, hm, hkv⟩ := hi
    refine good_cond (fun h1 => ?_) fun h1 => ?_
    · have h1 := of_decide_eq_true h1
      have h1' : s.i < s.m := by omega
      refine good_true (decide_eq_true h1) (good_true (decide_eq_true (by omega)) (good_cond (fun h2 => ?_) fun h2 => ?_))
      · rw [Nat.zero_add] at h2
        refine good_out ⟨_, Hsim.refl _, ?_⟩
        have h2 : itI s.g s.i ≠ s.k + s.i := by rw [← hkv]; simpa using h2
        have := upB_no h1' h2
        rw [hs] at this ⊢
        rw [outHI, this] at hk
        exact hk
      · rw [Nat.zero_add] at h2
        have h2 : itI s.g s.i = s.k + s.i := by rw [← hkv]; simpa using h2
        refine good_out ⟨{ s with i := s.i + 1, kv := s.kv + 1 }, ⟨?_, h1', upB_succ hup h2, hk0, hk1, hm, by simp only [hkv]; omega⟩, ?_, Hsim.refl _, by simp only; omega⟩
        · rw [hs]
          simp only [HI.mk.injEq, true_and, and_true]
          omega
        · rw [w64_in (x := s.kv + 1) (by omega) (by omega), w64_in (x := (s.i : Int) + 1) (by omega) (by omega)]
          rfl
    · have h1 := of_decide_eq_false h1
      have h1' : s.i = s.m := by omega
      refine good_out ⟨_, Hsim.refl _, ?_⟩
      rw [if_pos rfl, hkv, h1']
      rw [h1'] at hup
      rw [hs] at hup ⊢
      rw [outHI, hup] at hk
      exact hk

def F_heldIntS : List SA → Option FR
  | [.row m g, .v (.int .i64 k)] => some { val := .v (i64 (cond (upB (itI g) k m) (k + m) (-1))), obl := [allI m g, decide (0 ≤ k), decide (k ≤ 2 ^ 40), decide (m ≤ 2 ^ 40)] }
  | _ => none
def md_heldIntS : List Md := [.rd 1 3, .val]

theorem ok_heldIntS : SpecOk Try.prog 21 (specR md_heldIntS F_heldIntS) := by
  refine mkR (n := 100) (Λ := oneL 0 (loopS 21 [0, 1, 5] decHI preHI outHI)) g0_ok Try.func21 rfl fun sas fr hF ho => ?_
  unfold F_heldIntS at hF
  split at hF
  · rename_i m g k
    cases hF
    simp only [ob_cons] at ho
    obtain ⟨h1, h2, h3, h4, _⟩ := ho
    refine ⟨[.row false m 1 (rowI (itI g)) 3], .cons (ABeq.row fun j hj => allI_get h1 j hj) .nil, lam1 (by kernel_rfl) sumHI, ?_⟩
    have e : execF Try.prog g0 (oneL 0 (loopS 21 [0, 1, 5] decHI preHI outHI)) 100 Try.f21 (avC 0 md_heldIntS [.row m g, .v (.int .i64 k)]) [.row false m 1 (rowI (itI g)) 3] (packK 1)
      = needs [Nat.beq m m, allI m (rowI (itI g)), decide (0 ≤ k), decide (k ≤ 2 ^ 40), decide (m ≤ 2 ^ 40)] (cond (upB (itI g) k m) (.out .ret [.v (i64 (k + m))] [.row false m 1 (rowI (itI g)) 3]) (.out .ret [.v (i64 (-1))] [.row false m 1 (rowI (itI g)) 3])) := by kernel_rfl
    rw [show ([AB.row false m 1 (rowI (itI g)) 3]).length = 1 from rfl, e]
    refine good_needs (by simp only [ob_cons, ob_nil, allI_of (m := m) (a := itI g) fun j _ => rfl, h2, h3, h4, beq_me, and_self]) (good_cond (fun hb => ?_) fun hb => ?_)
    · rw [hb]
      exact good_out ⟨_, rfl, rfl, .cons (ABeq.row fun j hj => (allI_get h1 j hj).symm) .nil⟩
    · rw [hb]
      exact good_out ⟨_, rfl, rfl, .cons (ABeq.row fun j hj => (allI_get h1 j hj).symm) .nil⟩
  · cases hF

end Go.Proofs.Ytkbdppnlojlcdaa

/- The law's own helpers on whole numbers. Conditions: those that each word names. -/
namespace Go.Proofs.Ytkbdppnlojlcdaa
open Go.RowKit
set_option maxRecDepth 100000

def sameI (m : Nat) (a b : Nat → Int) : Bool := (List.range m).all fun j => decide (a j = b j)
theorem sameI_get {m : Nat} {a b : Nat → Int} (h : sameI m a b = true) {j : Nat} (hj : j < m) : a j = b j := by
  simpa using List.all_eq_true.1 h j (by simpa using hj)

structure EI where
  m : Nat
  n : Nat
  m2 : Nat
  n2 : Nat
  g : Nat → List Value
  g2 : Nat → List Value
  t : TypeId
  t2 : TypeId
abbrev lvE : Ex → List Nat := lv3 [0, 1, 5] [] [4]
def decE : List AV → List AB → Option EI
  | [.sl 0 1 0 0 m none, .sl 1 1 0 0 m2 none, .v (.int .i64 0)], [.row false n 1 g t, .row false n2 1 g2 t2] => some ⟨m, n, m2, n2, g, g2, t, t2⟩
  | _, _ => none
def stE (s : EI) (i : Nat) : List (Nat × AV) := [(0, .sl 0 1 0 0 s.m none), (1, .sl 1 1 0 0 s.m none), (5, .v (i64 i))]
def hpE (s : EI) : List AB := [.row false s.m 1 (rowI (itI s.g)) s.t, .row false s.m 1 (rowI (itI s.g2)) s.t2]
def preE (s : EI) : List Bool := [Nat.beq s.n s.m, Nat.beq s.m2 s.m, Nat.beq s.n2 s.m, allI s.m s.g, allI s.m s.g2, sameI s.m (itI s.g) (itI s.g2), decide (s.m ≤ 2 ^ 40)]
def outE (s : EI) (K : Kont) : Res := K .normal (mkT 0 26 []) (hpE s)
theorem rndE (s : EI) (i : Nat) : execC Try.prog g0 100 noLam (loopAt 0 Try.f17) (mkT 0 26 (stE s i)) (hpE s) (leafK lvE 2)
    = cond (decide ((i : Int) < s.m)) (needs [decide ((i : Int) < s.m), decide (0 + i < s.m), decide ((i : Int) < s.m), decide (0 + i < s.m)]
        (cond (itI s.g (0 + i) != itI s.g2 (0 + i)) (.out .ret (mkT 0 26 [(4, .v (.bool false))]) (hpE s)) (.out .normal (mkT 0 26 [(0, .sl 0 1 0 0 s.m none), (1, .sl 1 1 0 0 s.m none), (5, .v (i64 (IntKind.i64.wrap ((i : Int) + 1))))]) (hpE s))))
      (.out (.exit 0) (mkT 0 26 []) (hpE s)) := by kernel_rfl

theorem sumE : SumOk Try.prog 2 (.block 0 (.loop (loopAt 0 Try.f17))) (loopS 26 [0, 1, 5] decE preE outE) := by
  refine mkFor g0_ok (n := 100) (m := 2) (lv := lvE) (Λ := noLam) stE (fun s _ => hpE s) (fun _ _ => True) (fun s => s.m) rfl (noLam_ok _ _ _) (Nat.le_refl _) ?_ ?_
  · intro avs H s hd ho
    unfold decE at hd
    split at hd
    · rename_i m m2 n g t n2 g2 t2
      cases hd
      simp only [preE, ob_cons, decide_eq_true_eq] at ho
      obtain ⟨h0, h1, h2, h3, h4, h5, h6, _⟩ := ho
      have h0 := Nat.eq_of_beq_eq_true h0
      have h1 := Nat.eq_of_beq_eq_true h1
      have h2 := Nat.eq_of_beq_eq_true h2
      subst h0 h1 h2
      exact ⟨[.row false _ 1 g t, .row false _ 1 g2 t2], by kernel_rfl, .cons (ABeq.row fun j hj => allI_get h3 j hj) (.cons (ABeq.row fun j hj => allI_get h4 j hj) .nil), trivial⟩
    · cases hd
  · intro s K Q ho hk i _ him
    simp only [preE, ob_cons, decide_eq_true_eq] at ho
    obtain ⟨_, _, _, _, _, h5, h6, _⟩ := ho
    show GoodQ (execC Try.prog g0 100 noLam (loopAt 0 Try.f17) (mkT 0 26 (stE s i)) (hpE s) (leafK lvE 2)) _
    rw [rndE, Nat.zero_add]
    refine good_cond (fun h1 => ?_) fun h1 => ?_
    · have h1 := of_decide_eq_true h1
      have h1' : i < s.m := by omega
      refine good_needs (by simp only [ob_cons, ob_nil, and_true, decide_eq_true_eq]; omega) (good_false (by simp [sameI_get h5 h1']) (good_out ⟨h1', ?_, Hsim.refl _, trivial⟩))
      rw [show IntKind.i64.wrap ((i : Int) + 1) = W ((i : Int) + 1) from rfl, w64_in (x := (i : Int) + 1) (by omega) (by omega)]
      rfl
    · refine good_out ⟨_, Hsim.refl _, ?_⟩
      rw [if_pos rfl]
      exact hk

/-- Two slices that are equal. -/
def F_eqIntS : List SA → Option FR
  | [.row m g, .row m2 g2] => some { val := .v (.bool true), obl := [Nat.beq m2 m, allI m g, allI m g2, sameI m (itI g) (itI g2), decide (m ≤ 2 ^ 40)] }
  | _ => none
def md_eqIntS : List Md := [.rd 1 3, .rd 1 3]
theorem ok_eqIntS : SpecOk Try.prog 17 (specR md_eqIntS F_eqIntS) := by
  refine mkR (n := 100) (Λ := oneL 0 (loopS 26 [0, 1, 5] decE preE outE)) g0_ok Try.func17 rfl fun sas fr hF ho => ?_
  unfold F_eqIntS at hF
  split at hF
  · rename_i m g m2 g2
    cases hF
    simp only [ob_cons] at ho
    obtain ⟨h0, h1, h2, h3, h4, _⟩ := ho
    have h0 := Nat.eq_of_beq_eq_true h0
    subst h0
    refine ⟨[.row false m2 1 (rowI (itI g)) 3, .row false m2 1 (rowI (itI g2)) 3], .cons (ABeq.row fun j hj => allI_get h1 j hj) (.cons (ABeq.row fun j hj => allI_get h2 j hj) .nil), lam1 (by kernel_rfl) sumE, ?_⟩
    have e : execF Try.prog g0 (oneL 0 (loopS 26 [0, 1, 5] decE preE outE)) 100 Try.f17 (avC 0 md_eqIntS [.row m2 g, .row m2 g2]) [.row false m2 1 (rowI (itI g)) 3, .row false m2 1 (rowI (itI g2)) 3] (packK 2)
      = cond ((m2 : Int) != m2) (.out .ret [.v (.bool false)] [.row false m2 1 (rowI (itI g)) 3, .row false m2 1 (rowI (itI g2)) 3])
        (needs [Nat.beq m2 m2, Nat.beq m2 m2, Nat.beq m2 m2, allI m2 (rowI (itI g)), allI m2 (rowI (itI g2)), sameI m2 (itI g) (itI g2), decide (m2 ≤ 2 ^ 40)] (.out .ret [.v (.bool true)] [.row false m2 1 (rowI (itI g)) 3, .row false m2 1 (rowI (itI g2)) 3])) := by kernel_rfl
    rw [show ([AB.row false m2 1 (rowI (itI g)) 3, AB.row false m2 1 (rowI (itI g2)) 3]).length = 2 from rfl, e]
    refine good_false (by simp) (good_needs (by simp only [ob_cons, ob_nil, allI_of (m := m2) (a := itI g) fun j _ => rfl, allI_of (m := m2) (a := itI g2) fun j _ => rfl, h3, h4, beq_me, and_self]) (good_out ⟨_, rfl, rfl, .cons (ABeq.row fun j hj => (allI_get h1 j hj).symm) (.cons (ABeq.row fun j hj => (allI_get h2 j hj).symm) .nil)⟩))
  · cases hF

end Go.Proofs.Ytkbdppnlojlcdaa
