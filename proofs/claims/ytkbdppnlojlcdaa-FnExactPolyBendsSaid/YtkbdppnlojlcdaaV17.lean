/- The abstract machine, 17: the same, in a frame of a round of a loop over a function. No conditions. -/
import Derived.Test.YtkbdppnlojlcdaaV12
import Derived.RangeFuncNested
import Derived.RangeFuncBound
import Derived.RangeFuncCalls
import Derived.RangeFuncLeaves
import Derived.LoopNIn
import Derived.OrdersIn
import Derived.TacticsIn
namespace Go.Proofs.Ytkbdppnlojlcdaa
open Go.RowKit

/-- The wide fence, in a round or not. -/
def wideR (r : Option Nat) : Fence := { Fence.wide with round := r }
theorem wideR_none : wideR none = Fence.wide := rfl
theorem wideR_some (l : Nat) : wideR (some l) = Fence.wide.inRound l := rfl
theorem room_wideR (r : Option Nat) (n : Nat) : (wideR r).room n := fun _ h => by cases h

theorem callsIn_wideR {r : Option Nat} {n : Nat} {P : Program} {f : FuncId} {args : Array Value} {w : World} {R : Ending → World → Prop} (h : Calls P f args w R) : CallsIn (wideR r) n P f args w R := by
  cases r with
  | none => exact callsIn_wide.2 h
  | some l => exact CallsIn.inRound l (callsIn_wide.2 h)

theorem stepsIn_wideR {r : Option Nat} {P : Program} {m m' : Machine} (h : Steps P m m') : StepsIn (Machine.fenced P (wideR r)) P m m' := by
  cases r with
  | none => exact stepsIn_wide.2 h
  | some l => exact stepsIn_wide.2 h

theorem rowsIn_wideR {r : Option Nat} {n : Nat} {P : Program} {row : String} {args : Array Value} {w : World} {R : Value → World → Prop} (h : Rows P row args w R) : RowsIn (wideR r) n P row args w R :=
  fun c cs _ => let ⟨v, w', q, s⟩ := h c cs; ⟨v, w', q, stepsIn_wideR s⟩

theorem op_in {r : Option Nat} {n : Nat} {P : Program} {o : Oper} {a : Act} {w : World} {next : Act → World → Prop} {Q : Exit → Act → World → Prop} (hd : ∀ c, o.op ≠ .defer c) (h : o.wp P a w next Q) : o.wpIn (wideR r) n P a w next Q := by
  refine ⟨fun _ _ => trivial, ?_⟩
  have hs : o.semAt (wideR r).round a.eval = execOp a.eval o := by
    cases r with
    | none => exact Oper.semAt_none _ _
    | some l => exact Oper.semAt_some l _ o hd
  rw [hs]
  unfold Oper.wp at h
  generalize (execOp a.eval o).run P w = R at h
  cases R with
  | ok x w' =>
    cases x with
    | value v => exact h
    | skip => exact h
    | defer d => exact h
    | enter f args => exact ⟨fun hdep => (by cases hdep), callsIn_wideR (h.mono fun e w'' he => by cases e <;> exact he)⟩
    | row row args => exact ⟨fun hdep => (by cases hdep), rowsIn_wideR h⟩
    | round => exact h.elim
    | _ => exact h.elim
  | halt x w' =>
    cases x with
    | panic v => exact h
    | _ => exact h.elim

def noDef (ops : Array Oper) : Bool := ops.toList.all fun o => match o.op with
  | .defer _ => false
  | _ => true
theorem noDef_get {ops : Array Oper} (h : noDef ops = true) {i : Nat} {o : Oper} (ho : ops[i]? = some o) : ∀ c, o.op ≠ .defer c := by
  intro c e
  have hm : o ∈ ops.toList := by
    have := Array.getElem?_eq_some_iff.1 ho
    obtain ⟨hlt, e⟩ := this
    rw [← e]
    simp
  have := List.all_eq_true.1 h o hm
  rw [e] at this
  cases this

theorem wpOp_in {r : Option Nat} {n : Nat} {P : Program} {ops : Array Oper} {Q : Exit → Act → World → Prop} (hd : noDef ops = true) (hQ : ¬ LetsOut Q) {i : Nat} {K : Act → World → Prop} {a : Act} {w : World} (h : wpOp P ops Q i K a w) : wpOpIn (wideR r) n P ops Q i K a w := by
  unfold wpOp at h
  unfold wpOpIn
  cases ho : ops[i]? with
  | none => rw [ho] at h; exact h
  | some o =>
    rw [ho] at h
    simp only at h ⊢
    split at h
    · rename_i hw
      rw [if_pos hw]
      rcases h with h | h
      · exact op_in (noDef_get hd ho) h
      · exact (hQ h.2).elim
    · rename_i hw
      rw [if_neg hw]
      exact ⟨fun _ _ => trivial, h⟩

theorem wpOps_in {r : Option Nat} {n : Nat} {P : Program} {ops : Array Oper} {Q : Exit → Act → World → Prop} (hd : noDef ops = true) (hQ : ¬ LetsOut Q) : ∀ {l : List Nat} {a : Act} {w : World}, wpOps P ops Q l a w → wpOpsIn (wideR r) n P ops Q l a w
  | [], a, w, h => h
  | i :: l, a, w, h => by
    rw [wpOps_cons] at h
    rw [wpOpsIn_cons]
    exact wpOpIn_mono (fun a w h => wpOps_in hd hQ h) (wpOp_in hd hQ h)

theorem wpAny_in {r : Option Nat} {n : Nat} {P : Program} {md : Region.Mode} {ops : Array Oper} {Q : Exit → Act → World → Prop} (hd : noDef ops = true) (hQ : ¬ LetsOut Q) : ∀ {fuel : Nat} {listed : Array Bool} {a : Act} {w : World}, wpAny P md ops Q fuel listed a w → wpAnyIn (wideR r) n P md ops Q fuel listed a w
  | 0, _, _, _, h => h
  | fuel + 1, _, _, _, h => ⟨h.1, fun i hi => wpOpIn_mono (fun a w h => wpAny_in hd hQ h) (wpOp_in hd hQ (h.2 i hi))⟩

/-- What is known where a piece of code ends; the deferred calls stand as they stood. -/
def postD (ds : List Deferred) (M : Nat → Prop) (w0 : World) (ν0 : Nu) (K : Kont) (Q : Ex → List AV → List AB → Prop) : Exit → Act → World → Prop :=
  fun e a w => ∃ e' T H ν, e = Ex.to e' ∧ (K e' T H).ok Q ∧ SR M w0 ν0 T H a w ν ∧ a.defers = ds

theorem postD_out {ds : List Deferred} {M : Nat → Prop} {w0 : World} {ν0 : Nu} {K : Kont} {Q : Ex → List AV → List AB → Prop} : ¬ LetsOut (postD ds M w0 ν0 K Q) := by
  rintro ⟨a, w, e', T, H, ν, h, _⟩
  cases e' <;> cases h

theorem postD_then {ds : List Deferred} {M : Nat → Prop} {w0 : World} {ν0 : Nu} {K : Kont} {k2 : List AV → List AB → Res} {Q : Ex → List AV → List AB → Prop} {Y : Act → World → Prop} {e : Exit} {a : Act} {w : World} (h : postD ds M w0 ν0 (thenK k2 K) Q e a w)
    (hY : ∀ T H ν, (k2 T H).ok Q → SR M w0 ν0 T H a w ν → a.defers = ds → Y a w) : Exit.then Y (postD ds M w0 ν0 K Q) e a w := by
  obtain ⟨e', T, H, ν, rfl, hk, hS, hd⟩ := h
  cases e' with
  | normal => exact hY T H ν hk hS hd
  | exit id => exact ⟨.exit id, T, H, ν, rfl, hk, hS, hd⟩
  | ret => exact ⟨.ret, T, H, ν, rfl, hk, hS, hd⟩

theorem postD_exit {ds : List Deferred} {M : Nat → Prop} {w0 : World} {ν0 : Nu} {K : Kont} {Q : Ex → List AV → List AB → Prop} {id : Nat} {e : Exit} {a : Act} {w : World} (h : postD ds M w0 ν0 (exitK id K) Q e a w) : Exit.inBlock id (postD ds M w0 ν0 K Q) e a w := by
  obtain ⟨e', T, H, ν, rfl, hk, hS, hd⟩ := h
  cases e' with
  | normal => exact ⟨.normal, T, H, ν, rfl, hk, hS, hd⟩
  | ret => exact ⟨.ret, T, H, ν, rfl, hk, hS, hd⟩
  | exit j =>
    simp only [Ex.to, Exit.inBlock]
    simp only [exitK] at hk
    split
    · rename_i hj
      subst hj
      rw [Nat.beq_refl] at hk
      exact ⟨.normal, T, H, ν, rfl, hk, hS, hd⟩
    · rename_i hj
      cases hb : Nat.beq j id with
      | true => exact (hj (Nat.eq_of_beq_eq_true hb)).elim
      | false =>
        rw [hb] at hk
        exact ⟨.exit j, T, H, ν, rfl, hk, hS, hd⟩

def codeDef : Code → Bool
  | .region _ ops _ => noDef ops
  | .seq a b => codeDef a && codeDef b
  | .cond _ a b => codeDef a && codeDef b
  | .block _ c => codeDef c
  | .loop c => codeDef c
  | _ => true

end Go.Proofs.Ytkbdppnlojlcdaa
