/- The function that yields the sides of a polygon: its word. Conditions: the list holds points. -/
import Derived.Test.YtkbdppnlojlcdaaV20
import Derived.Test.YtkbdppnlojlcdaaV16
namespace Go.Proofs.Ytkbdppnlojlcdaa
open Go.RowKit
set_option maxRecDepth 100000

abbrev rowC (a : Nat → Nat → Int) : Nat → List Value := fun j => [i64 (a j 0), i64 (a j 1), i64 (a j 2), i64 (a j 3), i64 (a j 4), i64 (a j 5), i64 (a j 6), i64 (a j 7)]
/-- A side, as yield is handed it. -/
abbrev pairV (p q : Nat → Int) : Value := .agg #[i64 (p 0), i64 (p 1), i64 (p 2), i64 (p 3), i64 (p 4), i64 (p 5), i64 (p 6), i64 (p 7), i64 (q 0), i64 (q 1), i64 (q 2), i64 (q 3), i64 (q 4), i64 (q 5), i64 (q 6), i64 (q 7)]

def outK : Kont := fun e T H => .out e T H
abbrev yv (l : Nat) : Value := .func (.yield l) #[] #[]
abbrev slI (m c : Nat) : AV := .sl 1 8 0 0 m (some c)
abbrev hpI (a : Nat → Nat → Int) (m c : Nat) (tB tr : TypeId) : List AB := [.cells [slI m c] tB, .row false m 8 (rowC a) tr]
def stI (l m c i : Nat) : List AV := mkT 0 26 [(0, .v (yv l)), (1, .ptr 0 1 0 0), (5, slI m c), (6, .v (i64 m)), (7, .v (i64 i))]

noncomputable def regI0 : Code := match (Try.f101).body with | some (.seq r _) => r | _ => .skip
noncomputable def loopI : Code := loopAt 0 Try.f101
def sqA : Code → Code | .seq a _ => a | c => c
def sqB : Code → Code | .seq _ b => b | c => c
def blB : Code → Code | .block _ b => b | c => c
theorem bodyI : (Try.f101).body = some (.seq regI0 (.block 0 (.loop loopI))) := by kernel_rfl
noncomputable def regI1 : Code := sqA loopI
noncomputable def condI : Code := sqA (sqB loopI)
noncomputable def regI2 : Code := sqA (blB (sqA (sqB (sqB loopI))))
noncomputable def regI3 : Code := sqA (sqB (blB (sqA (sqB (sqB loopI)))))
noncomputable def regI4 : Code := sqB (sqB (sqB loopI))
noncomputable def opsI3 : Array Oper := match regI3 with | .region _ o _ => o | _ => #[]
theorem loopI_eq : loopI = .seq regI1 (.seq (.cond (.tmp 8) .skip (.exit 0)) (.seq (.block 1 (.seq regI2 (.seq (.region 3 opsI3 true) (.cond (.tmp 24) .ret .skip)))) regI4)) := by kernel_rfl

theorem runI0 (l m c : Nat) (a : Nat → Nat → Int) (tB tr : TypeId) : execC Try.prog g0 100 noLam regI0 ([.v (yv l), .ptr 0 1 0 0] ++ List.replicate 24 (.v undef)) (hpI a m c tB tr) (leafK (lv3 [0, 1, 5, 6, 7] [] []) 2)
    = .out .normal (stI l m c 0) (hpI a m c tB tr) := by kernel_rfl
theorem runI1 (l m c i : Nat) (a : Nat → Nat → Int) (tB tr : TypeId) : execC Try.prog g0 100 noLam regI1 (stI l m c i) (hpI a m c tB tr) outK
    = .out .normal ((stI l m c i).set 8 (.v (.bool (decide ((i : Int) < m))))) (hpI a m c tB tr) := by kernel_rfl
noncomputable def opsL : List Oper := opsI3.toList
/-- Region 2, and region 3 up to the call of yield. -/
noncomputable def runR (T : List AV) (H : List AB) : Res := execC Try.prog g0 100 noLam regI2 T H fun e T' H' => match e with
  | .normal => execOps Try.prog g0 opsL (opsL.take 11) T' H' [] fun T'' H'' tr => cond (drawOk opsL tr.reverse) (leafK (lv3 [0, 1, 5, 6, 7, 12, 22] [] []) 2 .normal T'' H'') .err
  | _ => .err
theorem runI2 (l m c i : Nat) (q : Bool) (a : Nat → Nat → Int) (tB tr : TypeId) : runR ((stI l m c i).set 8 (.v (.bool q))) (hpI a m c tB tr)
    = needs [decide ((i : Int) < m), decide (0 + i < m), !decide ((m : Int) = 0), decide (0 ≤ (W (i + 1)).tmod m), decide ((W (i + 1)).tmod m < m), decide (0 + ((W (i + 1)).tmod m).toNat < m)]
      (.out .normal (((stI l m c i).set 12 (.v (yv l))).set 22 (.v (pairV (a (0 + i)) (a (0 + ((W (i + 1)).tmod m).toNat))))) (hpI a m c tB tr)) := by kernel_rfl

theorem runI4 (l m c i : Nat) (b : Bool) (v : Value) (a : Nat → Nat → Int) (tB tr : TypeId) : execC Try.prog g0 100 noLam regI4 (((((stI l m c i).set 12 (.v (yv l))).set 22 (.v v)).set 23 (.v (.bool true))).set 24 (.v (.bool b))) (hpI a m c tB tr) (leafK (lv3 [0, 1, 5, 6, 7] [] []) 2)
    = .out .normal (mkT 0 26 [(0, .v (yv l)), (1, .ptr 0 1 0 0), (5, slI m c), (6, .v (i64 m)), (7, .v (i64 (W (i + 1))))]) (hpI a m c tB tr) := by kernel_rfl

theorem leaf_post {ds : List Deferred} {M : Nat → Prop} {w0 : World} {ν0 : Nu} {lv : Ex → List Nat} {m : Nat} {Q : Ex → List AV → List AB → Prop} {e : Exit} {a : Act} {w : World} (h : postD ds M w0 ν0 (leafK lv m) Q e a w) (hν : ∀ i b, ν0 i = some b → i < m) :
    ∃ e' T H ν, e = Ex.to e' ∧ Q e' T H ∧ SR M w0 ν0 T H a w ν ∧ a.defers = ds := by
  obtain ⟨e', T, H, ν, rfl, hk, hS, hd⟩ := h
  unfold leafK at hk
  split at hk
  · rename_i p hp
    exact ⟨e', p.1, p.2, _, rfl, hk, weak_sound hp hS hν, hd⟩
  · exact hk.elim

theorem yield_op {nn : Nat} {P : Program} {ops : Array Oper} {Q : Exit → Act → World → Prop} {i l : Nat} {o : Oper} {x y : Operand} {ts : Array TypeId} {K : Act → World → Prop} {R : Ending → World → Prop} {a : Act} {w : World} {v : Value} (ho : ops[i]? = some o) (hop : o.op = .call ⟨.value x, #[y], ts⟩) (hgu : o.guard = none)
    (hx : a.eval x = yv l) (hy : a.eval y = v) (h : YieldAt (wideR none) (nn - 1) P l #[v] w R) (hR : ∀ e w', R e w' → ∃ b, e = .returned b ∧ K (a.put o.dst b) w') : wpOpIn (wideR none) nn P ops Q i K a w := by
  unfold wpOpIn
  rw [ho]
  simp only
  rw [if_pos (by simp [Region.wanted, hgu])]
  refine ⟨fun _ _ => trivial, ?_⟩
  obtain ⟨fn, tmps, assign, body, e, hr⟩ := h
  have hs : (o.semAt (wideR none).round a.eval).run P w = .ok (.round l fn tmps assign body) w := by
    rw [show (wideR none).round = none from rfl, Oper.semAt_none]
    cases o with
    | mk dst op ty pos after guard =>
      simp only at hop
      subst hop
      simp [execOp, resolve, hx, hy, Deferred.ofValue, invoke, e]
  rw [hs, Oper.uponIn_round]
  refine ⟨fun h => (by cases h), hr.mono fun e w' he => ?_⟩
  obtain ⟨b, rfl, hk⟩ := hR e w' he
  exact hk

theorem not_op {nn : Nat} {P : Program} {ops : Array Oper} {Q : Exit → Act → World → Prop} {i : Nat} {t : TypeId} {o : Oper} {x : Operand} {K : Act → World → Prop} {a : Act} {w : World} {b : Bool} (ho : ops[i]? = some o) (hop : o.op = .unOp .not t x) (hgu : o.guard = none)
    (hx : a.eval x = .bool b) (hK : K (a.put o.dst (.bool (!b))) w) : wpOpIn (wideR none) nn P ops Q i K a w := by
  unfold wpOpIn
  rw [ho]
  simp only
  rw [if_pos (by simp [Region.wanted, hgu])]
  refine ⟨fun _ _ => trivial, ?_⟩
  have hs : (o.semAt (wideR none).round a.eval).run P w = .ok (.value (.bool (!b))) w := by
    rw [show (wideR none).round = none from rfl, Oper.semAt_none]
    cases o with
    | mk dst op ty pos after guard =>
      simp only at hop
      subst hop
      have he : execOp a.eval ⟨dst, .unOp .not t x, ty, pos, after, guard⟩ = (do pure (.value (← Op.unary .not (a.eval x)))) := rfl
      rw [he, hx]
      simp [Op.unary]
  rw [hs]
  exact hK

noncomputable def opY : Oper := opsL.getD 11 default
noncomputable def opN : Oper := opsL.getD 12 default
theorem opY_at : opsL.toArray[11]? = some opY := by kernel_rfl
theorem opN_at : opsL.toArray[12]? = some opN := by kernel_rfl
theorem opY_op : opY.op = .call ⟨.value (.tmp 12), #[.tmp 22], #[72]⟩ := by kernel_rfl
theorem opN_op : opN.op = .unOp .not 4 (.tmp 23) := by kernel_rfl
theorem opY_g : opY.guard = none := by kernel_rfl
theorem opN_g : opN.guard = none := by kernel_rfl
theorem opY_d : opY.dst = some 23 := by kernel_rfl
theorem opN_d : opN.dst = some 24 := by kernel_rfl
theorem rdy11 : Region.ready .any opsL.toArray (cutL 11 13) = [11] := by kernel_rfl
theorem rdy12 : Region.ready .any opsL.toArray ((cutL 11 13).setIfInBounds 11 true) = [12] := by kernel_rfl
theorem rdyN : Region.ready .any opsL.toArray (((cutL 11 13).setIfInBounds 11 true).setIfInBounds 12 true) = [] := by kernel_rfl
theorem len_ops : opsL.length = 13 := by kernel_rfl
theorem def_ops : noDef opsL.toArray = true := by kernel_rfl
theorem tail_ops : tailOk 11 opsL = true := by kernel_rfl

end Go.Proofs.Ytkbdppnlojlcdaa
