/- Ring designs have as many folds as cusps: FnRing returns true, and its arguments read as before. Conditions: errors.errorType, as the row lists it; tied by the card. -/
import Derived.Test.YtfpebhlkikmgbaaGreatDoorZD0
import Derived.Test.YtfpebhlkikmgbaaGreatDoorZD1
import Derived.Test.YtfpebhlkikmgbaaGreatDoorZD2
import Derived.Test.YtfpebhlkikmgbaaGreatDoorZD3
import Derived.Test.YtfpebhlkikmgbaaGreatDoorZD4
import Derived.Test.YtfpebhlkikmgbaaGreatDoorZD5
import Derived.RangeFuncNested
import Derived.RangeFuncBound
import Derived.RangeFuncCalls
import Derived.RangeFuncLeaves
import Derived.LoopNIn
import Derived.OrdersIn
import Derived.TacticsIn
import Derived.Test.YtfpebhlkikmgbaaGreatDoorRows
import Derived.WalkKit
import Derived.LaidEql
import Derived.Stop.Asserts
import Derived.RowKitTokens
import Derived.Laws.OwnMore
import Derived.Below
import Derived.Test.YtfpebhlkikmgbaaGreatDoorCards
import Derived.Test.YtfpebhlkikmgbaaGreatDoorTie
import Derived.ChangeSame
import Derived.ChangeVars
import Derived.JoinedOf
import Derived.LaidLaws
import Derived.LaidHandle
import Derived.Stop.Joined
import Derived.SevenTiedAt
/- The abstract machine, 17: the same, in a frame of a round of a loop over a function. No conditions. -/
namespace Go.Proofs.YtfpebhlkikmgbaaGreatDoor
open Go.RowKit

end Go.Proofs.YtfpebhlkikmgbaaGreatDoor

/- The abstract machine, 18: code, in a frame of a round of a loop over a function. Conditions: those of the table of callees. -/
namespace Go.Proofs.YtfpebhlkikmgbaaGreatDoor
open Go.RowKit

end Go.Proofs.YtfpebhlkikmgbaaGreatDoor

/- The abstract machine, 19: a loop over a function: the rounds, on the loop's own frame. Conditions: the word of the function that yields. -/
namespace Go.Proofs.YtfpebhlkikmgbaaGreatDoor
open Go.RowKit

def keepR (w : World) (M : Nat → Prop) (W W' : World) : Prop := W.heap.size ≤ W'.heap.size ∧ ∀ (k : Nat) (o : Obj), k < w.heap.size → ¬ M k → W.heap[k]? = some o → W'.heap[k]? = some o

theorem keepR.trans {w : World} {M : Nat → Prop} {A B C : World} (h : keepR w M A B) (k : keepR w M B C) : keepR w M A C := ⟨Nat.le_trans h.1 k.1, fun i o hi hm ho => k.2 i o hi hm (h.2 i o hi hm ho)⟩

theorem keepR.fr {w : World} {M M' : Nat → Prop} {W W' : World} (hs : w.heap.size ≤ W.heap.size) (hsub : ∀ k, k < w.heap.size → M' k → M k) (h : Fr M' W W') : keepR w M W W' :=
  ⟨h.size, fun k _ hk hm ho => (h.block k (by omega) fun hm' => hm (hsub k hk hm')).trans ho⟩

theorem keepR.put {w : World} {M : Nat → Prop} {W : World} {l : Nat} {o : Obj} (hl : w.heap.size ≤ l) : keepR w M W (W.putObj l o) :=
  ⟨by simp [World.putObj], fun k o' hk _ ho => (World.putObj_heap_other (by omega)).trans ho⟩

end Go.Proofs.YtfpebhlkikmgbaaGreatDoor

/- The abstract machine, 21: a function whose body holds a loop over a function. Conditions: the word of the function that yields. -/
namespace Go.Proofs.YtfpebhlkikmgbaaGreatDoor
open Go.RowKit

end Go.Proofs.YtfpebhlkikmgbaaGreatDoor

/- The abstract machine, 32: a function whose body holds a loop over a function, within a scope. Conditions: the word of the function that yields. -/
namespace Go.Proofs.YtfpebhlkikmgbaaGreatDoor
open Go.RowKit

end Go.Proofs.YtfpebhlkikmgbaaGreatDoor

/- The abstract machine, 35: a range over a function whose iterator writes cells of its own. Conditions: the word of the function that yields. -/
namespace Go.Proofs.YtfpebhlkikmgbaaGreatDoor
open Go.RowKit

structure Chg (B : Nat → Prop) (W W' : World) : Prop where
  fr : Fr B W W'
  cells : ∀ k, B k → (∃ l t fz, W.heap[k]? = some (.cells (List.toArray l) t fz)) → ∃ l t fz, W'.heap[k]? = some (.cells (List.toArray l) t fz)
end Go.Proofs.YtfpebhlkikmgbaaGreatDoor

/- The abstract machine, 36: one operation of a region, in a frame with rounds. Conditions: those of the table of callees. -/
namespace Go.Proofs.YtfpebhlkikmgbaaGreatDoor
open Go.RowKit

end Go.Proofs.YtfpebhlkikmgbaaGreatDoor

/- errors.As at a target **misfit: closed facts on internal/reflectlite; errors.as at a misfit and at a list of errors whose first is a misfit. Conditions: errors.errorType is laid. -/
namespace Go.Proofs.YtfpebhlkikmgbaaGreatDoor
open Go.RowKit Go.Extern.Stop Go.Stop Go.Extern
set_option maxRecDepth 100000

theorem Tryz.valueOfMM (t : Addr) (w : World) : (ReflectliteValue.unpack (.iface 69 (.pointer (some t)))).run Tryz.prog w
    = .ok (.agg #[.pointer (some ⟨1, 69, none⟩), .pointer (some ⟨w.heap.size, 0, none⟩), .int .u64 150]) (w.alloc (.cells #[.pointer (some t)] 69)) := by kernel_rfl
theorem Tryz.typeMM (a : Addr) (w : World) : (ReflectliteValue.methodAny (ReflectliteValue.valueError "reflectlite.Value.Type" 0) (fun t _ _ _ => ReflectliteType.toType t) #[.agg #[.pointer (some ⟨1, 69, none⟩), .pointer (some a), .int .u64 150]]).run Tryz.prog w
    = .ok (.iface 108 (.agg #[.pointer (some ⟨1, 69, none⟩)])) w := by kernel_rfl
theorem Tryz.mKind (h : Value) (w : World) : (Go.method 271 108 (.agg #[h]) "Kind").run Tryz.prog w = .ok (101, h) w := by kernel_rfl
theorem Tryz.kindMM (w : World) : ((ReflectliteType.abiMethod fun t => Functor.map (fun a : Nat => Value.int IntKind.u8 (a : Int)) (Rtype.kind t)) #[.pointer (some ⟨1, 69, none⟩)]).run Tryz.prog w = .ok (.int .u8 22) w := by kernel_rfl
theorem Tryz.kindM (w : World) : ((ReflectliteType.abiMethod fun t => Functor.map (fun a : Nat => Value.int IntKind.u8 (a : Int)) (Rtype.kind t)) #[.pointer (some ⟨1, 65, none⟩)]).run Tryz.prog w = .ok (.int .u8 22) w := by kernel_rfl
theorem rlmQ (z : Sem Value) (f : TypeId → Addr → Nat → Nat → Sem Value) (v : Value) :
    ReflectliteValue.method z f #[v] = (do match ← ReflectliteValue.parts v with | none => z | some (t, a, fl) => f t a fl (fl % 32)) := rfl
theorem Tryz.partsMM (a : Addr) (w : World) : (ReflectliteValue.parts (.agg #[.pointer (some ⟨1, 69, none⟩), .pointer (some a), .int .u64 150])).run Tryz.prog w = .ok (some (69, a, 150)) w := by kernel_rfl
theorem Tryz.isNilMM (a p : Addr) (W : World) (ha : W.cell? a = some (.pointer (some p))) :
    (ReflectliteValue.method (ReflectliteValue.valueError "reflectlite.Value.IsNil" 0) ReflectliteValue.isNil #[.agg #[.pointer (some ⟨1, 69, none⟩), .pointer (some a), .int .u64 150]]).run Tryz.prog W = .ok (.bool false) W := by
  rw [rlmQ]
  simp only [Sem.run_bind, Tryz.partsMM, Result.andThen]
  simp [ReflectliteValue.isNil, loadVar, isAgg, underlying, Tryz.underlying69, ha, Result.andThen]
theorem Tryz.mElem (h : Value) (w : World) : (Go.method 271 108 (.agg #[h]) "Elem").run Tryz.prog w = .ok (115, .agg #[h]) w := by kernel_rfl
theorem Tryz.mImpl (h : Value) (w : World) : (Go.method 271 108 (.agg #[h]) "Implements").run Tryz.prog w = .ok (116, .agg #[h]) w := by kernel_rfl
theorem Tryz.mAssign (h : Value) (w : World) : (Go.method 271 108 (.agg #[h]) "AssignableTo").run Tryz.prog w = .ok (113, .agg #[h]) w := by kernel_rfl
theorem Tryz.elemMM (w : World) : (ReflectliteType.method ReflectliteType.elem #[.agg #[.pointer (some ⟨1, 69, none⟩)]]).run Tryz.prog w = .ok (.iface 108 (.agg #[.pointer (some ⟨1, 65, none⟩)])) w := by kernel_rfl
theorem Tryz.implM (w : World) : (ReflectliteType.relation "Implements" ReflectliteType.implements_ #[.agg #[.pointer (some ⟨1, 65, none⟩)], .iface 108 (.agg #[.pointer (some ⟨1, 45, none⟩)])]).run Tryz.prog w = .ok (.bool true) w := by kernel_rfl
theorem Tryz.typeOfM (v : Value) (w : World) : (ReflectliteType.typeOf #[.iface 65 v]).run Tryz.prog w = .ok (.iface 108 (.agg #[.pointer (some ⟨1, 65, none⟩)])) w := by kernel_rfl
theorem Tryz.typeOfJ (v : Value) (w : World) : (ReflectliteType.typeOf #[.iface 85 v]).run Tryz.prog w = .ok (.iface 108 (.agg #[.pointer (some ⟨1, 85, none⟩)])) w := by kernel_rfl
theorem Tryz.assignM (w : World) : (ReflectliteType.relation "AssignableTo" ReflectliteType.assignableTo #[.agg #[.pointer (some ⟨1, 65, none⟩)], .iface 108 (.agg #[.pointer (some ⟨1, 65, none⟩)])]).run Tryz.prog w = .ok (.bool true) w := by kernel_rfl
theorem Tryz.assignJ (w : World) : (ReflectliteType.relation "AssignableTo" ReflectliteType.assignableTo #[.agg #[.pointer (some ⟨1, 85, none⟩)], .iface 108 (.agg #[.pointer (some ⟨1, 65, none⟩)])]).run Tryz.prog w = .ok (.bool false) w := by kernel_rfl
theorem Tryz.valueOfM (e : Addr) (w : World) : (ReflectliteValue.unpack (.iface 65 (.pointer (some e)))).run Tryz.prog w
    = .ok (.agg #[.pointer (some ⟨1, 65, none⟩), .pointer (some ⟨w.heap.size, 0, none⟩), .int .u64 150]) (w.alloc (.cells #[.pointer (some e)] 65)) := by kernel_rfl
theorem Tryz.elemOfMM (w : World) : (Rtype.elem? 69).run Tryz.prog w = .ok (some 65) w := by kernel_rfl
theorem Tryz.mkM (p : Addr) (w : World) : (ReflectliteValue.mk 65 p ReflectliteValue.flagAddr).run Tryz.prog w = .ok (.agg #[.pointer (some ⟨1, 65, none⟩), .pointer (some p), .int .u64 406]) w := by kernel_rfl
theorem Tryz.elemVMM (a p : Addr) (W : World) (ha : W.cell? a = some (.pointer (some p))) :
    (ReflectliteValue.method (ReflectliteValue.valueError "reflectlite.Value.Elem" 0) ReflectliteValue.elem #[.agg #[.pointer (some ⟨1, 69, none⟩), .pointer (some a), .int .u64 150]]).run Tryz.prog W
      = .ok (.agg #[.pointer (some ⟨1, 65, none⟩), .pointer (some p), .int .u64 406]) W := by
  rw [rlmQ]
  simp only [Sem.run_bind, Tryz.partsMM, Result.andThen]
  simp [ReflectliteValue.elem, loadVar, isAgg, underlying, Tryz.underlying69, ha, Result.andThen, Tryz.elemOfMM, Tryz.mkM]
theorem rlsQ (v x : Value) : ReflectliteValue.set #[v, x] = (do
    let (some (dst, a, fl), some (src, b, _)) := (← ReflectliteValue.parts v, ← ReflectliteValue.parts x)
      | unsupported (.noEntry "extern/(internal/reflectlite.Value).Set.zeroValue")
    if fl / ReflectliteValue.flagAddr % 2 == 0 then unsupported (.noEntry "extern/(internal/reflectlite.Value).Set.unaddressable")
    let val ← loadVar src b
    if ← Rtype.directlyAssignable dst src then storeVar dst a val
    else if ← Rtype.implements dst src then
      if (← Rtype.kind src) == 20 then
        match val with
        | .nilIface => unsupported (.noEntry "extern/reflectlite: a nil value of one interface type handed on as a value of another")
        | _ => storeVar dst a val
      else storeVar dst a (.iface src val)
    else panicString ("reflectlite.Set: value of type " ++ (← Rtype.spelt src) ++ " is not assignable to type " ++ (← Rtype.spelt dst))
    pure (.tuple #[])) := rfl
theorem Tryz.partsMa (a : Addr) (w : World) : (ReflectliteValue.parts (.agg #[.pointer (some ⟨1, 65, none⟩), .pointer (some a), .int .u64 406])).run Tryz.prog w = .ok (some (65, a, 406)) w := by kernel_rfl
theorem Tryz.partsM (a : Addr) (w : World) : (ReflectliteValue.parts (.agg #[.pointer (some ⟨1, 65, none⟩), .pointer (some a), .int .u64 150])).run Tryz.prog w = .ok (some (65, a, 150)) w := by kernel_rfl
theorem Tryz.directM (w : World) : (Rtype.directlyAssignable 65 65).run Tryz.prog w = .ok true w := by kernel_rfl
theorem Tryz.setM (ta b e : Addr) (old : Value) (W : World) (hb : W.cell? b = some (.pointer (some e))) (ht : W.cell? ta = some old) (hf : W.frozen? ta = false) :
    (ReflectliteValue.set #[.agg #[.pointer (some ⟨1, 65, none⟩), .pointer (some ta), .int .u64 406], .agg #[.pointer (some ⟨1, 65, none⟩), .pointer (some b), .int .u64 150]]).run Tryz.prog W
      = .ok (.tuple #[]) (W.setCell ta (.pointer (some e))) := by
  rw [rlsQ]
  simp only [Sem.run_bind, Tryz.partsMa, Tryz.partsM, Result.andThen]
  simp [ReflectliteValue.flagAddr, loadVar, isAgg, underlying, Tryz.underlying65, hb, Result.andThen, Tryz.directM, storeVar, Value.cells, storeCells, Addr.add]
  rw [run_store Tryz.prog W ta _ _ (by rfl)]
  simp [ht, hf]
theorem Tryz.noAs (v : Value) (xT : TypeId) (w : World) : (Instr.typeAssert (.iface 85 v) xT 113 true).run Tryz.prog w = .ok (.tuple #[.nilIface, .bool false]) w := run_typeAssert_lacksB Tryz.underlying113 (by kernel_rfl) (by kernel_rfl) v xT w
theorem Tryz.noUnwrap (v : Value) (xT : TypeId) (w : World) : (Instr.typeAssert (.iface 85 v) xT 116 true).run Tryz.prog w = .ok (.tuple #[.nilIface, .bool false]) w := run_typeAssert_lacksB Tryz.underlying116 (by kernel_rfl) (by kernel_rfl) v xT w
theorem Tryz.hasUnwrap (v : Value) (xT : TypeId) (w : World) : (Instr.typeAssert (.iface 85 v) xT 118 true).run Tryz.prog w = .ok (.tuple #[.iface 85 v, .bool true]) w := run_typeAssert_hasB Tryz.underlying118 (by kernel_rfl) v xT w
theorem Tryz.mUnwrap (h : Value) (w : World) : (Go.method 271 85 h "Unwrap").run Tryz.prog w = .ok (108, h) w := by kernel_rfl

end Go.Proofs.YtfpebhlkikmgbaaGreatDoor

/- errors.as and errors.As at the target of 'fits': nil, a misfit, a list of errors whose first is a misfit. Conditions: errors.errorType is laid. -/
namespace Go.Proofs.YtfpebhlkikmgbaaGreatDoor
open Go.RowKit Go.Extern.Stop Go.Stop Go.Extern
set_option maxRecDepth 100000

abbrev vTg (tmp : Addr) : Value := .agg #[.pointer (some ⟨1, 69, none⟩), .pointer (some tmp), .int .u64 150]
abbrev cTg (tmp : Addr) : Obj := .cells #[.pointer (some ⟨1, 69, none⟩), .pointer (some tmp), .int .u64 150] 91
abbrev hM : Value := .iface 108 (.agg #[.pointer (some ⟨1, 65, none⟩)])
theorem as_nil (t : Value) (w : World) : Calls Tryz.prog 33 #[.nilIface, t] w fun e w' => e = .returned (.bool false) ∧ w' = w := by
  go_enter Tryz.func33, Tryz.ntmps33
  go_wp2
  go_ret
  exact ⟨rfl, rfl⟩
theorem below_cell {w : World} {a : Addr} {v : Value} (h : w.cell? a = some v) : a.block < w.heap.size := by
  rcases Nat.lt_or_ge a.block w.heap.size with h' | h'
  · exact h'
  · simp [World.cell?, Array.getElem?_eq_none h'] at h
set_option maxHeartbeats 4000000 in
theorem asIn_hit (e t tmp : Addr) (old : Value) (w : World) (hv : w.cell? tmp = some (.pointer (some t))) (ht0 : w.cell? t = some old) (hf0 : w.frozen? t = false) :
    Calls Tryz.prog 56 #[.iface 65 (.pointer (some e)), .iface 69 (.pointer (some t)), vTg tmp, hM] w fun ev w' => ev = .returned (.bool true) ∧ w' = ((w.alloc (cTg tmp)).alloc (.cells #[.pointer (some e)] 65)).setCell t (.pointer (some e)) := by
  have h6 := @run_callFunc_extern Tryz.prog 53 _ (fun args => ReflectliteValue.unpack (args.getD 0 (.tuple #[]))) Tryz.func53 (by kernel_rfl) (by kernel_rfl) (by kernel_rfl) (by kernel_rfl)
  have h10 := @run_callFunc_extern Tryz.prog 67 _ ReflectliteType.typeOf Tryz.func67 (by kernel_rfl) (by kernel_rfl) (by kernel_rfl) (by kernel_rfl)
  have h35 := @run_callFunc_extern Tryz.prog 113 _ (ReflectliteType.relation "AssignableTo" ReflectliteType.assignableTo) Tryz.func113 (by kernel_rfl) (by kernel_rfl) (by kernel_rfl) (by kernel_rfl)
  have h11 := @run_callFunc_extern Tryz.prog 68 _ (ReflectliteValue.method (ReflectliteValue.valueError "reflectlite.Value.Elem" 0) ReflectliteValue.elem) Tryz.func68 (by kernel_rfl) (by kernel_rfl) (by kernel_rfl) (by kernel_rfl)
  have h12 := @run_callFunc_extern Tryz.prog 69 _ ReflectliteValue.set Tryz.func69 (by kernel_rfl) (by kernel_rfl) (by kernel_rfl) (by kernel_rfl)
  have tO := Tryz.typeOfM
  have mA := Tryz.mAssign
  have aM := Tryz.assignM
  have vM := Tryz.valueOfM
  have hlv := below_cell hv
  have hlt := below_cell ht0
  have el := Tryz.elemVMM tmp t (w.alloc (cTg tmp)) (by rw [World.cell?_alloc_lt _ _ tmp hlv]; exact hv)
  have st := Tryz.setM t ⟨w.heap.size + 1, 0, none⟩ e old ((w.alloc (cTg tmp)).alloc (.cells #[.pointer (some e)] 65))
    (by rw [World.cell?_alloc_at _ _ _ _ (by simp)]; rfl)
    (by rw [World.cell?_alloc_lt _ _ t (by simp; omega), World.cell?_alloc_lt _ _ t hlt]; exact ht0)
    (by rw [World.frozen?_alloc_old _ _ t (by simp; omega), World.frozen?_alloc_old _ _ t (Nat.ne_of_lt hlt)]; exact hf0)
  go_enter Tryz.func56, Tryz.ntmps56
  go_wp2
  refine wp_loop_rounds 1 ?_
  rw [rounds_succ]
  go_wp2
  go_ret
  exact ⟨rfl, rfl⟩

end Go.Proofs.YtfpebhlkikmgbaaGreatDoor

/- errors.as at a list of errors whose first is a misfit; errors.As at both; fits. Conditions: errors.errorType is laid. -/
namespace Go.Proofs.YtfpebhlkikmgbaaGreatDoor
open Go.RowKit Go.Extern.Stop Go.Stop Go.Extern
set_option maxRecDepth 100000

abbrev wIn (w : World) (t tmp e : Addr) : World := ((w.alloc (cTg tmp)).alloc (.cells #[.pointer (some e)] 65)).setCell t (.pointer (some e))
set_option maxHeartbeats 8000000 in
theorem asIn_join (j b e t tmp : Addr) (n c : Nat) (old : Value) (w : World) (hn : 0 < n) (hj : w.cell? j = some (.slice (some b) n c)) (hb : w.cell? b = some (.iface 65 (.pointer (some e)))) (hv : w.cell? tmp = some (.pointer (some t))) (ht0 : w.cell? t = some old) (hf0 : w.frozen? t = false) :
    Calls Tryz.prog 56 #[.iface 85 (.pointer (some j)), .iface 69 (.pointer (some t)), vTg tmp, hM] w fun ev w' => ev = .returned (.bool true) ∧ w' = wIn (w.alloc (cTg tmp)) t tmp e := by
  have h6 := @run_callFunc_extern Tryz.prog 53 _ (fun args => ReflectliteValue.unpack (args.getD 0 (.tuple #[]))) Tryz.func53 (by kernel_rfl) (by kernel_rfl) (by kernel_rfl) (by kernel_rfl)
  have h10 := @run_callFunc_extern Tryz.prog 67 _ ReflectliteType.typeOf Tryz.func67 (by kernel_rfl) (by kernel_rfl) (by kernel_rfl) (by kernel_rfl)
  have h35 := @run_callFunc_extern Tryz.prog 113 _ (ReflectliteType.relation "AssignableTo" ReflectliteType.assignableTo) Tryz.func113 (by kernel_rfl) (by kernel_rfl) (by kernel_rfl) (by kernel_rfl)
  have tO := Tryz.typeOfJ
  have mA := Tryz.mAssign
  have aM := Tryz.assignJ
  have n1 := Tryz.noAs
  have n2 := Tryz.noUnwrap
  have n3 := Tryz.hasUnwrap
  have mU := Tryz.mUnwrap
  have hlj := below_cell hj
  have hlb := below_cell hb
  have hlv := below_cell hv
  have hlt := below_cell ht0
  have hj' : (w.alloc (cTg tmp)).cell? j = some (.slice (some b) n c) := by rw [World.cell?_alloc_lt _ _ j hlj]; exact hj
  have hb' : (w.alloc (cTg tmp)).cell? b = some (.iface 65 (.pointer (some e))) := by rw [World.cell?_alloc_lt _ _ b hlb]; exact hb
  have hv' : (w.alloc (cTg tmp)).cell? tmp = some (.pointer (some t)) := by rw [World.cell?_alloc_lt _ _ tmp hlv]; exact hv
  have ht' : (w.alloc (cTg tmp)).cell? t = some old := by rw [World.cell?_alloc_lt _ _ t hlt]; exact ht0
  have hf' : (w.alloc (cTg tmp)).frozen? t = false := by rw [World.frozen?_alloc_old _ _ t (Nat.ne_of_lt hlt)]; exact hf0
  go_enter Tryz.func56, Tryz.ntmps56
  go_wp2
  refine wp_loop_rounds 1 ?_
  rw [rounds_succ]
  go_wp2
  refine wp_loop_rounds 1 ?_
  rw [rounds_succ]
  go_wp2_with (go_at_call 56; refine (asIn_hit e t tmp old _ hv' ht' hf').mono ?_; rintro ev w' ⟨rfl, rfl⟩)
  go_ret
  exact ⟨rfl, rfl⟩

end Go.Proofs.YtfpebhlkikmgbaaGreatDoor

/- errors.As at a misfit and at a list of errors whose first is a misfit; fits. Conditions: errors.errorType is laid. -/
namespace Go.Proofs.YtfpebhlkikmgbaaGreatDoor
open Go.RowKit Go.Extern.Stop Go.Stop Go.Extern
set_option maxRecDepth 100000

abbrev eT : Value := .iface 108 (.agg #[.pointer (some ⟨1, 45, none⟩)])
abbrev wAs (w : World) (t : Addr) : World := (w.alloc (.cells #[.pointer (some t)] 69)).alloc (cTg ⟨w.heap.size, 0, none⟩)
set_option maxHeartbeats 8000000 in
theorem As_walk {Q : World → Prop} (tx : TypeId) (x : Value) (t : Addr) (w : World) (hg : w.cell? ⟨0, 0, none⟩ = some eT)
    (has : Calls Tryz.prog 56 #[.iface tx x, .iface 69 (.pointer (some t)), vTg ⟨w.heap.size, 0, none⟩, hM] (wAs w t) fun ev w' => ev = .returned (.bool true) ∧ Q w') :
    Calls Tryz.prog 33 #[.iface tx x, .iface 69 (.pointer (some t))] w fun ev w' => ev = .returned (.bool true) ∧ Q w' := by
  have h6 := @run_callFunc_extern Tryz.prog 53 _ (fun args => ReflectliteValue.unpack (args.getD 0 (.tuple #[]))) Tryz.func53 (by kernel_rfl) (by kernel_rfl) (by kernel_rfl) (by kernel_rfl)
  have h7 := @run_callFunc_extern Tryz.prog 54 _ (ReflectliteValue.methodAny (ReflectliteValue.valueError "reflectlite.Value.Type" 0) (fun t _ _ _ => ReflectliteType.toType t)) Tryz.func54 (by kernel_rfl) (by kernel_rfl) (by kernel_rfl) (by kernel_rfl)
  have h8 := @run_callFunc_extern Tryz.prog 55 _ (ReflectliteValue.method (ReflectliteValue.valueError "reflectlite.Value.IsNil" 0) ReflectliteValue.isNil) Tryz.func55 (by kernel_rfl) (by kernel_rfl) (by kernel_rfl) (by kernel_rfl)
  have h27 := @run_callFunc_extern Tryz.prog 101 _ (ReflectliteType.abiMethod fun t => do pure (.int .u8 (← Rtype.kind t))) Tryz.func101 (by kernel_rfl) (by kernel_rfl) (by kernel_rfl) (by kernel_rfl)
  have h37 := @run_callFunc_extern Tryz.prog 115 _ (ReflectliteType.method ReflectliteType.elem) Tryz.func115 (by kernel_rfl) (by kernel_rfl) (by kernel_rfl) (by kernel_rfl)
  have h38 := @run_callFunc_extern Tryz.prog 116 _ (ReflectliteType.relation "Implements" ReflectliteType.implements_) Tryz.func116 (by kernel_rfl) (by kernel_rfl) (by kernel_rfl) (by kernel_rfl)
  have f6 := Tryz.valueOfMM
  have f7 := Tryz.typeMM
  have mK := Tryz.mKind
  have mE := Tryz.mElem
  have mI := Tryz.mImpl
  have k27 := Tryz.kindMM
  have k25 := Tryz.kindM
  have e27 := Tryz.elemMM
  have i25 := Tryz.implM
  have hlt := below_cell hg
  have n8 := Tryz.isNilMM ⟨w.heap.size, 0, none⟩ t (wAs w t) (by rw [World.cell?_alloc_lt _ _ ⟨w.heap.size, 0, none⟩ (by simp)]; simp)
  have hg2 : (wAs w t).cell? ⟨0, 0, none⟩ = some eT := by
    rw [World.cell?_alloc_lt _ _ ⟨0, 0, none⟩ (by simp), World.cell?_alloc_lt _ _ ⟨0, 0, none⟩ hlt]; exact hg
  go_enter Tryz.func33, Tryz.ntmps33
  go_wp2_with (go_at_call 56; refine has.mono ?_; rintro ev w' ⟨rfl, hq⟩)
  go_ret
  exact ⟨rfl, hq⟩
def isMis (v : Value) (w : World) : Prop := (∃ e, v = .iface 65 (.pointer (some e))) ∨ ∃ j b e n c, v = .iface 85 (.pointer (some j)) ∧ 0 < n ∧ w.cell? j = some (.slice (some b) n c) ∧ w.cell? b = some (.iface 65 (.pointer (some e)))
theorem wIn_below {B : Nat} {w w0 : World} (h : Below B w0 w) (hB : B ≤ w.heap.size) {t tmp e : Addr} (ht : B ≤ t.block) : Below B w0 (wIn w t tmp e) :=
  ((h.alloc hB _).alloc (by simp; omega) _).setCell ht _
theorem wAs_below {B : Nat} {w w0 : World} (h : Below B w0 w) (hB : B ≤ w.heap.size) {t : Addr} : Below B w0 (wAs w t) :=
  (h.alloc hB _).alloc (by simp; omega) _
set_option maxHeartbeats 8000000 in
theorem As_mis (v : Value) (t : Addr) (old : Value) (w : World) (hg : w.cell? ⟨0, 0, none⟩ = some eT) (hv : isMis v w) (ht0 : w.cell? t = some old) (hf0 : w.frozen? t = false) (B : Nat) (hB : B ≤ t.block) :
    Calls Tryz.prog 33 #[v, .iface 69 (.pointer (some t))] w fun ev w' => ev = .returned (.bool true) ∧ Below B w w' := by
  have hlt := below_cell ht0
  have tmp : (wAs w t).cell? ⟨w.heap.size, 0, none⟩ = some (.pointer (some t)) := by rw [World.cell?_alloc_lt _ _ ⟨w.heap.size, 0, none⟩ (by simp)]; simp
  have keep : ∀ {a : Addr} {x : Value}, w.cell? a = some x → (wAs w t).cell? a = some x := fun h => by
    rw [World.cell?_alloc_lt _ _ _ (by have := below_cell h; simp; omega), World.cell?_alloc_lt _ _ _ (below_cell h)]; exact h
  have hf : (wAs w t).frozen? t = false := by
    rw [World.frozen?_alloc_old _ _ t (by simp; omega), World.frozen?_alloc_old _ _ t (Nat.ne_of_lt hlt)]; exact hf0
  have hb := wAs_below (t := t) (Below.refl B w) (by omega)
  rcases hv with ⟨e, rfl⟩ | ⟨j, b, e, n, c, rfl, hn, hj, he⟩
  · refine As_walk _ _ t w hg ((asIn_hit e t _ old _ tmp (keep ht0) hf).mono ?_)
    rintro ev w' ⟨rfl, rfl⟩
    exact ⟨rfl, wIn_below hb (by simp; omega) hB⟩
  · refine As_walk _ _ t w hg ((asIn_join j b e t _ n c old _ hn (keep hj) (keep he) tmp (keep ht0) hf).mono ?_)
    rintro ev w' ⟨rfl, rfl⟩
    exact ⟨rfl, wIn_below (hb.alloc (by simp; omega) _) (by simp; omega) hB⟩
theorem isMis.keep {v : Value} {w w' : World} (h : isMis v w) (hk : ∀ a x, w.cell? a = some x → w'.cell? a = some x) : isMis v w' := by
  rcases h with h | ⟨j, b, e, n, c, h1, h2, h3, h4⟩
  · exact .inl h
  · exact .inr ⟨j, b, e, n, c, h1, h2, hk _ _ h3, hk _ _ h4⟩
set_option maxHeartbeats 8000000 in
theorem fits_mis (v : Value) (w : World) (hg : w.cell? ⟨0, 0, none⟩ = some eT) (hv : isMis v w) :
    Calls Tryz.prog 16 #[v] w fun ev w' => ev = .returned (.bool false) ∧ Below w.heap.size w w' := by
  have hlt := below_cell hg
  have keep : ∀ (a : Addr) (x : Value), w.cell? a = some x → (w.alloc (.cells #[.pointer none] 65)).cell? a = some x := fun a x h => by
    rw [World.cell?_alloc_lt _ _ _ (below_cell h)]; exact h
  have hAs := As_mis v ⟨w.heap.size, 0, none⟩ (.pointer none) (w.alloc (.cells #[.pointer none] 65)) (keep _ _ hg) (hv.keep keep) (by simp) (by simp) w.heap.size (Nat.le_refl _)
  clear hv keep hg
  go_enter Tryz.func16, Tryz.ntmps16
  go_wp2_with (go_at_call 33; refine hAs.mono ?_; rintro ev w' ⟨rfl, hq⟩)
  go_ret
  exact ⟨rfl, ((Below.refl _ w).alloc (Nat.le_refl _) _).trans hq⟩
set_option maxHeartbeats 8000000 in
theorem fits_nil (w : World) : Calls Tryz.prog 16 #[.nilIface] w fun ev w' => ev = .returned (.bool true) ∧ Below w.heap.size w w' := by
  have hAs := fun (t : Value) (w : World) => as_nil t w
  go_enter Tryz.func16, Tryz.ntmps16
  go_wp2_with (go_at_call 33; refine (hAs _ _).mono ?_; rintro ev w' ⟨rfl, rfl⟩)
  go_ret
  exact ⟨rfl, (Below.refl _ w).alloc (Nat.le_refl _) _⟩

end Go.Proofs.YtfpebhlkikmgbaaGreatDoor

/- gear, errors.Join at two errors, meshes. No conditions. -/
namespace Go.Proofs.YtfpebhlkikmgbaaGreatDoor
open Go.RowKit Go.Extern.Stop Go.Stop Go.Extern
set_option maxRecDepth 100000

theorem w_yes {n : Int} (l h : Int) (w : World) (hn : inR n l h = true) : Calls Tryz.prog 17 #[.int .i64 n, .int .i64 l, .int .i64 h] w fun e w' => e = .returned (.bool true) ∧ w' = w := by
  have h2 := inR_iff.1 hn
  have h3 : n ≥ l := h2.1
  have h4 : n ≤ h := h2.2
  go_enter Tryz.func17, Tryz.ntmps17
  go_wp2
  go_ret
  exact ⟨rfl, rfl⟩
theorem w_no {n : Int} (l h : Int) (w : World) (hn : inR n l h = false) : Calls Tryz.prog 17 #[.int .i64 n, .int .i64 l, .int .i64 h] w fun e w' => e = .returned (.bool false) ∧ w' = w := by
  have h2 : ¬ (l ≤ n ∧ n ≤ h) := fun h => by rw [inR_iff.2 h] at hn; cases hn
  clear hn
  by_cases c : l ≤ n
  · have c2 : ¬ n ≤ h := fun c2 => h2 ⟨c, c2⟩
    have c1 : n ≥ l := c
    clear h2 c
    go_enter Tryz.func17, Tryz.ntmps17
    go_wp2
    go_ret
    exact ⟨rfl, rfl⟩
  · have c1 : ¬ n ≥ l := c
    clear h2 c
    go_enter Tryz.func17, Tryz.ntmps17
    go_wp2
    go_ret
    exact ⟨rfl, rfl⟩
theorem gear_yes {n : Int} (w : World) (hn : inR n 6 240 = true) : Calls Tryz.prog 32 #[.int .i64 n] w fun e w' => e = .returned .nilIface ∧ w' = w := by
  have hw := fun w => w_yes 6 240 w hn
  go_enter Tryz.func32, Tryz.ntmps32
  go_wp2_with (go_at_call 17; refine (hw _).mono ?_; rintro ev w' ⟨rfl, rfl⟩)
  go_ret
  exact ⟨rfl, rfl⟩
theorem gear_no {n : Int} (w : World) (hn : inR n 6 240 = false) : Calls Tryz.prog 32 #[.int .i64 n] w fun e w' => e = .returned (.iface 65 (.pointer (some ⟨w.heap.size, 0, none⟩))) ∧ w' = w.alloc (.cells #[.int .i64 n] 67) := by
  have hw := fun w => w_no 6 240 w hn
  go_enter Tryz.func32, Tryz.ntmps32
  go_wp2_with (go_at_call 17; refine (hw _).mono ?_; rintro ev w' ⟨rfl, rfl⟩)
  go_ret
  exact ⟨rfl, rfl⟩
abbrev mf (p : Addr) : Value := .iface 65 (.pointer (some p))
set_option maxHeartbeats 8000000 in
theorem Join_nn (s : Nat) (w : World) (h0 : w.cell? ⟨s, 0, none⟩ = some .nilIface) (h1 : w.cell? ⟨s, 1, none⟩ = some .nilIface) :
    Calls Tryz.prog 31 #[.slice (some ⟨s, 0, none⟩) 2 2] w fun e w' => e = .returned .nilIface ∧ w' = w := by
  have tE := Tryz.underlying45
  go_enter Tryz.func31, Tryz.ntmps31
  go_wp2
  refine wp_loop_rounds 3 ?_
  iterate 3
    rw [rounds_succ]
    go_wp2
  go_ret
  exact ⟨rfl, rfl⟩

end Go.Proofs.YtfpebhlkikmgbaaGreatDoor

/- errors.Join at two errors of which one is a misfit. No conditions. -/
namespace Go.Proofs.YtfpebhlkikmgbaaGreatDoor
open Go.RowKit Go.Extern.Stop Go.Stop Go.Extern
set_option maxRecDepth 100000

theorem mS1 (w : World) : (Instr.makeSlice 84 (.int .i64 0) (.int .i64 1)).run Tryz.prog w = .ok (.slice (some ⟨w.heap.size, 0, none⟩) 0 1) (w.alloc (.cells #[.nilIface] 45)) := by kernel_rfl
theorem mS2 (w : World) : (Instr.makeSlice 84 (.int .i64 0) (.int .i64 2)).run Tryz.prog w = .ok (.slice (some ⟨w.heap.size, 0, none⟩) 0 2) (w.alloc (.cells #[.nilIface, .nilIface] 45)) := by kernel_rfl
theorem app_at (w : World) (g n c : Nat) (s : Addr) (x : Value) (cur : Array Value) (hg : w.heap[g]? = some (.cells cur 45 (0, 0))) (hx : w.cell? s = some x) (h1 : x.oneCell' = true) (hr : n + 1 ≤ c) (hc : n + 1 ≤ cur.size) :
    (Builtin.append_ #[84, 84] 84 #[.slice (some ⟨g, 0, none⟩) n c, .slice (some s) 1 1]).run Tryz.prog w = .ok (.slice (some ⟨g, 0, none⟩) (n + 1) c) (w.setRow g (cur.toList.take n ++ [x] ++ cur.toList.drop (n + 1)).toArray) := by
  have hi : (Tryz.prog.info? 45).map (·.size) = some 1 := by kernel_rfl
  obtain ⟨i, hi, hs⟩ := Option.map_eq_some_iff.1 hi
  have := run_append_room (P := Tryz.prog) w 84 84 45 i Tryz.underlying84 hi g n c cur hg s 1 1 [x] (by rw [hs]; rfl) (fun j u h => by
    match j, h with
    | 0, h =>
      simp only [List.getElem?_cons_zero, Option.some.injEq] at h
      subst h
      simpa [Addr.add] using hx
    | j + 1, h => simp at h) (by simpa using h1) hr (by rw [hs]; simpa using hc)
  rw [this, hs, Nat.mul_one]
  rfl
abbrev wJ1 (w : World) (x : Value) : World := ((w.alloc (.cells #[.nilIface] 45)).alloc (.cells #[.slice (some ⟨w.heap.size, 0, none⟩) 0 1] 87)).alloc (.cells #[x] 45)
abbrev wK1 (w : World) (x : Value) : World := ((w.alloc (.cells #[x] 45)).alloc (.cells #[.slice (some ⟨w.heap.size, 0, none⟩) 1 1] 87)).alloc (.cells #[x] 45)
theorem wJ1_row (w : World) (x : Value) : (wJ1 w x).heap[w.heap.size]? = some (.cells #[.nilIface] 45 (0, 0)) := by
  rw [Below.heap_alloc _ _ _ (by simp; omega), Below.heap_alloc _ _ _ (by simp)]
  exact heap_alloc_new w _
theorem app1 (w : World) (p : Addr) : (Builtin.append_ #[84, 84] 84 #[.slice (some ⟨w.heap.size, 0, none⟩) 0 1, .slice (some ⟨w.heap.size + 1 + 1, 0, none⟩) 1 1]).run Tryz.prog (wJ1 w (mf p)) = .ok (.slice (some ⟨w.heap.size, 0, none⟩) 1 1) ((wJ1 w (mf p)).setRow w.heap.size #[mf p]) := by
  refine app_at _ _ 0 1 _ (mf p) #[.nilIface] (wJ1_row w _) ?_ rfl (by omega) (by simp)
  rw [World.cell?_alloc_at _ _ _ _ (by simp)]
  rfl
theorem wK1_below (w : World) (x : Value) : Below w.heap.size w (wK1 w x) := (((Below.refl _ w).alloc (Nat.le_refl _) _).alloc (by simp) _).alloc (by simp; omega) _
set_option maxHeartbeats 8000000 in
theorem Join_mn (s : Nat) (p : Addr) (w : World) (h0 : w.cell? ⟨s, 0, none⟩ = some (mf p)) (h1 : w.cell? ⟨s, 1, none⟩ = some .nilIface) :
    Calls Tryz.prog 31 #[.slice (some ⟨s, 0, none⟩) 2 2] w fun e w' => e = .returned (.iface 85 (.pointer (some ⟨w.heap.size + 1, 0, none⟩))) ∧ w' = wK1 w (mf p) := by
  have tE := Tryz.underlying45
  have m1 := mS1
  have a1 := app1 w p
  have hlt : s < w.heap.size := below_cell h0
  have b0 : ((w.alloc (.cells #[.nilIface] 45)).alloc (.cells #[.slice (some ⟨w.heap.size, 0, none⟩) 0 1] 87)).cell? ⟨s, 0, none⟩ = some (mf p) := by
    rw [World.cell?_alloc_lt _ _ _ (by simp; omega), World.cell?_alloc_lt _ _ _ hlt]; exact h0
  have b1 : (wK1 w (mf p)).cell? ⟨s, 1, none⟩ = some .nilIface := ((wK1_below w _).cell (p := ⟨s, 1, none⟩) hlt).trans h1
  go_enter Tryz.func31, Tryz.ntmps31
  go_wp2
  refine wp_loop_rounds 3 ?_
  iterate 3
    rw [rounds_succ]
    go_wp2
  refine wp_loop_rounds 3 ?_
  iterate 3
    rw [rounds_succ]
    go_wp2
  go_ret
  exact ⟨rfl, rfl⟩

end Go.Proofs.YtfpebhlkikmgbaaGreatDoor

/- errors.Join: the other two cases; meshes where teeth do not fit. No conditions. -/
namespace Go.Proofs.YtfpebhlkikmgbaaGreatDoor
open Go.RowKit Go.Extern.Stop Go.Stop Go.Extern
set_option maxRecDepth 100000

set_option maxHeartbeats 8000000 in
theorem Join_nm (s : Nat) (p : Addr) (w : World) (h0 : w.cell? ⟨s, 0, none⟩ = some .nilIface) (h1 : w.cell? ⟨s, 1, none⟩ = some (mf p)) :
    Calls Tryz.prog 31 #[.slice (some ⟨s, 0, none⟩) 2 2] w fun e w' => e = .returned (.iface 85 (.pointer (some ⟨w.heap.size + 1, 0, none⟩))) ∧ w' = wK1 w (mf p) := by
  have tE := Tryz.underlying45
  have m1 := mS1
  have a1 := app1 w p
  have hlt : s < w.heap.size := below_cell h0
  have b0 : ((w.alloc (.cells #[.nilIface] 45)).alloc (.cells #[.slice (some ⟨w.heap.size, 0, none⟩) 0 1] 87)).cell? ⟨s, 0, none⟩ = some .nilIface := by
    rw [World.cell?_alloc_lt _ _ _ (by simp; omega), World.cell?_alloc_lt _ _ _ hlt]; exact h0
  have b1 : ((w.alloc (.cells #[.nilIface] 45)).alloc (.cells #[.slice (some ⟨w.heap.size, 0, none⟩) 0 1] 87)).cell? ⟨s, 1, none⟩ = some (mf p) := by
    rw [World.cell?_alloc_lt _ _ _ (by simp; omega), World.cell?_alloc_lt _ _ _ hlt]; exact h1
  go_enter Tryz.func31, Tryz.ntmps31
  go_wp2
  refine wp_loop_rounds 3 ?_
  iterate 3
    rw [rounds_succ]
    go_wp2
  refine wp_loop_rounds 3 ?_
  iterate 3
    rw [rounds_succ]
    go_wp2
  go_ret
  exact ⟨rfl, rfl⟩
abbrev wJ2 (w : World) (x : Value) : World := ((w.alloc (.cells #[.nilIface, .nilIface] 45)).alloc (.cells #[.slice (some ⟨w.heap.size, 0, none⟩) 0 2] 87)).alloc (.cells #[x] 45)
abbrev wJ3 (w : World) (x : Value) : World := ((w.alloc (.cells #[x, .nilIface] 45)).alloc (.cells #[.slice (some ⟨w.heap.size, 0, none⟩) 1 2] 87)).alloc (.cells #[x] 45)
abbrev wK2 (w : World) (x y : Value) : World := (((w.alloc (.cells #[x, y] 45)).alloc (.cells #[.slice (some ⟨w.heap.size, 0, none⟩) 2 2] 87)).alloc (.cells #[x] 45)).alloc (.cells #[y] 45)
theorem app2 (w : World) (p : Addr) : (Builtin.append_ #[84, 84] 84 #[.slice (some ⟨w.heap.size, 0, none⟩) 0 2, .slice (some ⟨w.heap.size + 1 + 1, 0, none⟩) 1 1]).run Tryz.prog (wJ2 w (mf p)) = .ok (.slice (some ⟨w.heap.size, 0, none⟩) 1 2) ((wJ2 w (mf p)).setRow w.heap.size #[mf p, .nilIface]) := by
  refine app_at _ _ 0 2 _ (mf p) #[.nilIface, .nilIface] ?_ ?_ rfl (by omega) (by simp)
  · rw [Below.heap_alloc _ _ _ (by simp; omega), Below.heap_alloc _ _ _ (by simp)]
    exact heap_alloc_new w _
  · rw [World.cell?_alloc_at _ _ _ _ (by simp)]
    rfl
theorem app3 (w : World) (p q : Addr) : (Builtin.append_ #[84, 84] 84 #[.slice (some ⟨w.heap.size, 0, none⟩) 1 2, .slice (some ⟨w.heap.size + 1 + 1 + 1, 0, none⟩) 1 1]).run Tryz.prog ((wJ3 w (mf p)).alloc (.cells #[mf q] 45)) = .ok (.slice (some ⟨w.heap.size, 0, none⟩) 2 2) (((wJ3 w (mf p)).alloc (.cells #[mf q] 45)).setRow w.heap.size #[mf p, mf q]) := by
  refine app_at _ _ 1 2 _ (mf q) #[mf p, .nilIface] ?_ ?_ rfl (by omega) (by simp)
  · rw [Below.heap_alloc _ _ _ (by simp; omega), Below.heap_alloc _ _ _ (by simp; omega), Below.heap_alloc _ _ _ (by simp)]
    exact heap_alloc_new w _
  · rw [World.cell?_alloc_at _ _ _ _ (by simp)]
    rfl
set_option maxHeartbeats 8000000 in
theorem Join_mm (s : Nat) (p q : Addr) (w : World) (h0 : w.cell? ⟨s, 0, none⟩ = some (mf p)) (h1 : w.cell? ⟨s, 1, none⟩ = some (mf q)) :
    Calls Tryz.prog 31 #[.slice (some ⟨s, 0, none⟩) 2 2] w fun e w' => e = .returned (.iface 85 (.pointer (some ⟨w.heap.size + 1, 0, none⟩))) ∧ w' = wK2 w (mf p) (mf q) := by
  have tE := Tryz.underlying45
  have m1 := mS2
  have a1 := app2 w p
  have a2 := app3 w p q
  have hlt : s < w.heap.size := below_cell h0
  have b0 : ((w.alloc (.cells #[.nilIface, .nilIface] 45)).alloc (.cells #[.slice (some ⟨w.heap.size, 0, none⟩) 0 2] 87)).cell? ⟨s, 0, none⟩ = some (mf p) := by
    rw [World.cell?_alloc_lt _ _ _ (by simp; omega), World.cell?_alloc_lt _ _ _ hlt]; exact h0
  have b1 : (wJ3 w (mf p)).cell? ⟨s, 1, none⟩ = some (mf q) := by
    rw [World.cell?_alloc_lt _ _ _ (by simp; omega), World.cell?_alloc_lt _ _ _ (by simp; omega), World.cell?_alloc_lt _ _ _ hlt]; exact h1
  go_enter Tryz.func31, Tryz.ntmps31
  go_wp2
  refine wp_loop_rounds 3 ?_
  iterate 3
    rw [rounds_succ]
    go_wp2
  refine wp_loop_rounds 3 ?_
  iterate 3
    rw [rounds_succ]
    go_wp2
  go_ret
  exact ⟨rfl, rfl⟩

end Go.Proofs.YtfpebhlkikmgbaaGreatDoor

/- meshes where teeth do not fit. No conditions. -/
namespace Go.Proofs.YtfpebhlkikmgbaaGreatDoor
open Go.RowKit Go.Extern.Stop Go.Stop Go.Extern
set_option maxRecDepth 100000

theorem mis1 (w : World) (p : Addr) : isMis (.iface 85 (.pointer (some ⟨w.heap.size + 1, 0, none⟩))) (wK1 w (mf p)) := by
  refine .inr ⟨_, ⟨w.heap.size, 0, none⟩, p, 1, 1, rfl, by omega, ?_, ?_⟩
  · rw [World.cell?_alloc_lt _ _ _ (by simp), World.cell?_alloc_at _ _ _ _ (by simp)]
    rfl
  · rw [World.cell?_alloc_lt _ _ _ (by simp; omega), World.cell?_alloc_lt _ _ _ (by simp), World.cell?_alloc_at _ _ _ _ (by simp)]
    rfl
theorem mis2 (w : World) (p q : Addr) : isMis (.iface 85 (.pointer (some ⟨w.heap.size + 1, 0, none⟩))) (wK2 w (mf p) (mf q)) := by
  refine .inr ⟨_, ⟨w.heap.size, 0, none⟩, p, 2, 2, rfl, by omega, ?_, ?_⟩
  · rw [World.cell?_alloc_lt _ _ _ (by simp), World.cell?_alloc_lt _ _ _ (by simp), World.cell?_alloc_at _ _ _ _ (by simp)]
    rfl
  · rw [World.cell?_alloc_lt _ _ _ (by simp; omega), World.cell?_alloc_lt _ _ _ (by simp; omega), World.cell?_alloc_lt _ _ _ (by simp), World.cell?_alloc_at _ _ _ _ (by simp)]
    rfl
theorem wK2_below (w : World) (x y : Value) : Below w.heap.size w (wK2 w x y) := ((((Below.refl _ w).alloc (Nat.le_refl _) _).alloc (by simp) _).alloc (by simp; omega) _).alloc (by simp; omega) _
set_option maxHeartbeats 8000000 in
theorem meshes_mn {a b : Int} {c : Bool} (w : World) (ha : inR a 6 240 = false) (hb : inR b 6 240 = true) :
    Calls Tryz.prog 15 #[.int .i64 a, .int .i64 b, .bool c] w fun e w' => ∃ v, e = .returned (.tuple #[.int .i64 0, v]) ∧ isMis v w' ∧ Below w.heap.size w w' := by
  have hA := fun w => gear_no (n := a) w ha
  have hB := fun w => gear_yes (n := b) w hb
  have tE := Tryz.underlying45
  have hJ := Join_mn (w.heap.size + 1) ⟨w.heap.size, 0, none⟩ ((w.alloc (.cells #[.int .i64 a] 67)).alloc (.cells #[mf ⟨w.heap.size, 0, none⟩, .nilIface] 45)) (by simp) (by simp)
  clear ha hb
  go_enter Tryz.func15, Tryz.ntmps15
  go_wp2_with fail
  go_at_call 32
  refine (hA _).mono ?_
  rintro e w' ⟨rfl, hw⟩
  subst w'
  go_wp2_with fail
  go_at_call 32
  refine (hB _).mono ?_
  rintro e w' ⟨rfl, hw⟩
  subst w'
  go_wp2_with fail
  go_at_call 31
  refine hJ.mono ?_
  rintro e w' ⟨rfl, rfl⟩
  go_wp2_with fail
  go_ret2
  refine ⟨.iface 85 (.pointer (some ⟨w.heap.size + 1 + 1 + 1, 0, none⟩)), rfl, ?_, (((Below.refl _ w).alloc (Nat.le_refl _) _).alloc (by simp) _).trans ((wK1_below _ _).mono (by simp; omega))⟩
  have h := mis1 ((w.alloc (.cells #[.int .i64 a] 67)).alloc (.cells #[mf ⟨w.heap.size, 0, none⟩, .nilIface] 45)) ⟨w.heap.size, 0, none⟩
  simpa using h
set_option maxHeartbeats 8000000 in
theorem meshes_nm {a b : Int} {c : Bool} (w : World) (ha : inR a 6 240 = true) (hb : inR b 6 240 = false) :
    Calls Tryz.prog 15 #[.int .i64 a, .int .i64 b, .bool c] w fun e w' => ∃ v, e = .returned (.tuple #[.int .i64 0, v]) ∧ isMis v w' ∧ Below w.heap.size w w' := by
  have hA := fun w => gear_yes (n := a) w ha
  have hB := fun w => gear_no (n := b) w hb
  have tE := Tryz.underlying45
  have hJ := Join_nm (w.heap.size + 1) ⟨w.heap.size, 0, none⟩ ((w.alloc (.cells #[.int .i64 b] 67)).alloc (.cells #[.nilIface, mf ⟨w.heap.size, 0, none⟩] 45)) (by simp) (by simp)
  clear ha hb
  go_enter Tryz.func15, Tryz.ntmps15
  go_wp2_with fail
  go_at_call 32
  refine (hA _).mono ?_
  rintro e w' ⟨rfl, hw⟩
  subst w'
  go_wp2_with fail
  go_at_call 32
  refine (hB _).mono ?_
  rintro e w' ⟨rfl, hw⟩
  subst w'
  go_wp2_with fail
  go_at_call 31
  refine hJ.mono ?_
  rintro e w' ⟨rfl, rfl⟩
  go_wp2_with fail
  go_ret2
  refine ⟨.iface 85 (.pointer (some ⟨w.heap.size + 1 + 1 + 1, 0, none⟩)), rfl, ?_, (((Below.refl _ w).alloc (Nat.le_refl _) _).alloc (by simp) _).trans ((wK1_below _ _).mono (by simp; omega))⟩
  have h := mis1 ((w.alloc (.cells #[.int .i64 b] 67)).alloc (.cells #[.nilIface, mf ⟨w.heap.size, 0, none⟩] 45)) ⟨w.heap.size, 0, none⟩
  simpa using h
set_option maxHeartbeats 8000000 in
theorem meshes_mm {a b : Int} {c : Bool} (w : World) (ha : inR a 6 240 = false) (hb : inR b 6 240 = false) :
    Calls Tryz.prog 15 #[.int .i64 a, .int .i64 b, .bool c] w fun e w' => ∃ v, e = .returned (.tuple #[.int .i64 0, v]) ∧ isMis v w' ∧ Below w.heap.size w w' := by
  have hA := fun w => gear_no (n := a) w ha
  have hB := fun w => gear_no (n := b) w hb
  have tE := Tryz.underlying45
  have hJ := Join_mm (w.heap.size + 1 + 1) ⟨w.heap.size, 0, none⟩ ⟨w.heap.size + 1, 0, none⟩ (((w.alloc (.cells #[.int .i64 a] 67)).alloc (.cells #[.int .i64 b] 67)).alloc (.cells #[mf ⟨w.heap.size, 0, none⟩, mf ⟨w.heap.size + 1, 0, none⟩] 45)) (by rw [World.cell?_alloc_at _ _ _ _ (by simp)]; rfl) (by rw [World.cell?_alloc_at _ _ _ _ (by simp)]; rfl)
  clear ha hb
  go_enter Tryz.func15, Tryz.ntmps15
  go_wp2_with fail
  go_at_call 32
  refine (hA _).mono ?_
  rintro e w' ⟨rfl, hw⟩
  subst w'
  go_wp2_with fail
  go_at_call 32
  refine (hB _).mono ?_
  rintro e w' ⟨rfl, hw⟩
  subst w'
  go_wp2_with fail
  go_at_call 31
  refine hJ.mono ?_
  rintro e w' ⟨rfl, rfl⟩
  go_wp2_with fail
  go_ret2
  refine ⟨.iface 85 (.pointer (some ⟨w.heap.size + 1 + 1 + 1 + 1, 0, none⟩)), rfl, ?_, ((((Below.refl _ w).alloc (Nat.le_refl _) _).alloc (by simp) _).alloc (by simp; omega) _).trans ((wK2_below _ _ _).mono (by simp; omega))⟩
  have h := mis2 (((w.alloc (.cells #[.int .i64 a] 67)).alloc (.cells #[.int .i64 b] 67)).alloc (.cells #[mf ⟨w.heap.size, 0, none⟩, mf ⟨w.heap.size + 1, 0, none⟩] 45)) ⟨w.heap.size, 0, none⟩ ⟨w.heap.size + 1, 0, none⟩
  simpa using h
set_option maxHeartbeats 8000000 in
theorem meshes_in {a b : Int} (w : World) (ha : inR a 6 240 = true) (hb : inR b 6 240 = true) (hc : b ≥ a) :
    Calls Tryz.prog 15 #[.int .i64 a, .int .i64 b, .bool true] w fun e w' => ∃ v, e = .returned (.tuple #[.int .i64 0, v]) ∧ isMis v w' ∧ Below w.heap.size w w' := by
  have hA := fun w => gear_yes (n := a) w ha
  have hB := fun w => gear_yes (n := b) w hb
  have tE := Tryz.underlying45
  have hJ := Join_nn w.heap.size (w.alloc (.cells #[.nilIface, .nilIface] 45)) (by simp) (by simp)
  clear ha hb
  go_enter Tryz.func15, Tryz.ntmps15
  go_wp2_with fail
  go_at_call 32
  refine (hA _).mono ?_
  rintro e w' ⟨rfl, hw⟩
  subst w'
  go_wp2_with fail
  go_at_call 32
  refine (hB _).mono ?_
  rintro e w' ⟨rfl, hw⟩
  subst w'
  go_wp2_with fail
  go_at_call 31
  refine hJ.mono ?_
  rintro e w' ⟨rfl, rfl⟩
  go_wp2_with fail
  go_ret2
  exact ⟨_, rfl, .inl ⟨_, rfl⟩, ((Below.refl _ w).alloc (Nat.le_refl _) _).alloc (by simp) _⟩

def okM (a b : Int) (c : Bool) : Bool := inR a 6 240 && (inR b 6 240 && !(c && decide (b ≥ a)))
theorem meshes_no {a b : Int} {c : Bool} (w : World) (h : okM a b c = false) :
    Calls Tryz.prog 15 #[.int .i64 a, .int .i64 b, .bool c] w fun e w' => ∃ v, e = .returned (.tuple #[.int .i64 0, v]) ∧ isMis v w' ∧ Below w.heap.size w w' := by
  cases ha : inR a 6 240 with
  | false =>
    cases hb : inR b 6 240 with
    | false => exact meshes_mm w ha hb
    | true => exact meshes_mn w ha hb
  | true =>
    cases hb : inR b 6 240 with
    | false => exact meshes_nm w ha hb
    | true =>
      cases c with
      | false => rw [okM, ha, hb] at h; cases h
      | true =>
        have hc : decide (b ≥ a) = true := by
          cases hd : decide (b ≥ a) with
          | true => rfl
          | false => rw [okM, ha, hb, hd] at h; cases h
        exact meshes_in w ha hb (of_decide_eq_true hc)

end Go.Proofs.YtfpebhlkikmgbaaGreatDoor

/- DesignAt, the reference's: its word. Conditions: a list of wheels. -/
namespace Go.Proofs.YtfpebhlkikmgbaaGreatDoor
open Go.RowKit
set_option maxRecDepth 100000

def daOk (f : Nat → Nat → Int) (n : Int) (m : Nat) : Bool := okD (listW f m) && inR n 0 23 && cyOk (cyOf (atF f n m))
def daV (f : Nat → Nat → Int) (n : Int) (m : Nat) : Nat → Int := bif daOk f n m then atF f n m else fun _ => 0
end Go.Proofs.YtfpebhlkikmgbaaGreatDoor

/- l1Gcd, the reference's: its word. Conditions: numbers of 64 bits. -/
namespace Go.Proofs.YtfpebhlkikmgbaaGreatDoor
open Go.RowKit
set_option maxRecDepth 100000

abbrev lvGc : Ex → List Nat := lv3 [0, 1] [0] [4]
theorem rndGc (a b : Int) : execC Tryz.prog g0 100 noLam (loopAt 0 Tryz.f22) (mkT 0 17 ((lvGc .normal).zip [.v (i64 a), .v (i64 b)])) [] (leafV 17 lvGc 0)
    = bif b != (0 : Int) then needs [!decide (b = (0 : Int))] (Res.out .normal [AV.v (.int .i64 b), AV.v (.int .i64 (Int.tmod a b))] []) else Res.out (Ex.exit (0 : Nat)) [AV.v (.int .i64 a)] [] := by kernel_rfl

noncomputable abbrev lamGc (a b c : Int) : Nat → Option Sum := oneL 0 (atS 17 (lvGc .normal) 0 [.v (i64 a), .v (i64 b)] [] (fun K => K .normal (mkT 0 17 [(0, .v (i64 c))]) []))
theorem treeGc (a b c : Int) : execF Tryz.prog g0 (lamGc a b c) 100 Tryz.f22 [.v (i64 a), .v (i64 b)] [] (packK 0)
    = needs [chk ([AV.v (.int .i64 a), AV.v (.int .i64 b)] = [AV.v (.int .i64 a), AV.v (.int .i64 b)] ∧ Hsim [] [])] (Res.out .ret [AV.v (.int .i64 (if IntKind.wrap .i64 ((0 : Int) - c) > c then IntKind.wrap .i64 ((0 : Int) - c) else c))] []) := by kernel_rfl

def gcdE : Nat → Int → Int → Int
  | 0, a, _ => a
  | n + 1, a, b => if b = 0 then a else gcdE n b (a.tmod b)

theorem sumGc (a b : Int) : SumOk Tryz.prog 0 (.block 0 (.loop (loopAt 0 Tryz.f22))) (atS 17 (lvGc .normal) 0 [.v (i64 a), .v (i64 b)] [] (fun K => K .normal (mkT 0 17 [(0, .v (i64 (gcdE (b.natAbs + 1) a b)))]) [])) := by
  refine loop_at g0_ok (n := 100) (m := 0) (lv := lvGc) (σ := Nat × Int × Int) (fun s => [.v (i64 s.2.1), .v (i64 s.2.2)]) (fun _ => []) (fun s => s.2.2.natAbs < s.1 ∧ gcdE s.1 s.2.1 s.2.2 = gcdE (b.natAbs + 1) a b) (fun s => s.1) (b.natAbs + 1, a, b) (fun _ => noLam) (lv3_ris rfl rfl rfl) (Nat.le_refl _) ⟨Nat.lt_succ_self _, rfl⟩ fun K Q hk s hs => ⟨noLam_ok _ _ _, ?_⟩
  obtain ⟨n, x, y⟩ := s
  obtain ⟨h1, h2⟩ := hs
  rw [rndGc]
  cases n with
  | zero => exact absurd h1 (Nat.not_lt_zero _)
  | succ n =>
    refine good_cond (fun c => ?_) fun c => ?_
    · have c : y ≠ 0 := by simpa using c
      have h2 : gcdE n y (x.tmod y) = gcdE (b.natAbs + 1) a b := by
        rw [← h2]
        show _ = if y = 0 then x else gcdE n y (x.tmod y)
        rw [if_neg c]
      have h1 : y.natAbs < n + 1 := h1
      have h3 : (x.tmod y).natAbs < y.natAbs := by
        rw [Int.natAbs_tmod]
        exact Nat.mod_lt _ (by omega)
      exact good_needs (by simp [obls, c]) (good_out ⟨(n, y, x.tmod y), ⟨⟨by show (x.tmod y).natAbs < n; omega, h2⟩, Nat.lt_succ_self _⟩, rfl, .nil⟩)
    · have c : y = 0 := by simpa using c
      have h2 : x = gcdE (b.natAbs + 1) a b := by
        rw [← h2]
        show _ = if y = 0 then x else gcdE n y (x.tmod y)
        rw [if_pos c]
      refine good_out ⟨_, .nil, ?_⟩
      rw [if_pos rfl]
      rw [← h2] at hk
      exact hk

def gcdF (a b : Int) : Int := if IntKind.wrap IntKind.i64 (0 - gcdE (b.natAbs + 1) a b) > gcdE (b.natAbs + 1) a b then IntKind.wrap IntKind.i64 (0 - gcdE (b.natAbs + 1) a b) else gcdE (b.natAbs + 1) a b
def F_gcd : List SA → Option FR
  | [.v (.int .i64 a), .v (.int .i64 b)] => some { val := .v (i64 (gcdF a b)) }
  | _ => none
theorem ok_gcd : SpecOk Tryz.prog 22 (specR [.val, .val] F_gcd) := by
  refine specR_hr g0_ok Tryz.func22 rfl fun sas fr hF ho => ?_
  unfold F_gcd at hF
  split at hF
  · rename_i a b
    cases hF
    refine ⟨[], lamGc a b (gcdE (b.natAbs + 1) a b), 100, .nil, lam1 (by kernel_rfl) (sumGc a b), ?_⟩
    show GoodQ (execF Tryz.prog g0 (lamGc a b (gcdE (b.natAbs + 1) a b)) 100 Tryz.f22 [.v (i64 a), .v (i64 b)] [] (packK 0)) _
    rw [treeGc]
    exact good_needs (by rw [ob_cons]; exact ⟨chk_of ⟨rfl, .nil⟩, rfl⟩) (good_out ⟨_, rfl, rfl, .nil⟩)
  · cases hF

end Go.Proofs.YtfpebhlkikmgbaaGreatDoor

/- Changed designs as a list or none, read as one. Conditions: a list of wheels. -/
namespace Go.Proofs.YtfpebhlkikmgbaaGreatDoor
open Go.RowKit
set_option maxRecDepth 100000

def FeqB (eq : List Wh → List Wh → Bool) : List SA → Option FR
  | [.row m g, .row n g2] => some { val := .v (.bool (eq (listW (itW g) m) (listW (itW g2) n))), obl := [allW m g, allW n g2, decide (m ≤ 2 ^ 38)] }
  | _ => none
def eqL (A B : List Wh) : Bool := decide (A = B)
def badE (f h : Nat → Nat → Int) (i : Nat) : Bool := !decide (whOf (f i) = whOf (h i))
theorem eqL_list (f h : Nat → Nat → Int) (m : Nat) : eqL (listW f m) (listW h m) = noneTo (badE f h) m := by
  rw [Bool.eq_iff_iff, noneTo_iff, eqL, decide_eq_true_eq]
  refine ⟨fun e i hi => ?_, fun e => ?_⟩
  · have h1 := listW_get f hi
    rw [e, listW_get h hi, Option.some.injEq] at h1
    simp [badE, h1]
  · exact List.map_congr_left fun i hi => by
      have := e i (by simpa using hi)
      simpa [badE] using this
theorem eqL_len {A B : List Wh} (h : A.length ≠ B.length) : eqL A B = false := decide_eq_false fun e => h (by rw [e])
end Go.Proofs.YtfpebhlkikmgbaaGreatDoor

/- The program's DesignTidy, DesignBack, DesignMirror, as a list or none, read as one. Conditions: a list of wheels. -/
namespace Go.Proofs.YtfpebhlkikmgbaaGreatDoor
open Go.RowKit
set_option maxRecDepth 100000

def UO0 (yes : List Wh → Bool) (tl : List Wh → List Wh) : List SA → Option UR
  | [.row m g] => some ⟨yes (listW (itW g) m), tl (listW (itW g) m), [allW m g, decide (m ≤ 2 ^ 38)]⟩
  | _ => none
theorem mpTi_self (L : List Wh) : mpTi L = L := by
  show L.map chTi = L
  rw [show chTi = id from rfl, List.map_id]
def yI (L : List Wh) : Bool := okD L && okT L
def tI (L : List Wh) : List Wh := bif yI L then tidyL L else []
theorem ok_UTi : SpecOk Tryz.prog 29 (specU md_ws (UO0 yI tI)) := by
  refine specU_ok rfl ok_deYTi ok_deNTi fun sas u hu ho => ?_
  unfold UO0 at hu
  split at hu
  · rename_i m g
    cases hu
    simp only [ob_cons] at ho
    obtain ⟨h1, h2, _⟩ := ho
    refine ⟨rfl, ?_⟩
    have hy : yesTi (listW (itW g) m) = yI (listW (itW g) m) := by
      unfold yesTi yI
      rw [show (listW (itW g) m).map chTi = listW (itW g) m from mpTi_self _]
    cases hv : yI (listW (itW g) m) with
    | true =>
      left
      refine ⟨rfl, [allW m g, decide (m ≤ 2 ^ 38), yesTi (listW (itW g) m)], ?_, ?_⟩
      · show FdeYTi yesTi tidyL mpTi [.row m g] = some { val := valY (tI (listW (itW g) m)), new := newY (tI (listW (itW g) m)), obl := [allW m g, decide (m ≤ 2 ^ 38), yesTi (listW (itW g) m)] }
        rw [tI, hv, cond_true]
        show some _ = some _
        rw [mpTi_self]
      · simp only [ob_cons, ob_nil, and_true]
        exact ⟨h1, h2, hy.trans hv⟩
    | false =>
      right
      refine ⟨rfl, by show tI (listW (itW g) m) = []; rw [tI, hv]; rfl, [allW m g, decide (m ≤ 2 ^ 38), !yesTi (listW (itW g) m)], rfl, ?_⟩
      simp only [ob_cons, ob_nil, and_true]
      exact ⟨h1, h2, by rw [hy, hv]; rfl⟩
  · cases hu
end Go.Proofs.YtfpebhlkikmgbaaGreatDoor

/- The reference's RingDesign: trees; greatest common divisors. Conditions: numbers of 64 bits. -/
namespace Go.Proofs.YtfpebhlkikmgbaaGreatDoor
open Go.RowKit
set_option maxRecDepth 100000

theorem gcdE_abs : ∀ (n : Nat) (a b : Int), b.natAbs < n → (gcdE n a b).natAbs = Nat.gcd a.natAbs b.natAbs
  | 0, _, _, h => absurd h (Nat.not_lt_zero _)
  | n + 1, a, b, h => by
    unfold gcdE
    split
    · rename_i hb
      subst hb
      simp
    · rename_i hb
      have e : (a.tmod b).natAbs = a.natAbs % b.natAbs := Int.natAbs_tmod _ _
      have hlt : a.natAbs % b.natAbs < b.natAbs := Nat.mod_lt _ (by omega)
      rw [gcdE_abs n b (a.tmod b) (by omega), e, Nat.gcd_comm a.natAbs, Nat.gcd_rec b.natAbs a.natAbs, Nat.gcd_comm]
theorem gcdF_eq {a b : Int} (ha : -1000000000000 ≤ a ∧ a ≤ 1000000000000) (hb : -1000000000000 ≤ b ∧ b ≤ 1000000000000) : gcdF a b = (Nat.gcd a.natAbs b.natAbs : Int) := by
  have h := gcdE_abs (b.natAbs + 1) a b (Nat.lt_succ_self _)
  have hle : Nat.gcd a.natAbs b.natAbs ≤ 1000000000000 := by
    by_cases h0 : a.natAbs = 0
    · rw [h0, Nat.gcd_zero_left]
      omega
    · exact Nat.le_trans (Nat.gcd_le_left _ (by omega)) (by omega)
  unfold gcdF
  rw [wr_in (by omega)]
  split <;> omega

theorem treeNu (s r : Int) : execF Tryz.prog g0 noLam 100 Tryz.f24 [.v (i64 s), .v (i64 r)] [] (packK 0)
    = Res.out .ret [AV.agg [AV.v (.int .i64 s), AV.v (.int .i64 r), AV.v (.int .i64 0), AV.v (.int .i64 0), AV.v (.int .i64 0), AV.v (.int .i64 0), AV.v (.int .i64 0), AV.v (.int .i64 0), AV.v (.int .i64 0)]] [] := by kernel_rfl

def FnuO : List SA → Option FR
  | [.v (.int .i64 s), .v (.int .i64 r)] => some { val := .agg [.v (i64 s), .v (i64 r), .v (i64 0), .v (i64 0), .v (i64 0), .v (i64 0), .v (i64 0), .v (i64 0), .v (i64 0)] }
  | _ => none
theorem ok_num : SpecOk Tryz.prog 24 (specR [.val, .val] FnuO) := by
  refine specR_hr g0_ok Tryz.func24 rfl fun sas fr hF ho => ?_
  unfold FnuO at hF
  split at hF
  · rename_i s r
    cases hF
    refine ⟨[], noLam, 100, .nil, noLam' _, ?_⟩
    show GoodQ (execF Tryz.prog g0 noLam 100 Tryz.f24 [.v (i64 s), .v (i64 r)] [] (packK 0)) _
    rw [treeNu]
    exact good_out ⟨_, rfl, rfl, .nil⟩
  · cases hF
def FgcO (gf : Int → Int → Int) : List SA → Option FR
  | [.v (.int .i64 a), .v (.int .i64 b)] => some { val := .v (i64 (gf a b)) }
  | _ => none
theorem specR_sub' {P : Program} {f : FuncId} {mds : List Md} {F F' : List SA → Option FR} (h : ∀ sas fr', F' sas = some fr' → ∃ fr, F sas = some fr ∧ fr.val = fr'.val ∧ fr.new = fr'.new ∧ fr.put = fr'.put ∧ (obls fr'.obl = true → obls fr.obl = true)) (hs : SpecOk P f (specR mds F)) : SpecOk P f (specR mds F') := by
  refine ⟨hs.1, fun avs H base δ ν vals w hS ho hv hr hlt hf hsep htab => ?_⟩
  unfold specR at hS
  split at hS
  case h_2 => cases hS
  rename_i xs hxs
  split at hS
  case h_2 => cases hS
  rename_i fr' hF
  obtain ⟨fr, e, e1, e2, e3, e4⟩ := h _ _ hF
  split at hS
  case h_2 => cases hS
  rename_i av hav
  cases hc : ((!hasWr mds || nodupB ((ixC mds xs).filterMap id)) && fr'.new.all isRowT && Nat.beq (abP mds (xs.map (·.sa)) fr'.put).length (abC mds (xs.map (·.sa))).length) with
  | false => rw [hc] at hS; cases hS
  | true =>
  rw [hc] at hS
  simp only [cond_true, Option.some.injEq] at hS
  subst hS
  have ho' : obls (xs.flatMap (·.ob)) = true ∧ obls fr'.obl = true := by simpa [obls, List.all_append] using ho
  have hS2 : specR mds F avs H base = some { val := av, rd := (ixC mds xs).filterMap id, put := putC (ixC mds xs) (abP mds (xs.map (·.sa)) fr'.put), new := fr'.new, obl := xs.flatMap (·.ob) ++ fr.obl } := by
    unfold specR
    rw [hxs]
    simp only [e]
    rw [e1, e2, e3, hav]
    simp only [hc]
    rfl
  refine (hs.2 avs H base _ ν vals w hS2 (by simpa [obls, List.all_append] using And.intro ho'.1 (e4 ho'.2)) hv hr hlt hf hsep (htab.call fun x hx => by first | exact hx | cases hx)).mono ?_
  rintro e w' ⟨v, ν', rfl, d⟩
  exact ⟨v, ν', rfl, d.le, d.dom, d.val, d.put, d.new, d.os, d.tape, d.output, d.size, d.block, d.fresh, d.apart⟩
def Fti2 (ti : List Wh → List Wh) (okt : List Wh → Bool) : List SA → Option FR
  | [.row 2 g] => match g 0, g 1 with
    | [.int .i64 a0, .int .i64 a1, .int .i64 a2, .int .i64 a3, .int .i64 a4, .int .i64 a5, .int .i64 a6, .int .i64 a7, .int .i64 a8], [.int .i64 b0, .int .i64 b1, .int .i64 b2, .int .i64 b3, .int .i64 b4, .int .i64 b5, .int .i64 b6, .int .i64 b7, .int .i64 b8] => some { val := .tup [.own 0 (ti [⟨a0, ⟨a1, a2, a3, a4, a5, a6, a7, a8⟩⟩, ⟨b0, ⟨b1, b2, b3, b4, b5, b6, b7, b8⟩⟩]).length, .v (.bool (okt [⟨a0, ⟨a1, a2, a3, a4, a5, a6, a7, a8⟩⟩, ⟨b0, ⟨b1, b2, b3, b4, b5, b6, b7, b8⟩⟩]))], new := [.row true (ti [⟨a0, ⟨a1, a2, a3, a4, a5, a6, a7, a8⟩⟩, ⟨b0, ⟨b1, b2, b3, b4, b5, b6, b7, b8⟩⟩]).length 9 (row9 (wfun (ti [⟨a0, ⟨a1, a2, a3, a4, a5, a6, a7, a8⟩⟩, ⟨b0, ⟨b1, b2, b3, b4, b5, b6, b7, b8⟩⟩]))) 53] }
    | _, _ => none
  | _ => none
theorem ok_ti2 : SpecOk Tryz.prog 23 (specR md_ws (Fti2 tidyL okT)) := by
  have h := ok_tidyS
  rw [← FtidyO_eq] at h
  refine specR_sub' (fun sas fr hF => ?_) h
  unfold Fti2 at hF
  split at hF
  · rename_i g
    split at hF
    · rename_i a0 a1 a2 a3 a4 a5 a6 a7 a8 b0 b1 b2 b3 b4 b5 b6 b7 b8 e0 e1
      cases hF
      have hL : listW (itW g) 2 = [⟨a0, ⟨a1, a2, a3, a4, a5, a6, a7, a8⟩⟩, ⟨b0, ⟨b1, b2, b3, b4, b5, b6, b7, b8⟩⟩] := by
        show [whOf (itW g 0), whOf (itW g 1)] = _
        unfold whOf itW
        rw [e0, e1]
        rfl
      refine ⟨_, rfl, by simp only [hL], by simp only [hL], rfl, ?_⟩
      · have ha : allW 2 g = true := List.all_eq_true.2 fun j hj => by
          have hj : j < 2 := by simpa using hj
          rcases (by omega : j = 0 ∨ j = 1) with rfl | rfl
          · rw [e0]; rfl
          · rw [e1]; rfl
        intro _
        simp only [ob_cons, ob_nil, and_true]
        exact ⟨ha, by decide⟩
    · cases hF
  · cases hF
def gmRd (gf : Int → Int → Int) (ti : List Wh → List Wh) (okt : List Wh → Bool) : Gam := ext (ext (ext gm_l6In 22 (specR [.val, .val] (FgcO gf))) 24 (specR [.val, .val] FnuO)) 23 (specR md_ws (Fti2 ti okt))
theorem treeRd_h (gf : Int → Int → Int) (ti : List Wh → List Wh) (okt : List Wh → Bool) (a b : Int) (c : Bool) (d : Int) (u3 : _) (hu3 : (0 : Int) = u3) (u4 : _) (hu4 : [AV.tup [AV.own 0 (0 : Nat), AV.v (.bool false)]] = u4) (u5 : _) (hu5 : [AB.row true (0 : Nat) (9 : Nat) (fun _ ↦ []) (53 : Nat)] = u5) (u6 : _) (hu6 : (!decide (gf a b = u3)) = u6) (u7 : _) (hu7 : (IntKind.wrap .i64 (Int.tdiv b (gf a b))) = u7) (u1 : _) (hu1 : [Wh.mk u7 (Cy.mk (IntKind.wrap .i64 (a + b)) u3 u3 u3 u3 u3 u3 u3), Wh.mk (IntKind.wrap .i64 (Int.tdiv (IntKind.wrap .i64 (a + b)) (gf a b))) (Cy.mk (IntKind.wrap .i64 (u3 - d)) u3 u3 u3 u3 u3 u3 u3)] = u1) (u2 : _) (hu2 : [Wh.mk u7 (Cy.mk (IntKind.wrap .i64 (a - b)) u3 u3 u3 u3 u3 u3 u3), Wh.mk (IntKind.wrap .i64 (Int.tdiv (IntKind.wrap .i64 (b - a)) (gf a b))) (Cy.mk d u3 u3 u3 u3 u3 u3 u3)] = u2) (u0 : _) (hu0 : (bif !inR d (-300 : Int) (300 : Int) then Res.out .ret u4 u5 else bif c then needs [u6, u6] (Res.out .ret [AV.tup [AV.own 0 (List.length (ti u2)), AV.v (.bool (okt u2))]] [AB.row true (List.length (ti u2)) (9 : Nat) (row9 (wfun (ti u2))) 53]) else needs [u6, u6] (Res.out .ret [AV.tup [AV.own 0 (List.length (ti u1)), AV.v (.bool (okt u1))]] [AB.row true (List.length (ti u1)) (9 : Nat) (row9 (wfun (ti u1))) 53])) = u0) : execF Tryz.prog (gmRd gf ti okt) noLam 100 Tryz.f6 [.v (i64 a), .v (i64 b), .v (.bool c), .v (i64 d)] [] (packK 0)
    = bif !inR a (6 : Int) (240 : Int) then Res.out .ret u4 u5 else bif !inR b (6 : Int) (240 : Int) then Res.out .ret u4 u5 else bif c then bif decide (b ≥ a) then Res.out .ret u4 u5 else needs [u6] u0 else needs [u6] u0 := by
  subst hu0 hu2 hu1 hu7 hu6 hu5 hu4 hu3
  kernel_rfl
theorem treeRd (gf : Int → Int → Int) (ti : List Wh → List Wh) (okt : List Wh → Bool) (a b : Int) (c : Bool) (d : Int) : type_of% (treeRd_h gf ti okt a b c d _ rfl _ rfl _ rfl _ rfl _ rfl _ rfl _ rfl _ rfl) := treeRd_h gf ti okt a b c d _ rfl _ rfl _ rfl _ rfl _ rfl _ rfl _ rfl _ rfl

def FrdO (rd : Int → Int → Bool → Int → List Wh) (ro : Int → Int → Bool → Int → Bool) : List SA → Option FR
  | [.v (.int .i64 a), .v (.int .i64 b), .v (.bool c), .v (.int .i64 d)] => some { val := .tup [.own 0 (rd a b c d).length, .v (.bool (ro a b c d))], new := [.row true (rd a b c d).length 9 (row9 (wfun (rd a b c d))) 53] }
  | _ => none
def rnP (a b : Int) (c : Bool) (d : Int) : Bool := inR a 6 240 && (inR b 6 240 && (!(c && decide (b ≥ a)) && inR d (-300) 300))
def rnW (a b : Int) (c : Bool) (d : Int) : List Wh := bif c then [⟨IntKind.wrap IntKind.i64 (Int.tdiv b (gcdF a b)), ⟨IntKind.wrap IntKind.i64 (a - b), 0, 0, 0, 0, 0, 0, 0⟩⟩, ⟨IntKind.wrap IntKind.i64 (Int.tdiv (IntKind.wrap IntKind.i64 (b - a)) (gcdF a b)), ⟨d, 0, 0, 0, 0, 0, 0, 0⟩⟩] else [⟨IntKind.wrap IntKind.i64 (Int.tdiv b (gcdF a b)), ⟨IntKind.wrap IntKind.i64 (a + b), 0, 0, 0, 0, 0, 0, 0⟩⟩, ⟨IntKind.wrap IntKind.i64 (Int.tdiv (IntKind.wrap IntKind.i64 (a + b)) (gcdF a b)), ⟨IntKind.wrap IntKind.i64 (0 - d), 0, 0, 0, 0, 0, 0, 0⟩⟩]
def rnL (a b : Int) (c : Bool) (d : Int) : List Wh := bif rnP a b c d then tidyL (rnW a b c d) else []
def rnO (a b : Int) (c : Bool) (d : Int) : Bool := rnP a b c d && okT (rnW a b c d)
theorem gmRd_ok : GamOk Tryz.prog (gmRd gcdF tidyL okT) := by
  refine ext_ok (ext_ok (ext_ok gm_l6In_ok ?_) ok_num) ok_ti2
  have e : FgcO gcdF = F_gcd := by funext l; rfl
  rw [e]
  exact ok_gcd
theorem gcd_nz {a b : Int} (ha : inR a 6 240 = true) (hb : inR b 6 240 = true) : gcdF a b ≠ 0 := by
  have ha := inR_iff.1 ha
  have hb := inR_iff.1 hb
  rw [gcdF_eq (by omega) (by omega)]
  have : 0 < Nat.gcd a.natAbs b.natAbs := Nat.gcd_pos_of_pos_left _ (by omega)
  omega
theorem rnL_no {a b : Int} {c : Bool} {d : Int} (h : rnP a b c d = false) : rnL a b c d = [] ∧ rnO a b c d = false := ⟨by rw [rnL, h]; rfl, by rw [rnO, h]; rfl⟩
theorem rnL_yes {a b : Int} {c : Bool} {d : Int} (h : rnP a b c d = true) : rnL a b c d = tidyL (rnW a b c d) ∧ rnO a b c d = okT (rnW a b c d) := ⟨by rw [rnL, h]; rfl, by rw [rnO, h, Bool.true_and]⟩
theorem rnL_len (a b : Int) (c : Bool) (d : Int) : (rnL a b c d).length ≤ 12 := by
  cases h : rnP a b c d with
  | false => rw [(rnL_no h).1]; exact Nat.zero_le _
  | true =>
    rw [(rnL_yes h).1]
    cases ht : okT (rnW a b c d) with
    | true => exact tidyL_len ht
    | false => rw [tidyL_no ht]; exact Nat.zero_le _
theorem ok_rd : SpecOk Tryz.prog 6 (specR [.val, .val, .val, .val] (FrdO rnL rnO)) := by
  refine specR_hr gmRd_ok Tryz.func6 rfl fun sas fr hF ho => ?_
  unfold FrdO at hF
  split at hF
  · rename_i a b c d
    cases hF
    refine ⟨[], noLam, 100, .nil, noLam' _, ?_⟩
    show GoodQ (execF Tryz.prog (gmRd gcdF tidyL okT) noLam 100 Tryz.f6 [.v (i64 a), .v (i64 b), .v (.bool c), .v (i64 d)] [] (packK 0)) _
    rw [treeRd]
    have bad : rnP a b c d = false → GoodQ (.out .ret [.tup [.own 0 0, .v (.bool false)]] [.row true 0 9 (fun _ => []) 53]) (GivR (abP [.val, .val, .val, .val] [.v (.int .i64 a), .v (.int .i64 b), .v (.bool c), .v (.int .i64 d)] []) { val := .tup [.own 0 (rnL a b c d).length, .v (.bool (rnO a b c d))], new := [.row true (rnL a b c d).length 9 (row9 (wfun (rnL a b c d))) 53] }) := by
      intro h
      rw [(rnL_no h).1, (rnL_no h).2]
      exact good_out ⟨_, rfl, rfl, .cons (ABeq.row fun j hj => absurd hj (Nat.not_lt_zero _)) .nil⟩
    have yes : ∀ M : List Wh, rnP a b c d = true → rnW a b c d = M → GoodQ (.out .ret [.tup [.own 0 (tidyL M).length, .v (.bool (okT M))]] [.row true (tidyL M).length 9 (row9 (wfun (tidyL M))) 53]) (GivR (abP [.val, .val, .val, .val] [.v (.int .i64 a), .v (.int .i64 b), .v (.bool c), .v (.int .i64 d)] []) { val := .tup [.own 0 (rnL a b c d).length, .v (.bool (rnO a b c d))], new := [.row true (rnL a b c d).length 9 (row9 (wfun (rnL a b c d))) 53] }) := by
      rintro M h rfl
      rw [(rnL_yes h).1, (rnL_yes h).2]
      exact good_out ⟨_, rfl, rfl, Hsim.refl _⟩
    cases h1 : inR a 6 240 with
    | false => exact good_true rfl (bad (by rw [rnP, h1]; rfl))
    | true =>
    refine good_false rfl ?_
    cases h2 : inR b 6 240 with
    | false => exact good_true rfl (bad (by rw [rnP, h1, h2]; rfl))
    | true =>
    refine good_false rfl ?_
    have hz : decide (gcdF a b = 0) = false := decide_eq_false (gcd_nz h1 h2)
    rw [hz]
    cases c with
    | true =>
      refine good_true rfl ?_
      cases h3 : decide (b ≥ a) with
      | true => exact good_true rfl (bad (by rw [rnP, h1, h2, h3]; rfl))
      | false =>
      refine good_false rfl (good_needs rfl ?_)
      cases h4 : inR d (-300) 300 with
      | false => exact good_true rfl (bad (by rw [rnP, h1, h2, h3, h4]; rfl))
      | true => exact good_false rfl (good_true rfl (good_needs rfl (yes _ (by rw [rnP, h1, h2, h3, h4]; rfl) rfl)))
    | false =>
      refine good_false rfl (good_needs rfl ?_)
      cases h4 : inR d (-300) 300 with
      | false => exact good_true rfl (bad (by rw [rnP, h1, h2, h4]; rfl))
      | true => exact good_false rfl (good_false rfl (good_needs rfl (yes _ (by rw [rnP, h1, h2, h4]; rfl) rfl)))
  · cases hF

end Go.Proofs.YtfpebhlkikmgbaaGreatDoor

/- The greatest common divisor, of both. Conditions: numbers up to 10^12. -/
namespace Go.Proofs.YtfpebhlkikmgbaaGreatDoor
open Go.RowKit
set_option maxRecDepth 100000

def gcdI (a b : Int) : Int := (Nat.gcd a.natAbs b.natAbs : Int)
def FgdO (gf : Int → Int → Int) : List SA → Option FR
  | [.v (.int .i64 a), .v (.int .i64 b)] => some { val := .v (i64 (gf a b)), obl := [inR a (-1000000000000) 1000000000000, inR b (-1000000000000) 1000000000000] }
  | _ => none
theorem ok_gdS : SpecOk Tryz.prog 22 (specR [.val, .val] (FgdO gcdI)) := by
  refine ⟨ok_gcd.1, fun avs H base δ ν vals w hS ho hv hr hlt hf hsep htab => ?_⟩
  unfold specR at hS
  split at hS
  case h_2 => cases hS
  rename_i xs hxs
  split at hS
  case h_2 => cases hS
  rename_i fr' hF
  unfold FgdO at hF
  split at hF
  case h_2 => cases hF
  rename_i a b hx
  cases hF
  have hS' := hS
  simp only [shA] at hS
  cases hc : ((!hasWr [Md.val, Md.val] || nodupB ((ixC [Md.val, Md.val] xs).filterMap id)) && ([] : List AB).all isRowT && Nat.beq (abP [Md.val, Md.val] (xs.map (·.sa)) []).length (abC [Md.val, Md.val] (xs.map (·.sa))).length) with
  | false => rw [hc] at hS; cases hS
  | true =>
  rw [hc] at hS
  simp only [cond_true, Option.some.injEq] at hS
  subst hS
  have ho' : obls (xs.flatMap (·.ob)) = true ∧ obls [inR a (-1000000000000) 1000000000000, inR b (-1000000000000) 1000000000000] = true := by simpa [obls, List.all_append] using ho
  have h2 := ho'.2
  simp only [ob_cons] at h2
  have ha := inR_iff.1 h2.1
  have hb := inR_iff.1 h2.2.1
  have hS2 : specR [.val, .val] F_gcd avs H base = some { val := .v (i64 (gcdI a b)), rd := (ixC [Md.val, Md.val] xs).filterMap id, put := putC (ixC [Md.val, Md.val] xs) (abP [Md.val, Md.val] (xs.map (·.sa)) []), new := [], obl := xs.flatMap (·.ob) ++ [] } := by
    unfold specR
    rw [hxs]
    simp only [hx, F_gcd, shA, gcdF_eq ha hb]
    rw [hx] at hc
    simp only [hc]
    rfl
  refine (ok_gcd.2 avs H base _ ν vals w hS2 (by simpa [obls, List.all_append] using ho'.1) hv hr hlt hf hsep (htab.call fun x hx => by first | exact hx | cases hx)).mono ?_
  rintro e w' ⟨v, ν', rfl, d⟩
  exact ⟨v, ν', rfl, d.le, d.dom, d.val, d.put, d.new, d.os, d.tape, d.output, d.size, d.block, d.fresh, d.apart⟩

abbrev lvGd : Ex → List Nat := lv3 [0, 1] [0] [4]
theorem rndGd (a b : Int) : execC Tryz.prog g0 100 noLam (loopAt 0 Tryz.f30) (mkT 0 15 ((lvGd .normal).zip [.v (i64 a), .v (i64 b)])) [] (leafV 15 lvGd 0)
    = bif b != (0 : Int) then needs [!decide (b = (0 : Int))] (Res.out .normal [AV.v (.int .i64 b), AV.v (.int .i64 (Int.tmod a b))] []) else Res.out (Ex.exit (0 : Nat)) [AV.v (.int .i64 a)] [] := by kernel_rfl

noncomputable abbrev lamGd (a b c : Int) : Nat → Option Sum := oneL 0 (atS 15 (lvGd .normal) 0 [.v (i64 a), .v (i64 b)] [] (fun K => K .normal (mkT 0 15 [(0, .v (i64 c))]) []))
theorem treeGd (a b c : Int) : execF Tryz.prog g0 (lamGd a b c) 100 Tryz.f30 [.v (i64 a), .v (i64 b)] [] (packK 0)
    = needs [chk ([AV.v (.int .i64 a), AV.v (.int .i64 b)] = [AV.v (.int .i64 a), AV.v (.int .i64 b)] ∧ Hsim [] [])] (Res.out .ret [AV.v (.int .i64 (if IntKind.wrap .i64 ((0 : Int) - c) > c then IntKind.wrap .i64 ((0 : Int) - c) else c))] []) := by kernel_rfl

theorem sumGd (a b : Int) : SumOk Tryz.prog 0 (.block 0 (.loop (loopAt 0 Tryz.f30))) (atS 15 (lvGd .normal) 0 [.v (i64 a), .v (i64 b)] [] (fun K => K .normal (mkT 0 15 [(0, .v (i64 (gcdE (b.natAbs + 1) a b)))]) [])) := by
  refine loop_at g0_ok (n := 100) (m := 0) (lv := lvGd) (σ := Nat × Int × Int) (fun s => [.v (i64 s.2.1), .v (i64 s.2.2)]) (fun _ => []) (fun s => s.2.2.natAbs < s.1 ∧ gcdE s.1 s.2.1 s.2.2 = gcdE (b.natAbs + 1) a b) (fun s => s.1) (b.natAbs + 1, a, b) (fun _ => noLam) (lv3_ris rfl rfl rfl) (Nat.le_refl _) ⟨Nat.lt_succ_self _, rfl⟩ fun K Q hk s hs => ⟨noLam_ok _ _ _, ?_⟩
  obtain ⟨n, x, y⟩ := s
  obtain ⟨h1, h2⟩ := hs
  rw [rndGd]
  cases n with
  | zero => exact absurd h1 (Nat.not_lt_zero _)
  | succ n =>
    refine good_cond (fun c => ?_) fun c => ?_
    · have c : y ≠ 0 := by simpa using c
      have h2 : gcdE n y (x.tmod y) = gcdE (b.natAbs + 1) a b := by
        rw [← h2]
        show _ = if y = 0 then x else gcdE n y (x.tmod y)
        rw [if_neg c]
      have h1 : y.natAbs < n + 1 := h1
      have h3 : (x.tmod y).natAbs < y.natAbs := by
        rw [Int.natAbs_tmod]
        exact Nat.mod_lt _ (by omega)
      exact good_needs (by simp [obls, c]) (good_out ⟨(n, y, x.tmod y), ⟨⟨by show (x.tmod y).natAbs < n; omega, h2⟩, Nat.lt_succ_self _⟩, rfl, .nil⟩)
    · have c : y = 0 := by simpa using c
      have h2 : x = gcdE (b.natAbs + 1) a b := by
        rw [← h2]
        show _ = if y = 0 then x else gcdE n y (x.tmod y)
        rw [if_pos c]
      refine good_out ⟨_, .nil, ?_⟩
      rw [if_pos rfl]
      rw [← h2] at hk
      exact hk


theorem ok_gdI : SpecOk Tryz.prog 30 (specR [.val, .val] (FgdO gcdI)) := by
  refine specR_hr g0_ok Tryz.func30 rfl fun sas fr hF ho => ?_
  unfold FgdO at hF
  split at hF
  · rename_i a b
    cases hF
    simp only [ob_cons] at ho
    obtain ⟨ha, hb, _⟩ := ho
    have e := gcdF_eq (inR_iff.1 ha) (inR_iff.1 hb)
    refine ⟨[], lamGd a b (gcdE (b.natAbs + 1) a b), 100, .nil, lam1 (by kernel_rfl) (sumGd a b), ?_⟩
    show GoodQ (execF Tryz.prog g0 (lamGd a b (gcdE (b.natAbs + 1) a b)) 100 Tryz.f30 [.v (i64 a), .v (i64 b)] [] (packK 0)) _
    rw [treeGd]
    refine good_needs (by rw [ob_cons]; exact ⟨chk_of ⟨rfl, .nil⟩, rfl⟩) (good_out ⟨_, rfl, ?_, .nil⟩)
    show [AV.v (i64 (gcdF a b))] = [AV.v (i64 (gcdI a b))]
    rw [e]
    rfl
  · cases hF

end Go.Proofs.YtfpebhlkikmgbaaGreatDoor

/- The reference's DesignTidy: its word. Conditions: a list of wheels. -/
namespace Go.Proofs.YtfpebhlkikmgbaaGreatDoor
open Go.RowKit
set_option maxRecDepth 100000

theorem tI_no {L : List Wh} (h : yI L = false) : tI L = [] := by rw [tI, h]; rfl
end Go.Proofs.YtfpebhlkikmgbaaGreatDoor

/- DesignPeriod and DesignFold of both: trees. Conditions: a list of wheels. -/
namespace Go.Proofs.YtfpebhlkikmgbaaGreatDoor
open Go.RowKit
set_option maxRecDepth 100000

def gmPr (gf : Int → Int → Int) : Gam := ext (ext g0 30 (specR [.val, .val] (FgdO gf))) 22 (specR [.val, .val] (FgdO gf))
def gmPt (yI : List Wh → Bool) (tI : List Wh → List Wh) : Gam := ext g0 29 (specU md_ws (UO0 yI tI))
abbrev hpPI (m : Nat) (f : Nat → Nat → Int) (k : Nat) (g : Nat → Nat → Int) : List AB := [.row false m 9 (row9 f) 53, .row false k 9 (row9 g) 53]
abbrev hpP1 (m : Nat) (f : Nat → Nat → Int) : List AB := [.row false m 9 (row9 f) 53]
noncomputable abbrev fQI : Func := Tryz.f11
abbrev lvQI : Ex → List Nat := lv3 [3, 5, 15, 16, 17] [5] [2]
abbrev stQI (k : Nat) (x : Int) (i : Nat) : List AV := [.sl 1 9 0 0 k (some k), .v (i64 x), .sl 1 9 0 0 k (some k), .v (i64 k), .v (i64 i)]
theorem rndQI (gf : Int → Int → Int) (m : Nat) (f : Nat → Nat → Int) (k : Nat) (g : Nat → Nat → Int) (x : Int) (i : Nat) : execC Tryz.prog (gmPr gf) 100 noLam (loopAt 0 fQI) (mkT 0 32 ((lvQI .normal).zip (stQI k x i))) (hpPI m f k g) (leafV 32 lvQI 1)
    = bif decide ((↑i : Int) < (↑k : Int)) then needs [decide ((↑i : Int) < (↑k : Int)), decide ((0 : Nat) + Int.toNat (↑i : Int) < k), decide ((0 : Int) < (↑k : Int)), decide ((0 : Nat) < k), inR x (-1000000000000 : Int) (1000000000000 : Int), inR (IntKind.wrap .i64 (g ((0 : Nat) + Int.toNat (↑i : Int)) (0 : Nat) - g (0 : Nat) (0 : Nat))) (-1000000000000 : Int) (1000000000000 : Int)] (Res.out .normal [AV.sl 1 (9 : Nat) (0 : Nat) (0 : Nat) k (some k), AV.v (.int .i64 (gf x (IntKind.wrap .i64 (g ((0 : Nat) + Int.toNat (↑i : Int)) (0 : Nat) - g (0 : Nat) (0 : Nat))))), AV.sl 1 (9 : Nat) (0 : Nat) (0 : Nat) k (some k), AV.v (.int .i64 (↑k : Int)), AV.v (.int .i64 (IntKind.wrap .i64 ((↑i : Int) + (1 : Int))))] [AB.row false m 9 (row9 f) 53, AB.row false k 9 (row9 g) 53]) else Res.out (Ex.exit (0 : Nat)) [AV.v (.int .i64 x)] [AB.row false m 9 (row9 f) 53] := by kernel_rfl

noncomputable abbrev lamQI (m : Nat) (f : Nat → Nat → Int) (k : Nat) (g : Nat → Nat → Int) (x : Int) : Nat → Option Sum := oneL 0 (atS 32 (lvQI .normal) 1 (stQI k 0 0) (hpPI m f k g) (fun K => K .normal (mkT 0 32 [(5, .v (i64 x))]) (hpP1 m f)))
theorem treeQI_h (yI : List Wh → Bool) (tI : List Wh → List Wh) (m : Nat) (f : Nat → Nat → Int) (k : Nat) (g : Nat → Nat → Int) (x : Int) (u1 : _) (hu1 : (listW (itW fun q ↦ row9 f ((0 : Nat) + q)) m) = u1) (u2 : _) (hu2 : (AB.row false m 9 (row9 f) 53) = u2) (u0 : _) (hu0 : (List.length (tI u1)) = u0) (u3 : _) (hu3 : (AV.sl 1 (9 : Nat) (0 : Nat) (0 : Nat) u0 (some u0)) = u3) : execF Tryz.prog (gmPt yI tI) (lamQI m f k g x) 100 fQI [.sl 0 9 0 0 m none] (hpP1 m f) (packK 1)
    = needs [Nat.ble ((0 : Nat) + m) m, allW m fun q ↦ row9 f ((0 : Nat) + q), decide (m ≤ (274877906944 : Nat))] (bif !yI u1 then Res.out .ret [AV.v (.int .i64 (-1 : Int))] [u2] else needs [chk ([u3, AV.v (.int .i64 0), u3, AV.v (.int .i64 (↑u0 : Int)), AV.v (.int .i64 0)] = stQI k (0 : Int) (0 : Nat) ∧ Hsim [u2, AB.row false u0 9 (row9 (wfun (tI u1))) 53] (hpPI m f k g))] (Res.out .ret [AV.v (.int .i64 x)] [u2])) := by
  subst hu3 hu0 hu2 hu1
  kernel_rfl
theorem treeQI (yI : List Wh → Bool) (tI : List Wh → List Wh) (m : Nat) (f : Nat → Nat → Int) (k : Nat) (g : Nat → Nat → Int) (x : Int) : type_of% (treeQI_h yI tI m f k g x _ rfl _ rfl _ rfl _ rfl) := treeQI_h yI tI m f k g x _ rfl _ rfl _ rfl _ rfl

end Go.Proofs.YtfpebhlkikmgbaaGreatDoor

/- Plain algebra: how great products, mirrored points and parts can be. No program, no conditions. -/
namespace Go.Proofs.YtfpebhlkikmgbaaGreatDoor
open Go.RowKit

theorem mul_bd {x y A B : Int} (h1 : -A ≤ x) (h2 : x ≤ A) (h3 : -B ≤ y) (h4 : y ≤ B) : -(A * B) ≤ x * y ∧ x * y ≤ A * B := by
  have hA : 0 ≤ A := by omega
  have hB : 0 ≤ B := by omega
  have e1 : 0 ≤ (A - x) * (B - y) := Int.mul_nonneg (by omega) (by omega)
  have e2 : 0 ≤ (A + x) * (B + y) := Int.mul_nonneg (by omega) (by omega)
  have e3 : 0 ≤ (A - x) * (B + y) := Int.mul_nonneg (by omega) (by omega)
  have e4 : 0 ≤ (A + x) * (B - y) := Int.mul_nonneg (by omega) (by omega)
  have g1 : (A - x) * (B - y) = A * B - A * y - x * B + x * y := by grind
  have g2 : (A + x) * (B + y) = A * B + A * y + x * B + x * y := by grind
  have g3 : (A - x) * (B + y) = A * B + A * y - x * B - x * y := by grind
  have g4 : (A + x) * (B - y) = A * B - A * y + x * B - x * y := by grind
  omega
def bd8 (B : Int) (f : Nat → Int) : Prop := ∀ k, k < 8 → -B ≤ f k ∧ f k ≤ B
end Go.Proofs.YtfpebhlkikmgbaaGreatDoor

/- Plain lists of wheels: sums over the wheels that are linear in the radii do not change when the list is tidied; a tidy list is known by its sums. No program, no conditions. -/
namespace Go.Proofs.YtfpebhlkikmgbaaGreatDoor
open Go.RowKit

def linS (φ : Int → (Nat → Int) → Int) : List Wh → Int
  | [] => 0
  | w :: l => φ w.s w.r.f + linS φ l
def Lin (φ : Int → (Nat → Int) → Int) : Prop := ∀ s f g, φ s (fun k => f k + g k) = φ s f + φ s g
theorem Lin.zero {φ : Int → (Nat → Int) → Int} (h : Lin φ) (s : Int) : φ s (fun _ => 0) = 0 := by
  have := h s (fun _ => 0) (fun _ => 0)
  have e : (fun k : Nat => (fun _ : Nat => (0 : Int)) k + (fun _ : Nat => (0 : Int)) k) = fun _ => 0 := by
    funext k
    rfl
  rw [e] at this
  omega
theorem linS_append (φ : Int → (Nat → Int) → Int) : ∀ A B : List Wh, linS φ (A ++ B) = linS φ A + linS φ B
  | [], B => by show linS φ B = 0 + linS φ B; omega
  | w :: l, B => by
    show φ w.s w.r.f + linS φ (l ++ B) = φ w.s w.r.f + linS φ l + linS φ B
    rw [linS_append φ l B]
    omega
def bdW (B : Int) (L : List Wh) : Prop := ∀ w ∈ L, bd8 B w.r.f
theorem Cy.f_out (a : Cy) {k : Nat} (h : 8 ≤ k) : a.f k = 0 := by
  unfold Cy.f
  match k, h with
  | k + 8, _ => rfl
theorem cyAdd_f {a b : Cy} (ha : bd8 2000000000000 a.f) (hb : bd8 2000000000000 b.f) : (cyAdd a b).f = fun k => a.f k + b.f k := by
  funext k
  by_cases hk : k < 8
  · have e : (cyAdd a b).f k = W (a.f k + b.f k) := by
      rcases (by omega : k = 0 ∨ k = 1 ∨ k = 2 ∨ k = 3 ∨ k = 4 ∨ k = 5 ∨ k = 6 ∨ k = 7) with rfl | rfl | rfl | rfl | rfl | rfl | rfl | rfl <;> rfl
    have h1 := ha k hk
    have h2 := hb k hk
    rw [e, w64_in (by omega) (by omega)]
  · rw [Cy.f_out _ (by omega), Cy.f_out _ (by omega), Cy.f_out _ (by omega)]
    rfl
theorem cyOk_bd {a : Cy} (h : cyOk a = true) : bd8 1000000 a.f := fun k hk => by
  have := smallF_iff.1 h k hk
  omega
theorem bd8.mono {A B : Int} {f : Nat → Int} (h : bd8 A f) (hAB : A ≤ B) : bd8 B f := fun k hk => by
  have := h k hk
  omega
theorem bdW.mono {A B : Int} {L : List Wh} (h : bdW A L) (hAB : A ≤ B) : bdW B L := fun w hw => (h w hw).mono hAB

theorem linS_insS {φ : Int → (Nat → Int) → Int} (hφ : Lin φ) {w : Wh} (hw : bd8 2000000000000 w.r.f) : ∀ {l : List Wh}, bdW 2000000000000 l → linS φ (insS l w) = linS φ l + φ w.s w.r.f
  | [], _ => by
    show φ w.s w.r.f + 0 = 0 + φ w.s w.r.f
    omega
  | x :: l, h => by
    unfold insS
    split
    · show φ x.s x.r.f + linS φ (insS l w) = φ x.s x.r.f + linS φ l + φ w.s w.r.f
      rw [linS_insS hφ hw fun y hy => h y (by simp [hy])]
      omega
    · split
      · rename_i e
        show φ x.s (cyAdd x.r w.r).f + linS φ l = φ x.s x.r.f + linS φ l + φ w.s w.r.f
        rw [cyAdd_f (h x (by simp)) hw, hφ, e]
        omega
      · show φ w.s w.r.f + (φ x.s x.r.f + linS φ l) = φ x.s x.r.f + linS φ l + φ w.s w.r.f
        omega
def okW (L : List Wh) : Prop := ∀ w ∈ L, cyOk w.r = true
theorem okW.bd {L : List Wh} (h : okW L) : bdW 1000000 L := fun w hw => cyOk_bd (h w hw)
theorem insS_ok {l : List Wh} {w : Wh} (hr : rising l) (h : okW l) (ho : cyOk (sumR l w) = true) : okW (insS l w) := fun x hx => by
  have := (insS_perm hr).subset hx
  rcases List.mem_cons.1 this with rfl | hx
  · exact ho
  · exact h x (List.mem_filter.1 hx).1
theorem linS_run {φ : Int → (Nat → Int) → Int} (hφ : Lin φ) : ∀ {ws acc B : List Wh}, bdW 2000000000000 ws → rising acc → okW acc → runT insS acc ws = some B → linS φ B = linS φ acc + linS φ ws ∧ rising B ∧ okW B
  | [], acc, B, _, hr, ho, h => by
    simp only [runT, Option.some.injEq] at h
    subst h
    exact ⟨by show linS φ acc = linS φ acc + 0; omega, hr, ho⟩
  | w :: ws, acc, B, hb, hr, ho, h => by
    unfold runT at h
    split at h
    · rename_i hk
      obtain ⟨e, h1, h2⟩ := linS_run hφ (ws := ws) (fun x hx => hb x (by simp [hx])) (insS_rising w hr) (insS_ok hr ho hk) h
      refine ⟨?_, h1, h2⟩
      rw [e, linS_insS hφ (hb w (by simp)) (ho.bd.mono (by omega))]
      show _ = linS φ acc + (φ w.s w.r.f + linS φ ws)
      omega
    · cases h
theorem linS_nonZ {φ : Int → (Nat → Int) → Int} (hφ : Lin φ) : ∀ L : List Wh, linS φ (nonZ L) = linS φ L
  | [] => rfl
  | w :: l => by
    have ih := linS_nonZ hφ l
    unfold nonZ at ih ⊢
    by_cases h : w.r = cyZ
    · rw [List.filter_cons_of_neg (by simp [h]), ih]
      show linS φ l = φ w.s w.r.f + linS φ l
      rw [h, show cyZ.f = fun _ => 0 from funext fun k => by
        by_cases hk : k < 8
        · rcases (by omega : k = 0 ∨ k = 1 ∨ k = 2 ∨ k = 3 ∨ k = 4 ∨ k = 5 ∨ k = 6 ∨ k = 7) with rfl | rfl | rfl | rfl | rfl | rfl | rfl | rfl <;> rfl
        · exact Cy.f_out _ (by omega), hφ.zero]
      omega
    · rw [List.filter_cons_of_pos (by simp [h])]
      show φ w.s w.r.f + linS φ _ = φ w.s w.r.f + linS φ l
      rw [ih]
def isTidy (T : List Wh) : Prop := rising T ∧ (∀ w ∈ T, w.r ≠ cyZ) ∧ dValid T = true
theorem tidyS_lin {ws T : List Wh} (hb : bdW 2000000000000 ws) (h : tidyS ws = some T) : isTidy T ∧ ∀ φ, Lin φ → linS φ T = linS φ ws := by
  unfold tidyS at h
  split at h
  · rename_i l hl
    split at h
    · rename_i hv
      cases h
      obtain ⟨_, h1, _⟩ := linS_run (φ := fun _ _ => 0) (fun _ _ _ => rfl) hb List.Pairwise.nil (fun w hw => by simp at hw) hl
      refine ⟨⟨List.Pairwise.filter _ h1, fun w hw => by simpa using (List.mem_filter.1 hw).2, hv⟩, fun φ hφ => ?_⟩
      obtain ⟨e, _⟩ := linS_run hφ hb List.Pairwise.nil (fun w hw => by simp at hw) hl
      rw [linS_nonZ hφ, e]
      show 0 + _ = _
      omega
    · cases h
  · cases h
theorem okT_some {L : List Wh} (h : okT L = true) : tidyS L = some (tidyL L) := by
  unfold okT at h
  unfold tidyL
  cases e : tidyS L with
  | none => rw [e] at h; cases h
  | some T => rfl
theorem tidyL_lin {ws : List Wh} (hb : bdW 2000000000000 ws) (h : okT ws = true) : isTidy (tidyL ws) ∧ ∀ φ, Lin φ → linS φ (tidyL ws) = linS φ ws := tidyS_lin hb (okT_some h)

theorem insS_end : ∀ {l : List Wh} {w : Wh}, (∀ x ∈ l, x.s < w.s) → insS l w = l ++ [w]
  | [], _, _ => rfl
  | x :: l, w, h => by
    unfold insS
    rw [if_pos (h x (by simp)), insS_end fun y hy => h y (by simp [hy])]
    rfl
theorem sumR_end {l : List Wh} {w : Wh} (h : ∀ x ∈ l, x.s < w.s) : sumR l w = w.r := by
  have : (l.find? fun x => decide (x.s = w.s)) = none := List.find?_eq_none.2 fun x hx => by
    have := h x hx
    simp only [decide_eq_true_eq]
    omega
  simp [sumR, radAt, this]
theorem run_tidy : ∀ {ws acc : List Wh}, rising (acc ++ ws) → okW ws → runT insS acc ws = some (acc ++ ws)
  | [], acc, _, _ => by simp [runT]
  | w :: ws, acc, hr, ho => by
    have hl : ∀ x ∈ acc, x.s < w.s := fun x hx => (List.pairwise_append.1 hr).2.2 x hx w (by simp)
    unfold runT
    rw [sumR_end hl, if_pos (ho w (by simp)), insS_end hl, run_tidy (by simpa using hr) fun x hx => ho x (by simp [hx])]
    simp
theorem dValid_ok {L : List Wh} (h : dValid L = true) : okW L := fun w hw => by
  rw [dValid, Bool.and_eq_true, List.all_eq_true] at h
  have := h.2 w hw
  rw [Bool.and_eq_true] at this
  exact this.2
theorem tidyS_self {T : List Wh} (h : isTidy T) : tidyS T = some T := by
  have hz : nonZ T = T := List.filter_eq_self.2 fun w hw => by simpa using h.2.1 w hw
  unfold tidyS
  rw [run_tidy (acc := []) (by simpa using h.1) (dValid_ok h.2.2)]
  simp only [List.nil_append]
  rw [hz, if_pos h.2.2]
theorem okT_self {T : List Wh} (h : isTidy T) : okT T = true := by rw [okT, tidyS_self h]; rfl
theorem tidyL_self {T : List Wh} (h : isTidy T) : tidyL T = T := by rw [tidyL, tidyS_self h]; rfl

def stZ (a : Nat → Int) : Nat → Int
  | 0 => - a 7
  | 4 => a 3 + a 7
  | k + 1 => a k
def tnZ (a : Nat → Int) : Nat → Nat → Int
  | 0 => a
  | n + 1 => stZ (tnZ a n)
theorem stZ_add (f g : Nat → Int) : stZ (fun k => f k + g k) = fun k => stZ f k + stZ g k := by
  funext k
  unfold stZ
  split
  · show -(f 7 + g 7) = -f 7 + -g 7
    omega
  · show f 3 + g 3 + (f 7 + g 7) = f 3 + f 7 + (g 3 + g 7)
    omega
  · rfl
theorem tnZ_add (f g : Nat → Int) : ∀ n, tnZ (fun k => f k + g k) n = fun k => tnZ f n k + tnZ g n k
  | 0 => rfl
  | n + 1 => by
    show stZ (tnZ (fun k => f k + g k) n) = _
    rw [tnZ_add f g n, stZ_add]
    rfl
def tnI (f : Nat → Int) (n : Int) : Nat → Int := tnZ f (n % 24).toNat
theorem tnI_add (f g : Nat → Int) (n : Int) : tnI (fun k => f k + g k) n = fun k => tnI f n k + tnI g n k := tnZ_add f g _
theorem tnZ_inv {B : Int} {f : Nat → Int} (h : bd8 B f) : ∀ n, (∀ k, k < 4 → (-(2 * B) ≤ tnZ f n k ∧ tnZ f n k ≤ 2 * B) ∧ (-(2 * B) ≤ tnZ f n (k + 4) ∧ tnZ f n (k + 4) ≤ 2 * B) ∧ (-(2 * B) ≤ tnZ f n k + tnZ f n (k + 4) ∧ tnZ f n k + tnZ f n (k + 4) ≤ 2 * B))
  | 0 => fun k hk => by
    have h1 := h k (by omega)
    have h2 := h (k + 4) (by omega)
    show (-(2 * B) ≤ f k ∧ f k ≤ 2 * B) ∧ (-(2 * B) ≤ f (k + 4) ∧ f (k + 4) ≤ 2 * B) ∧ (-(2 * B) ≤ f k + f (k + 4) ∧ f k + f (k + 4) ≤ 2 * B)
    omega
  | n + 1 => fun k hk => by
    have ih := tnZ_inv h n
    have i0 := ih 0 (by omega)
    have i1 := ih 1 (by omega)
    have i2 := ih 2 (by omega)
    have i3 := ih 3 (by omega)
    have s0 : tnZ f (n + 1) 0 = - tnZ f n 7 := rfl
    have s1 : tnZ f (n + 1) 1 = tnZ f n 0 := rfl
    have s2 : tnZ f (n + 1) 2 = tnZ f n 1 := rfl
    have s3 : tnZ f (n + 1) 3 = tnZ f n 2 := rfl
    have s4 : tnZ f (n + 1) 4 = tnZ f n 3 + tnZ f n 7 := rfl
    have s5 : tnZ f (n + 1) 5 = tnZ f n 4 := rfl
    have s6 : tnZ f (n + 1) 6 = tnZ f n 5 := rfl
    have s7 : tnZ f (n + 1) 7 = tnZ f n 6 := rfl
    simp only [Nat.zero_add, Nat.reduceAdd] at i0 i1 i2 i3
    rcases (by omega : k = 0 ∨ k = 1 ∨ k = 2 ∨ k = 3) with rfl | rfl | rfl | rfl
    · simp only [Nat.zero_add]
      rw [s0, s4]
      omega
    · simp only [Nat.reduceAdd]
      rw [s1, s5]
      exact i0
    · simp only [Nat.reduceAdd]
      rw [s2, s6]
      exact i1
    · simp only [Nat.reduceAdd]
      rw [s3, s7]
      exact i2
theorem tnZ_bd {B : Int} {f : Nat → Int} (h : bd8 B f) (n : Nat) : bd8 (2 * B) (tnZ f n) := fun k hk => by
  by_cases h4 : k < 4
  · exact (tnZ_inv h n k h4).1
  · have := (tnZ_inv h n (k - 4) (by omega)).2.1
    rwa [show k - 4 + 4 = k by omega] at this
theorem turnedF_Z {B : Int} {f : Nat → Int} (h : bd8 B f) (hB : 2 * B ≤ 9000000000000000000) : ∀ (n k : Nat), k < 8 → turnedF f n k = tnZ f n k
  | 0, _, _ => rfl
  | n + 1, k, hk => by
    have ih := turnedF_Z h hB n
    have hb := tnZ_bd h (n + 1)
    have hb0 := hb 0 (by omega)
    have hb4 := hb 4 (by omega)
    have s0 : tnZ f (n + 1) 0 = - tnZ f n 7 := rfl
    have s4 : tnZ f (n + 1) 4 = tnZ f n 3 + tnZ f n 7 := rfl
    revert k hk
    refine forall8 ?_ ?_ ?_ ?_ ?_ ?_ ?_ ?_
    · show W (0 - turnedF f n 7) = - tnZ f n 7
      rw [ih 7 (by omega), w64_in (by omega) (by omega)]
      omega
    · exact ih 0 (by omega)
    · exact ih 1 (by omega)
    · exact ih 2 (by omega)
    · show W (turnedF f n 3 + turnedF f n 7) = tnZ f n 3 + tnZ f n 7
      rw [ih 3 (by omega), ih 7 (by omega), w64_in (by omega) (by omega)]
    · exact ih 4 (by omega)
    · exact ih 5 (by omega)
    · exact ih 6 (by omega)
end Go.Proofs.YtfpebhlkikmgbaaGreatDoor

/- impl.at and the program's DesignAt: the reference's word. Conditions: a list of wheels. -/
namespace Go.Proofs.YtfpebhlkikmgbaaGreatDoor
open Go.RowKit
set_option maxRecDepth 100000

def gmAI (tu : (Nat → Int) → Int → Nat → Int) (ad : (Nat → Int) → (Nat → Int) → Nat → Int) : Gam := ext (ext g0 50 (specR [.val, .val] (FtuI tu))) 36 (specV (fAdd2 ad))
abbrev lvAI : Ex → List Nat := lv3 [1, 4, 5, 8, 9, 10] [4, 5] [4]
abbrev stAI (m : Nat) (n : Int) (i : Nat) : List AV := [.v (i64 n), .ptr 1 0 0 0, .ptr 2 0 0 0, .sl 0 9 0 0 m none, .v (i64 m), .v (i64 i)]
theorem rndAI_h (tu : (Nat → Int) → Int → Nat → Int) (ad : (Nat → Int) → (Nat → Int) → Nat → Int) (m : Nat) (f : Nat → Nat → Int) (t : TypeId) (n : Int) (a : Nat → Int) (i : Nat) (u2 : _) (hu2 : (AV.v (.int .i64 0)) = u2) (u4 : _) (hu4 : (0 : Nat) = u4) (u5 : _) (hu5 : (AB.cells [u2, u2, u2, u2, u2, u2, u2, u2] 33) = u5) (u1 : _) (hu1 : (u4 + Int.toNat (↑i : Int)) = u1) (u3 : _) (hu3 : (v8 (f u1 (1 : Nat)) (f u1 (2 : Nat)) (f u1 (3 : Nat)) (f u1 (4 : Nat)) (f u1 (5 : Nat)) (f u1 (6 : Nat)) (f u1 (7 : Nat)) (f u1 (8 : Nat))) = u3) (u0 : _) (hu0 : (w8 (tu u3 (IntKind.wrap .i64 (n * f u1 u4)))) = u0) : execC Tryz.prog (gmAI tu ad) 100 noLam (loopAt 0 Tryz.f27) (mkT 0 25 ((lvAI .normal).zip (stAI m n i))) (hpAt m f t a) (leafV 25 lvAI 1)
    = bif decide ((↑i : Int) < (m : Int)) then needs [decide ((↑i : Int) < (m : Int)), decide (u4 + Int.toNat (↑i : Int) < m), inB u3, inR (IntKind.wrap .i64 (n * f u1 u4)) (-9223372036854775808 : Int) (9223372036854775807 : Int)] (Res.out .normal [AV.v (.int .i64 n), AV.ptr (1 : Nat) u4 u4 u4, AV.ptr (2 : Nat) u4 u4 u4, AV.sl u4 (9 : Nat) u4 u4 m none, AV.v (.int .i64 (m : Int)), AV.v (.int .i64 (IntKind.wrap .i64 ((↑i : Int) + (1 : Int))))] [AB.row false m 9 (row9 f) t, u5, AB.cells [AV.v (.int .i64 (ad (w8 a) u0 u4)), AV.v (.int .i64 (ad (w8 a) u0 (1 : Nat))), AV.v (.int .i64 (ad (w8 a) u0 (2 : Nat))), AV.v (.int .i64 (ad (w8 a) u0 (3 : Nat))), AV.v (.int .i64 (ad (w8 a) u0 (4 : Nat))), AV.v (.int .i64 (ad (w8 a) u0 (5 : Nat))), AV.v (.int .i64 (ad (w8 a) u0 (6 : Nat))), AV.v (.int .i64 (ad (w8 a) u0 (7 : Nat)))] 33]) else Res.out (Ex.exit u4) [AV.ptr (1 : Nat) u4 u4 u4, AV.ptr (2 : Nat) u4 u4 u4] [AB.row false m 9 (row9 f) t, u5, AB.cells [AV.v (.int .i64 (a u4)), AV.v (.int .i64 (a (1 : Nat))), AV.v (.int .i64 (a (2 : Nat))), AV.v (.int .i64 (a (3 : Nat))), AV.v (.int .i64 (a (4 : Nat))), AV.v (.int .i64 (a (5 : Nat))), AV.v (.int .i64 (a (6 : Nat))), AV.v (.int .i64 (a (7 : Nat)))] 33] := by
  subst hu0 hu3 hu1 hu5 hu4 hu2
  kernel_rfl
theorem rndAI (tu : (Nat → Int) → Int → Nat → Int) (ad : (Nat → Int) → (Nat → Int) → Nat → Int) (m : Nat) (f : Nat → Nat → Int) (t : TypeId) (n : Int) (a : Nat → Int) (i : Nat) : type_of% (rndAI_h tu ad m f t n a i _ rfl _ rfl _ rfl _ rfl _ rfl _ rfl) := rndAI_h tu ad m f t n a i _ rfl _ rfl _ rfl _ rfl _ rfl _ rfl

noncomputable abbrev lamAI (m : Nat) (f : Nat → Nat → Int) (t : TypeId) (n : Int) (b : Nat → Int) : Nat → Option Sum := oneL 0 (atS 25 (lvAI .normal) 1 (stAI m n 0) (hpAt m f t fun _ => 0) (fun K => K .normal (mkT 0 25 [(4, .ptr 1 0 0 0), (5, .ptr 2 0 0 0)]) (hpAt m f t b)))
theorem treeAI_h (m : Nat) (f : Nat → Nat → Int) (t : TypeId) (n : Int) (b : Nat → Int) (u0 : _) (hu0 : (AV.v (.int .i64 0)) = u0) (u1 : _) (hu1 : (0 : Nat) = u1) (u2 : _) (hu2 : (AB.cells [u0, u0, u0, u0, u0, u0, u0, u0] (33 : Nat)) = u2) : execF Tryz.prog g0 (lamAI m f t n b) 100 Tryz.f27 [.sl 0 9 0 0 m none, .v (i64 n)] [.row false m 9 (row9 f) t] (packK 1)
    = needs [chk ([AV.v (.int .i64 n), AV.ptr (1 : Nat) u1 u1 u1, AV.ptr (2 : Nat) u1 u1 u1, AV.sl u1 (9 : Nat) u1 u1 m none, AV.v (.int .i64 (m : Int)), u0] = stAI m n u1 ∧ Hsim [AB.row false m 9 (row9 f) t, u2, u2] (hpAt m f t fun _ ↦ (0 : Int)))] (Res.out .ret [AV.agg [AV.v (.int .i64 (b u1)), AV.v (.int .i64 (b (1 : Nat))), AV.v (.int .i64 (b (2 : Nat))), AV.v (.int .i64 (b (3 : Nat))), AV.v (.int .i64 (b (4 : Nat))), AV.v (.int .i64 (b (5 : Nat))), AV.v (.int .i64 (b (6 : Nat))), AV.v (.int .i64 (b (7 : Nat)))]] [AB.row false m 9 (row9 f) t]) := by
  subst hu2 hu1 hu0
  kernel_rfl
theorem treeAI (m : Nat) (f : Nat → Nat → Int) (t : TypeId) (n : Int) (b : Nat → Int) : type_of% (treeAI_h m f t n b _ rfl _ rfl _ rfl) := treeAI_h m f t n b _ rfl _ rfl _ rfl

def FatI (at_ : (Nat → Nat → Int) → Int → Nat → Nat → Int) (okd : List Wh → Bool) : List SA → Option FR
  | [.row m g, .v (.int .i64 n)] => some { val := .agg (cyC (at_ (itW g) n m)), obl := [allW m g, decide (m ≤ 2 ^ 38), okd (listW (itW g) m)] }
  | _ => none
def gmDI (at_ : (Nat → Nat → Int) → Int → Nat → Nat → Int) (okd : List Wh → Bool) (ok : (Nat → Int) → Bool) : Gam := ext (ext (ext gm_within 27 (specR md_wv (FatI at_ okd))) 25 (specR md_ws (FdvO okd))) 37 (specV (fOkc ok))
theorem treeDI_h (at_ : (Nat → Nat → Int) → Int → Nat → Nat → Int) (okd : List Wh → Bool) (ok : (Nat → Int) → Bool) (m : Nat) (f : Nat → Nat → Int) (t : TypeId) (n : Int) (u0 : _) (hu0 : (AV.v (.int .i64 0)) = u0) (u1 : _) (hu1 : (itW fun q ↦ row9 f ((0 : Nat) + q)) = u1) (u2 : _) (hu2 : [AV.tup [AV.agg [u0, u0, u0, u0, u0, u0, u0, u0], AV.v (.bool false)]] = u2) (u3 : _) (hu3 : [AB.row false m 9 (row9 f) t] = u3) : execF Tryz.prog (gmDI at_ okd ok) noLam 100 Tryz.f9 [.sl 0 9 0 0 m none, .v (i64 n)] [.row false m 9 (row9 f) t] (packK 1)
    = needs [Nat.ble ((0 : Nat) + m) m, allW m fun q ↦ row9 f ((0 : Nat) + q), decide (m ≤ (549755813888 : Nat))] (bif !okd (listW u1 m) then Res.out .ret u2 u3 else bif !inR n (0 : Int) (23 : Int) then Res.out .ret u2 u3 else needs [Nat.ble ((0 : Nat) + m) m, allW m fun q ↦ row9 f ((0 : Nat) + q), decide (m ≤ (274877906944 : Nat)), okd (listW u1 m)] (bif !ok (w8 (at_ u1 n m)) then Res.out .ret u2 u3 else Res.out .ret [AV.tup [AV.agg [AV.v (.int .i64 (at_ u1 n m (0 : Nat))), AV.v (.int .i64 (at_ u1 n m (1 : Nat))), AV.v (.int .i64 (at_ u1 n m (2 : Nat))), AV.v (.int .i64 (at_ u1 n m (3 : Nat))), AV.v (.int .i64 (at_ u1 n m (4 : Nat))), AV.v (.int .i64 (at_ u1 n m (5 : Nat))), AV.v (.int .i64 (at_ u1 n m (6 : Nat))), AV.v (.int .i64 (at_ u1 n m (7 : Nat)))], AV.v (.bool true)]] u3)) := by
  subst hu3 hu2 hu1 hu0
  kernel_rfl
theorem treeDI (at_ : (Nat → Nat → Int) → Int → Nat → Nat → Int) (okd : List Wh → Bool) (ok : (Nat → Int) → Bool) (m : Nat) (f : Nat → Nat → Int) (t : TypeId) (n : Int) : type_of% (treeDI_h at_ okd ok m f t n _ rfl _ rfl _ rfl _ rfl) := treeDI_h at_ okd ok m f t n _ rfl _ rfl _ rfl _ rfl

def FDAo (dv : (Nat → Nat → Int) → Int → Nat → Nat → Int) (dk : (Nat → Nat → Int) → Int → Nat → Bool) : List SA → Option FR
  | [.row m g, .v (.int .i64 n)] => some { val := .tup [.agg (cyC (dv (itW g) n m)), .v (.bool (dk (itW g) n m))], obl := [allW m g, decide (m ≤ 2 ^ 38)] }
  | _ => none
theorem gmAI_ok : GamOk Tryz.prog (gmAI tuF plusF) := by
  unfold gmAI
  rw [fAdd2_eq]
  exact ext_ok (ext_ok g0_ok ok_tuI) ok_plus
theorem atF_next (f : Nat → Nat → Int) (n : Int) (i : Nat) : atF f n (i + 1) = plusF (atF f n i) (tuF (v8 (f i 1) (f i 2) (f i 3) (f i 4) (f i 5) (f i 6) (f i 7) (f i 8)) (IntKind.wrap IntKind.i64 (n * f i 0))) := by
  funext k
  show W (atF f n i k + 1 * _) = W (atF f n i k + _)
  rw [Int.one_mul]
theorem sumAI (m : Nat) (f : Nat → Nat → Int) (t : TypeId) (n : Int) (hm : m ≤ 2 ^ 40) (hok : ∀ w ∈ listW f m, inB w.r.f = true) :
    SumOk Tryz.prog 1 (.block 0 (.loop (loopAt 0 Tryz.f27))) (atS 25 (lvAI .normal) 1 (stAI m n 0) (hpAt m f t fun _ => 0) (fun K => K .normal (mkT 0 25 [(4, .ptr 1 0 0 0), (5, .ptr 2 0 0 0)]) (hpAt m f t (atF f n m)))) := by
  refine for_at gmAI_ok (n := 100) (m := 1) (lv := lvAI) (fun i => stAI m n i) (fun i => hpAt m f t (atF f n i)) (fun _ => True) m (fun _ => noLam) (lv3_ris rfl rfl rfl) (Nat.le_refl _) trivial fun K Q hk i hi him => ⟨noLam_ok _ _ _, ?_⟩
  rw [rndAI]
  refine good_cond (fun c1 => ?_) fun c1 => ?_
  · have c1 := of_decide_eq_true c1
    have c1' : i < m := by omega
    rw [Int.toNat_natCast, Nat.zero_add, wr_in (x := (i : Int) + 1) (by omega)]
    refine good_needs ?_ (good_out ⟨i + 1, ⟨rfl, c1', trivial⟩, rfl, ?_⟩)
    · simp only [ob_cons, ob_nil, and_true, decide_eq_true_eq]
      exact ⟨by omega, by omega, hok _ (List.mem_of_getElem? (listW_get f c1')), inR_iff.2 (w64_range _)⟩
    · show Hsim _ (hpAt m f t (atF f n (i + 1)))
      rw [atF_next]
      exact Hsim.refl _
  · have c1 := of_decide_eq_false c1
    have : i = m := by omega
    subst this
    refine good_out ⟨_, Hsim.refl _, ?_⟩
    rw [if_pos rfl]
    exact hk
theorem ok_atI : SpecOk Tryz.prog 27 (specR md_wv (FatI atF okD)) := by
  refine specR_hr g0_ok Tryz.func27 rfl fun sas fr hF ho => ?_
  unfold FatI at hF
  split at hF
  · rename_i m g n
    cases hF
    simp only [ob_cons] at ho
    obtain ⟨h1, h2, h3, _⟩ := ho
    have hm := of_decide_eq_true h2
    refine ⟨[.row false m 9 (row9 (itW g)) 53], lamAI m (itW g) 53 n (atF (itW g) n m), 100, .cons (ABeq.row fun j hj => allW_get h1 j hj) .nil, lam1 (by kernel_rfl) (sumAI m (itW g) 53 n (by omega) fun w hw => valid_inB h3 hw), ?_⟩
    show GoodQ (execF Tryz.prog g0 (lamAI m (itW g) 53 n (atF (itW g) n m)) 100 Tryz.f27 [.sl 0 9 0 0 m none, .v (i64 n)] [.row false m 9 (row9 (itW g)) 53] (packK 1)) _
    rw [treeAI]
    exact good_needs (by rw [ob_cons]; exact ⟨chk_of ⟨rfl, Hsim.refl _⟩, rfl⟩) (good_out ⟨_, rfl, rfl, .cons (ABeq.row fun j hj => (allW_get h1 j hj).symm) .nil⟩)
  · cases hF
theorem gmDI_ok : GamOk Tryz.prog (gmDI atF okD (fun v => cyOk (cyOf v))) := by
  unfold gmDI
  rw [fOkc_eq, FdvO_eq]
  exact ext_ok (ext_ok (ext_ok gm_within_ok ok_atI) ok_dvI) ok_cvI
theorem ok_DAI : SpecOk Tryz.prog 9 (specR md_wv (FDAo daV daOk)) := by
  refine specR_hr gmDI_ok Tryz.func9 rfl fun sas fr hF ho => ?_
  unfold FDAo at hF
  split at hF
  · rename_i m g n
    cases hF
    simp only [ob_cons] at ho
    obtain ⟨h1, h2, _⟩ := ho
    have hm := of_decide_eq_true h2
    refine ⟨[.row false m 9 (row9 (itW g)) 53], noLam, 100, .cons (ABeq.row fun j hj => allW_get h1 j hj) .nil, noLam' _, ?_⟩
    show GoodQ (execF Tryz.prog (gmDI atF okD (fun v => cyOk (cyOf v))) noLam 100 Tryz.f9 [.sl 0 9 0 0 m none, .v (i64 n)] [.row false m 9 (row9 (itW g)) 53] (packK 1)) _
    rw [treeDI, row0, listW_itW, atF_row]
    have fin : ∀ (c : Bool) (b : Nat → Int), daOk (itW g) n m = c → cyC b = cyC (bif c then atF (itW g) n m else fun _ => 0) → GoodQ (.out .ret [.tup [.agg (cyC b), .v (.bool c)]] [.row false m 9 (row9 (itW g)) 53])
        (GivR (abP md_wv [.row m g, .v (.int .i64 n)] []) { val := .tup [.agg (cyC (daV (itW g) n m)), .v (.bool (daOk (itW g) n m))], obl := [allW m g, decide (m ≤ 2 ^ 38)] }) := by
      rintro c b rfl hb
      refine good_out ⟨_, rfl, ?_, .cons (ABeq.row fun j hj => (allW_get h1 j hj).symm) .nil⟩
      rw [hb]
      rfl
    refine good_needs (by simp only [ob_cons, ob_nil, and_true, decide_eq_true_eq, Nat.ble_eq, allW_row, true_and]; omega) (good_cond (fun q => ?_) fun q => ?_)
    · have q' : (!okD (listW (itW g) m)) = true := q
      have q2 : okD (listW (itW g) m) = false := by simpa using q'
      exact fin false (fun _ => 0) (by unfold daOk; rw [q2]; rfl) rfl
    · have q' : (!okD (listW (itW g) m)) = false := q
      have qd : okD (listW (itW g) m) = true := by simpa using q'
      refine good_cond (fun q2 => ?_) fun q2 => ?_
      · have q2 : inR n 0 23 = false := by simpa using q2
        exact fin false (fun _ => 0) (by unfold daOk; rw [qd, q2]; rfl) rfl
      · have q2 : inR n 0 23 = true := by simpa using q2
        refine good_needs (by simp only [ob_cons, ob_nil, and_true, decide_eq_true_eq, Nat.ble_eq, allW_row, true_and]; exact ⟨by omega, hm, qd⟩) (good_cond (fun q3 => ?_) fun q3 => ?_)
        · have q3' : (!cyOk (cyOf (atF (itW g) n m))) = true := q3
          have q4 : cyOk (cyOf (atF (itW g) n m)) = false := by simpa using q3'
          exact fin false (fun _ => 0) (by unfold daOk; rw [qd, q2, q4]; rfl) rfl
        · have q3' : (!cyOk (cyOf (atF (itW g) n m))) = false := q3
          have q4 : cyOk (cyOf (atF (itW g) n m)) = true := by simpa using q3'
          exact fin true (atF (itW g) n m) (by unfold daOk; rw [qd, q2, q4]; rfl) rfl
  · cases hF

end Go.Proofs.YtfpebhlkikmgbaaGreatDoor

/- The point of a design at a turn, in whole numbers. No program, no conditions. -/
namespace Go.Proofs.YtfpebhlkikmgbaaGreatDoor
open Go.RowKit

def atT (t : Int) (k : Nat) : Int → (Nat → Int) → Int := fun s f => tnI f (t * s) k
theorem atT_lin (t : Int) (k : Nat) : Lin (atT t k) := fun s f g => by
  unfold atT
  rw [tnI_add]
def dAt (L : List Wh) (t : Int) (k : Nat) : Int := linS (atT t k) L
theorem okD_all {L : List Wh} (h : okD L = true) {w : Wh} (hw : w ∈ L) : (-1000 ≤ w.s ∧ w.s ≤ 1000) ∧ bd8 1000000 w.r.f ∧ cyOk w.r = true := by
  rw [okD, Bool.and_eq_true, List.all_eq_true] at h
  have := h.2 w hw
  rw [Bool.and_eq_true] at this
  exact ⟨inR_iff.1 this.1, cyOk_bd this.2, this.2⟩
theorem okD_bd {L : List Wh} (h : okD L = true) : bdW 1000000 L := fun _ hw => (okD_all h hw).2.1
theorem tnI_bd {B : Int} {f : Nat → Int} (h : bd8 B f) (n : Int) : bd8 (2 * B) (tnI f n) := tnZ_bd h _
theorem atF_exact {f : Nat → Nat → Int} {m : Nat} {n : Int} (hd : okD (listW f m) = true) (h0 : 0 ≤ n) (h1 : n ≤ 23) : ∀ i, i ≤ m → ∀ k, k < 8 → atF f n i k = dAt (listW f i) n k ∧ -(2000000 * (i : Int)) ≤ dAt (listW f i) n k ∧ dAt (listW f i) n k ≤ 2000000 * (i : Int)
  | 0, _, k, _ => by
    refine ⟨rfl, ?_⟩
    show -(2000000 * ((0 : Nat) : Int)) ≤ 0 ∧ 0 ≤ 2000000 * ((0 : Nat) : Int)
    omega
  | i + 1, hi, k, hk => by
    have ih := atF_exact hd h0 h1 i (by omega) k hk
    have hmem : whOf (f i) ∈ listW f m := List.mem_of_getElem? (listW_get f (by omega))
    obtain ⟨hs, hb, _⟩ := okD_all hd hmem
    have hlen := okD_len hd
    rw [listW_length] at hlen
    have hs' : -1000 ≤ f i 0 ∧ f i 0 ≤ 1000 := hs
    have hmul := mul_bd (x := n) (y := f i 0) (A := 23) (B := 1000) (by omega) h1 hs'.1 hs'.2
    have e : atF f n (i + 1) k = W (atF f n i k + 1 * turnedF (whOf (f i)).r.f ((IntKind.wrap IntKind.i64 (n * f i 0)) % 24).toNat k) := rfl
    have e2 : IntKind.wrap IntKind.i64 (n * f i 0) = n * f i 0 := wr_in (by omega)
    have hb2 := tnI_bd hb (n * f i 0) k hk
    have e3 : dAt (listW f (i + 1)) n k = dAt (listW f i) n k + tnI (whOf (f i)).r.f (n * f i 0) k := by
      rw [dAt, listW_succ, linS_append]
      show _ + (tnI (whOf (f i)).r.f (n * f i 0) k + 0) = _
      rw [Int.add_zero]
      rfl
    rw [e, e2, turnedF_Z hb (by omega) _ k hk, e3, ih.1]
    show W (dAt (listW f i) n k + 1 * tnI (whOf (f i)).r.f (n * f i 0) k) = _ ∧ _
    rw [Int.one_mul, w64_in (by omega) (by omega)]
    refine ⟨rfl, ?_⟩
    omega
theorem tidy_okD {T : List Wh} (h : isTidy T) : okD T = true := h.2.2
end Go.Proofs.YtfpebhlkikmgbaaGreatDoor

/- l91Cyc: its trees. Conditions: those of pick. -/
namespace Go.Proofs.YtfpebhlkikmgbaaGreatDoor
open Go.RowKit
set_option maxRecDepth 100000

end Go.Proofs.YtfpebhlkikmgbaaGreatDoor

/- The abstract machine, 28: loops whose table of callees goes by the round. Conditions: those of the tables. -/
namespace Go.Proofs.YtfpebhlkikmgbaaGreatDoor
open Go.RowKit

end Go.Proofs.YtfpebhlkikmgbaaGreatDoor

/- l91Cyc: an exact point, whatever the bytes are. Conditions: those of pick. -/
namespace Go.Proofs.YtfpebhlkikmgbaaGreatDoor
open Go.RowKit
set_option maxRecDepth 100000

theorem okB_it {m : Nat} {g : Nat → List Value} (h : okB m g = true) : okB m (rowB (itB g)) = true := List.all_eq_true.2 fun j hj => by
  have := List.all_eq_true.1 h j hj
  rwa [(okB_get h (by simpa using hj)).1] at this
end Go.Proofs.YtfpebhlkikmgbaaGreatDoor

/- l91Turn and l91Design: their trees. Conditions: those of pick. -/
namespace Go.Proofs.YtfpebhlkikmgbaaGreatDoor
open Go.RowKit
set_option maxRecDepth 100000

def gmPk (pk : Nat → (Nat → Int) → Int → Int → Int) : Gam := ext g0 14 (specK [] (FpkO pk))
end Go.Proofs.YtfpebhlkikmgbaaGreatDoor

/- l91Turn and l91Design: a number and a list of wheels, whatever the bytes are. Conditions: those of pick. -/
namespace Go.Proofs.YtfpebhlkikmgbaaGreatDoor
open Go.RowKit
set_option maxRecDepth 100000

end Go.Proofs.YtfpebhlkikmgbaaGreatDoor

/- What is drawn from bytes: the word of a drawing function. Conditions: bytes, at most 2^21. -/
namespace Go.Proofs.YtfpebhlkikmgbaaGreatDoor
open Go.RowKit
set_option maxRecDepth 100000

def md_co : List Md := [.rd 1 5]
def FdrO (R : Nat → (Nat → Int) → FR) : List SA → Option FR
  | [.row m g] => some { val := (R m (itB g)).val, new := (R m (itB g)).new, obl := [okB m g, decide (m ≤ 2 ^ 21)] }
  | _ => none
theorem draw_ok {f : FuncId} {fn : Func} {R : Nat → (Nat → Int) → FR} (hf : Tryz.prog.funcs[f]? = some fn) (hb : fn.body.isSome = true)
    (h1 : ∀ (m : Nat) (b : Nat → Int), 0 < m → m ≤ 2 ^ 21 → okB m (rowB b) = true → ∃ Γ, GamOk Tryz.prog Γ ∧ GoodQ (execF Tryz.prog Γ noLam 100 fn [.sl 0 1 0 0 m none] [.row false m 1 (rowB b) 5] (packK 1)) (GivR [.row false m 1 (rowB b) 5] (R m b)))
    (h0 : ∀ (q : Option Addr) (c : Nat) (g : Nat → List Value) (b : Nat → Int), ∃ Γ, GamOk Tryz.prog Γ ∧ GoodQ (execF Tryz.prog Γ noLam 100 fn [.v (.slice q 0 c)] [.row false 0 1 g 5] (packK 1)) (GivR [.row false 0 1 g 5] (R 0 b))) : SpecOk Tryz.prog f (specR md_co (FdrO R)) := by
  refine specR_calls enters hf hb fun sas fr hF ho => ?_
  unfold FdrO at hF
  split at hF
  · rename_i m g
    cases hF
    simp only [ob_cons, decide_eq_true_eq] at ho
    obtain ⟨e1, e2, _⟩ := ho
    by_cases hm : m = 0
    · subst hm
      refine ⟨[.row false 0 1 g 5], Hsim.refl _, fun M vals w ν hM hv hH hdom => ?_⟩
      have hv0 : VRs ν [.sl 0 1 0 0 0 none] vals := hv
      cases vals with
      | nil => simp only [VRs] at hv0
      | cons v vs =>
        cases vs with
        | cons => simp only [VRs] at hv0; exact hv0.2.elim
        | nil =>
          simp only [VRs, VR] at hv0
          obtain ⟨⟨q, c, rfl, _⟩, _⟩ := hv0
          obtain ⟨Γ, g1, g2⟩ := h0 q c g (itB g)
          have hv2 : VRs ν [.v (.slice q 0 c)] [.slice q 0 c] := by simp only [VRs, VR]; exact ⟨trivial, trivial⟩
          exact calls_pack g1 mixed enters hf (noLam' _) hM g2.out hv2 hH hdom
    · obtain ⟨Γ, g1, g2⟩ := h1 m (itB g) (by omega) e2 (okB_it e1)
      refine ⟨[.row false m 1 (rowB (itB g)) 5], .cons (ABeq.row fun j hj => (okB_get e1 hj).1) .nil, fun M vals w ν hM hv hH hdom => ?_⟩
      have g3 : GoodQ (execF Tryz.prog Γ noLam 100 fn [.sl 0 1 0 0 m none] [.row false m 1 (rowB (itB g)) 5] (packK 1)) (GivR (abP md_co [.row m g] []) { val := (R m (itB g)).val, new := (R m (itB g)).new, obl := [okB m g, decide (m ≤ 2 ^ 21)] }) :=
        ⟨res_mono (fun e vs He ⟨av, q1, q2, q3⟩ => ⟨av, q1, q2, q3.trans' (.cons (ABeq.row fun j hj => (okB_get e1 hj).1.symm) (Hsim.refl _))⟩) g2.out⟩
      exact calls_pack g1 mixed enters hf (noLam' _) hM g3.out hv hH hdom
  · cases hF

def lnB (m : Nat) : Nat := if 2000 < m then 2000 else m
end Go.Proofs.YtfpebhlkikmgbaaGreatDoor

/- What is drawn: lists of wheels, and numbers. No conditions. -/
namespace Go.Proofs.YtfpebhlkikmgbaaGreatDoor
open Go.RowKit
set_option maxRecDepth 100000

theorem ln_cut {m : Nat} (h : (m : Int) > 2000) : lnB m = 2000 := by unfold lnB; rw [if_pos (by omega)]
theorem ln_all {m : Nat} (h : ¬ (m : Int) > 2000) : lnB m = m := by unfold lnB; rw [if_neg (by omega)]
theorem good_ln {m : Nat} {Q : Ex → List AV → List AB → Prop} {ob1 ob2 : List Bool} {r1 r2 : Res}
    (h1 : lnB m = 2000 → (m : Int) > 2000 → obls ob1 = true ∧ GoodQ r1 Q) (h2 : lnB m = m → (m : Int) ≤ 2000 → obls ob2 = true ∧ GoodQ r2 Q) : GoodQ (bif decide ((m : Int) > 2000) then needs ob1 r1 else needs ob2 r2) Q := by
  refine good_cond (fun c => ?_) fun c => ?_
  · have c := of_decide_eq_true c
    exact good_needs (h1 (ln_cut c) c).1 (h1 (ln_cut c) c).2
  · have c := of_decide_eq_false c
    exact good_needs (h2 (ln_all c) (by omega)).1 (h2 (ln_all c) (by omega)).2

end Go.Proofs.YtfpebhlkikmgbaaGreatDoor

/- Helpers of the laws that draw. No conditions. -/
namespace Go.Proofs.YtfpebhlkikmgbaaGreatDoor
open Go.RowKit
set_option maxRecDepth 100000

theorem listW_me (L : List Wh) : listW (itW (row9 (wfun L))) L.length = L := listW_self L _ rfl
theorem eq8b {f g : Nat → Int} (h : ∀ k, k < 8 → f k = g k) : (f 0 == g 0 && (f 1 == g 1 && (f 2 == g 2 && (f 3 == g 3 && (f 4 == g 4 && (f 5 == g 5 && (f 6 == g 6 && (f 7 == g 7 && true)))))))) = true := by
  rw [h 0 (by omega), h 1 (by omega), h 2 (by omega), h 3 (by omega), h 4 (by omega), h 5 (by omega), h 6 (by omega), h 7 (by omega)]
  simp only [beq_self_eq_true, Bool.and_self]
theorem b38 {n : Nat} (h : n ≤ 12) : decide (n ≤ 274877906944) = true := decide_eq_true (by omega)
theorem tI_spec {L : List Wh} (h : yI L = true) : okD L = true ∧ isTidy (tI L) ∧ ∀ φ, Lin φ → linS φ (tI L) = linS φ L := by
  have hT : tI L = tidyL L := by rw [tI, h]; rfl
  rw [yI, Bool.and_eq_true] at h
  rw [hT]
  exact ⟨h.1, tidyL_lin ((okD_bd h.1).mono (by omega)) h.2⟩
theorem eqL_me (L : List Wh) : eqL L L = true := decide_eq_true rfl
theorem isTidy_nil : isTidy [] := ⟨List.Pairwise.nil, fun w hw => by simp at hw, rfl⟩
theorem tI_tidy (L : List Wh) : isTidy (tI L) := by
  cases h : yI L with
  | true => exact (tI_spec h).2.1
  | false => rw [tI_no h]; exact isTidy_nil
theorem yI_self {T : List Wh} (h : isTidy T) : yI T = true := by
  rw [yI, tidy_okD h, okT_self h]
  rfl
theorem tI_self {T : List Wh} (h : isTidy T) : tI T = T := by
  rw [tI, yI_self h, cond_true, tidyL_self h]
end Go.Proofs.YtfpebhlkikmgbaaGreatDoor

/- DesignPeriod and DesignFold of both: their words. Conditions: a list of wheels. -/
namespace Go.Proofs.YtfpebhlkikmgbaaGreatDoor
open Go.RowKit
set_option maxRecDepth 100000

def pgF (h : Nat → Int) : Nat → Int
  | 0 => 0
  | i + 1 => gcdI (pgF h i) (h i)
theorem gcdI_zero (a : Int) : gcdI 0 a = a.natAbs := by
  unfold gcdI
  rw [show (0 : Int).natAbs = 0 from rfl, Nat.gcd_zero_left]
theorem pgF_in {h : Nat → Int} {k : Nat} (hh : ∀ i, i < k → -2000 ≤ h i ∧ h i ≤ 2000) : ∀ i, i ≤ k → 0 ≤ pgF h i ∧ pgF h i ≤ 2000
  | 0, _ => by show 0 ≤ (0 : Int) ∧ (0 : Int) ≤ 2000; omega
  | i + 1, hi => by
    have ih := pgF_in hh i (by omega)
    have hb := hh i (by omega)
    show 0 ≤ (Nat.gcd (pgF h i).natAbs (h i).natAbs : Int) ∧ (Nat.gcd (pgF h i).natAbs (h i).natAbs : Int) ≤ 2000
    refine ⟨by omega, ?_⟩
    by_cases h0 : (pgF h i).natAbs = 0
    · rw [h0, Nat.gcd_zero_left]
      omega
    · have := Nat.gcd_le_left (h i).natAbs (show 0 < (pgF h i).natAbs by omega)
      omega
theorem gmPr_ok : GamOk Tryz.prog (gmPr gcdI) := ext_ok (ext_ok g0_ok ok_gdI) ok_gdS
theorem gmPt_ok : GamOk Tryz.prog (gmPt yI tI) := ext_ok g0_ok ok_UTi
def spH (T : List Wh) : Nat → Int := fun i => wfun T i 0
def dfH (T : List Wh) : Nat → Int := fun i => IntKind.wrap IntKind.i64 (wfun T i 0 - wfun T 0 0)
theorem spH_at {T : List Wh} {i : Nat} (hi : i < T.length) : spH T i = T[i].s := by
  unfold spH
  rw [wfun_get hi]
  rfl
theorem tidy_sp {T : List Wh} (h : isTidy T) {i : Nat} (hi : i < T.length) : -1000 ≤ wfun T i 0 ∧ wfun T i 0 ≤ 1000 := by
  have e : wfun T i 0 = T[i].s := spH_at hi
  rw [e]
  exact (okD_all (tidy_okD h) (List.getElem_mem hi)).1
theorem dfH_in {T : List Wh} (hT : isTidy T) {i : Nat} (hi : i < T.length) : -2000 ≤ dfH T i ∧ dfH T i ≤ 2000 := by
  have h1 := tidy_sp hT hi
  have h0 := tidy_sp hT (i := 0) (by omega)
  unfold dfH
  rw [wr_in (by omega)]
  omega
theorem sumQI (m : Nat) (f : Nat → Nat → Int) (T : List Wh) (hT : isTidy T) :
    SumOk Tryz.prog 1 (.block 0 (.loop (loopAt 0 fQI))) (atS 32 (lvQI .normal) 1 (stQI T.length 0 0) (hpPI m f T.length (wfun T)) (fun K => K .normal (mkT 0 32 [(5, .v (i64 (pgF (dfH T) T.length)))]) (hpP1 m f))) := by
  refine for_at gmPr_ok (n := 100) (m := 1) (lv := lvQI) (fun i => stQI T.length (pgF (dfH T) i) i) (fun _ => hpPI m f T.length (wfun T)) (fun _ => True) T.length (fun _ => noLam) (lv3_ris rfl rfl rfl) (Nat.le_refl _) trivial fun K Q hk i _ hi => ⟨noLam_ok _ _ _, ?_⟩
  have hlen := okD_len (tidy_okD hT)
  rw [rndQI]
  refine good_cond (fun c1 => ?_) fun c1 => ?_
  · have c1 := of_decide_eq_true c1
    have c1' : i < T.length := by omega
    rw [show 0 + Int.toNat (i : Int) = i by omega, wr_in (x := (i : Int) + 1) (by omega)]
    have h1 := pgF_in (h := dfH T) (k := T.length) (fun j hj => dfH_in hT hj) i (by omega)
    have h2 : -2000 ≤ IntKind.wrap IntKind.i64 (wfun T i 0 - wfun T 0 0) ∧ IntKind.wrap IntKind.i64 (wfun T i 0 - wfun T 0 0) ≤ 2000 := dfH_in hT c1'
    refine good_needs (by simp only [ob_cons, ob_nil, and_true, decide_eq_true_eq]; exact ⟨by omega, by omega, by omega, by omega, inR_iff.2 (by omega), inR_iff.2 (by omega)⟩) (good_out ⟨i + 1, ⟨rfl, c1', trivial⟩, rfl, Hsim.refl _⟩)
  · have c1 := of_decide_eq_false c1
    have : i = T.length := by omega
    subst this
    refine good_out ⟨_, Hsim.refl _, ?_⟩
    rw [if_pos rfl]
    exact hk
theorem dfH_first {T : List Wh} : pgF (dfH T) 1 = 0 := by
  show gcdI 0 (dfH T 0) = 0
  rw [gcdI_zero]
  unfold dfH
  rw [Int.sub_self]
  rfl
def fldV (L : List Wh) : Int := bif yI L then pgF (dfH (tI L)) (tI L).length else -1
def FnmO (v : List Wh → Int) : List SA → Option FR
  | [.row m g] => some { val := .v (.int .i64 (v (listW (itW g) m))), obl := [allW m g, decide (m ≤ 2 ^ 38)] }
  | _ => none
theorem nm_fin {m : Nat} {g : Nat → List Value} {v : List Wh → Int} {x : Int} {ob : List Bool} {fn : Func} {Λ : Nat → Option Sum} (h1 : allW m g = true) (hm : m ≤ 2 ^ 38) {P : Prop} (c : P) (hob : P → obls ob = true) (h0 : yI (listW (itW g) m) = false → v (listW (itW g) m) = -1) (hx : yI (listW (itW g) m) = true → v (listW (itW g) m) = x)
    (ht : execF Tryz.prog (gmPt yI tI) Λ 100 fn [.sl 0 9 0 0 m none] (hpP1 m (itW g)) (packK 1) = needs [Nat.ble (0 + m) m, allW m fun q => row9 (itW g) (0 + q), decide (m ≤ 274877906944)] (bif !yI (listW (itW fun q => row9 (itW g) (0 + q)) m) then .out .ret [.v (i64 (-1))] [.row false m 9 (row9 (itW g)) 53] else needs ob (.out .ret [.v (i64 x)] [.row false m 9 (row9 (itW g)) 53]))) :
    GoodQ (execF Tryz.prog (gmPt yI tI) Λ 100 fn [.sl 0 9 0 0 m none] (hpP1 m (itW g)) (packK 1)) (GivR (abP md_ws [.row m g] []) { val := .v (.int .i64 (v (listW (itW g) m))), obl := [allW m g, decide (m ≤ 2 ^ 38)] }) := by
  rw [ht]
  simp only [row0, listW_itW]
  refine good_needs (by simp only [ob_cons, ob_nil, and_true, decide_eq_true_eq, Nat.ble_eq, allW_row, true_and]; omega) (good_cond (fun q => ?_) fun q => ?_)
  · have q2 : yI (listW (itW g) m) = false := by simpa using q
    exact good_out ⟨_, rfl, by rw [h0 q2], .cons (ABeq.row fun j hj => (allW_get h1 j hj).symm) .nil⟩
  · have q2 : yI (listW (itW g) m) = true := by simpa using q
    exact good_needs (hob c) (good_out ⟨_, rfl, by rw [hx q2], .cons (ABeq.row fun j hj => (allW_get h1 j hj).symm) .nil⟩)
theorem ok_foI : SpecOk Tryz.prog 11 (specR md_ws (FnmO fldV)) := by
  refine specR_hr gmPt_ok Tryz.func11 rfl fun sas fr hF ho => ?_
  unfold FnmO at hF
  split at hF
  · rename_i m g
    cases hF
    simp only [ob_cons] at ho
    obtain ⟨h1, h2, _⟩ := ho
    have hm := of_decide_eq_true h2
    refine ⟨hpP1 m (itW g), _, 100, .cons (ABeq.row fun j hj => allW_get h1 j hj) .nil, lam1 (by kernel_rfl) (sumQI m (itW g) (tI (listW (itW g) m)) (tI_tidy _)), ?_⟩
    refine nm_fin h1 hm trivial (fun _ => ?_) (fun q => by rw [fldV, q]; rfl) (fun q => by rw [fldV, q]; rfl) (treeQI yI tI m (itW g) _ _ _)
    simp only [row0, listW_itW, ob_cons, ob_nil, and_true]
    exact chk_of ⟨rfl, Hsim.refl _⟩
  · cases hF
end Go.Proofs.YtfpebhlkikmgbaaGreatDoor

/- meshes where teeth fit: its tree; fits at nil. No conditions. -/
namespace Go.Proofs.YtfpebhlkikmgbaaGreatDoor
open Go.RowKit
set_option maxRecDepth 100000

def f_fits : List Value → Option (Value × List Bool)
  | [.nilIface] => some (.bool true, [])
  | _ => none
theorem ok_fits : SpecOk Tryz.prog 16 (specV f_fits) := by
  refine specV_ok (fun args w => enters 16 _ Tryz.func16 (by kernel_rfl) args w) fun vs x ob hF ho w _ => ?_
  unfold f_fits at hF
  split at hF
  · simp only [Option.some.injEq, Prod.mk.injEq] at hF
    obtain ⟨rfl, rfl⟩ := hF
    refine (fits_nil w).mono ?_
    rintro e w' ⟨rfl, h⟩
    exact ⟨rfl, h.os, h.tape, h.output, h.size, fun k hk _ => h.block k hk⟩
  · cases hF
def gmMe (gf : Int → Int → Int) : Gam := ext gm_within 30 (specR [.val, .val] (FgdO gf))
theorem treeMe (gf : Int → Int → Int) (a b : Int) (c : Bool) : execF Tryz.prog (gmMe gf) noLam 100 Tryz.f15 [.v (i64 a), .v (i64 b), .v (.bool c)] [] (packK 0)
    = bif !inR a (6 : Int) (240 : Int) then Res.err else bif !inR b (6 : Int) (240 : Int) then Res.err else bif c then bif decide (b ≥ a) then Res.err else needs [inR a (-1000000000000 : Int) (1000000000000 : Int), inR b (-1000000000000 : Int) (1000000000000 : Int)] (Res.out .ret [AV.tup [AV.v (.int .i64 (gf a b)), AV.v Value.nilIface]] []) else needs [inR a (-1000000000000 : Int) (1000000000000 : Int), inR b (-1000000000000 : Int) (1000000000000 : Int)] (Res.out .ret [AV.tup [AV.v (.int .i64 (gf a b)), AV.v Value.nilIface]] []) := by kernel_rfl

end Go.Proofs.YtfpebhlkikmgbaaGreatDoor

/- meshes where teeth fit: its word; gauss, tidied at two wheels; RingDesign's trees. No conditions. -/
namespace Go.Proofs.YtfpebhlkikmgbaaGreatDoor
open Go.RowKit
set_option maxRecDepth 100000

def FmeO (ok : Int → Int → Bool → Bool) (gf : Int → Int → Int) : List SA → Option FR
  | [.v (.int .i64 a), .v (.int .i64 b), .v (.bool c)] => some { val := .tup [.v (i64 (gf a b)), .v .nilIface], obl := [ok a b c] }
  | _ => none
theorem gmMe_ok : GamOk Tryz.prog (gmMe gcdI) := ext_ok gm_within_ok ok_gdI
theorem ok_me : SpecOk Tryz.prog 15 (specR [.val, .val, .val] (FmeO okM gcdI)) := by
  refine specR_hr gmMe_ok Tryz.func15 rfl fun sas fr hF ho => ?_
  unfold FmeO at hF
  split at hF
  · rename_i a b c
    cases hF
    simp only [ob_cons] at ho
    obtain ⟨h, _⟩ := ho
    refine ⟨[], noLam, 100, .nil, noLam' _, ?_⟩
    show GoodQ (execF Tryz.prog (gmMe gcdI) noLam 100 Tryz.f15 [.v (i64 a), .v (i64 b), .v (.bool c)] [] (packK 0)) _
    rw [treeMe]
    rw [okM, Bool.and_eq_true, Bool.and_eq_true] at h
    obtain ⟨h1, h2, h3⟩ := h
    have i1 := inR_iff.1 h1
    have i2 := inR_iff.1 h2
    have fin : GoodQ (needs [inR a (-1000000000000 : Int) (1000000000000 : Int), inR b (-1000000000000 : Int) (1000000000000 : Int)] (Res.out Ex.ret [AV.tup [AV.v (Value.int IntKind.i64 (gcdI a b)), AV.v Value.nilIface]] [])) (GivR (abP [.val, .val, .val] [.v (.int .i64 a), .v (.int .i64 b), .v (.bool c)] []) { val := .tup [.v (i64 (gcdI a b)), .v .nilIface], obl := [okM a b c] }) :=
      good_needs (by simp only [ob_cons, ob_nil, and_true]; exact ⟨inR_iff.2 (by omega), inR_iff.2 (by omega)⟩) (good_out ⟨_, rfl, rfl, .nil⟩)
    refine good_false (by rw [h1]; rfl) (good_false (by rw [h2]; rfl) ?_)
    cases c with
    | true =>
      refine good_true rfl (good_false ?_ fin)
      rw [Bool.true_and] at h3
      simpa using h3
    | false => exact good_false rfl fin
  · cases hF

theorem treeGa (re im : Int) : execF Tryz.prog g0 noLam 100 Tryz.f19 [.v (i64 re), .v (i64 im)] [] (packK 0)
    = Res.out .ret [AV.agg [AV.v (.int .i64 re), AV.v (.int .i64 0), AV.v (.int .i64 0), AV.v (.int .i64 0), AV.v (.int .i64 0), AV.v (.int .i64 0), AV.v (.int .i64 im), AV.v (.int .i64 0)]] [] := by kernel_rfl

def FgaO : List SA → Option FR
  | [.v (.int .i64 re), .v (.int .i64 im)] => some { val := .agg [.v (i64 re), .v (i64 0), .v (i64 0), .v (i64 0), .v (i64 0), .v (i64 0), .v (i64 im), .v (i64 0)] }
  | _ => none
theorem ok_ga : SpecOk Tryz.prog 19 (specR [.val, .val] FgaO) := by
  refine specR_hr g0_ok Tryz.func19 rfl fun sas fr hF ho => ?_
  unfold FgaO at hF
  split at hF
  · rename_i re im
    cases hF
    refine ⟨[], noLam, 100, .nil, noLam' _, ?_⟩
    show GoodQ (execF Tryz.prog g0 noLam 100 Tryz.f19 [.v (i64 re), .v (i64 im)] [] (packK 0)) _
    rw [treeGa]
    exact good_out ⟨_, rfl, rfl, .nil⟩
  · cases hF

end Go.Proofs.YtfpebhlkikmgbaaGreatDoor

/- tidied at two wheels; RingDesign's trees, where teeth fit. No conditions. -/
namespace Go.Proofs.YtfpebhlkikmgbaaGreatDoor
open Go.RowKit
set_option maxRecDepth 100000

def Fti2Y (ti : List Wh → List Wh) (okt inw : List Wh → Bool) : List SA → Option FR
  | [.row 2 g] => match g 0, g 1 with
    | [.int .i64 a0, .int .i64 a1, .int .i64 a2, .int .i64 a3, .int .i64 a4, .int .i64 a5, .int .i64 a6, .int .i64 a7, .int .i64 a8], [.int .i64 b0, .int .i64 b1, .int .i64 b2, .int .i64 b3, .int .i64 b4, .int .i64 b5, .int .i64 b6, .int .i64 b7, .int .i64 b8] => some { val := valY (ti [⟨a0, ⟨a1, a2, a3, a4, a5, a6, a7, a8⟩⟩, ⟨b0, ⟨b1, b2, b3, b4, b5, b6, b7, b8⟩⟩]), new := newY (ti [⟨a0, ⟨a1, a2, a3, a4, a5, a6, a7, a8⟩⟩, ⟨b0, ⟨b1, b2, b3, b4, b5, b6, b7, b8⟩⟩]), obl := [inw [⟨a0, ⟨a1, a2, a3, a4, a5, a6, a7, a8⟩⟩, ⟨b0, ⟨b1, b2, b3, b4, b5, b6, b7, b8⟩⟩], okt [⟨a0, ⟨a1, a2, a3, a4, a5, a6, a7, a8⟩⟩, ⟨b0, ⟨b1, b2, b3, b4, b5, b6, b7, b8⟩⟩]] }
    | _, _ => none
  | _ => none
def Fti2N (okt inw : List Wh → Bool) : List SA → Option FR
  | [.row 2 g] => match g 0, g 1 with
    | [.int .i64 a0, .int .i64 a1, .int .i64 a2, .int .i64 a3, .int .i64 a4, .int .i64 a5, .int .i64 a6, .int .i64 a7, .int .i64 a8], [.int .i64 b0, .int .i64 b1, .int .i64 b2, .int .i64 b3, .int .i64 b4, .int .i64 b5, .int .i64 b6, .int .i64 b7, .int .i64 b8] => some { val := valN, obl := [inw [⟨a0, ⟨a1, a2, a3, a4, a5, a6, a7, a8⟩⟩, ⟨b0, ⟨b1, b2, b3, b4, b5, b6, b7, b8⟩⟩], !okt [⟨a0, ⟨a1, a2, a3, a4, a5, a6, a7, a8⟩⟩, ⟨b0, ⟨b1, b2, b3, b4, b5, b6, b7, b8⟩⟩]] }
    | _, _ => none
  | _ => none
theorem two_row {g : Nat → List Value} {a0 a1 a2 a3 a4 a5 a6 a7 a8 b0 b1 b2 b3 b4 b5 b6 b7 b8 : Int} (e0 : g 0 = [.int .i64 a0, .int .i64 a1, .int .i64 a2, .int .i64 a3, .int .i64 a4, .int .i64 a5, .int .i64 a6, .int .i64 a7, .int .i64 a8]) (e1 : g 1 = [.int .i64 b0, .int .i64 b1, .int .i64 b2, .int .i64 b3, .int .i64 b4, .int .i64 b5, .int .i64 b6, .int .i64 b7, .int .i64 b8]) :
    listW (itW g) 2 = [⟨a0, ⟨a1, a2, a3, a4, a5, a6, a7, a8⟩⟩, ⟨b0, ⟨b1, b2, b3, b4, b5, b6, b7, b8⟩⟩] ∧ allW 2 g = true := by
  refine ⟨?_, List.all_eq_true.2 fun j hj => ?_⟩
  · show [whOf (itW g 0), whOf (itW g 1)] = _
    unfold whOf itW
    rw [e0, e1]
    rfl
  · have hj : j < 2 := by simpa using hj
    rcases (by omega : j = 0 ∨ j = 1) with rfl | rfl
    · rw [e0]; rfl
    · rw [e1]; rfl
theorem ok_ti2Y : SpecOk Tryz.prog 18 (specR md_ws (Fti2Y tidyL okT inWB)) := by
  refine specR_sub' (fun sas fr hF => ?_) ok_tiY
  unfold Fti2Y at hF
  split at hF
  · rename_i g
    split at hF
    · rename_i a0 a1 a2 a3 a4 a5 a6 a7 a8 b0 b1 b2 b3 b4 b5 b6 b7 b8 e0 e1
      cases hF
      obtain ⟨hL, ha⟩ := two_row e0 e1
      refine ⟨_, rfl, by simp only [hL], by simp only [hL], rfl, fun h => ?_⟩
      simp only [ob_cons, ob_nil, and_true] at h ⊢
      rw [hL]
      exact ⟨ha, by decide, h.1, h.2⟩
    · cases hF
  · cases hF
theorem ok_ti2N : SpecOk Tryz.prog 18 (specR md_ws (Fti2N okT inWB)) := by
  refine specR_sub' (fun sas fr hF => ?_) ok_tiN
  unfold Fti2N at hF
  split at hF
  · rename_i g
    split at hF
    · rename_i a0 a1 a2 a3 a4 a5 a6 a7 a8 b0 b1 b2 b3 b4 b5 b6 b7 b8 e0 e1
      cases hF
      obtain ⟨hL, ha⟩ := two_row e0 e1
      refine ⟨_, rfl, rfl, rfl, rfl, fun h => ?_⟩
      simp only [ob_cons, ob_nil, and_true] at h ⊢
      rw [hL]
      exact ⟨ha, by decide, h.1, h.2⟩
    · cases hF
  · cases hF
def gmRg (ok : Int → Int → Bool → Bool) (gf : Int → Int → Int) : Gam := ext (ext (ext gm_within 15 (specR [.val, .val, .val] (FmeO ok gf))) 16 (specV f_fits)) 19 (specR [.val, .val] FgaO)
def gmRgY (ok : Int → Int → Bool → Bool) (gf : Int → Int → Int) (ti : List Wh → List Wh) (okt inw : List Wh → Bool) : Gam := ext (gmRg ok gf) 18 (specR md_ws (Fti2Y ti okt inw))
def gmRgN (ok : Int → Int → Bool → Bool) (gf : Int → Int → Int) (okt inw : List Wh → Bool) : Gam := ext (gmRg ok gf) 18 (specR md_ws (Fti2N okt inw))
theorem treeRgY_h (ok : Int → Int → Bool → Bool) (gf : Int → Int → Int) (ti : List Wh → List Wh) (okt inw : List Wh → Bool) (a b : Int) (c : Bool) (d : Int) (u2 : _) (hu2 : (0 : Int) = u2) (u3 : _) (hu3 : (!decide (gf a b = u2)) = u3) (u4 : _) (hu4 : (IntKind.wrap .i64 (Int.tdiv b (gf a b))) = u4) (u5 : _) (hu5 : (0 : Nat) = u5) (u0 : _) (hu0 : [Wh.mk u4 (Cy.mk (IntKind.wrap .i64 (a + b)) u2 u2 u2 u2 u2 u2 u2), Wh.mk (IntKind.wrap .i64 (Int.tdiv (IntKind.wrap .i64 (a + b)) (gf a b))) (Cy.mk (IntKind.wrap .i64 (u2 - d)) u2 u2 u2 u2 u2 u2 u2)] = u0) (u1 : _) (hu1 : [Wh.mk u4 (Cy.mk (IntKind.wrap .i64 (a - b)) u2 u2 u2 u2 u2 u2 u2), Wh.mk (IntKind.wrap .i64 (Int.tdiv (IntKind.wrap .i64 (u2 - IntKind.wrap .i64 (a - b))) (gf a b))) (Cy.mk d u2 u2 u2 u2 u2 u2 u2)] = u1) : execF Tryz.prog (gmRgY ok gf ti okt inw) noLam 100 Tryz.f5 [.v (i64 a), .v (i64 b), .v (.bool c), .v (i64 d)] [] (packK 0)
    = needs [ok a b c] (bif !inR d (-300 : Int) (300 : Int) then Res.out .ret [AV.tup [AV.v (Value.slice none u5 u5), AV.v (.bool false)]] [] else bif c then needs [u3, u3, inw u1, okt u1] (Res.out .ret [AV.tup [AV.sl u5 (9 : Nat) u5 u5 (List.length (ti u1)) (some (List.length (ti u1))), AV.v (.bool true)]] [AB.row true (List.length (ti u1)) (9 : Nat) (row9 (wfun (ti u1))) 53]) else needs [u3, u3, inw u0, okt u0] (Res.out .ret [AV.tup [AV.sl u5 (9 : Nat) u5 u5 (List.length (ti u0)) (some (List.length (ti u0))), AV.v (.bool true)]] [AB.row true (List.length (ti u0)) (9 : Nat) (row9 (wfun (ti u0))) 53])) := by
  subst hu1 hu0 hu5 hu4 hu3 hu2
  kernel_rfl
theorem treeRgY (ok : Int → Int → Bool → Bool) (gf : Int → Int → Int) (ti : List Wh → List Wh) (okt inw : List Wh → Bool) (a b : Int) (c : Bool) (d : Int) : type_of% (treeRgY_h ok gf ti okt inw a b c d _ rfl _ rfl _ rfl _ rfl _ rfl _ rfl) := treeRgY_h ok gf ti okt inw a b c d _ rfl _ rfl _ rfl _ rfl _ rfl _ rfl

theorem treeRgN_h (ok : Int → Int → Bool → Bool) (gf : Int → Int → Int) (okt inw : List Wh → Bool) (a b : Int) (c : Bool) (d : Int) (u0 : _) (hu0 : (0 : Int) = u0) (u3 : _) (hu3 : [AV.tup [AV.v (Value.slice none (0 : Nat) (0 : Nat)), AV.v (.bool false)]] = u3) (u4 : _) (hu4 : (!decide (gf a b = u0)) = u4) (u5 : _) (hu5 : (IntKind.wrap .i64 (Int.tdiv b (gf a b))) = u5) (u1 : _) (hu1 : [Wh.mk u5 (Cy.mk (IntKind.wrap .i64 (a + b)) u0 u0 u0 u0 u0 u0 u0), Wh.mk (IntKind.wrap .i64 (Int.tdiv (IntKind.wrap .i64 (a + b)) (gf a b))) (Cy.mk (IntKind.wrap .i64 (u0 - d)) u0 u0 u0 u0 u0 u0 u0)] = u1) (u2 : _) (hu2 : [Wh.mk u5 (Cy.mk (IntKind.wrap .i64 (a - b)) u0 u0 u0 u0 u0 u0 u0), Wh.mk (IntKind.wrap .i64 (Int.tdiv (IntKind.wrap .i64 (u0 - IntKind.wrap .i64 (a - b))) (gf a b))) (Cy.mk d u0 u0 u0 u0 u0 u0 u0)] = u2) : execF Tryz.prog (gmRgN ok gf okt inw) noLam 100 Tryz.f5 [.v (i64 a), .v (i64 b), .v (.bool c), .v (i64 d)] [] (packK 0)
    = needs [ok a b c] (bif !inR d (-300 : Int) (300 : Int) then Res.out .ret u3 [] else bif c then needs [u4, u4, inw u2, !okt u2] (Res.out .ret u3 []) else needs [u4, u4, inw u1, !okt u1] (Res.out .ret u3 [])) := by
  subst hu2 hu1 hu5 hu4 hu3 hu0
  kernel_rfl
theorem treeRgN (ok : Int → Int → Bool → Bool) (gf : Int → Int → Int) (okt inw : List Wh → Bool) (a b : Int) (c : Bool) (d : Int) : type_of% (treeRgN_h ok gf okt inw a b c d _ rfl _ rfl _ rfl _ rfl _ rfl _ rfl) := treeRgN_h ok gf okt inw a b c d _ rfl _ rfl _ rfl _ rfl _ rfl _ rfl

theorem treeRgC (ok : Int → Int → Bool → Bool) (gf : Int → Int → Int) (a b : Int) (c : Bool) : execF Tryz.prog (gmRg ok gf) noLam 100 Tryz.f8 [.v (i64 a), .v (i64 b), .v (.bool c)] [] (packK 0)
    = needs [ok a b c, !decide (gf a b = (0 : Int))] (Res.out .ret [AV.tup [AV.v (.int .i64 (IntKind.wrap .i64 (Int.tdiv a (gf a b)))), AV.v (.bool true)]] []) := by kernel_rfl

end Go.Proofs.YtfpebhlkikmgbaaGreatDoor

/- The program's RingDesign and RingCusps, where teeth fit: their words. No conditions. -/
namespace Go.Proofs.YtfpebhlkikmgbaaGreatDoor
open Go.RowKit
set_option maxRecDepth 100000

theorem gcdFI {a b : Int} (ha : inR a 6 240 = true) (hb : inR b 6 240 = true) : gcdF a b = gcdI a b := by
  have ha := inR_iff.1 ha
  have hb := inR_iff.1 hb
  exact gcdF_eq (by omega) (by omega)
theorem gmRg_ok : GamOk Tryz.prog (gmRg okM gcdI) := ext_ok (ext_ok (ext_ok gm_within_ok ok_me) ok_fits) ok_ga
theorem gmRgY_ok : GamOk Tryz.prog (gmRgY okM gcdI tidyL okT inWB) := ext_ok gmRg_ok ok_ti2Y
theorem gmRgN_ok : GamOk Tryz.prog (gmRgN okM gcdI okT inWB) := ext_ok gmRg_ok ok_ti2N
theorem rnP_eq (a b : Int) (c : Bool) (d : Int) : rnP a b c d = (okM a b c && inR d (-300) 300) := by
  rw [rnP, okM]
  cases inR a 6 240 <;> cases inR b 6 240 <;> cases c <;> cases decide (b ≥ a) <;> rfl
theorem okM_in {a b : Int} {c : Bool} (h : okM a b c = true) : inR a 6 240 = true ∧ inR b 6 240 = true := by
  rw [okM, Bool.and_eq_true, Bool.and_eq_true] at h
  exact ⟨h.1, h.2.1⟩
def rmI (a b d : Int) : List Wh := [⟨IntKind.wrap IntKind.i64 (Int.tdiv b (gcdI a b)), ⟨IntKind.wrap IntKind.i64 (a - b), 0, 0, 0, 0, 0, 0, 0⟩⟩, ⟨IntKind.wrap IntKind.i64 (Int.tdiv (IntKind.wrap IntKind.i64 (0 - IntKind.wrap IntKind.i64 (a - b))) (gcdI a b)), ⟨d, 0, 0, 0, 0, 0, 0, 0⟩⟩]
def rmO (a b d : Int) : List Wh := [⟨IntKind.wrap IntKind.i64 (Int.tdiv b (gcdI a b)), ⟨IntKind.wrap IntKind.i64 (a + b), 0, 0, 0, 0, 0, 0, 0⟩⟩, ⟨IntKind.wrap IntKind.i64 (Int.tdiv (IntKind.wrap IntKind.i64 (a + b)) (gcdI a b)), ⟨IntKind.wrap IntKind.i64 (0 - d), 0, 0, 0, 0, 0, 0, 0⟩⟩]
theorem rmI_eq {a b : Int} (h : okM a b true = true) (d : Int) : rmI a b d = rnW a b true d := by
  obtain ⟨h1, h2⟩ := okM_in h
  have i1 := inR_iff.1 h1
  have i2 := inR_iff.1 h2
  rw [rmI, rnW, gcdFI h1 h2, cond_true, wr_in (x := a - b) (by omega), wr_in (x := 0 - (a - b)) (by omega), wr_in (x := b - a) (by omega), show 0 - (a - b) = b - a by omega]
theorem rmO_eq {a b : Int} (h : okM a b false = true) (d : Int) : rmO a b d = rnW a b false d := by
  obtain ⟨h1, h2⟩ := okM_in h
  rw [rmO, rnW, gcdFI h1 h2, cond_false]
theorem gcd_nzI {a b : Int} {c : Bool} (h : okM a b c = true) : (!decide (gcdI a b = 0)) = true := by
  obtain ⟨h1, h2⟩ := okM_in h
  rw [← gcdFI h1 h2, decide_eq_false (gcd_nz h1 h2)]
  rfl
theorem cyIn1 {x : Int} (h : -9223372036854775808 ≤ x ∧ x ≤ 9223372036854775807) : cyIn ⟨x, 0, 0, 0, 0, 0, 0, 0⟩ := fun k hk => by
  rcases (by omega : k = 0 ∨ k = 1 ∨ k = 2 ∨ k = 3 ∨ k = 4 ∨ k = 5 ∨ k = 6 ∨ k = 7) with rfl | rfl | rfl | rfl | rfl | rfl | rfl | rfl
  · exact h
  all_goals
    show -9223372036854775808 ≤ (0 : Int) ∧ (0 : Int) ≤ 9223372036854775807
    omega
theorem rm_in {x y s t : Int} (hx : -9223372036854775808 ≤ x ∧ x ≤ 9223372036854775807) (hy : -9223372036854775808 ≤ y ∧ y ≤ 9223372036854775807) : inWB [⟨s, ⟨x, 0, 0, 0, 0, 0, 0, 0⟩⟩, ⟨t, ⟨y, 0, 0, 0, 0, 0, 0, 0⟩⟩] = true := chk_of fun w hw => by
  rcases List.mem_cons.1 hw with rfl | hw
  · exact cyIn1 hx
  · rcases List.mem_cons.1 hw with rfl | hw
    · exact cyIn1 hy
    · cases hw
def FrgY (rd : Int → Int → Bool → Int → List Wh) (ro : Int → Int → Bool → Int → Bool) : List SA → Option FR
  | [.v (.int .i64 a), .v (.int .i64 b), .v (.bool c), .v (.int .i64 d)] => some { val := valY (rd a b c d), new := newY (rd a b c d), obl := [ro a b c d] }
  | _ => none
def FrgN (ro : Int → Int → Bool → Int → Bool) : List SA → Option FR
  | [.v (.int .i64 a), .v (.int .i64 b), .v (.bool c), .v (.int .i64 d)] => some { val := valN, obl := [!ro a b c d] }
  | _ => none
theorem ok_rgY : SpecOk Tryz.prog 5 (specR [.val, .val, .val, .val] (FrgY rnL rnO)) := by
  refine specR_hr gmRgY_ok Tryz.func5 rfl fun sas fr hF ho => ?_
  unfold FrgY at hF
  split at hF
  · rename_i a b c d
    cases hF
    simp only [ob_cons] at ho
    obtain ⟨h, _⟩ := ho
    refine ⟨[], noLam, 100, .nil, noLam' _, ?_⟩
    show GoodQ (execF Tryz.prog (gmRgY okM gcdI tidyL okT inWB) noLam 100 Tryz.f5 [.v (i64 a), .v (i64 b), .v (.bool c), .v (i64 d)] [] (packK 0)) _
    rw [treeRgY]
    have h' := h
    rw [rnO, rnP_eq, Bool.and_eq_true, Bool.and_eq_true] at h'
    obtain ⟨⟨h1, h2⟩, h3⟩ := h'
    have i2 := inR_iff.1 h2
    have hL : rnL a b c d = tidyL (rnW a b c d) := (rnL_yes (by rw [rnP_eq, h1, h2]; rfl)).1
    have hz := gcd_nzI h1
    refine good_needs (by rw [ob_cons]; exact ⟨h1, rfl⟩) (good_false (by rw [h2]; rfl) ?_)
    cases c with
    | true =>
      refine good_true rfl ?_
      show GoodQ (needs [!decide (gcdI a b = 0), !decide (gcdI a b = 0), inWB (rmI a b d), okT (rmI a b d)] (.out .ret [valY (tidyL (rmI a b d))] (newY (tidyL (rmI a b d))))) _
      rw [rmI_eq h1 d]
      refine good_needs ?_ (good_out ⟨_, rfl, by rw [hL]; rfl, by rw [hL]; exact Hsim.refl _⟩)
      simp only [ob_cons, ob_nil, and_true]
      refine ⟨hz, hz, ?_, h3⟩
      rw [← rmI_eq h1 d]
      exact rm_in (w64_range _) (by omega)
    | false =>
      refine good_false rfl ?_
      show GoodQ (needs [!decide (gcdI a b = 0), !decide (gcdI a b = 0), inWB (rmO a b d), okT (rmO a b d)] (.out .ret [valY (tidyL (rmO a b d))] (newY (tidyL (rmO a b d))))) _
      rw [rmO_eq h1 d]
      refine good_needs ?_ (good_out ⟨_, rfl, by rw [hL]; rfl, by rw [hL]; exact Hsim.refl _⟩)
      simp only [ob_cons, ob_nil, and_true]
      refine ⟨hz, hz, ?_, h3⟩
      rw [← rmO_eq h1 d]
      exact rm_in (w64_range _) (w64_range _)
  · cases hF
def FrcO (ok : Int → Int → Bool → Bool) (gf : Int → Int → Int) : List SA → Option FR
  | [.v (.int .i64 a), .v (.int .i64 b), .v (.bool c)] => some { val := .tup [.v (i64 (IntKind.wrap IntKind.i64 (Int.tdiv a (gf a b)))), .v (.bool true)], obl := [ok a b c] }
  | _ => none
theorem ok_rc : SpecOk Tryz.prog 8 (specR [.val, .val, .val] (FrcO okM gcdI)) := by
  refine specR_hr gmRg_ok Tryz.func8 rfl fun sas fr hF ho => ?_
  unfold FrcO at hF
  split at hF
  · rename_i a b c
    cases hF
    simp only [ob_cons] at ho
    obtain ⟨h, _⟩ := ho
    refine ⟨[], noLam, 100, .nil, noLam' _, ?_⟩
    show GoodQ (execF Tryz.prog (gmRg okM gcdI) noLam 100 Tryz.f8 [.v (i64 a), .v (i64 b), .v (.bool c)] [] (packK 0)) _
    rw [treeRgC]
    exact good_needs (by simp only [ob_cons, ob_nil, and_true]; exact ⟨h, gcd_nzI h⟩) (good_out ⟨_, rfl, rfl, .nil⟩)
  · cases hF

end Go.Proofs.YtfpebhlkikmgbaaGreatDoor

/- The program's RingDesign, where there is none: its word; both read as one. Conditions: errors.errorType is laid. -/
namespace Go.Proofs.YtfpebhlkikmgbaaGreatDoor
open Go.RowKit
set_option maxRecDepth 100000

theorem tab_eT {M : Nat → Prop} {w : World} (h : TabOk M w) : w.cell? ⟨0, 0, none⟩ = some eT := by
  obtain ⟨_, l, t, fz, h2, h3⟩ := h _ (List.mem_cons_self ..)
  have h2 : w.heap[0]? = some (.cells (List.toArray l) t fz) := h2
  have h3 : l = [eT] := h3
  subst h3
  simp [World.cell?, h2]
set_option maxHeartbeats 4000000 in
theorem ring_no {a b d : Int} {c : Bool} (w : World) (hg : w.cell? ⟨0, 0, none⟩ = some eT) (h : okM a b c = false) :
    Calls Tryz.prog 5 #[.int .i64 a, .int .i64 b, .bool c, .int .i64 d] w fun e w' => e = .returned (.tuple #[.slice none 0 0, .bool false]) ∧ Below w.heap.size w w' := by
  have hm := meshes_no w h
  have h0 := below_cell hg
  go_enter Tryz.func5, Tryz.ntmps5
  go_wp2_with fail
  go_at_call 15
  refine hm.mono ?_
  rintro e w1 ⟨v, rfl, hv, hb⟩
  have hf := fits_mis v w1 ((hb.cell h0).trans hg) hv
  clear hv
  go_wp2_with fail
  go_at_call 16
  refine hf.mono ?_
  rintro e w2 ⟨rfl, hb2⟩
  go_wp2_with fail
  go_ret2
  exact ⟨rfl, hb.trans (hb2.mono hb.size)⟩
theorem ok_rgN : SpecOk Tryz.prog 5 (specR [.val, .val, .val, .val] (FrgN rnO)) := by
  refine specR_calls enters Tryz.func5 (by kernel_rfl) fun sas fr hF ho => ?_
  unfold FrgN at hF
  split at hF
  · rename_i a b c d
    cases hF
    simp only [ob_cons] at ho
    obtain ⟨h, _⟩ := ho
    refine ⟨[], .nil, fun M vals w ν hM hv hR hdom => ?_⟩
    cases hok : okM a b c with
    | true =>
      refine (calls_pack (Λ := noLam) (n := 100) (Q := GivR (abP [.val, .val, .val, .val] [.v (.int .i64 a), .v (.int .i64 b), .v (.bool c), .v (.int .i64 d)] []) { val := valN, obl := [!rnO a b c d] }) gmRgN_ok mixed enters Tryz.func5 (noLam' _) hM ?_ hv hR hdom).mono fun _ _ h => h
      show (execF Tryz.prog (gmRgN okM gcdI okT inWB) noLam 100 Tryz.f5 [.v (i64 a), .v (i64 b), .v (.bool c), .v (i64 d)] [] (packK 0)).ok _
      refine GoodQ.out ?_
      rw [treeRgN]
      refine good_needs (by rw [ob_cons]; exact ⟨hok, rfl⟩) ?_
      refine good_cond (fun _ => good_out ⟨_, rfl, rfl, .nil⟩) fun h2 => ?_
      have h2 : inR d (-300) 300 = true := by simpa using h2
      have i2 := inR_iff.1 h2
      have hz := gcd_nzI hok
      have h' := h
      rw [rnO, rnP_eq, hok, h2] at h'
      cases c with
      | true =>
        refine good_true rfl ?_
        show GoodQ (needs [!decide (gcdI a b = 0), !decide (gcdI a b = 0), inWB (rmI a b d), !okT (rmI a b d)] (.out .ret [valN] [])) _
        refine good_needs ?_ (good_out ⟨_, rfl, rfl, .nil⟩)
        simp only [ob_cons, ob_nil, and_true]
        refine ⟨hz, hz, rm_in (w64_range _) (by omega), ?_⟩
        rw [rmI_eq hok d]
        simpa using h'
      | false =>
        refine good_false rfl ?_
        show GoodQ (needs [!decide (gcdI a b = 0), !decide (gcdI a b = 0), inWB (rmO a b d), !okT (rmO a b d)] (.out .ret [valN] [])) _
        refine good_needs ?_ (good_out ⟨_, rfl, rfl, .nil⟩)
        simp only [ob_cons, ob_nil, and_true]
        refine ⟨hz, hz, rm_in (w64_range _) (w64_range _), ?_⟩
        rw [rmO_eq hok d]
        simpa using h'
    | false =>
      match vals, hv with
      | [v1, v2, v3, v4], hv =>
        simp only [avC, shA, VRs, VR, and_true] at hv
        obtain ⟨rfl, rfl, rfl, rfl⟩ := hv
        refine (ring_no w (tab_eT hR.tab) hok).mono ?_
        rintro e w' ⟨rfl, hb⟩
        have hfr : Fr (fun k => w.heap.size ≤ k) w w' := ⟨hb.os, hb.tape, hb.output, hb.size, fun k hk _ => hb.block k hk⟩
        refine ⟨_, valN, _, ν, rfl, ⟨_, rfl, rfl, .nil⟩, ?_, ?_, hfr.mono fun k _ hk => hM k hk, Le.refl _, hdom⟩
        · simp only [VR]
          exact ⟨[_, _], rfl, by simp only [VRs, VR, and_true]⟩
        · exact ⟨fun i => (hR.br i).of_block fun k hk _ => hfr.block _ (hR.lt i k hk) (by have := hR.lt i k hk; omega), hR.sep, hR.own, fun i b hb => Nat.lt_of_lt_of_le (hR.lt i b hb) hfr.size, hR.tab.fr (hfr.mono fun k _ hk => hM k hk)⟩
  · cases hF
def UrgO (rd : Int → Int → Bool → Int → List Wh) (ro : Int → Int → Bool → Int → Bool) : List SA → Option UR
  | [.v (.int .i64 a), .v (.int .i64 b), .v (.bool c), .v (.int .i64 d)] => some ⟨ro a b c d, rd a b c d, []⟩
  | _ => none
theorem rnL_none {a b d : Int} {c : Bool} (h : rnO a b c d = false) : rnL a b c d = [] := by
  cases hp : rnP a b c d with
  | false => exact (rnL_no hp).1
  | true =>
    rw [(rnL_yes hp).1]
    rw [(rnL_yes hp).2] at h
    exact tidyL_no h
theorem ok_Urg : SpecOk Tryz.prog 5 (specU [.val, .val, .val, .val] (UrgO rnL rnO)) := by
  refine specU_ok rfl ok_rgY ok_rgN fun sas u hu ho => ?_
  unfold UrgO at hu
  split at hu
  · rename_i a b c d
    cases hu
    refine ⟨rfl, ?_⟩
    cases hv : rnO a b c d with
    | true => exact .inl ⟨rfl, [rnO a b c d], rfl, by simp only [ob_cons, ob_nil, and_true]; exact hv⟩
    | false => exact .inr ⟨rfl, rnL_none hv, [!rnO a b c d], rfl, by simp only [ob_cons, ob_nil, and_true]; rw [hv]; rfl⟩
  · cases hu

end Go.Proofs.YtfpebhlkikmgbaaGreatDoor

/- pick, where there are no bytes; the lengths of rows. No conditions. -/
namespace Go.Proofs.YtfpebhlkikmgbaaGreatDoor
open Go.RowKit
set_option maxRecDepth 100000

theorem treePk0 (q : Option Addr) (c : Nat) (p n : Int) (tr : TypeId) : execF Tryz.prog g0 noLam 100 Tryz.f14 [.ptr 0 0 0 0, .v (i64 n)] [.cells [.v (.slice q 0 c), .v (i64 p)] tr] (packK 1)
    = bif decide (n < (1 : Int)) then Res.out .ret [AV.v (.int .i64 0)] [AB.cells [AV.v (Value.slice q (0 : Nat) c), AV.v (.int .i64 (IntKind.wrap .i64 (p + (1 : Int))))] tr] else Res.out .ret [AV.v (.int .i64 0)] [AB.cells [AV.v (Value.slice q (0 : Nat) c), AV.v (.int .i64 (IntKind.wrap .i64 (p + (1 : Int))))] tr] := by kernel_rfl

def Fpk0 : List AV → List AB → Option HR
  | [.ptr 0 0 0 0, .v (.int .i64 _)], [.cells [.v (.slice q 0 c), .v (.int .i64 p)] tr] => some { val := .v (.int .i64 0), out := [.cells [.v (.slice q 0 c), .v (.int .i64 (p + 1))] tr], obl := [decide (0 ≤ p), decide (p ≤ 2 ^ 30)] }
  | _, _ => none
theorem ok_pick0 : SpecOk Tryz.prog 14 (specK [] Fpk0) := by
  refine specK_ok g0_ok Tryz.func14 rfl fun avs H hr hF ho => ?_
  unfold Fpk0 at hF
  split at hF
  · rename_i n q c p tr
    cases hF
    simp only [ob_cons, decide_eq_true_eq] at ho
    obtain ⟨h1, h2, _⟩ := ho
    refine ⟨[.cells [.v (.slice q 0 c), .v (i64 p)] tr], noLam, 100, Hsim.refl _, noLam' _, ?_⟩
    rw [show execF Tryz.prog g0 noLam 100 Tryz.f14 [.ptr 0 0 0 0, .v (.int .i64 n)] [.cells [.v (.slice q 0 c), .v (i64 p)] tr] (packK [AB.cells [AV.v (.slice q 0 c), .v (i64 p)] tr].length) = _ from treePk0 q c p n tr]
    rw [wr_in (x := p + 1) (by omega)]
    exact good_cond (fun _ => good_out ⟨rfl, Hsim.refl _⟩) fun _ => good_out ⟨rfl, Hsim.refl _⟩
  · cases hF
def gmPk0 : Gam := ext g0 14 (specK [] Fpk0)
theorem gmPk0_ok : GamOk Tryz.prog gmPk0 := ext_ok g0_ok ok_pick0
end Go.Proofs.YtfpebhlkikmgbaaGreatDoor

/- DrawRingDesign: four values, whatever the bytes are. Conditions: bytes, at most 2^21. -/
namespace Go.Proofs.YtfpebhlkikmgbaaGreatDoor
open Go.RowKit
set_option maxRecDepth 100000

theorem treeRRg_h (pk : Nat → (Nat → Int) → Int → Int → Int) (m : Nat) (b : Nat → Int) (u0 : _) (hu0 : ((2000 : Int) - (0 : Int)) = u0) (u1 : _) (hu1 : (decide ((0 : Nat) < m)) = u1) (u2 : _) (hu2 : (rowB b) = u2) (u3 : _) (hu3 : (decide (Int.toNat u0 ≤ m)) = u3) (u4 : _) (hu4 : (decide (m ≤ m)) = u4) (u5 : _) (hu5 : (Int.toNat u0) = u5) (u6 : _) (hu6 : (itB u2) = u6) (u7 : _) (hu7 : (okB m u2) = u7) (u8 : _) (hu8 : [AB.row false m 1 u2 5] = u8) : execF Tryz.prog (gmPk pk) noLam 100 Tryz.f4 [.sl 0 1 0 0 m none] [.row false m 1 (rowB b) 5] (packK 1)
    = bif decide ((m : Int) > (2000 : Int)) then needs [decide ((2000 : Int) ≤ (m : Int)), decide ((m : Int) ≤ (m : Int)), u7, u3, u1, u7, u3, u1, u7, u3, u1, u7, u3, u1, u7, u3, u1, u7, u3, u1, u7, u3, u1] (Res.out .ret [AV.tup [AV.v (.int .i64 (IntKind.wrap .i64 (IntKind.wrap .i64 ((6 : Int) + pk u5 u6 (0 : Int) (100 : Int)) - IntKind.wrap .i64 (IntKind.wrap .i64 (Int.tdiv (pk u5 u6 (1 : Int) (20 : Int)) (19 : Int)) * (3 : Int))))), AV.v (.int .i64 (IntKind.wrap .i64 (IntKind.wrap .i64 ((6 : Int) + pk u5 u6 (2 : Int) (60 : Int)) + IntKind.wrap .i64 (IntKind.wrap .i64 (Int.tdiv (pk u5 u6 (3 : Int) (20 : Int)) (19 : Int)) * (240 : Int))))), AV.v (.bool (pk u5 u6 (4 : Int) (2 : Int) == (0 : Int))), AV.v (.int .i64 (IntKind.wrap .i64 (IntKind.wrap .i64 (pk u5 u6 (5 : Int) (61 : Int) - (30 : Int)) + IntKind.wrap .i64 (IntKind.wrap .i64 (Int.tdiv (pk u5 u6 (6 : Int) (20 : Int)) (19 : Int)) * (400 : Int)))))]] u8) else needs [u7, u4, u1, u7, u4, u1, u7, u4, u1, u7, u4, u1, u7, u4, u1, u7, u4, u1, u7, u4, u1] (Res.out .ret [AV.tup [AV.v (.int .i64 (IntKind.wrap .i64 (IntKind.wrap .i64 ((6 : Int) + pk m u6 (0 : Int) (100 : Int)) - IntKind.wrap .i64 (IntKind.wrap .i64 (Int.tdiv (pk m u6 (1 : Int) (20 : Int)) (19 : Int)) * (3 : Int))))), AV.v (.int .i64 (IntKind.wrap .i64 (IntKind.wrap .i64 ((6 : Int) + pk m u6 (2 : Int) (60 : Int)) + IntKind.wrap .i64 (IntKind.wrap .i64 (Int.tdiv (pk m u6 (3 : Int) (20 : Int)) (19 : Int)) * (240 : Int))))), AV.v (.bool (pk m u6 (4 : Int) (2 : Int) == (0 : Int))), AV.v (.int .i64 (IntKind.wrap .i64 (IntKind.wrap .i64 (pk m u6 (5 : Int) (61 : Int) - (30 : Int)) + IntKind.wrap .i64 (IntKind.wrap .i64 (Int.tdiv (pk m u6 (6 : Int) (20 : Int)) (19 : Int)) * (400 : Int)))))]] u8) := by
  subst hu8 hu7 hu6 hu5 hu4 hu3 hu2 hu1 hu0
  kernel_rfl
theorem treeRRg (pk : Nat → (Nat → Int) → Int → Int → Int) (m : Nat) (b : Nat → Int) : type_of% (treeRRg_h pk m b _ rfl _ rfl _ rfl _ rfl _ rfl _ rfl _ rfl _ rfl _ rfl) := treeRRg_h pk m b _ rfl _ rfl _ rfl _ rfl _ rfl _ rfl _ rfl _ rfl _ rfl

theorem treeRRg0 (q : Option Addr) (c : Nat) (g : Nat → List Value) : execF Tryz.prog gmPk0 noLam 100 Tryz.f4 [.v (.slice q 0 c)] [.row false 0 1 g 5] (packK 1)
    = Res.out .ret [AV.tup [AV.v (.int .i64 6), AV.v (.int .i64 6), AV.v (.bool true), AV.v (.int .i64 (-30 : Int))]] [AB.row false (0 : Nat) (1 : Nat) g 5] := by kernel_rfl

noncomputable def dRg (l : Nat) (b : Nat → Int) : Int × Int × Bool × Int :=
  (IntKind.wrap IntKind.i64 (IntKind.wrap IntKind.i64 (6 + pkV l b 0 100) - IntKind.wrap IntKind.i64 (IntKind.wrap IntKind.i64 (Int.tdiv (pkV l b 1 20) 19) * 3)),
   IntKind.wrap IntKind.i64 (IntKind.wrap IntKind.i64 (6 + pkV l b 2 60) + IntKind.wrap IntKind.i64 (IntKind.wrap IntKind.i64 (Int.tdiv (pkV l b 3 20) 19) * 240)),
   pkV l b 4 2 == 0,
   IntKind.wrap IntKind.i64 (IntKind.wrap IntKind.i64 (pkV l b 5 61 - 30) + IntKind.wrap IntKind.i64 (IntKind.wrap IntKind.i64 (Int.tdiv (pkV l b 6 20) 19) * 400)))
noncomputable def bRg (m : Nat) (b : Nat → Int) : Int × Int × Bool × Int := if m = 0 then (6, 6, true, -30) else dRg (lnB m) b
def frRg (x : Int × Int × Bool × Int) : FR := { val := .tup [.v (i64 x.1), .v (i64 x.2.1), .v (.bool x.2.2.1), .v (i64 x.2.2.2)] }
theorem gmPkR_ok : GamOk Tryz.prog (gmPk pkV) := ext_ok g0_ok ok_pick
theorem ok_drRg : SpecOk Tryz.prog 4 (specR md_co (FdrO fun m b => frRg (bRg m b))) := by
  refine draw_ok Tryz.func4 rfl (fun m b h0 hm hb => ⟨_, gmPkR_ok, ?_⟩) fun q c g b => ⟨_, gmPk0_ok, ?_⟩
  · rw [treeRRg, itB_row]
    have e : bRg m b = dRg (lnB m) b := by unfold bRg; rw [if_neg (by omega)]
    rw [e]
    refine good_ln (fun e1 hc => ?_) fun e1 hc => ?_
    · rw [e1, show Int.toNat ((2000 : Int) - 0) = 2000 from rfl]
      exact ⟨by simp only [ob_cons, ob_nil, and_true, decide_eq_true_eq, hb, true_and]; omega, good_out ⟨_, rfl, rfl, Hsim.refl _⟩⟩
    · rw [e1]
      exact ⟨by simp only [ob_cons, ob_nil, and_true, decide_eq_true_eq, hb, true_and]; omega, good_out ⟨_, rfl, rfl, Hsim.refl _⟩⟩
  · rw [treeRRg0]
    exact good_out ⟨_, rfl, rfl, Hsim.refl _⟩

end Go.Proofs.YtfpebhlkikmgbaaGreatDoor

/- laws.sameWheels. Conditions: two lists of wheels. -/
namespace Go.Proofs.YtfpebhlkikmgbaaGreatDoor
open Go.RowKit
set_option maxRecDepth 100000

abbrev lvSw : Ex → List Nat := lv3 [0, 1, 5] [] [4]
abbrev hpSw (m : Nat) (f h : Nat → Nat → Int) : List AB := [.row false m 9 (row9 f) 53, .row false m 9 (row9 h) 53]
theorem rndSw_h (m : Nat) (f h : Nat → Nat → Int) (i : Nat) (u1 : _) (hu1 : [AB.row false m 9 (row9 f) 53, AB.row false m 9 (row9 h) 53] = u1) (u2 : _) (hu2 : (0 : Nat) = u2) (u3 : _) (hu3 : (↑i : Int) = u3) (u0 : _) (hu0 : (u2 + Int.toNat u3) = u0) : execC Tryz.prog g0 100 noLam (loopAt 0 Tryz.f7) (mkT 0 26 ((lvSw .normal).zip [.sl 0 9 0 0 m none, .sl 1 9 0 0 m none, .v (i64 i)])) (hpSw m f h) (leafV 26 lvSw 2)
    = bif decide (u3 < (m : Int)) then needs [decide (u3 < (m : Int)), decide (u2 + Int.toNat u3 < m), decide (u3 < (m : Int)), decide (u2 + Int.toNat u3 < m)] (bif !(f u0 u2 == h u0 u2 && (f u0 (1 : Nat) == h u0 (1 : Nat) && (f u0 (2 : Nat) == h u0 (2 : Nat) && (f u0 (3 : Nat) == h u0 (3 : Nat) && (f u0 (4 : Nat) == h u0 (4 : Nat) && (f u0 (5 : Nat) == h u0 (5 : Nat) && (f u0 (6 : Nat) == h u0 (6 : Nat) && (f u0 (7 : Nat) == h u0 (7 : Nat) && (f u0 (8 : Nat) == h u0 (8 : Nat) && true))))))) && true && true)) then Res.out .ret [AV.v (.bool false)] u1 else Res.out .normal [AV.sl u2 (9 : Nat) u2 u2 m none, AV.sl 1 (9 : Nat) u2 u2 m none, AV.v (.int .i64 (IntKind.wrap .i64 (u3 + (1 : Int))))] u1) else Res.out (Ex.exit u2) [] u1 := by
  subst hu0 hu3 hu2 hu1
  kernel_rfl
theorem rndSw (m : Nat) (f h : Nat → Nat → Int) (i : Nat) : type_of% (rndSw_h m f h i _ rfl _ rfl _ rfl _ rfl) := rndSw_h m f h i _ rfl _ rfl _ rfl _ rfl

noncomputable abbrev lamSw (m : Nat) (f h : Nat → Nat → Int) (c : Bool) : Nat → Option Sum := oneL 0 (atS 26 (lvSw .normal) 2 [.sl 0 9 0 0 m none, .sl 1 9 0 0 m none, .v (i64 (0 : Nat))] (hpSw m f h) (fun K => cond c (K .normal (mkT 0 26 []) (hpSw m f h)) (K .ret (mkT 0 26 [(4, .v (.bool false))]) (hpSw m f h))))
theorem treeSw_h (m n : Nat) (f h : Nat → Nat → Int) (c : Bool) (u0 : _) (hu0 : (AB.row false m 9 (row9 f) 53) = u0) (u1 : _) (hu1 : (0 : Nat) = u1) (u2 : _) (hu2 : [u0, AB.row false m 9 (row9 h) 53] = u2) (u3 : _) (hu3 : [u0, AB.row false n 9 (row9 h) 53] = u3) : execF Tryz.prog g0 (lamSw m f h c) 100 Tryz.f7 [.sl 0 9 0 0 m none, .sl 1 9 0 0 n none] [.row false m 9 (row9 f) 53, .row false n 9 (row9 h) 53] (packK 2)
    = bif (m : Int) != (↑n : Int) then Res.out .ret [AV.v (.bool false)] u3 else needs [chk ([AV.sl u1 (9 : Nat) u1 u1 m none, AV.sl 1 (9 : Nat) u1 u1 n none, AV.v (.int .i64 0)] = [AV.sl u1 (9 : Nat) u1 u1 m none, AV.sl 1 (9 : Nat) u1 u1 m none, AV.v (.int .i64 0)] ∧ Hsim u3 (hpSw m f h))] (bif c then Res.out .ret [AV.v (.bool true)] u2 else Res.out .ret [AV.v (.bool false)] u2) := by
  subst hu3 hu2 hu1 hu0
  kernel_rfl
theorem treeSw (m n : Nat) (f h : Nat → Nat → Int) (c : Bool) : type_of% (treeSw_h m n f h c _ rfl _ rfl _ rfl _ rfl) := treeSw_h m n f h c _ rfl _ rfl _ rfl _ rfl

theorem sumSw (m : Nat) (f h : Nat → Nat → Int) (hm : m ≤ 2 ^ 40) :
    SumOk Tryz.prog 2 (.block 0 (.loop (loopAt 0 Tryz.f7))) (atS 26 (lvSw .normal) 2 [.sl 0 9 0 0 m none, .sl 1 9 0 0 m none, .v (i64 (0 : Nat))] (hpSw m f h) (fun K => cond (noneTo (badE f h) m) (K .normal (mkT 0 26 []) (hpSw m f h)) (K .ret (mkT 0 26 [(4, .v (.bool false))]) (hpSw m f h)))) := by
  refine for_at g0_ok (n := 100) (m := 2) (lv := lvSw) (fun i => [.sl 0 9 0 0 m none, .sl 1 9 0 0 m none, .v (i64 (i : Nat))]) (fun _ => hpSw m f h) (fun i => noneTo (badE f h) i = true) m (fun _ => noLam) (lv3_ris rfl rfl rfl) (Nat.le_refl _) rfl fun K Q hk i hi him => ⟨noLam_ok _ _ _, ?_⟩
  rw [rndSw]
  refine good_cond (fun c1 => ?_) fun c1 => ?_
  · have c1 := of_decide_eq_true c1
    have c1' : i < m := by omega
    rw [Int.toNat_natCast, Nat.zero_add, wr_in (x := (i : Int) + 1) (by omega)]
    refine good_needs (by simp only [ob_cons, ob_nil, and_true, decide_eq_true_eq]; omega) (good_cond (fun q => ?_) fun q => ?_)
    · have hb : badE f h i = true := by
        unfold badE
        rw [Bool.not_eq_true', decide_eq_false_iff_not]
        intro e
        simp only [whOf, Wh.mk.injEq, Cy.mk.injEq] at e
        obtain ⟨e0, e1, e2, e3, e4, e5, e6, e7, e8⟩ := e
        simp [e0, e1, e2, e3, e4, e5, e6, e7, e8] at q
      refine good_out ⟨_, Hsim.refl _, ?_⟩
      rw [noneTo_no c1' hb] at hk
      exact hk
    · have hb : badE f h i = false := by
        unfold badE
        rw [Bool.not_eq_false', decide_eq_true_eq]
        simp at q
        simp [whOf, q]
      exact good_out ⟨i + 1, ⟨rfl, c1', noneTo_succ hi hb⟩, rfl, Hsim.refl _⟩
  · have c1 := of_decide_eq_false c1
    have : i = m := by omega
    subst this
    refine good_out ⟨_, Hsim.refl _, ?_⟩
    rw [if_pos rfl]
    rw [hi] at hk
    exact hk
theorem ok_sameW : SpecOk Tryz.prog 7 (specR md_eqWS (FeqB eqL)) := by
  refine specR_hr g0_ok Tryz.func7 rfl fun sas fr hF ho => ?_
  unfold FeqB at hF
  split at hF
  · rename_i m g n g2
    cases hF
    simp only [ob_cons] at ho
    obtain ⟨h1, h2, h3, _⟩ := ho
    have hm := of_decide_eq_true h3
    refine ⟨[.row false m 9 (row9 (itW g)) 53, .row false n 9 (row9 (itW g2)) 53], lamSw m (itW g) (itW g2) (noneTo (badE (itW g) (itW g2)) m), 100, .cons (ABeq.row fun j hj => allW_get h1 j hj) (.cons (ABeq.row fun j hj => allW_get h2 j hj) .nil), lam1 (by kernel_rfl) (sumSw m (itW g) (itW g2) (by omega)), ?_⟩
    show GoodQ (execF Tryz.prog g0 (lamSw m (itW g) (itW g2) (noneTo (badE (itW g) (itW g2)) m)) 100 Tryz.f7 [.sl 0 9 0 0 m none, .sl 1 9 0 0 n none] [.row false m 9 (row9 (itW g)) 53, .row false n 9 (row9 (itW g2)) 53] (packK 2)) _
    rw [treeSw]
    refine good_cond (fun q => ?_) fun q => ?_
    · have hne : m ≠ n := fun e => by
        subst e
        simp at q
      exact good_out ⟨_, rfl, by rw [eqL_len (by rw [listW_length, listW_length]; exact hne)], .cons (ABeq.row fun j hj => (allW_get h1 j hj).symm) (.cons (ABeq.row fun j hj => (allW_get h2 j hj).symm) .nil)⟩
    · have e : m = n := by
        have q2 : (m : Int) = n := by simpa using q
        omega
      subst e
      refine good_needs (by rw [ob_cons]; exact ⟨chk_of ⟨rfl, Hsim.refl _⟩, rfl⟩) (good_cond (fun q => ?_) fun q => ?_)
      · exact good_out ⟨_, rfl, by rw [eqL_list, q], .cons (ABeq.row fun j hj => (allW_get h1 j hj).symm) (.cons (ABeq.row fun j hj => (allW_get h2 j hj).symm) .nil)⟩
      · exact good_out ⟨_, rfl, by rw [eqL_list, q], .cons (ABeq.row fun j hj => (allW_get h1 j hj).symm) (.cons (ABeq.row fun j hj => (allW_get h2 j hj).symm) .nil)⟩
  · cases hF

end Go.Proofs.YtfpebhlkikmgbaaGreatDoor

/- CycGauss, at a number and nothing; the law's tree. No conditions. -/
namespace Go.Proofs.YtfpebhlkikmgbaaGreatDoor
open Go.RowKit
set_option maxRecDepth 100000

theorem treeCga_h (re im : Int) (u0 : _) (hu0 : (AV.v (.int .i64 0)) = u0) : execF Tryz.prog (ext (ext gm_small 36 (specV f_plus)) 19 (specR [.val, .val] FgaO)) noLam 100 Tryz.f10 [.v (i64 re), .v (i64 im)] [] (packK 0)
    = bif !smallF (v8 re (0 : Int) (0 : Int) (0 : Int) (0 : Int) (0 : Int) im (0 : Int)) (-1000000 : Int) (1000000 : Int) then Res.out .ret [AV.tup [AV.agg [u0, u0, u0, u0, u0, u0, u0, u0], AV.v (.bool false)]] [] else Res.out .ret [AV.tup [AV.agg [AV.v (.int .i64 re), u0, u0, u0, u0, u0, AV.v (.int .i64 im), u0], AV.v (.bool true)]] [] := by
  subst hu0
  kernel_rfl
theorem treeCga (re im : Int) : type_of% (treeCga_h re im _ rfl) := treeCga_h re im _ rfl

def cgOk (re im : Int) : Bool := smallF (v8 re 0 0 0 0 0 im 0) (-1000000) 1000000
def cgV (re im : Int) : Nat → Int := bif cgOk re im then v8 re 0 0 0 0 0 im 0 else fun _ => 0
def FcgO (cv : Int → Int → Nat → Int) (ck : Int → Int → Bool) : List SA → Option FR
  | [.v (.int .i64 re), .v (.int .i64 im)] => some { val := .tup [.agg (cyC (cv re im)), .v (.bool (ck re im))] }
  | _ => none
theorem ok_cg : SpecOk Tryz.prog 10 (specR [.val, .val] (FcgO cgV cgOk)) := by
  refine specR_hr (ext_ok (ext_ok gm_small_ok ok_plus) ok_ga) Tryz.func10 rfl fun sas fr hF ho => ?_
  unfold FcgO at hF
  split at hF
  · rename_i re im
    cases hF
    refine ⟨[], noLam, 100, .nil, noLam' _, ?_⟩
    show GoodQ (execF Tryz.prog (ext (ext gm_small 36 (specV f_plus)) 19 (specR [.val, .val] FgaO)) noLam 100 Tryz.f10 [.v (i64 re), .v (i64 im)] [] (packK 0)) _
    rw [treeCga]
    have e : cgOk re im = smallF (v8 re 0 0 0 0 0 im 0) (-1000000) 1000000 := rfl
    rw [← e]
    cases h : cgOk re im with
    | true => exact good_false rfl (good_out ⟨_, rfl, by simp only [cgV, h]; rfl, .nil⟩)
    | false => exact good_true rfl (good_out ⟨_, rfl, by simp only [cgV, h]; rfl, .nil⟩)
  · cases hF
def gmLRg (fa fb : Nat → (Nat → Int) → Int) (fc : Nat → (Nat → Int) → Bool) (fd : Nat → (Nat → Int) → Int) (rd : Int → Int → Bool → Int → List Wh) (ro : Int → Int → Bool → Int → Bool) (eq : List Wh → List Wh → Bool) (ok : Int → Int → Bool → Bool) (gf : Int → Int → Int) (dv : (Nat → Nat → Int) → Int → Nat → Nat → Int) (dk : (Nat → Nat → Int) → Int → Nat → Bool) (cv : Int → Int → Nat → Int) (ck : Int → Int → Bool) (fl : List Wh → Int) : Gam :=
  ext (ext (ext (ext (ext (ext (ext (ext g0 4 (specR md_co (FdrO fun m b => frRg (fa m b, fb m b, fc m b, fd m b)))) 5 (specU [.val, .val, .val, .val] (UrgO rd ro))) 6 (specR [.val, .val, .val, .val] (FrdO rd ro))) 7 (specR md_eqWS (FeqB eq))) 8 (specR [.val, .val, .val] (FrcO ok gf))) 9 (specR md_wv (FDAo dv dk))) 10 (specR [.val, .val] (FcgO cv ck))) 11 (specR md_ws (FnmO fl))
theorem lawRg_h (fa fb : Nat → (Nat → Int) → Int) (fc : Nat → (Nat → Int) → Bool) (fd : Nat → (Nat → Int) → Int) (rd : Int → Int → Bool → Int → List Wh) (ro : Int → Int → Bool → Int → Bool) (eq : List Wh → List Wh → Bool) (ok : Int → Int → Bool → Bool) (gf : Int → Int → Int) (dv : (Nat → Nat → Int) → Int → Nat → Nat → Int) (dk : (Nat → Nat → Int) → Int → Nat → Bool) (cv : Int → Int → Nat → Int) (ck : Int → Int → Bool) (fl : List Wh → Int) (m : Nat) (b : Nat → Int) (u4 : _) (hu4 : [AB.row false m 1 (rowB b) 5] = u4) (u8 : _) (hu8 : (0 : Int) = u8) (u10 : _) (hu10 : [AV.v (.bool false)] = u10) (u20 : _) (hu20 : (0 : Nat) = u20) (u21 : _) (hu21 : [AV.v (.bool true)] = u21) (u0 : _) (hu0 : (itB fun q ↦ rowB b (u20 + q)) = u0) (u5 : _) (hu5 : (IntKind.wrap .i64 (IntKind.wrap .i64 (fa m u0 + fb m u0) - fd m u0)) = u5) (u6 : _) (hu6 : (IntKind.wrap .i64 (IntKind.wrap .i64 (fa m u0 - fb m u0) + fd m u0)) = u6) (u15 : _) (hu15 : (fa m u0) = u15) (u17 : _) (hu17 : (fb m u0) = u17) (u18 : _) (hu18 : (fc m u0) = u18) (u19 : _) (hu19 : (fd m u0) = u19) (u1 : _) (hu1 : (rd u15 u17 u18 u19) = u1) (u2 : _) (hu2 : (itW fun q ↦ row9 (wfun u1) (u20 + q)) = u2) (u7 : _) (hu7 : (List.length u1) = u7) (u9 : _) (hu9 : (Res.out .ret [AV.v (.bool (eq (listW u2 u7) (listW (itW (row9 (wfun u1))) u7)))] u4) = u9) (u12 : _) (hu12 : (Res.out .ret [AV.v (.bool (fl (listW u2 u7) == IntKind.wrap .i64 (Int.tdiv u15 (gf u15 u17))))] u4) = u12) (u13 : _) (hu13 : (decide (List.length u1 ≤ (274877906944 : Nat))) = u13) (u14 : _) (hu14 : (allW u7 fun q ↦ row9 (wfun u1) (u20 + q)) = u14) (u16 : _) (hu16 : (Nat.ble (u20 + List.length u1) u7) = u16) (u3 : _) (hu3 : [u16, Nat.ble u7 u7, u14, allW u7 (row9 (wfun u1)), u13] = u3) (u11 : _) (hu11 : [u16, u14, u13] = u11) : execF Tryz.prog (gmLRg fa fb fc fd rd ro eq ok gf dv dk cv ck fl) noLam 100 Tryz.f3 [.sl 0 1 0 0 m none] [.row false m 1 (rowB b) 5] (packK 1)
    = bif decide ((m : Int) > (1048576 : Int)) then Res.out .ret u21 u4 else needs [Nat.ble (u20 + m) m, okB m fun q ↦ rowB b (u20 + q), decide (m ≤ (2097152 : Nat))] (bif !ro u15 u17 u18 u19 == ro u15 u17 u18 u19 then bif ro u15 u17 u18 u19 == ro u15 u17 u18 u19 then needs u3 u9 else Res.out .ret u10 u4 else needs u3 (bif !eq (listW u2 u7) (listW (itW (row9 (wfun u1))) u7) then bif ro u15 u17 u18 u19 == ro u15 u17 u18 u19 then needs u3 u9 else Res.out .ret u10 u4 else bif !ro u15 u17 u18 u19 then bif ro u15 u17 u18 u19 == ro u15 u17 u18 u19 then needs u3 u9 else Res.out .ret u10 u4 else needs [ok u15 u17 u18, u16, u14, u13] (bif !fc m u0 then bif dk u2 u8 u7 then bif ck u5 u8 then bif dv u2 u8 u7 u20 == cv u5 u8 u20 && (dv u2 u8 u7 (1 : Nat) == cv u5 u8 (1 : Nat) && (dv u2 u8 u7 (2 : Nat) == cv u5 u8 (2 : Nat) && (dv u2 u8 u7 (3 : Nat) == cv u5 u8 (3 : Nat) && (dv u2 u8 u7 (4 : Nat) == cv u5 u8 (4 : Nat) && (dv u2 u8 u7 (5 : Nat) == cv u5 u8 (5 : Nat) && (dv u2 u8 u7 (6 : Nat) == cv u5 u8 (6 : Nat) && (dv u2 u8 u7 (7 : Nat) == cv u5 u8 (7 : Nat) && true))))))) && true then bif fd m u0 == u8 then Res.out .ret u21 u4 else needs u11 u12 else Res.out .ret u10 u4 else Res.out .ret u10 u4 else Res.out .ret u10 u4 else bif dk u2 u8 u7 then bif ck u6 u8 then bif dv u2 u8 u7 u20 == cv u6 u8 u20 && (dv u2 u8 u7 (1 : Nat) == cv u6 u8 (1 : Nat) && (dv u2 u8 u7 (2 : Nat) == cv u6 u8 (2 : Nat) && (dv u2 u8 u7 (3 : Nat) == cv u6 u8 (3 : Nat) && (dv u2 u8 u7 (4 : Nat) == cv u6 u8 (4 : Nat) && (dv u2 u8 u7 (5 : Nat) == cv u6 u8 (5 : Nat) && (dv u2 u8 u7 (6 : Nat) == cv u6 u8 (6 : Nat) && (dv u2 u8 u7 (7 : Nat) == cv u6 u8 (7 : Nat) && true))))))) && true then bif fd m u0 == u8 then Res.out .ret u21 u4 else needs u11 u12 else Res.out .ret u10 u4 else Res.out .ret u10 u4 else Res.out .ret u10 u4))) := by
  subst hu11 hu3 hu16 hu14 hu13 hu12 hu9 hu7 hu2 hu1 hu19 hu18 hu17 hu15 hu6 hu5 hu0 hu21 hu20 hu10 hu8 hu4
  kernel_rfl
theorem lawRg (fa fb : Nat → (Nat → Int) → Int) (fc : Nat → (Nat → Int) → Bool) (fd : Nat → (Nat → Int) → Int) (rd : Int → Int → Bool → Int → List Wh) (ro : Int → Int → Bool → Int → Bool) (eq : List Wh → List Wh → Bool) (ok : Int → Int → Bool → Bool) (gf : Int → Int → Int) (dv : (Nat → Nat → Int) → Int → Nat → Nat → Int) (dk : (Nat → Nat → Int) → Int → Nat → Bool) (cv : Int → Int → Nat → Int) (ck : Int → Int → Bool) (fl : List Wh → Int) (m : Nat) (b : Nat → Int) : type_of% (lawRg_h fa fb fc fd rd ro eq ok gf dv dk cv ck fl m b _ rfl _ rfl _ rfl _ rfl _ rfl _ rfl _ rfl _ rfl _ rfl _ rfl _ rfl _ rfl _ rfl _ rfl _ rfl _ rfl _ rfl _ rfl _ rfl _ rfl _ rfl _ rfl) := lawRg_h fa fb fc fd rd ro eq ok gf dv dk cv ck fl m b _ rfl _ rfl _ rfl _ rfl _ rfl _ rfl _ rfl _ rfl _ rfl _ rfl _ rfl _ rfl _ rfl _ rfl _ rfl _ rfl _ rfl _ rfl _ rfl _ rfl _ rfl _ rfl

theorem gmLRg_ok : GamOk Tryz.prog (gmLRg (fun m b => (bRg m b).1) (fun m b => (bRg m b).2.1) (fun m b => (bRg m b).2.2.1) (fun m b => (bRg m b).2.2.2) rnL rnO eqL okM gcdI daV daOk cgV cgOk fldV) :=
  ext_ok (ext_ok (ext_ok (ext_ok (ext_ok (ext_ok (ext_ok (ext_ok g0_ok ok_drRg) ok_Urg) ok_rd) ok_sameW) ok_rc) ok_DAI) ok_cg) ok_foI

end Go.Proofs.YtfpebhlkikmgbaaGreatDoor

/- Plain: the point and the fold of two wheels. No program, no conditions. -/
namespace Go.Proofs.YtfpebhlkikmgbaaGreatDoor
open Go.RowKit
set_option maxRecDepth 100000

abbrev rl (x : Int) : Cy := ⟨x, 0, 0, 0, 0, 0, 0, 0⟩
theorem rl_f {x : Int} : ∀ k, k < 8 → (rl x).f k = if k = 0 then x else 0 := forall8 rfl rfl rfl rfl rfl rfl rfl rfl
theorem rl_bdd {x : Int} (h : -1000 ≤ x ∧ x ≤ 1000) : bd8 2000000000000 (rl x).f := fun k hk => by
  rw [rl_f k hk]
  split <;> omega
theorem two_at {x y s t : Int} {f : Nat → Nat → Int} {m : Nat} (hx : -1000 ≤ x ∧ x ≤ 1000) (hy : -1000 ≤ y ∧ y ≤ 1000) (hok : okT [⟨s, rl x⟩, ⟨t, rl y⟩] = true) (hf : listW f m = tidyL [⟨s, rl x⟩, ⟨t, rl y⟩]) :
    daOk f 0 m = true ∧ ∀ k, k < 8 → daV f 0 m k = (rl (x + y)).f k := by
  have hb : bdW 2000000000000 [⟨s, rl x⟩, ⟨t, rl y⟩] := fun w hw => by
    rcases List.mem_cons.1 hw with rfl | hw
    · exact rl_bdd hx
    · rcases List.mem_cons.1 hw with rfl | hw
      · exact rl_bdd hy
      · cases hw
  obtain ⟨hT, hl⟩ := tidyL_lin hb hok
  have hd : okD (listW f m) = true := by rw [hf]; exact tidy_okD hT
  have hat : ∀ k, k < 8 → atF f 0 m k = (rl (x + y)).f k := fun k hk => by
    rw [(atF_exact hd (Int.le_refl 0) (by omega) m (Nat.le_refl _) k hk).1, dAt, hf, hl _ (atT_lin 0 k)]
    show tnI (rl x).f (0 * s) k + (tnI (rl y).f (0 * t) k + 0) = _
    rw [Int.zero_mul, Int.zero_mul, Int.add_zero]
    show (rl x).f k + (rl y).f k = _
    rw [rl_f k hk, rl_f k hk, rl_f k hk]
    split <;> omega
  have h : daOk f 0 m = true := by
    rw [daOk, hd, Bool.true_and, Bool.and_eq_true]
    refine ⟨rfl, smallF_iff.2 fun k hk => ?_⟩
    rw [cyOf_f8 _ k hk, hat k hk, rl_f k hk]
    split <;> omega
  refine ⟨h, fun k hk => ?_⟩
  rw [daV, h, cond_true]
  exact hat k hk
theorem rl_nz {x : Int} (h : x ≠ 0) : rl x ≠ cyZ := fun e => h (by have := congrArg (fun c => c.f 0) e; exact this)
theorem two_tidy {x y s t : Int} (hx : x ≠ 0) (hy : y ≠ 0) (hst : s ≠ t) (hok : okT [⟨s, rl x⟩, ⟨t, rl y⟩] = true) :
    tidyL [⟨s, rl x⟩, ⟨t, rl y⟩] = if s < t then [⟨s, rl x⟩, ⟨t, rl y⟩] else [⟨t, rl y⟩, ⟨s, rl x⟩] := by
  have h := okT_some hok
  generalize tidyL [⟨s, rl x⟩, ⟨t, rl y⟩] = T at h
  have hx := rl_nz hx
  have hy := rl_nz hy
  generalize rl x = rx at *
  generalize rl y = ry at *
  unfold tidyS at h
  split at h
  · rename_i l hl
    split at h
    · rename_i hv
      simp only [Option.some.injEq] at h
      subst h
      unfold runT at hl
      split at hl
      case isFalse => cases hl
      unfold runT at hl
      split at hl
      case isFalse => cases hl
      unfold runT at hl
      simp only [Option.some.injEq] at hl
      subst hl
      show nonZ (if s < t then [⟨s, rx⟩, ⟨t, ry⟩] else if s = t then [⟨s, cyAdd rx ry⟩] else [⟨t, ry⟩, ⟨s, rx⟩]) = _
      rw [if_neg hst]
      split <;> (unfold nonZ; simp [hx, hy])
    · cases h
  · cases h
theorem two_fold {x y s t : Int} (bx : -1000 ≤ x ∧ x ≤ 1000) (by' : -1000 ≤ y ∧ y ≤ 1000) (hx : x ≠ 0) (hy : y ≠ 0) (hst : s ≠ t) (hok : okT [⟨s, rl x⟩, ⟨t, rl y⟩] = true) :
    fldV (tidyL [⟨s, rl x⟩, ⟨t, rl y⟩]) = (s - t).natAbs := by
  have hb : bdW 2000000000000 [⟨s, rl x⟩, ⟨t, rl y⟩] := fun w hw => by
    rcases List.mem_cons.1 hw with rfl | hw
    · exact rl_bdd bx
    · rcases List.mem_cons.1 hw with rfl | hw
      · exact rl_bdd by'
      · cases hw
  obtain ⟨hT, _⟩ := tidyL_lin hb hok
  have key : ∀ T : List Wh, isTidy T → ∀ a c : Wh, T = [a, c] → fldV T = (a.s - c.s).natAbs := by
    rintro T hT a c rfl
    have h0 := tidy_sp hT (i := 0) (by show 0 < 2; omega)
    have h1 := tidy_sp hT (i := 1) (by show 1 < 2; omega)
    rw [fldV, yI_self hT, tI_self hT, cond_true]
    show gcdI (pgF (dfH [a, c]) 1) (dfH [a, c] 1) = _
    rw [dfH_first, gcdI_zero]
    have e : dfH [a, c] 1 = c.s - a.s := by
      have e0 : wfun [a, c] 0 0 = a.s := rfl
      have e1 : wfun [a, c] 1 0 = c.s := rfl
      unfold dfH
      rw [wr_in (by omega), e0, e1]
    rw [e]
    omega
  have hL := two_tidy hx hy hst hok
  split at hL
  · rw [key _ hT _ _ hL]
  · rw [key _ hT _ _ hL]
    show ((t - s).natAbs : Int) = _
    omega
theorem gcd_parts {a b : Int} (ha : 6 ≤ a ∧ a ≤ 240) (hb : 6 ≤ b ∧ b ≤ 240) : ∃ g p q, gcdI a b = g ∧ 0 < g ∧ a = g * p ∧ b = g * q ∧ 0 < p ∧ 0 < q := by
  have hg : 0 < gcdI a b := by
    have := Nat.gcd_pos_of_pos_left b.natAbs (m := a.natAbs) (by omega)
    unfold gcdI
    omega
  have h1 : gcdI a b ∣ a := Int.ofNat_dvd_left.2 (Nat.gcd_dvd_left _ _)
  have h2 : gcdI a b ∣ b := Int.ofNat_dvd_left.2 (Nat.gcd_dvd_right _ _)
  obtain ⟨p, hp⟩ := h1
  obtain ⟨q, hq⟩ := h2
  refine ⟨gcdI a b, p, q, rfl, hg, hp, hq, ?_, ?_⟩
  · refine Int.not_le.1 fun h => ?_
    have := Int.mul_le_mul_of_nonneg_left h (Int.le_of_lt hg)
    omega
  · refine Int.not_le.1 fun h => ?_
    have := Int.mul_le_mul_of_nonneg_left h (Int.le_of_lt hg)
    omega

end Go.Proofs.YtfpebhlkikmgbaaGreatDoor

/- FnRing returns true, whatever the bytes are. Conditions: bytes. -/
namespace Go.Proofs.YtfpebhlkikmgbaaGreatDoor
open Go.RowKit
set_option maxRecDepth 100000

theorem rl_v8 {x : Int} : ∀ k, k < 8 → (rl x).f k = v8 x 0 0 0 0 0 0 0 k := forall8 rfl rfl rfl rfl rfl rfl rfl rfl
theorem cg_at {x : Int} (h : -1000 ≤ x ∧ x ≤ 1000) : cgOk x 0 = true ∧ ∀ k, k < 8 → cgV x 0 k = (rl x).f k := by
  have e : cgOk x 0 = true := smallF_iff.2 fun k hk => by
    rw [← rl_v8 k hk, rl_f k hk]
    split <;> omega
  refine ⟨e, fun k hk => ?_⟩
  rw [cgV, e, cond_true, rl_v8 k hk]
theorem ring_law {a b d : Int} {c : Bool} (h : rnO a b c d = true) :
    okM a b c = true ∧ ∀ due, due = (bif c then a - b + d else a + b - d) →
      ((daOk (itW (row9 (wfun (rnL a b c d)))) 0 (rnL a b c d).length = true ∧ cgOk due 0 = true) ∧ (∀ k, k < 8 → daV (itW (row9 (wfun (rnL a b c d)))) 0 (rnL a b c d).length k = cgV due 0 k)) ∧
      (d ≠ 0 → fldV (rnL a b c d) = IntKind.wrap IntKind.i64 (Int.tdiv a (gcdI a b))) := by
  have h' := h
  rw [rnO, rnP_eq, Bool.and_eq_true, Bool.and_eq_true] at h'
  obtain ⟨⟨h1, h2⟩, h3⟩ := h'
  have hL : rnL a b c d = tidyL (rnW a b c d) := (rnL_yes (by rw [rnP_eq, h1, h2]; rfl)).1
  obtain ⟨ha, hb⟩ := okM_in h1
  have i1 := inR_iff.1 ha
  have i2 := inR_iff.1 hb
  have i3 := inR_iff.1 h2
  obtain ⟨g, p, q, eg, hg, ea, eb, hp, hq⟩ := gcd_parts i1 i2
  have da : Int.tdiv a g = p := by rw [ea, Int.mul_tdiv_cancel_left _ (by omega)]
  have db : Int.tdiv b g = q := by rw [eb, Int.mul_tdiv_cancel_left _ (by omega)]
  have dm : Int.tdiv (b - a) g = q - p := by rw [eb, ea, ← Int.mul_sub, Int.mul_tdiv_cancel_left _ (by omega)]
  have dp : Int.tdiv (a + b) g = p + q := by rw [eb, ea, ← Int.mul_add, Int.mul_tdiv_cancel_left _ (by omega)]
  have lp : p ≤ 240 := by
    have := Int.mul_le_mul_of_nonneg_right (show 1 ≤ g by omega) (Int.le_of_lt hp)
    omega
  have lq : q ≤ 240 := by
    have := Int.mul_le_mul_of_nonneg_right (show 1 ≤ g by omega) (Int.le_of_lt hq)
    omega
  refine ⟨h1, fun due hdue => ?_⟩
  have hlm := listW_me (rnL a b c d)
  rw [hL] at hlm ⊢
  have fin : ∀ {x y s t : Int}, (-1000 ≤ x ∧ x ≤ 1000) → (-1000 ≤ y ∧ y ≤ 1000) → x + y = due → -1000 ≤ due ∧ due ≤ 1000 → rnW a b c d = [⟨s, rl x⟩, ⟨t, rl y⟩] → x ≠ 0 → (d ≠ 0 → y ≠ 0) → s ≠ t → (((s - t).natAbs : Int) = p) →
      ((daOk (itW (row9 (wfun (tidyL (rnW a b c d))))) 0 (tidyL (rnW a b c d)).length = true ∧ cgOk due 0 = true) ∧ (∀ k, k < 8 → daV (itW (row9 (wfun (tidyL (rnW a b c d))))) 0 (tidyL (rnW a b c d)).length k = cgV due 0 k)) ∧
      (d ≠ 0 → fldV (tidyL (rnW a b c d)) = IntKind.wrap IntKind.i64 (Int.tdiv a (gcdI a b))) := by
    intro x y s t hx hy hxy hd hW x0 y0 hst hn
    have hok := h3
    rw [hW] at hok
    have hl2 := hlm
    rw [hW] at hl2 ⊢
    obtain ⟨e1, e2⟩ := two_at hx hy hok hl2
    obtain ⟨e3, e4⟩ := cg_at hd
    refine ⟨⟨⟨e1, e3⟩, fun k hk => ?_⟩, fun h0 => ?_⟩
    · rw [e2 k hk, e4 k hk, hxy]
    · rw [two_fold hx hy x0 (y0 h0) hst hok, hn, eg, da, wr_in (by omega)]
  cases c with
  | true =>
    have hlt : b < a := by
      rw [okM, ha, hb, Bool.true_and, Bool.true_and, Bool.true_and] at h1
      have : decide (b ≥ a) = false := by simpa using h1
      have := of_decide_eq_false this
      omega
    have hW : rnW a b true d = [⟨q, rl (a - b)⟩, ⟨q - p, rl d⟩] := by
      rw [rnW, gcdFI ha hb, eg, cond_true, wr_in (x := b - a) (by omega), db, dm, wr_in (x := q) (by omega), wr_in (x := q - p) (by omega), wr_in (x := a - b) (by omega)]
    have hdue : due = a - b + d := hdue
    exact fin (by omega) (by omega) hdue.symm (by omega) hW (by omega) (fun h => h) (by omega) (by omega)
  | false =>
    have hW : rnW a b false d = [⟨q, rl (a + b)⟩, ⟨p + q, rl (0 - d)⟩] := by
      rw [rnW, gcdFI ha hb, eg, cond_false, wr_in (x := a + b) (by omega), db, dp, wr_in (x := q) (by omega), wr_in (x := p + q) (by omega), wr_in (x := 0 - d) (by omega)]
    have hdue : due = a + b - d := hdue
    exact fin (by omega) (by omega) (by omega) (by omega) hW (by omega) (by omega) (by omega) (by omega)
theorem yes_rg (m : Nat) (b : Nat → Int) (_ : m ≤ 9223372036854775807) (hb : okB m (rowB b) = true) : ∃ Γ n Λ, GamOk Tryz.prog Γ ∧ (∀ cc, (Tryz.f3).body = some cc → LamOk Tryz.prog 1 Λ cc) ∧ GoodQ (execF Tryz.prog Γ Λ n Tryz.f3 [.sl 0 1 0 0 m none] [.row false m 1 (rowB b) 5] (packK 1)) SaysYes := by
  refine ⟨_, 100, noLam, gmLRg_ok, noLam' _, ?_⟩
  rw [lawRg]
  refine good_cond (fun _ => good_out rfl) fun c => ?_
  have c := of_decide_eq_false c
  have b21 : decide (m ≤ 2097152) = true := decide_eq_true (by omega)
  simp only [Nat.zero_add, itB_row, listW_me]
  generalize bRg m b = X
  obtain ⟨p, q, i, d⟩ := X
  have hl := rnL_len p q i d
  simp only [hb, b21, b38 hl, ble_me, allW_row, needs_t, needs_nil, beq_self_eq_true, eqL_me, Bool.not_true, cond_false, cond_true]
  refine good_cond (fun _ => good_out rfl) fun h => ?_
  have h : rnO p q i d = true := by simpa using h
  obtain ⟨hM, hlaw⟩ := ring_law h
  refine good_needs (by simp only [ob_cons, ob_nil, and_true]; exact hM) ?_
  have h' := h
  rw [rnO, rnP_eq, Bool.and_eq_true, Bool.and_eq_true] at h'
  obtain ⟨j1, j2⟩ := okM_in hM
  have k1 := inR_iff.1 j1
  have k2 := inR_iff.1 j2
  have k3 := inR_iff.1 h'.1.2
  cases i with
  | false =>
    obtain ⟨⟨⟨e1, e2⟩, e3⟩, e4⟩ := hlaw _ rfl
    refine good_true rfl ?_
    rw [wr_in (x := p + q) (by omega), wr_in (x := p + q - d) (by omega)]
    refine good_true e1 (good_true e2 (good_true (by rw [Bool.and_eq_true]; exact ⟨eq8b e3, rfl⟩) (good_cond (fun _ => good_out rfl) fun hd => good_out ?_)))
    rw [e4 (by simpa using hd), beq_self_eq_true]
    rfl
  | true =>
    obtain ⟨⟨⟨e1, e2⟩, e3⟩, e4⟩ := hlaw _ rfl
    refine good_false rfl ?_
    rw [wr_in (x := p - q) (by omega), wr_in (x := p - q + d) (by omega)]
    refine good_true e1 (good_true e2 (good_true (by rw [Bool.and_eq_true]; exact ⟨eq8b e3, rfl⟩) (good_cond (fun _ => good_out rfl) fun hd => good_out ?_)))
    rw [e4 (by simpa using hd), beq_self_eq_true]
    rfl

end Go.Proofs.YtfpebhlkikmgbaaGreatDoor

/- Ring designs have as many folds as cusps: FnRing returns true, and its arguments read as before. Conditions: errors.errorType, as the row lists it; tied by the card. -/
namespace Go.Proofs.YtfpebhlkikmgbaaGreatDoor
open Go.ChangeShapes Go.WideShapes Go.ChangeAt Go.RowKit

set_option maxRecDepth 100000
theorem rin_et : Tryz.prog.globalNamed "errors.errorType" = some 0 := by kernel_rfl
theorem rin_rt : (Tryz.prog.cutTypes.find? (·.1 == "internal/reflectlite.rtype")).map (·.2) = some 108 := by kernel_rfl
theorem rin_row : ((List.range 171).filter fun t => Tryz.prog.rowNamed t [101, 114, 114, 111, 114]) = [45] := by kernel_rfl
theorem rin_size : Tryz.prog.types.size = 171 := by kernel_rfl
theorem handle_tab {W : World} (h : laidMetH Tryz.prog Rows.fnRingRow.laid W) : TabOk (fun k => W.heap.size ≤ k) W := by
  have h' : laidMet Tryz.prog [] W ∧ handlesMet Tryz.prog Rows.fnRingRow.laid W := h
  obtain ⟨name, u, ty, e1, e2, e3, e4, e5⟩ := h'.2 _ (List.mem_singleton.2 rfl)
  have en : name = [101, 114, 114, 111, 114] := (Option.some.inj e1).symm
  subst en
  obtain rfl := Option.some.inj (rin_rt.symm.trans e2)
  have hm : ty ∈ (List.range 171).filter fun t => Tryz.prog.rowNamed t [101, 114, 114, 111, 114] := List.mem_filter.2 ⟨List.mem_range.2 (by rw [← rin_size]; exact e3), e4⟩
  rw [rin_row] at hm
  obtain rfl := List.mem_singleton.1 hm
  have hh : typeHandle Tryz.prog 45 = .pointer (some ⟨1, 45, none⟩) := by kernel_rfl
  rw [hh] at e5
  intro x hx
  obtain rfl : x = (0, fun l => l = [eT]) := List.mem_singleton.1 hx
  unfold World.var? at e5
  rw [rin_et, Option.bind_some] at e5
  split at e5
  · rename_i cs t fz hcs
    simp only [Option.some.injEq] at e5
    subst e5
    have := (Array.getElem?_eq_some_iff.1 hcs).1
    exact ⟨by show ¬ W.heap.size ≤ 0; omega, _, t, fz, hcs, rfl⟩
  · cases e5
noncomputable def ringWorld (os : Os) : World :=
  let w0 := World.holding Tryz.prog os ⟨#[], #[], []⟩
  { w0 with heap := w0.heap.modify 0 fun
      | .cells _ t frozen => .cells #[eT] t frozen
      | o => o }
theorem ringWorld_met (os : Os) (args : Array Value) : laidMetH Tryz.prog Rows.fnRingRow.laid ((ringWorld os).forCall (fun _ _ => 0) ⟨#[], args, []⟩).memory :=
  laidMetH_of_parts (laidMet_nil _ _) (by kernel_rfl)
theorem rin_lifted (os : Os) (started : os.Started) (H : Type) (enc : TypeId × Value → H) :
    ReturnsInHanded {} Tryz.checked os 3 .any (fun w args => (Rows.fnRingSpec.pre enc Tryz.prog Tryz.f3 Rows.fnRingRow.domain false w args ∧ laidMetH Tryz.prog Rows.fnRingRow.laid w) ∧ sizedMet enc Tryz.prog Tryz.f3 (OpenSpec.ofChange Rows.fnRingSpec) false w args)
      (Rows.fnRingSpec.post enc Tryz.prog Tryz.f3 false true false false) := by
  refine returnsInHanded_of_change_and (C := Tryz.checked) (X := fun w _ => laidMetH Tryz.prog Rows.fnRingRow.laid w) (fun _ _ _ hh h => h.of_heap hh) own started (by kernel_rfl) Tryz.func3
    (ChangeSpec.witness_at (enc := enc) (C := Tryz.checked) (os := os) (X := fun w _ => laidMetH Tryz.prog Rows.fnRingRow.laid w) false (ringWorld os) #[.slice none 0 0] 8 rfl (by kernel_rfl) (by kernel_rfl) (by kernel_rfl) (by kernel_rfl) (by kernel_rfl) (ringWorld_met os _)) ?_
  intro W base args ds gs before hval hW _ _ hL _
  exact contractB (spec := Rows.fnRingSpec) Tryz.func3 rfl rfl rfl (fun _ _ => rfl) (fun m b hm hb => yes_rg m b hm hb) H enc W base args ds gs before hval hW (handle_tab hL)

set_option maxRecDepth 100000 in
theorem rin_f1 : Rows.fnRingRow.wf (OpenSpec.ofChange Rows.fnRingSpec) = true := by kernel_rfl
set_option maxRecDepth 100000 in
theorem rin_f2 : (Rows.fnRingRow.inPlace == Tryz.prog.inPlace 3) = true := by kernel_rfl
set_option maxRecDepth 100000 in
theorem rin_f3 : (Rows.fnRingRow.unfollowed == Tryz.prog.unfollowed 3) = true := by kernel_rfl
set_option maxRecDepth 100000 in
theorem rin_f4 : (Rows.fnRingRow.recurses == Tryz.prog.recurses 3) = true := by kernel_rfl
set_option maxRecDepth 100000 in
theorem rin_f5 : (Rows.fnRingRow.named == Tryz.prog.varsNamed 3) = true := by kernel_rfl
set_option maxRecDepth 100000 in
theorem rin_f6 : Tryz.prog.funcNamed Rows.fnRingRow.func = some 3 := by kernel_rfl
theorem rin_f7 : (Rows.fnRingRow.lifted == Tryz.prog.liftsFinal) = true := jfG
theorem rin_f8 : (Tryz.prog.make == some Rows.fnRingRow.make) = true := jfH
theorem rin_f9 : (Rows.fnRingRow.plainKeys == Tryz.prog.plainKeys) = true := jfI
set_option maxRecDepth 100000 in
theorem rin_joined : joinedFacts Tryz.prog 3 Tryz.f3 Rows.fnRingSpec Rows.fnRingRow = true := by
  unfold joinedFacts
  rw [jfA, jfB, jfC, jfD, jfE, jfF, rin_f1, rin_f2, rin_f3, rin_f4, rin_f5, rin_f7, rin_f8, rin_f9]
  kernel_rfl

theorem rin_said : Rows.FnRingSaid :=
  OpenClaim.holds_of_wide 3 Tryz.f3 rfl rfl rfl rfl rfl rfl rfl ⟨rfl, rfl, rfl, rfl, rfl⟩ rfl rfl rfl rfl rfl rin_f6 Tryz.func3 rin_joined
    (of_decide_eq_true (by kernel_rfl)) (by unfold Func.isWrapper; first | (rw [if_pos (by decide +kernel)]; kernel_rfl) | (rw [if_neg (by decide +kernel)]; exact ⟨rfl, rfl⟩))
    (fun os started H enc _ => rin_lifted os started H enc)

theorem rin_holds : Rows.FnRingCardSaid :=
  Claim7.holds_tied_plain_at .later [] [.handle] true (true, "82030b93a886f68e81a655b37711a11d6cd3644ef2bc2b990d02c3798a627519") true
    rin_said (fun _ h => by cases h) (by kernel_rfl) (fun _ h => by cases h) fnRing_row_tie rfl ⟨rfl, rfl⟩ (by kernel_rfl) rfl
    (fun f fn hf hfn => by
      obtain rfl : f = 3 := (Option.some.inj (rin_f6.symm.trans hf)).symm
      obtain rfl : fn = Tryz.f3 := (Option.some.inj (Tryz.func3.symm.trans hfn)).symm
      exact ⟨by kernel_rfl, fun j t ht => by
        rw [Tryz.params3] at ht
        have h3 : t = 22 := by
          rcases j with _ | j
          · simpa using ht.symm
          · simp at ht
        subst h3
        exact (show Tryz.prog.wantsStandIn 22 = false by kernel_rfl)⟩)
    (by kernel_rfl)
#print axioms rin_holds

end Go.Proofs.YtfpebhlkikmgbaaGreatDoor
