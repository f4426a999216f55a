/- Plain algebra: exact points over the 24th roots as eight integers, their products, mirrors, real and imaginary parts, and signs of surds, all in wrapped 64-bit integers. No program, no conditions. -/
import Derived.Test.YtddhmidegldhdaaGreatDoorZD0
import Derived.Test.YtddhmidegldhdaaGreatDoorZD1
import Derived.RangeFuncNested
import Derived.RangeFuncBound
import Derived.RangeFuncCalls
import Derived.RangeFuncLeaves
import Derived.LoopNIn
import Derived.OrdersIn
import Derived.TacticsIn
import Derived.RowKit
import Derived.Laws.BitsLemmas
/- The abstract machine, 17: the same, in a frame of a round of a loop over a function. No conditions. -/
namespace Go.Proofs.YtddhmidegldhdaaGreatDoor
open Go.RowKit

end Go.Proofs.YtddhmidegldhdaaGreatDoor

/- The abstract machine, 18: code, in a frame of a round of a loop over a function. Conditions: those of the table of callees. -/
namespace Go.Proofs.YtddhmidegldhdaaGreatDoor
open Go.RowKit

end Go.Proofs.YtddhmidegldhdaaGreatDoor

/- The abstract machine, 19: a loop over a function: the rounds, on the loop's own frame. Conditions: the word of the function that yields. -/
namespace Go.Proofs.YtddhmidegldhdaaGreatDoor
open Go.RowKit

def keepR (w : World) (M : Nat → Prop) (W W' : World) : Prop := W.heap.size ≤ W'.heap.size ∧ ∀ (k : Nat) (o : Obj), k < w.heap.size → ¬ M k → W.heap[k]? = some o → W'.heap[k]? = some o

theorem keepR.trans {w : World} {M : Nat → Prop} {A B C : World} (h : keepR w M A B) (k : keepR w M B C) : keepR w M A C := ⟨Nat.le_trans h.1 k.1, fun i o hi hm ho => k.2 i o hi hm (h.2 i o hi hm ho)⟩

theorem keepR.fr {w : World} {M M' : Nat → Prop} {W W' : World} (hs : w.heap.size ≤ W.heap.size) (hsub : ∀ k, k < w.heap.size → M' k → M k) (h : Fr M' W W') : keepR w M W W' :=
  ⟨h.size, fun k _ hk hm ho => (h.block k (by omega) fun hm' => hm (hsub k hk hm')).trans ho⟩

theorem keepR.put {w : World} {M : Nat → Prop} {W : World} {l : Nat} {o : Obj} (hl : w.heap.size ≤ l) : keepR w M W (W.putObj l o) :=
  ⟨by simp [World.putObj], fun k o' hk _ ho => (World.putObj_heap_other (by omega)).trans ho⟩

end Go.Proofs.YtddhmidegldhdaaGreatDoor

/- The abstract machine, 20: a region that draws its order, up to an operation behind which all is in line. Conditions: those of the table of callees. -/
namespace Go.Proofs.YtddhmidegldhdaaGreatDoor
open Go.RowKit

end Go.Proofs.YtddhmidegldhdaaGreatDoor

/- The abstract machine: a region that draws its order, of which one operation dies. Conditions: those of the table of callees. -/
namespace Go.Proofs.YtddhmidegldhdaaGreatDoor
open Go.RowKit

def dieOk (k : Nat) (all : List Oper) : Bool := (List.range all.length).all fun i => Nat.ble i k || ((befL all []).getD i 0).testBit k

def argsB (k : Nat) (all : List Oper) (args : List Operand) : Bool := args.all fun
  | .tmp t => (List.range k).all fun j => match all[j]? with
    | some o => (match o.dst with | some d => !(Nat.beq d t) | none => true) || ((befL all []).getD k 0).testBit j
    | none => true
  | _ => true
def lateB (k : Nat) (all : List Oper) : Bool := (List.range k).all fun j => ((befL all []).getD k 0).testBit j
end Go.Proofs.YtddhmidegldhdaaGreatDoor

/- Plain algebra: exact points over the 24th roots as eight integers, their products, mirrors, real and imaginary parts, and signs of surds, all in wrapped 64-bit integers. No program, no conditions. -/
namespace Go.Proofs.YtddhmidegldhdaaGreatDoor
open Go.RowKit

def W (n : Int) : Int := IntKind.i64.wrap n

theorem W_eq (x : Int) : W x = (x + 9223372036854775808) % 18446744073709551616 - 9223372036854775808 := by
  exact IntKind.wrap_i64 x
theorem w64_in {x : Int} (h1 : -9223372036854775808 ≤ x) (h2 : x ≤ 9223372036854775807) : W x = x := by
  simp only [W_eq]
  omega

@[reducible] def zeroF : Nat → Int := fun _ => 0
theorem forall8 {p : Nat → Prop} (h0 : p 0) (h1 : p 1) (h2 : p 2) (h3 : p 3) (h4 : p 4) (h5 : p 5) (h6 : p 6) (h7 : p 7) : ∀ k, k < 8 → p k := by
  intro k hk
  match k, hk with
  | 0, _ => exact h0
  | 1, _ => exact h1
  | 2, _ => exact h2
  | 3, _ => exact h3
  | 4, _ => exact h4
  | 5, _ => exact h5
  | 6, _ => exact h6
  | 7, _ => exact h7

def inR (n lo hi : Int) : Bool := decide (lo ≤ n) && decide (n ≤ hi)

theorem inR_iff {n lo hi : Int} : inR n lo hi = true ↔ lo ≤ n ∧ n ≤ hi := by simp [inR]

def smallF (a : Nat → Int) (lo hi : Int) : Bool :=
  bif !inR (a 0) lo hi then false else bif !inR (a 1) lo hi then false else bif !inR (a 2) lo hi then false else bif !inR (a 3) lo hi then false else
  bif !inR (a 4) lo hi then false else bif !inR (a 5) lo hi then false else bif !inR (a 6) lo hi then false else bif !inR (a 7) lo hi then false else true

theorem smallF_iff {a : Nat → Int} {lo hi : Int} : smallF a lo hi = true ↔ ∀ k, k < 8 → lo ≤ a k ∧ a k ≤ hi := by
  constructor
  · intro h
    have key : ∀ (b : Bool) (c : Bool), (bif !b then false else c) = true → b = true ∧ c = true := by intro b c; cases b <;> simp
    unfold smallF at h
    obtain ⟨h0, h⟩ := key _ _ h
    obtain ⟨h1, h⟩ := key _ _ h
    obtain ⟨h2, h⟩ := key _ _ h
    obtain ⟨h3, h⟩ := key _ _ h
    obtain ⟨h4, h⟩ := key _ _ h
    obtain ⟨h5, h⟩ := key _ _ h
    obtain ⟨h6, h⟩ := key _ _ h
    obtain ⟨h7, h⟩ := key _ _ h
    exact forall8 (inR_iff.1 h0) (inR_iff.1 h1) (inR_iff.1 h2) (inR_iff.1 h3) (inR_iff.1 h4) (inR_iff.1 h5) (inR_iff.1 h6) (inR_iff.1 h7)
  · intro h
    simp [smallF, inR_iff.2 (h 0 (by decide)), inR_iff.2 (h 1 (by decide)), inR_iff.2 (h 2 (by decide)), inR_iff.2 (h 3 (by decide)), inR_iff.2 (h 4 (by decide)), inR_iff.2 (h 5 (by decide)), inR_iff.2 (h 6 (by decide)), inR_iff.2 (h 7 (by decide))]

def v8 (a0 a1 a2 a3 a4 a5 a6 a7 : Int) : Nat → Int
  | 0 => a0
  | 1 => a1
  | 2 => a2
  | 3 => a3
  | 4 => a4
  | 5 => a5
  | 6 => a6
  | 7 => a7
  | _ => 0
abbrev w8 (f : Nat → Int) : Nat → Int := v8 (f 0) (f 1) (f 2) (f 3) (f 4) (f 5) (f 6) (f 7)
def v4 (a0 a1 a2 a3 : Int) : Nat → Int
  | 0 => a0
  | 1 => a1
  | 2 => a2
  | 3 => a3
  | _ => 0

end Go.Proofs.YtddhmidegldhdaaGreatDoor
