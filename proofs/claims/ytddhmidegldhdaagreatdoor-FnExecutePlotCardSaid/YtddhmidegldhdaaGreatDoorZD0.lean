/- The abstract machine, 7: one operation does what its word says. Conditions: those of the table of callees. -/
import Derived.Orders
import Derived.Tactics
import Derived.Below
import Derived.ProofKit
import Derived.WalkKit
import Derived.Laws.AppendOwn
import Derived.Laws.Rows
import Derived.Laws.Tables
import Derived.KernelRfl
import Derived.Scope
import Derived.Lib.ItoaMem
import Derived.Lib.LaidTab
import Derived.Laws.MakeOwn
import Derived.Laws.OwnMore
import Derived.Great.BuildSlice
import Derived.ChangeKeysEq
import Derived.Laws.StructEq
import Derived.Laws.IdiomStrings
import Derived.Laws.Concat
/- The abstract machine, 1: abstract values, abstract blocks, what they say of a frame and of a world. No conditions. -/
namespace Go.Proofs.YtddhmidegldhdaaGreatDoor
open Go.RowKit

structure Bk where
  n : Nat
  o : Nat
  c : Nat

abbrev Nu := Nat → Option Bk

inductive AV where
  | v (x : Value)
  | ptr (i w j k : Nat)
  | sl (i w j k len : Nat) (cap : Option Nat)
  | own (i len : Nat)
  | agg (cs : List AV)
  | tup (cs : List AV)
  | fn (f : FuncId) (cs : List AV)
  | err (q : Bool)
  | dead
  deriving Inhabited

mutual
def VR (ν : Nu) : AV → Value → Prop
  | .v x, y => y = x
  | .ptr i w j k, y => ∃ b, ν i = some b ∧ y = .pointer (some ⟨b.n, b.o + (j * w + k), none⟩)
  | .sl i w j k len cap, y => ∃ p c, y = .slice p len c ∧ (∀ c', cap = some c' → c = c') ∧ len ≤ c ∧ (0 < c → ∃ b, ν i = some b ∧ p = some ⟨b.n, b.o + (j * w + k), none⟩)
  | .own i len, y => ∃ b, ν i = some b ∧ y = .slice (some ⟨b.n, b.o, none⟩) len b.c
  | .agg cs, y => ∃ l, y = .agg (List.toArray l) ∧ VRs ν cs l
  | .tup cs, y => ∃ l, y = .tuple (List.toArray l) ∧ VRs ν cs l
  | .fn f cs, y => ∃ l, y = .func (.func f) #[] (List.toArray l) ∧ VRs ν cs l
  | .err q, y => cond q (∃ t x, y = .iface t x) (y = .nilIface)
  | .dead, _ => True
def VRs (ν : Nu) : List AV → List Value → Prop
  | [], [] => True
  | a :: as, y :: ys => VR ν a y ∧ VRs ν as ys
  | _, _ => False
end

inductive AB where
  | cells (cs : List AV) (t : TypeId)
  | row (rw : Bool) (n w : Nat) (g : Nat → List Value) (t : TypeId)
  | gone
  deriving Inhabited

def AB.wr : AB → Bool
  | .cells _ _ => true
  | .row rw _ _ _ _ => rw
  | .gone => false
def AB.live : AB → Bool
  | .gone => false
  | _ => true

def BR (ν : Nu) (i : Nat) : AB → World → Prop
  | .cells cs t, w => ∃ b l, ν i = some b ∧ b.o = 0 ∧ w.heap[b.n]? = some (.cells (List.toArray l) t (0, 0)) ∧ VRs ν cs l
  | .row rw n wd g t, w => (rw = false ∧ n = 0 ∧ ν i = none) ∨ ∃ b l t' fz, ν i = some b ∧ w.heap[b.n]? = some (.cells (List.toArray l) t' fz) ∧ (rw = true → fz = (0, 0) ∧ b.o = 0 ∧ t' = t ∧ l.length = b.c * wd ∧ b.c ≤ maxLen) ∧ n ≤ b.c ∧
      ∀ j, j < n → ((g j).length = wd ∧ ∀ x ∈ g j, x.oneCell' = true) ∧ ∀ k, k < wd → l[b.o + (j * wd + k)]? = (g j)[k]?
  | .gone, _ => True

def Le (ν ν' : Nu) : Prop := ∀ i b, ν i = some b → ν' i = some b
theorem Le.refl (ν : Nu) : Le ν ν := fun _ _ h => h
theorem Le.trans {a b c : Nu} (h : Le a b) (k : Le b c) : Le a c := fun i x hx => k i x (h i x hx)

mutual
theorem VR.le {ν ν' : Nu} (h : Le ν ν') : ∀ {a : AV} {y : Value}, VR ν a y → VR ν' a y
  | .v _, _, hv => by simpa only [VR] using hv
  | .ptr .., _, hv => by
    simp only [VR] at hv ⊢
    obtain ⟨b, h1, h2⟩ := hv
    exact ⟨b, h _ _ h1, h2⟩
  | .sl .., _, hv => by
    simp only [VR] at hv ⊢
    obtain ⟨p, c, h1, h2, h3, h4⟩ := hv
    exact ⟨p, c, h1, h2, h3, fun hc => let ⟨b, h5, h6⟩ := h4 hc; ⟨b, h _ _ h5, h6⟩⟩
  | .own .., _, hv => by
    simp only [VR] at hv ⊢
    obtain ⟨b, h1, h2⟩ := hv
    exact ⟨b, h _ _ h1, h2⟩
  | .agg cs, _, hv => by
    simp only [VR] at hv ⊢
    obtain ⟨l, h1, h2⟩ := hv
    exact ⟨l, h1, VRs.le h h2⟩
  | .tup cs, _, hv => by
    simp only [VR] at hv ⊢
    obtain ⟨l, h1, h2⟩ := hv
    exact ⟨l, h1, VRs.le h h2⟩
  | .fn _ cs, _, hv => by
    simp only [VR] at hv ⊢
    obtain ⟨l, h1, h2⟩ := hv
    exact ⟨l, h1, VRs.le h h2⟩
  | .err _, _, hv => by simpa only [VR] using hv
  | .dead, _, _ => by simp only [VR]
theorem VRs.le {ν ν' : Nu} (h : Le ν ν') : ∀ {as : List AV} {ys : List Value}, VRs ν as ys → VRs ν' as ys
  | [], [], _ => by simp only [VRs]
  | _ :: _, _ :: _, hv => by
    simp only [VRs] at hv ⊢
    exact ⟨VR.le h hv.1, VRs.le h hv.2⟩
  | [], _ :: _, hv => by simp only [VRs] at hv
  | _ :: _, [], hv => by simp only [VRs] at hv
end

theorem VRs.length {ν : Nu} : ∀ {as : List AV} {ys : List Value}, VRs ν as ys → as.length = ys.length
  | [], [], _ => rfl
  | _ :: _, _ :: _, hv => by
    simp only [VRs] at hv
    simp [VRs.length hv.2]
  | [], _ :: _, hv => by simp only [VRs] at hv
  | _ :: _, [], hv => by simp only [VRs] at hv

theorem VRs.get {ν : Nu} : ∀ {as : List AV} {ys : List Value} (_ : VRs ν as ys) {i : Nat} {a : AV}, as[i]? = some a → ∃ y, ys[i]? = some y ∧ VR ν a y
  | [], [], _, i, a, h => by simp at h
  | a0 :: as, y0 :: ys, hv, i, a, h => by
    simp only [VRs] at hv
    cases i with
    | zero => simp at h; subst h; exact ⟨y0, rfl, hv.1⟩
    | succ i => simpa using VRs.get hv.2 (i := i) (by simpa using h)
  | [], _ :: _, hv, _, _, _ => by simp only [VRs] at hv
  | _ :: _, [], hv, _, _, _ => by simp only [VRs] at hv

theorem VRs.of {ν : Nu} : ∀ {as : List AV} {ys : List Value}, as.length = ys.length → (∀ (i : Nat) a y, as[i]? = some a → ys[i]? = some y → VR ν a y) → VRs ν as ys
  | [], [], _, _ => by simp only [VRs]
  | a :: as, y :: ys, hl, h => by
    simp only [VRs]
    exact ⟨h 0 a y rfl rfl, VRs.of (by simpa using hl) fun i a' y' h1 h2 => h (i + 1) a' y' (by simpa using h1) (by simpa using h2)⟩
  | [], _ :: _, hl, _ => by simp at hl
  | _ :: _, [], hl, _ => by simp at hl

theorem VRs.take {ν : Nu} {as : List AV} {ys : List Value} (h : VRs ν as ys) (n : Nat) : VRs ν (as.take n) (ys.take n) :=
  VRs.of (by simp [h.length]) fun i a y h1 h2 => by
    rw [List.getElem?_take] at h1 h2
    split at h1
    · rename_i hlt
      rw [if_pos hlt] at h2
      obtain ⟨y', e1, e2⟩ := h.get h1
      rw [e1] at h2; cases h2; exact e2
    · cases h1

theorem VRs.drop {ν : Nu} {as : List AV} {ys : List Value} (h : VRs ν as ys) (n : Nat) : VRs ν (as.drop n) (ys.drop n) :=
  VRs.of (by simp [h.length]) fun i a y h1 h2 => by
    rw [List.getElem?_drop] at h1 h2
    obtain ⟨y', e1, e2⟩ := h.get h1
    rw [e1] at h2; cases h2; exact e2

theorem VRs.append {ν : Nu} : ∀ {as bs : List AV} {ys zs : List Value}, VRs ν as ys → VRs ν bs zs → VRs ν (as ++ bs) (ys ++ zs)
  | [], _, [], _, _, h2 => h2
  | _ :: _, _, _ :: _, _, h1, h2 => by
    simp only [VRs, List.cons_append] at h1 ⊢
    exact ⟨h1.1, h1.2.append h2⟩
  | [], _, _ :: _, _, h1, _ => by simp only [VRs] at h1
  | _ :: _, _, [], _, h1, _ => by simp only [VRs] at h1

theorem VRs.map_v {ν : Nu} : ∀ (l : List Value), VRs ν (l.map .v) l
  | [] => by simp only [VRs, List.map_nil]
  | x :: l => by
    simp only [List.map_cons, VRs, VR]
    exact ⟨trivial, VRs.map_v l⟩

mutual
def AV.toV : AV → Option Value
  | .v x => some x
  | .agg cs => (AV.toVs cs).map fun l => .agg l.toArray
  | .tup cs => (AV.toVs cs).map fun l => .tuple l.toArray
  | .fn f [] => some (.func (.func f) #[] #[])
  | _ => none
def AV.toVs : List AV → Option (List Value)
  | [] => some []
  | a :: as => match AV.toV a, AV.toVs as with
    | some x, some xs => some (x :: xs)
    | _, _ => none
end

mutual
theorem VR_toV {ν : Nu} : ∀ {a : AV} {x y : Value}, a.toV = some x → VR ν a y → y = x
  | .v _, _, _, h, hv => by
    simp only [AV.toV, Option.some.injEq] at h
    simp only [VR] at hv
    rw [hv, h]
  | .agg cs, _, _, h, hv => by
    simp only [AV.toV, Option.map_eq_some_iff] at h
    simp only [VR] at hv
    obtain ⟨l, h1, rfl⟩ := h
    obtain ⟨l', rfl, h2⟩ := hv
    rw [VR_toVs h1 h2]
  | .tup cs, _, _, h, hv => by
    simp only [AV.toV, Option.map_eq_some_iff] at h
    simp only [VR] at hv
    obtain ⟨l, h1, rfl⟩ := h
    obtain ⟨l', rfl, h2⟩ := hv
    rw [VR_toVs h1 h2]
  | .ptr .., _, _, h, _ => by simp [AV.toV] at h
  | .sl .., _, _, h, _ => by simp [AV.toV] at h
  | .own .., _, _, h, _ => by simp [AV.toV] at h
  | .fn f [], _, _, h, hv => by
    simp only [AV.toV, Option.some.injEq] at h
    simp only [VR] at hv
    obtain ⟨l, rfl, h2⟩ := hv
    cases l with
    | nil => exact h
    | cons => simp only [VRs] at h2
  | .fn _ (_ :: _), _, _, h, _ => by simp [AV.toV] at h
  | .err _, _, _, h, _ => by simp [AV.toV] at h
  | .dead, _, _, h, _ => by simp [AV.toV] at h
theorem VR_toVs {ν : Nu} : ∀ {as : List AV} {xs ys : List Value}, AV.toVs as = some xs → VRs ν as ys → ys = xs
  | [], xs, ys, h, hv => by
    simp only [AV.toVs, Option.some.injEq] at h
    subst h
    cases ys with
    | nil => rfl
    | cons _ _ => simp only [VRs] at hv
  | a :: as, xs, ys, h, hv => by
    cases ys with
    | nil => simp only [VRs] at hv
    | cons y ys =>
      simp only [VRs] at hv
      simp only [AV.toVs] at h
      split at h
      · rename_i x xs' h1 h2
        simp only [Option.some.injEq] at h
        subst h
        rw [VR_toV h1 hv.1, VR_toVs h2 hv.2]
      · cases h
end

def AV.cells : AV → Option (List AV)
  | .v (.agg arr) => some (arr.toList.map .v)
  | .v (.tuple _) => none
  | .v x => some [.v x]
  | .agg cs => some cs
  | .tup _ => none
  | .dead => none
  | a => some [a]

theorem VR_cells {ν : Nu} {a : AV} {cs : List AV} {y : Value} (h : a.cells = some cs) (hv : VR ν a y) : VRs ν cs y.cells.toList := by
  cases a with
  | v x =>
    simp only [VR] at hv
    subst hv
    cases y <;> simp only [AV.cells, Option.some.injEq, reduceCtorEq] at h <;> subst h <;> simp only [Value.cells]
    case agg arr => exact VRs.map_v _
    all_goals simp [VRs, VR]
  | agg cs' =>
    simp only [AV.cells, Option.some.injEq] at h
    subst h
    simp only [VR] at hv
    obtain ⟨l, rfl, h2⟩ := hv
    simpa [Value.cells] using h2
  | tup => simp [AV.cells] at h
  | dead => simp [AV.cells] at h
  | ptr i w j k =>
    simp only [AV.cells, Option.some.injEq] at h
    subst h
    have hv' := hv
    simp only [VR] at hv
    obtain ⟨b, _, rfl⟩ := hv
    simp only [Value.cells, VRs]
    exact ⟨hv', trivial⟩
  | sl i w j k len cap =>
    simp only [AV.cells, Option.some.injEq] at h
    subst h
    have hv' := hv
    simp only [VR] at hv
    obtain ⟨p, c, rfl, _⟩ := hv
    simp only [Value.cells, VRs]
    exact ⟨hv', trivial⟩
  | own i len =>
    simp only [AV.cells, Option.some.injEq] at h
    subst h
    have hv' := hv
    simp only [VR] at hv
    obtain ⟨b, _, rfl⟩ := hv
    simp only [Value.cells, VRs]
    exact ⟨hv', trivial⟩
  | fn f cs' =>
    simp only [AV.cells, Option.some.injEq] at h
    subst h
    have hv' := hv
    simp only [VR] at hv
    obtain ⟨l, rfl, _⟩ := hv
    simp only [Value.cells, VRs]
    exact ⟨hv', trivial⟩
  | err q =>
    simp only [AV.cells, Option.some.injEq] at h
    subst h
    have hv' := hv
    simp only [VR] at hv
    cases q
    · obtain rfl : y = .nilIface := hv
      simp only [Value.cells, VRs]
      exact ⟨hv', trivial⟩
    · obtain ⟨t, x, rfl⟩ := hv
      simp only [Value.cells, VRs]
      exact ⟨hv', trivial⟩

def AV.flat : AV → Bool
  | .v (.agg _) => false
  | .v (.tuple _) => false
  | .v (.bool _) | .v (.int _ _) | .v (.float _ _) | .v (.complex _ _ _) | .v (.string _) | .v (.pointer _) | .v (.slice _ _ _) | .v .nilFunc | .v .nilIface | .v (.func _ _ _) | .v (.iface _ _) | .v (.map _) => true
  | .ptr .. | .sl .. | .own .. | .fn .. | .err _ => true
  | _ => false

theorem VR_flat {ν : Nu} {a : AV} {y : Value} (h : a.flat = true) (hv : VR ν a y) : y.oneCell' = true := by
  cases a with
  | v x =>
    simp only [VR] at hv
    subst hv
    cases y <;> simp_all [AV.flat, Value.oneCell']
  | ptr => simp only [VR] at hv; obtain ⟨b, _, rfl⟩ := hv; rfl
  | sl => simp only [VR] at hv; obtain ⟨p, c, rfl, _⟩ := hv; rfl
  | own => simp only [VR] at hv; obtain ⟨b, _, rfl⟩ := hv; rfl
  | fn => simp only [VR] at hv; obtain ⟨l, rfl, _⟩ := hv; rfl
  | agg => simp [AV.flat] at h
  | tup => simp [AV.flat] at h
  | err q =>
    simp only [VR] at hv
    cases q
    · obtain rfl : y = .nilIface := hv
      rfl
    · obtain ⟨t, x, rfl⟩ := hv
      rfl
  | dead => simp [AV.flat] at h

def pureRun (P : Program) {α : Type} : Sem α → Option α
  | .pure a => some a
  | .program k => pureRun P (k P)
  | .mark _ k => pureRun P k
  | _ => none

theorem pureRun_run {P : Program} {α : Type} {s : Sem α} {a : α} (h : pureRun P s = some a) (w : World) : s.run P w = .ok a w := by
  induction s with
  | pure x => simp only [pureRun, Option.some.injEq] at h; subst h; rfl
  | program k ih => simp only [pureRun] at h; simpa [Sem.run] using ih _ h
  | mark m k ih => simp only [pureRun] at h; simpa [Sem.run] using ih h
  | _ => simp [pureRun] at h

def aNum (l : List Value) : Prop := ∃ m, l = [.int .i64 m]
def anErr (l : List Value) : Prop := ∃ v, l = [v] ∧ (v = .nilIface ∨ ∃ t x, v = .iface t x)
def aType (l : List Value) : Prop := l = [.iface 221 (.agg #[.pointer (some ⟨10, 49, none⟩)])]
def tabG : List (Nat × (List Value → Prop)) := [(3, fun l => l = Lib.pow10Tab.map fun z => Value.int .u64 z), (1, aNum), (6, anErr), (7, anErr), (0, aType)]
def TabOk (M : Nat → Prop) (w : World) : Prop := ∀ x ∈ tabG, ¬ M x.1 ∧ ∃ l t fz, w.heap[x.1]? = some (.cells (List.toArray l) t fz) ∧ x.2 l
theorem TabOk.mono {M M' : Nat → Prop} {w : World} (h : TabOk M w) (hM : ∀ k, k < w.heap.size → M' k → M k) : TabOk M' w := fun x hx => by
  obtain ⟨h1, l, t, fz, h2, h3⟩ := h x hx
  refine ⟨fun hm => h1 (hM _ ?_ hm), l, t, fz, h2, h3⟩
  exact (Array.getElem?_eq_some_iff.1 h2).1
theorem TabOk.block {M : Nat → Prop} {w w' : World} (h : TabOk M w) (hb : ∀ k, k < w.heap.size → ¬ M k → w'.heap[k]? = w.heap[k]?) : TabOk M w' := fun x hx => by
  obtain ⟨h1, l, t, fz, h2, h3⟩ := h x hx
  exact ⟨h1, l, t, fz, (hb _ (Array.getElem?_eq_some_iff.1 h2).1 h1).trans h2, h3⟩

structure RH (M : Nat → Prop) (ν : Nu) (H : Nat → AB) (w : World) : Prop where
  br : ∀ i, BR ν i (H i) w
  sep : ∀ i j b b', i ≠ j → (H i).wr = true → (H j).live = true → ν i = some b → ν j = some b' → b.n ≠ b'.n
  own : ∀ i b, (H i).wr = true → ν i = some b → M b.n
  lt : ∀ i b, ν i = some b → b.n < w.heap.size
  tab : TabOk M w

structure Fr (M : Nat → Prop) (w0 w : World) : Prop where
  os : w.os = w0.os
  tape : w.tape = w0.tape
  output : w.output = w0.output
  size : w0.heap.size ≤ w.heap.size
  block : ∀ k, k < w0.heap.size → ¬ M k → w.heap[k]? = w0.heap[k]?

theorem Fr.refl (M : Nat → Prop) (w : World) : Fr M w w := ⟨rfl, rfl, rfl, Nat.le_refl _, fun _ _ _ => rfl⟩
theorem Fr.trans {M : Nat → Prop} {a b c : World} (h : Fr M a b) (k : Fr M b c) : Fr M a c :=
  ⟨k.os.trans h.os, k.tape.trans h.tape, k.output.trans h.output, Nat.le_trans h.size k.size, fun i hi hm => (k.block i (Nat.lt_of_lt_of_le hi h.size) hm).trans (h.block i hi hm)⟩
theorem Fr.mono {M M' : Nat → Prop} {a b : World} (h : Fr M a b) (hm : ∀ k, k < a.heap.size → M k → M' k) : Fr M' a b :=
  ⟨h.os, h.tape, h.output, h.size, fun k hk hn => h.block k hk fun hM => hn (hm k hk hM)⟩
theorem Fr.drew {M : Nat → Prop} {a w : World} (h : Fr M a w) : Fr M a { w with drawn := w.drawn + 1 } := ⟨h.os, h.tape, h.output, h.size, h.block⟩
theorem TabOk.fr {M : Nat → Prop} {w w' : World} (h : TabOk M w) (f : Fr M w w') : TabOk M w' := h.block f.block
theorem Fr.below {w w' : World} (h : Fr (fun _ => False) w w') : Below w.heap.size w w' := ⟨h.os, h.tape, h.output, h.size, fun k hk => h.block k hk fun f => f⟩
theorem Below.fr {w w' : World} (h : Below w.heap.size w w') : Fr (fun _ => False) w w' := ⟨h.os, h.tape, h.output, h.size, fun k hk _ => h.block k hk⟩

theorem BR.of_block {ν : Nu} {i : Nat} {b : AB} {w w' : World} (h : BR ν i b w) (hb : ∀ k, ν i = some k → b.live = true → w'.heap[k.n]? = w.heap[k.n]?) : BR ν i b w' := by
  cases b with
  | cells cs t =>
    obtain ⟨b, l, h1, h2, h3, h4⟩ := h
    exact ⟨b, l, h1, h2, (hb b h1 rfl).trans h3, h4⟩
  | row rw n wd g t =>
    rcases h with h | ⟨b, l, t', fz, h1, h2, h3⟩
    · exact .inl h
    · exact .inr ⟨b, l, t', fz, h1, (hb b h1 rfl).trans h2, h3⟩
  | gone => trivial

theorem BR.le {ν ν' : Nu} {i : Nat} {b : AB} {w : World} (hl : Le ν ν') (hn : ν i = none → ν' i = none) (h : BR ν i b w) : BR ν' i b w := by
  cases b with
  | cells cs t =>
    obtain ⟨b, l, h1, h2, h3, h4⟩ := h
    exact ⟨b, l, hl _ _ h1, h2, h3, h4.le hl⟩
  | row rw n wd g t =>
    rcases h with ⟨h1, h2, h3⟩ | ⟨b, l, t', fz, h1, h2, h3⟩
    · exact .inl ⟨h1, h2, hn h3⟩
    · exact .inr ⟨b, l, t', fz, hl _ _ h1, h2, h3⟩
  | gone => trivial

structure Delta where
  val : AV
  rd : List Nat := []
  put : List (Nat × AB) := []
  new : List AB := []
  obl : List Bool := []

def lookB (i : Nat) : List (Nat × AB) → Option AB
  | [] => none
  | p :: l => if p.1 = i then some p.2 else lookB i l

theorem lookB_mem {i : Nat} {b : AB} : ∀ {l : List (Nat × AB)}, lookB i l = some b → (i, b) ∈ l
  | [], h => by simp [lookB] at h
  | p :: l, h => by
    simp only [lookB] at h
    split at h
    · rename_i e; cases h; subst e; exact List.mem_cons_self
    · exact List.mem_cons_of_mem _ (lookB_mem h)

theorem lookB_none {i : Nat} : ∀ {l : List (Nat × AB)}, lookB i l = none → ∀ p ∈ l, p.1 ≠ i
  | [], _ => by simp
  | p :: l, h => by
    simp only [lookB] at h
    split at h
    · cases h
    · rename_i e
      intro q hq
      rcases List.mem_cons.1 hq with rfl | hq
      · exact e
      · exact lookB_none h q hq

structure Did (ν ν' : Nu) (base : Nat) (δ : Delta) (w w' : World) (v : Value) : Prop where
  le : Le ν ν'
  dom : ∀ i, ν i = none → ν' i ≠ none → base ≤ i ∧ i < base + δ.new.length
  val : VR ν' δ.val v
  put : ∀ i b, lookB i δ.put = some b → BR ν' i b w'
  new : ∀ j b, δ.new[j]? = some b → BR ν' (base + j) b w'
  os : w'.os = w.os
  tape : w'.tape = w.tape
  output : w'.output = w.output
  size : w.heap.size ≤ w'.heap.size
  block : ∀ k, k < w.heap.size → (∀ p b, p ∈ δ.put → ν p.1 = some b → b.n ≠ k) → w'.heap[k]? = w.heap[k]?
  fresh : ∀ j b, j < δ.new.length → ν' (base + j) = some b → b.n < w'.heap.size ∧ (w.heap.size ≤ b.n ∨ ∃ i b0, lookB i δ.put = some AB.gone ∧ ν i = some b0 ∧ b0.n = b.n)
  apart : ∀ j j' b b', j ≠ j' → j < δ.new.length → j' < δ.new.length → ν' (base + j) = some b → ν' (base + j') = some b' → b.n ≠ b'.n

def appF (base : Nat) (δ : Delta) (H : Nat → AB) : Nat → AB := fun i =>
  if base ≤ i ∧ i < base + δ.new.length then δ.new.getD (i - base) .gone else (lookB i δ.put).getD (H i)

theorem RH.step {M : Nat → Prop} {ν ν' : Nu} {H : Nat → AB} {base : Nat} {δ : Delta} {w w' : World} {v : Value} (h : RH M ν H w) (hM : ∀ k, w.heap.size ≤ k → M k) (d : Did ν ν' base δ w w' v)
    (hput : ∀ p ∈ δ.put, (H p.1).wr = true) (_ : ∀ j, j < δ.new.length → ν (base + j) = none) : RH M ν' (appF base δ H) w' := by
  have old : ∀ i, ¬ (base ≤ i ∧ i < base + δ.new.length) → ∀ b, ν' i = some b → ν i = some b := by
    intro i hi b hb
    cases hn : ν i with
    | none => exact absurd (d.dom i hn (by rw [hb]; simp)) hi
    | some b0 => rw [d.le _ _ hn] at hb; exact hb
  have isnew : ∀ i, base ≤ i ∧ i < base + δ.new.length → ∃ j, j < δ.new.length ∧ i = base + j := fun i hi => ⟨i - base, by omega, by omega⟩
  have wrlive : ∀ b : AB, b.wr = true → b.live = true := fun b hb => by cases b <;> simp_all [AB.wr, AB.live]
  have oldwr : ∀ i, ¬ (base ≤ i ∧ i < base + δ.new.length) → ((appF base δ H) i).wr = true → (H i).wr = true := by
    intro i hi hw
    simp only [appF, if_neg hi] at hw
    cases hl : lookB i δ.put with
    | none => simpa [hl] using hw
    | some b => exact hput _ (lookB_mem hl)
  have oldlive : ∀ i, ¬ (base ≤ i ∧ i < base + δ.new.length) → ((appF base δ H) i).live = true → (H i).live = true := by
    intro i hi hw
    simp only [appF, if_neg hi] at hw
    cases hl : lookB i δ.put with
    | none => simpa [hl] using hw
    | some b => exact wrlive _ (hput _ (lookB_mem hl))
  have notgone : ∀ i, ¬ (base ≤ i ∧ i < base + δ.new.length) → ((appF base δ H) i).live = true → ∀ i' b0 b, ν i = some b → lookB i' δ.put = some .gone → ν i' = some b0 → b0.n ≠ b.n := by
    intro i hi hw i' b0 b hb h1 h2
    have hne : i' ≠ i := by
      rintro rfl
      simp only [appF, if_neg hi, h1, Option.getD_some, AB.live] at hw
      cases hw
    exact h.sep i' i b0 b hne (hput _ (lookB_mem h1)) (oldlive i hi hw) h2 hb
  refine ⟨fun i => ?_, ?_, ?_, ?_, h.tab.block fun k hk hm => d.block k hk fun p b hp hb e => hm (e ▸ h.own p.1 b (hput p hp) hb)⟩
  · by_cases hi : base ≤ i ∧ i < base + δ.new.length
    · obtain ⟨j, hj, rfl⟩ := isnew i hi
      simp only [appF, if_pos hi, Nat.add_sub_cancel_left]
      have : δ.new[j]? = some δ.new[j] := by simp [hj]
      rw [List.getD_eq_getElem?_getD, this]
      exact d.new j _ this
    · simp only [appF, if_neg hi]
      cases hl : lookB i δ.put with
      | some b => exact d.put _ _ hl
      | none =>
        refine ((h.br i).of_block fun k hk hlive => d.block k.n (h.lt i k hk) ?_).le d.le ?_
        · intro p b hp hb
          exact h.sep p.1 i b k (lookB_none hl p hp) (hput p hp) hlive hb hk
        · intro hn
          cases hn' : ν' i with
          | none => rfl
          | some z => exact absurd (d.dom i hn (by rw [hn']; simp)) hi
  · intro i j b b' hne hwi hlj hbi hbj
    by_cases hi : base ≤ i ∧ i < base + δ.new.length
    · obtain ⟨x, hx, rfl⟩ := isnew i hi
      by_cases hj : base ≤ j ∧ j < base + δ.new.length
      · obtain ⟨y, hy, rfl⟩ := isnew j hj
        exact d.apart x y b b' (by omega) hx hy hbi hbj
      · have hbj' := old j hj b' hbj
        rcases (d.fresh x b hx hbi).2 with hf | ⟨i', b0, h1, h2, h3⟩
        · have := h.lt j b' hbj'
          omega
        · rw [← h3]
          exact notgone j hj hlj i' b0 b' hbj' h1 h2
    · by_cases hj : base ≤ j ∧ j < base + δ.new.length
      · obtain ⟨y, hy, rfl⟩ := isnew j hj
        have hbi' := old i hi b hbi
        rcases (d.fresh y b' hy hbj).2 with hf | ⟨i', b0, h1, h2, h3⟩
        · have := h.lt i b hbi'
          omega
        · rw [← h3]
          exact (notgone i hi (wrlive _ hwi) i' b0 b hbi' h1 h2).symm
      · exact h.sep i j b b' hne (oldwr i hi hwi) (oldlive j hj hlj) (old i hi b hbi) (old j hj b' hbj)
  · intro i b hw hb
    by_cases hi : base ≤ i ∧ i < base + δ.new.length
    · obtain ⟨x, hx, rfl⟩ := isnew i hi
      rcases (d.fresh x b hx hb).2 with hf | ⟨i', b0, h1, h2, h3⟩
      · exact hM _ hf
      · rw [← h3]; exact h.own i' b0 (hput _ (lookB_mem h1)) h2
    · exact h.own i b (oldwr i hi hw) (old i hi b hb)
  · intro i b hb
    by_cases hi : base ≤ i ∧ i < base + δ.new.length
    · obtain ⟨x, hx, rfl⟩ := isnew i hi
      exact (d.fresh x b hx hb).1
    · exact Nat.lt_of_lt_of_le (h.lt i b (old i hi b hb)) d.size

def CallM (ν : Nu) (δ : Delta) (w : World) : Nat → Prop := fun k => w.heap.size ≤ k ∨ ∃ i b c, (i, c) ∈ δ.put ∧ ν i = some b ∧ k = b.n
theorem RH.callM {M : Nat → Prop} {ν : Nu} {H : Nat → AB} {δ : Delta} {w : World} (h : RH M ν H w) (hM : ∀ k, w.heap.size ≤ k → M k) (hput : ∀ p ∈ δ.put, (H p.1).wr = true) : TabOk (CallM ν δ w) w :=
  h.tab.mono fun k _ hk => hk.elim (hM k) fun ⟨i, b, _, h1, h2, h3⟩ => h3 ▸ h.own i b (hput _ h1) h2

theorem TabOk.call {ν : Nu} {δ δ' : Delta} {w : World} (h : TabOk (CallM ν δ w) w) (hp : ∀ x ∈ δ'.put, x ∈ δ.put) : TabOk (CallM ν δ' w) w :=
  h.mono fun _ _ hk => hk.imp id fun ⟨i, b, c, h1, h2⟩ => ⟨i, b, c, hp _ h1, h2⟩

theorem Did.fr {M : Nat → Prop} {ν ν' : Nu} {H : Nat → AB} {base : Nat} {δ : Delta} {w0 w w' : World} {v : Value} (h : RH M ν H w) (d : Did ν ν' base δ w w' v) (hput : ∀ p ∈ δ.put, (H p.1).wr = true) (f : Fr M w0 w) : Fr M w0 w' :=
  f.trans ⟨d.os, d.tape, d.output, d.size, fun k hk hm => d.block k hk fun p b hp hb e => hm (e ▸ h.own p.1 b (hput p hp) hb)⟩

end Go.Proofs.YtddhmidegldhdaaGreatDoor

/- The abstract machine, 2: loads, stores and new blocks: what they do abstractly, and that they do so. No conditions. -/
namespace Go.Proofs.YtddhmidegldhdaaGreatDoor
open Go.RowKit

def aggA (P : Program) (t : TypeId) : Option Bool :=
  match P.underlying t with
  | some (.struct _) => some true
  | some (.array _ _) => some true
  | some _ => some false
  | none => none
def szA (P : Program) (t : TypeId) : Option Nat := (P.info? t).map (·.size)

theorem run_isAgg {P : Program} {t : TypeId} {b : Bool} (h : aggA P t = some b) (w : World) : (isAgg t).run P w = .ok b w := by
  unfold aggA at h
  unfold isAgg
  cases hu : P.underlying t with
  | none => simp [hu] at h
  | some d =>
    rw [hu] at h
    cases d <;> simp at h <;> subst h <;> simp [run_underlying hu]

theorem run_sizeOf' {P : Program} {t : TypeId} {s : Nat} (h : szA P t = some s) (w : World) : (sizeOf t).run P w = .ok s w := by
  unfold szA at h
  cases hi : P.info? t with
  | none => simp [hi] at h
  | some i =>
    simp [hi] at h
    subst h
    simp [sizeOf, typeInfo, hi]

def splice {α : Type} : List α → Nat → List α → List α
  | l, 0, xs => xs ++ l.drop xs.length
  | [], _ + 1, _ => []
  | a :: l, n + 1, xs => a :: splice l n xs

theorem splice_eq {α : Type} : ∀ (l : List α) (n : Nat) (xs : List α), n ≤ l.length → splice l n xs = l.take n ++ xs ++ l.drop (n + xs.length)
  | l, 0, xs, _ => by cases l <;> simp [splice]
  | [], n + 1, _, h => by simp at h
  | a :: l, n + 1, xs, h => by
    simp only [splice, List.take_succ_cons, List.cons_append]
    rw [splice_eq l n xs (by simpa using h), Nat.add_right_comm, List.drop_succ_cons]

theorem splice_length {α : Type} (l : List α) (n : Nat) (xs : List α) (h : n + xs.length ≤ l.length) : (splice l n xs).length = l.length := by
  rw [splice_eq l n xs (by omega)]
  simp
  omega

theorem splice_get {α : Type} (l : List α) (n : Nat) (xs : List α) (h : n + xs.length ≤ l.length) (k : Nat) : (splice l n xs)[k]? = if n ≤ k ∧ k < n + xs.length then xs[k - n]? else l[k]? := by
  rw [splice_eq l n xs (by omega), List.append_assoc]
  by_cases h1 : k < n
  · rw [List.getElem?_append_left (by simp; omega), if_neg (by omega), List.getElem?_take, if_pos h1]
  · rw [List.getElem?_append_right (by simp; omega)]
    simp only [List.length_take, Nat.min_eq_left (show n ≤ l.length by omega)]
    by_cases h2 : k < n + xs.length
    · rw [if_pos ⟨by omega, h2⟩, List.getElem?_append_left (by omega)]
    · rw [if_neg (by omega), List.getElem?_append_right (by omega), List.getElem?_drop]
      congr 1
      omega

theorem VRs.splice {ν : Nu} : ∀ {as : List AV} {ys : List Value} (n : Nat) {bs : List AV} {zs : List Value}, VRs ν as ys → VRs ν bs zs → VRs ν (splice as n bs) (Go.Proofs.YtddhmidegldhdaaGreatDoor.splice ys n zs)
  | as, ys, 0, bs, zs, h, k => by
    have : ∀ {α : Type} (l xs : List α), Go.Proofs.YtddhmidegldhdaaGreatDoor.splice l 0 xs = xs ++ l.drop xs.length := fun l xs => by cases l <;> rfl
    rw [this, this, k.length]
    exact k.append (h.drop _)
  | [], [], n + 1, _, _, _, _ => by simp only [Go.Proofs.YtddhmidegldhdaaGreatDoor.splice, VRs]
  | a :: as, y :: ys, n + 1, _, _, h, k => by
    simp only [VRs, Go.Proofs.YtddhmidegldhdaaGreatDoor.splice] at h ⊢
    exact ⟨h.1, VRs.splice n h.2 k⟩
  | [], _ :: _, _ + 1, _, _, h, _ => by simp only [VRs] at h
  | _ :: _, [], _ + 1, _, _, h, _ => by simp only [VRs] at h

theorem addr_add (n o j : Nat) : (⟨n, o, none⟩ : Addr).add j = ⟨n, o + j, none⟩ := by
  unfold Addr.add
  split <;> simp_all

theorem cell_at {w : World} {n : Nat} {l : List Value} {t : TypeId} {fz : Nat × Nat} (h : w.heap[n]? = some (.cells l.toArray t fz)) (o : Nat) : w.cell? ⟨n, o, none⟩ = l[o]? := by
  simp [World.cell?, h]

theorem run_loadAt_one {P : Program} {t : TypeId} {w : World} {n o : Nat} {x : Value} (ha : aggA P t = some false) (h : w.cell? ⟨n, o, none⟩ = some x) :
    (Instr.loadAt t (.pointer (some ⟨n, o, none⟩))).run P w = .ok x w := by
  simp [Instr.loadAt, Instr.sureAddr, loadVar, run_isAgg ha, load, Sem.run, h]

theorem run_loadAt_agg {P : Program} {t : TypeId} {w : World} {n o s : Nat} {xs : List Value} (ha : aggA P t = some true) (hs : szA P t = some s) (hl : xs.length = s) (h : ∀ j x, xs[j]? = some x → w.cell? ⟨n, o + j, none⟩ = some x) :
    (Instr.loadAt t (.pointer (some ⟨n, o, none⟩))).run P w = .ok (.agg xs.toArray) w := by
  subst hl
  have := run_loadCells_list (P := P) w ⟨n, o, none⟩ xs (fun j x hx => by rw [addr_add]; exact h j x hx)
  simp [Instr.loadAt, Instr.sureAddr, loadVar, run_isAgg ha, run_sizeOf' hs, this]

def loadA (P : Program) (H : List AB) (t : TypeId) (a : AV) : Option Delta :=
  match a with
  | .ptr i w j k =>
    match aggA P t, szA P t, H.getD i .gone with
    | some true, some s, .cells cs _ => if j * w + k + s ≤ cs.length then some { val := .agg ((cs.drop (j * w + k)).take s), rd := [i] } else none
    | some false, some _, .cells cs _ => (cs[j * w + k]?).map fun c => { val := c, rd := [i] }
    | some true, some s, .row _ n wd g _ => if wd = w ∧ k + s ≤ w then some { val := .v (.agg (((g j).drop k).take s).toArray), rd := [i], obl := [decide (j < n)] } else none
    | some false, some _, .row _ n wd g _ => if wd = w ∧ k < w then some { val := .v ((g j).getD k undef), rd := [i], obl := [decide (j < n)] } else none
    | _, _, _ => none
  | _ => none

def obls (l : List Bool) : Bool := l.all id

theorem Did.same {ν : Nu} {base : Nat} {δ : Delta} {w : World} {v : Value} (hv : VR ν δ.val v) (hp : δ.put = []) (hn : δ.new = []) : Did ν ν base δ w w v where
  le := Le.refl _
  dom := fun i h h' => absurd h h'
  val := hv
  put := by rw [hp]; intro i b h; simp [lookB] at h
  new := by rw [hn]; intro j b h; simp at h
  os := rfl
  tape := rfl
  output := rfl
  size := Nat.le_refl _
  block := fun _ _ _ => rfl
  fresh := by rw [hn]; intro j b h; simp at h
  apart := by rw [hn]; intro j j' b b' _ h; simp at h

theorem loadA_plain {P : Program} {H : List AB} {t : TypeId} {a : AV} {δ : Delta} (h : loadA P H t a = some δ) : δ.put = [] ∧ δ.new = [] := by
  unfold loadA at h
  repeat (first | split at h | (simp only [Option.map_eq_some_iff] at h; obtain ⟨c, _, rfl⟩ := h; exact ⟨rfl, rfl⟩) | (simp only [Option.some.injEq] at h; subst h; exact ⟨rfl, rfl⟩) | cases h)

theorem loadA_sound {P : Program} {H : List AB} {t : TypeId} {a : AV} {δ : Delta} {ν : Nu} {w : World} {y : Value} (h : loadA P H t a = some δ) (ho : obls δ.obl = true) (hv : VR ν a y)
    (hr : ∀ i ∈ δ.rd, BR ν i (H.getD i .gone) w) : ∃ x, (Instr.loadAt t y).run P w = .ok x w ∧ VR ν δ.val x := by
  unfold loadA at h
  split at h
  · rename_i i wd j k
    simp only [VR] at hv
    obtain ⟨b, hb, rfl⟩ := hv
    split at h
    · rename_i s cs ct ha hs hH
      split at h
      · rename_i hle
        simp only [Option.some.injEq] at h
        subst h
        have hb' := hr i (by simp)
        rw [hH] at hb'
        obtain ⟨b', l, e1, e2, e3, e4⟩ := hb'
        rw [hb] at e1; cases e1
        rw [e2, Nat.zero_add]
        have hll := e4.length
        refine ⟨_, run_loadAt_agg (xs := (l.drop (j * wd + k)).take s) ha hs (by simp; omega) ?_, ?_⟩
        · intro q x hx
          rw [cell_at e3]
          rw [List.getElem?_take] at hx
          split at hx
          · rwa [List.getElem?_drop] at hx
          · cases hx
        · simp only [VR]
          exact ⟨_, rfl, (e4.drop _).take _⟩
      · cases h
    · rename_i s cs ct ha hs hH
      simp only [Option.map_eq_some_iff] at h
      obtain ⟨c, hc, rfl⟩ := h
      have hb' := hr i (by simp)
      rw [hH] at hb'
      obtain ⟨b', l, e1, e2, e3, e4⟩ := hb'
      rw [hb] at e1; cases e1
      rw [e2, Nat.zero_add]
      obtain ⟨x, hx, hvx⟩ := e4.get hc
      exact ⟨x, run_loadAt_one ha ((cell_at e3 _).trans hx), hvx⟩
    · rename_i s rw' n w' g gt ha hs hH
      split at h
      · rename_i hle
        obtain ⟨rfl, hle⟩ := hle
        simp only [Option.some.injEq] at h
        subst h
        have hjn : j < n := by simpa [obls] using ho
        have hb' := hr i (by simp)
        rw [hH] at hb'
        rcases hb' with ⟨_, h0, _⟩ | ⟨b', l, t', fz, e1, e2, e3, e4, e5⟩
        · omega
        rw [hb] at e1; cases e1
        obtain ⟨⟨hg1, hg3⟩, hg2⟩ := e5 j hjn
        refine ⟨_, run_loadAt_agg (xs := ((g j).drop k).take s) ha hs (by simp; omega) ?_, ?_⟩
        · intro q x hx
          rw [List.getElem?_take] at hx
          split at hx
          · rename_i hq
            rw [List.getElem?_drop] at hx
            rw [cell_at e2, show b.o + (j * w' + k) + q = b.o + (j * w' + (k + q)) by omega, hg2 (k + q) (by omega)]
            exact hx
          · cases hx
        · simp only [VR]
      · cases h
    · rename_i s rw' n w' g gt ha hs hH
      split at h
      · rename_i hle
        obtain ⟨rfl, hle⟩ := hle
        simp only [Option.some.injEq] at h
        subst h
        have hjn : j < n := by simpa [obls] using ho
        have hb' := hr i (by simp)
        rw [hH] at hb'
        rcases hb' with ⟨_, h0, _⟩ | ⟨b', l, t', fz, e1, e2, e3, e4, e5⟩
        · omega
        rw [hb] at e1; cases e1
        obtain ⟨⟨hg1, hg3⟩, hg2⟩ := e5 j hjn
        refine ⟨(g j).getD k undef, run_loadAt_one ha ?_, by simp only [VR]⟩
        rw [cell_at e2, hg2 k hle]
        simp [List.getD, hg1, hle]
      · cases h
    · cases h
  · cases h

theorem run_storeAt_at {P : Program} {ty : TypeId} {w : World} {n o s : Nat} {l vs : List Value} {t : TypeId} {y : Value} (hs : szA P ty = some s) (hl : vs.length = s) (hy : y.cells.toList = vs) (h : w.heap[n]? = some (.cells l.toArray t (0, 0))) (ho : o + s ≤ l.length)
    (h1 : ∀ v ∈ vs, v.oneCell' = true) : (Instr.storeAt ty (.pointer (some ⟨n, o, none⟩)) y).run P w = .ok () (w.setRow n (splice l o vs).toArray) := by
  subst hl
  have H := run_storeCells_at P n o t vs 0 l.toArray w h (by simpa using ho) h1
  have hz : y.cells.size = vs.length := by rw [← hy]; simp
  simp only [Instr.storeAt, Instr.sureAddr, storeVar]
  rw [splice_eq l o vs (by omega)]
  simp only [Nat.add_zero] at H
  simp [run_sizeOf' hs, hz, hy, H]

def mergeV (c : Bool) (x y : Value) : Value :=
  match x, y with
  | .int k a, .int k' b => if k = k' then .int k (bif c then a else b) else bif c then x else y
  | .bool a, .bool b => .bool (bif c then a else b)
  | .string a, .string b => .string (bif c then a else b)
  | _, _ => bif c then x else y
theorem mergeV_eq (c : Bool) (x y : Value) : mergeV c x y = bif c then x else y := by
  unfold mergeV
  split
  · split
    · rename_i e
      subst e
      cases c <;> rfl
    · rfl
  · cases c <;> rfl
  · cases c <;> rfl
  · rfl
def mergeL (c : Bool) : List Value → List Value → List Value
  | [], [] => []
  | x :: xs, y :: ys => mergeV c x y :: mergeL c xs ys
  | xs, ys => bif c then xs else ys
theorem mergeL_eq (c : Bool) : ∀ (xs ys : List Value), mergeL c xs ys = bif c then xs else ys
  | [], [] => by cases c <;> rfl
  | [], y :: ys => rfl
  | x :: xs, [] => rfl
  | x :: xs, y :: ys => by
    rw [mergeL, mergeV_eq, mergeL_eq c xs ys]
    cases c <;> rfl

def boolsOf : List AV → Option (List Bool)
  | [] => some []
  | .v (.bool b) :: l => match boolsOf l with
    | some bs => some (b :: bs)
    | none => none
  | _ => none
def boolsX : AV → List AV → Option (Bool × List Bool)
  | .v (.bool c), b0 :: b1 :: l => match boolsOf (b0 :: b1 :: l) with
    | some bs => some (c, bs)
    | none => none
  | _, _ => none
def setB (p : Nat) (c : Bool) : Nat → List Bool → List AV
  | _, [] => []
  | q, b :: bs => .v (.bool (bif Nat.beq q p then c else b)) :: setB p c (q + 1) bs
theorem boolsOf_eq : ∀ {cs : List AV} {bs : List Bool}, boolsOf cs = some bs → cs = bs.map fun b => .v (.bool b)
  | [], bs, h => by
    simp only [boolsOf, Option.some.injEq] at h
    subst h
    rfl
  | a :: l, bs, h => by
    unfold boolsOf at h
    split at h
    · simp_all
    · rename_i b l' e
      cases e
      split at h
      · rename_i bs' h'
        cases h
        rw [boolsOf_eq h']
        rfl
      · cases h
    · cases h
theorem bools_vals {ν : Nu} : ∀ {bs : List Bool} {l : List Value}, VRs ν (bs.map fun b => .v (.bool b)) l → l = bs.map .bool
  | [], [], _ => rfl
  | b :: bs, y :: ys, h => by
    simp only [List.map_cons, VRs, VR] at h
    rw [h.1, bools_vals h.2]
    rfl
  | [], _ :: _, h => by simp only [List.map_nil, VRs] at h
  | _ :: _, [], h => by simp only [List.map_cons, VRs] at h
theorem setB_past {ν : Nu} {p : Nat} {c : Bool} : ∀ {bs : List Bool} {q : Nat}, p < q → VRs ν (setB p c q bs) (bs.map .bool)
  | [], _, _ => by simp only [setB, List.map_nil, VRs]
  | b :: bs, q, h => by
    have e : Nat.beq q p = false := by
      cases hb : Nat.beq q p with
      | false => rfl
      | true => have := Nat.eq_of_beq_eq_true hb; omega
    simp only [setB, List.map_cons, VRs, VR, e, cond_false, true_and]
    exact setB_past (by omega)
theorem setB_vrs {ν : Nu} {p : Nat} {c : Bool} : ∀ {bs : List Bool} {q : Nat}, q ≤ p → p - q < bs.length → VRs ν (setB p c q bs) (splice (bs.map .bool) (p - q) [.bool c])
  | [], _, _, h => by simp at h
  | b :: bs, q, h1, h2 => by
    rcases Nat.eq_or_lt_of_le h1 with rfl | hlt
    · simp only [Nat.sub_self, setB, List.map_cons, splice, List.length_cons, List.length_nil, List.cons_append, List.nil_append, Nat.zero_add, List.drop_succ_cons, List.drop_zero, VRs, VR, Nat.beq_refl, cond_true, true_and]
      exact setB_past (Nat.lt_succ_self _)
    · have e : Nat.beq q p = false := by
        cases hb : Nat.beq q p with
        | false => rfl
        | true => have := Nat.eq_of_beq_eq_true hb; omega
      rw [show p - q = (p - (q + 1)) + 1 by omega]
      simp only [setB, List.map_cons, splice, VRs, VR, e, cond_false, true_and]
      exact setB_vrs hlt (by simp only [List.length_cons] at h2; omega)

def storeA (P : Program) (H : List AB) (t : TypeId) (a x : AV) : Option Delta :=
  match a, x.cells, szA P t with
  | .ptr i w j k, some xs, some s =>
    if xs.length = s ∧ xs.all AV.flat = true then
      match H.getD i .gone with
      | .cells cs ty => (match boolsX x cs with
        | some (c, bs) => some { val := .v undef, rd := [i], put := [(i, .cells (setB (j * w + k) c 0 bs) ty)], obl := [Nat.blt (j * w + k) bs.length] }
        | none => if j * w + k + s ≤ cs.length then some { val := .v undef, rd := [i], put := [(i, .cells (splice cs (j * w + k) xs) ty)] } else none)
      | .row true n wd g ty =>
        if wd = w ∧ k + s ≤ w then
          match AV.toVs xs with
          | some vs => some { val := .v undef, rd := [i], put := [(i, .row true n wd (fun q => mergeL (Nat.beq q j) (splice (g j) k vs) (g q)) ty)], obl := [decide (j < n)] }
          | none => none
        else none
      | _ => none
    else none
  | _, _, _ => none

theorem mul_apart {w j q k m : Nat} (h : j ≠ q) (hk : k < w) (hm : m < w) : j * w + k ≠ q * w + m := by
  intro e
  have h1 : (j * w + k) / w = j := by rw [Nat.mul_comm, Nat.mul_add_div (by omega), Nat.div_eq_of_lt hk, Nat.add_zero]
  have h2 : (q * w + m) / w = q := by rw [Nat.mul_comm, Nat.mul_add_div (by omega), Nat.div_eq_of_lt hm, Nat.add_zero]
  rw [e, h2] at h1
  exact h h1.symm

theorem storeA_sound {P : Program} {H : List AB} {t : TypeId} {a x : AV} {δ : Delta} {ν : Nu} {w : World} {y z : Value} {base : Nat} (h : storeA P H t a x = some δ) (ho : obls δ.obl = true) (hv : VR ν a y) (hx : VR ν x z)
    (hr : ∀ i ∈ δ.rd, BR ν i (H.getD i .gone) w) : ∃ w', (Instr.storeAt t y z).run P w = .ok () w' ∧ Did ν ν base δ w w' undef := by
  unfold storeA at h
  split at h
  · rename_i i wd j k xs s hc hs
    simp only [VR] at hv
    obtain ⟨b, hb, rfl⟩ := hv
    split at h
    · rename_i hfl
      obtain ⟨hlen, hfl⟩ := hfl
      have hcv := VR_cells hc hx
      have hzl : z.cells.toList.length = s := by rw [← hcv.length]; exact hlen
      have h1 : ∀ v ∈ z.cells.toList, v.oneCell' = true := by
        intro v hvm
        obtain ⟨q, hq⟩ := List.mem_iff_getElem?.1 hvm
        have hql : q < xs.length := by
          rw [hcv.length]
          exact (List.getElem?_eq_some_iff.1 hq).1
        obtain ⟨v', e1, e2⟩ := hcv.get (List.getElem?_eq_getElem hql)
        rw [hq] at e1; cases e1
        exact VR_flat (List.all_eq_true.1 hfl _ (List.getElem_mem hql)) e2
      have did : ∀ (bn : AB) (l : List Value) (ty : TypeId), w.heap[b.n]? = some (.cells l.toArray ty (0, 0)) → ∀ l' : List Value, (BR ν i bn (w.setRow b.n l'.toArray)) → ∀ δ' : Delta, δ'.val = .v undef → δ'.put = [(i, bn)] → δ'.new = [] →
          Did ν ν base δ' w (w.setRow b.n l'.toArray) undef := by
        intro bn l ty hh l' hbr δ' hv1 hp1 hn1
        refine ⟨Le.refl _, fun q h h' => absurd h h', by rw [hv1]; simp only [VR], ?_, by rw [hn1]; intro q bb hq; simp at hq, rfl, rfl, rfl, by simp, ?_, by rw [hn1]; intro q bb hq; simp at hq, by rw [hn1]; intro q q' bb bb' _ hq; simp at hq⟩
        · rw [hp1]
          intro q bb hq
          simp only [lookB] at hq
          split at hq
          · rename_i e; subst e; cases hq; exact hbr
          · cases hq
        · intro q hq hne
          refine setRow_other _ _ _ _ ?_
          have := hne (i, bn) b (by rw [hp1]; simp) hb
          exact fun e => this e.symm
      split at h
      · rename_i cs ty hH
        split at h
        · rename_i c bs hbx
          simp only [Option.some.injEq] at h
          subst h
          have hp : j * wd + k < bs.length := by simpa [obls] using ho
          have hb' := hr i (by simp)
          rw [hH] at hb'
          obtain ⟨b', l, e1, e2, e3, e4⟩ := hb'
          rw [hb] at e1; cases e1
          rw [e2, Nat.zero_add]
          have hx2 : x = .v (.bool c) ∧ boolsOf cs = some bs := by
            unfold boolsX at hbx
            split at hbx
            · split at hbx
              · rename_i hq
                cases hbx
                exact ⟨rfl, hq⟩
              · cases hbx
            · cases hbx
          obtain ⟨rfl, hq⟩ := hx2
          rw [boolsOf_eq hq] at e4
          have hl := bools_vals e4
          subst hl
          simp only [AV.cells, Option.some.injEq] at hc
          subst hc
          simp only [VR] at hx
          subst hx
          simp only [List.length_cons, List.length_nil, Nat.zero_add] at hlen
          subst hlen
          refine ⟨_, run_storeAt_at hs hzl rfl e3 (by simp only [List.length_map]; omega) h1, did _ _ _ e3 _ ?_ _ rfl rfl rfl⟩
          refine ⟨b, _, hb, e2, setRow_heap _ _ _ _ _ _ e3, ?_⟩
          have := setB_vrs (ν := ν) (c := c) (bs := bs) (p := j * wd + k) (q := 0) (Nat.zero_le _) (by simpa using hp)
          simpa [Value.cells] using this
        · split at h
          · rename_i hle
            simp only [Option.some.injEq] at h
            subst h
            have hb' := hr i (by simp)
            rw [hH] at hb'
            obtain ⟨b', l, e1, e2, e3, e4⟩ := hb'
            rw [hb] at e1; cases e1
            rw [e2, Nat.zero_add]
            have hll := e4.length
            refine ⟨_, run_storeAt_at hs hzl rfl e3 (by omega) h1, did _ l _ e3 _ ?_ _ rfl rfl rfl⟩
            exact ⟨b, _, hb, e2, setRow_heap _ _ _ _ _ _ e3, VRs.splice _ e4 hcv⟩
          · cases h
      · rename_i n w' g ty hH
        split at h
        · rename_i hle
          obtain ⟨rfl, hle⟩ := hle
          split at h
          · rename_i vs hvs
            simp only [Option.some.injEq] at h
            subst h
            have hjn : j < n := by simpa [obls] using ho
            have hzv := VR_toVs hvs hcv
            have hb' := hr i (by simp)
            rw [hH] at hb'
            rcases hb' with ⟨_, h0, _⟩ | ⟨b', l, t', fz, e1, e2, e3, e4, e5⟩
            · omega
            rw [hb] at e1; cases e1
            obtain ⟨rfl, eo, rfl, el, ec⟩ := e3 rfl
            rw [eo, Nat.zero_add]
            have hmul : (j + 1) * w' ≤ b.c * w' := Nat.mul_le_mul_right _ (by omega)
            rw [Nat.add_mul, Nat.one_mul] at hmul
            have hvl : vs.length = s := by rw [← hzv]; exact hzl
            refine ⟨_, run_storeAt_at hs hzl rfl e2 (by omega) h1, did _ l _ e2 _ ?_ _ rfl rfl rfl⟩
            have hsl : (splice l (j * w' + k) z.cells.toList).length = l.length := splice_length _ _ _ (by omega)
            refine .inr ⟨b, _, _, _, hb, setRow_heap _ _ _ _ _ _ e2, fun _ => ⟨rfl, eo, rfl, by rw [hsl]; exact el, ec⟩, e4, ?_⟩
            intro q hq
            obtain ⟨⟨hg1, hg3⟩, hg2⟩ := e5 q hq
            obtain ⟨⟨hj1, hj3⟩, hj2⟩ := e5 j hjn
            by_cases hqj : q = j
            · subst hqj
              simp only [mergeL_eq, Nat.beq_refl, cond_true]
              refine ⟨⟨by rw [splice_length _ _ _ (by omega)]; exact hg1, fun x hx => ?_⟩, fun m hm => ?_⟩
              · rw [splice_eq _ _ _ (by omega)] at hx
                simp only [List.mem_append] at hx
                rcases hx with (hx | hx) | hx
                · exact hg3 x (List.mem_of_mem_take hx)
                · exact h1 x (by rw [hzv]; exact hx)
                · exact hg3 x (List.mem_of_mem_drop hx)
              rw [splice_get _ _ _ (by omega), splice_get _ _ _ (by omega), eo, Nat.zero_add, hzl, hzv, hvl]
              by_cases hin : k ≤ m ∧ m < k + s
              · rw [if_pos (by omega), if_pos hin]
                congr 1
                omega
              · rw [if_neg (by omega), if_neg hin]
                have := hg2 m hm
                rwa [eo, Nat.zero_add] at this
            · have hbq : Nat.beq q j = false := by
                cases hbq : Nat.beq q j with
                | true => exact absurd (Nat.eq_of_beq_eq_true hbq) hqj
                | false => rfl
              simp only [mergeL_eq, hbq, cond_false]
              refine ⟨⟨hg1, hg3⟩, fun m hm => ?_⟩
              rw [splice_get _ _ _ (by omega), eo, Nat.zero_add, hzl, if_neg ?_]
              · have := hg2 m hm
                rwa [eo, Nat.zero_add] at this
              · rintro ⟨c1, c2⟩
                have : j * w' + k + (q * w' + m - (j * w' + k)) = q * w' + m := by omega
                exact mul_apart (w := w') (j := q) (q := j) (k := m) (m := k + (q * w' + m - (j * w' + k))) hqj hm (by omega) (by omega)
          · cases h
        · cases h
      · cases h
    · cases h
  · cases h

end Go.Proofs.YtddhmidegldhdaaGreatDoor

/- The abstract machine, 3: operations that make blocks. No conditions. -/
namespace Go.Proofs.YtddhmidegldhdaaGreatDoor
open Go.RowKit

def upd (ν : Nu) (i : Nat) (b : Bk) : Nu := fun j => if j = i then some b else ν j
theorem upd_same (ν : Nu) (i : Nat) (b : Bk) : upd ν i b i = some b := by simp [upd]
theorem upd_le {ν : Nu} {i : Nat} {b : Bk} (h : ν i = none) : Le ν (upd ν i b) := by
  intro j x hx
  have : j ≠ i := by rintro rfl; rw [h] at hx; cases hx
  simp [upd, this, hx]

theorem Did.one {ν : Nu} {base : Nat} {δ : Delta} {w w' : World} {v : Value} {b : AB} {k : Bk} (hb : ν base = none) (hn : δ.new = [b]) (hk : k.n < w'.heap.size ∧ (w.heap.size ≤ k.n ∨ ∃ i b0, lookB i δ.put = some AB.gone ∧ ν i = some b0 ∧ b0.n = k.n))
    (hput : ∀ i c, lookB i δ.put = some c → BR (upd ν base k) i c w') (hv : VR (upd ν base k) δ.val v) (hbr : BR (upd ν base k) base b w') (os : w'.os = w.os) (tape : w'.tape = w.tape) (output : w'.output = w.output) (size : w.heap.size ≤ w'.heap.size)
    (block : ∀ q, q < w.heap.size → (∀ p b, p ∈ δ.put → ν p.1 = some b → b.n ≠ q) → w'.heap[q]? = w.heap[q]?) : Did ν (upd ν base k) base δ w w' v where
  le := upd_le hb
  dom := by
    intro i h h'
    rw [hn]
    by_cases e : i = base
    · subst e; simp
    · simp [upd, e, h] at h'
  val := hv
  put := hput
  new := by
    rw [hn]
    intro j c hj
    cases j with
    | zero => simp at hj; subst hj; simpa using hbr
    | succ j => simp at hj
  os := os
  tape := tape
  output := output
  size := size
  block := block
  fresh := by
    rw [hn]
    intro j c hj hc
    have : j = 0 := by simpa using hj
    subst this
    simp [upd] at hc
    subst hc
    exact hk
  apart := by
    rw [hn]
    intro j j' c c' hne hj hj'
    simp at hj hj'
    omega

theorem Did.new1 {ν : Nu} {base : Nat} {δ : Delta} {w w' : World} {v : Value} {b : AB} {c : Nat} {o : Obj} (hb : ν base = none) (hp : δ.put = []) (hn : δ.new = [b])
    (hh : w'.heap = w.heap.push o) (os : w'.os = w.os) (tape : w'.tape = w.tape) (output : w'.output = w.output) (hv : VR (upd ν base ⟨w.heap.size, 0, c⟩) δ.val v) (hbr : BR (upd ν base ⟨w.heap.size, 0, c⟩) base b w') :
    Did ν (upd ν base ⟨w.heap.size, 0, c⟩) base δ w w' v :=
  Did.one hb hn ⟨by rw [hh]; simp, .inl (Nat.le_refl _)⟩ (by rw [hp]; intro i c h; simp [lookB] at h) hv hbr os tape output (by rw [hh]; simp)
    (fun q hq _ => by rw [hh, Array.getElem?_push, if_neg (by omega)])

def boxA (t : TypeId) (x : AV) (base : Nat) : Option Delta := (AV.cells x).map fun cs => { val := .ptr base 0 0 0, new := [.cells cs t] }

theorem boxA_sound {P : Program} {t : TypeId} {x : AV} {base : Nat} {δ : Delta} {ν : Nu} {w : World} {y : Value} (h : boxA t x base = some δ) (hx : VR ν x y) (hb : ν base = none) :
    ∃ v w' ν', (Instr.box t y).run P w = .ok v w' ∧ Did ν ν' base δ w w' v := by
  simp only [boxA, Option.map_eq_some_iff] at h
  obtain ⟨cs, hc, rfl⟩ := h
  refine ⟨.pointer (some ⟨w.heap.size, 0, none⟩), w.alloc (.cells y.cells t), _, ?_, Did.new1 (c := 0) (o := .cells y.cells t) hb rfl rfl rfl rfl rfl rfl ?_ ?_⟩
  · simp [Instr.box, newVar, newRow]
  · simp only [VR]
    exact ⟨_, upd_same _ _ _, by simp⟩
  · refine ⟨_, y.cells.toList, upd_same _ _ _, rfl, ?_, (VR_cells hc hx).le (upd_le hb)⟩
    show (w.heap.push _)[w.heap.size]? = _
    simp

def allocA (P : Program) (t : TypeId) (base : Nat) : Option Delta :=
  match P.info? t with
  | some i => match i.zero with
    | some z => boxA t (.v z) base
    | none => none
  | none => none

theorem allocA_sound {P : Program} {t : TypeId} {base : Nat} {δ : Delta} {ν : Nu} {w : World} (h : allocA P t base = some δ) (hb : ν base = none) :
    ∃ v w' ν', (Instr.alloc t true (.tuple #[])).run P w = .ok v w' ∧ Did ν ν' base δ w w' v := by
  unfold allocA at h
  split at h
  · rename_i i hi
    split at h
    · rename_i z hz
      obtain ⟨v, w', ν', h1, h2⟩ := boxA_sound (P := P) (w := w) (y := z) h (by simp only [VR]) hb
      refine ⟨v, w', ν', ?_, h2⟩
      rw [← h1]
      simp [Instr.alloc, Instr.box, zeroValue, typeInfo, hi, hz]
    · cases h
  · cases h

def rowM : Nat → Nat → List Value → Nat → List Value
  | 0, _, l, _ => l.take 1
  | n + 1, k, l, j => mergeL (Nat.beq j k) (l.take 1) (rowM n (k + 1) (l.drop 1) j)
theorem rowM_eq : ∀ (n k : Nat) (l : List Value) (j : Nat), k ≤ j → j ≤ k + n → rowM n k l j = (l.drop (j - k)).take 1
  | 0, k, l, j, h1, h2 => by
    rw [show j - k = 0 by omega]
    rfl
  | n + 1, k, l, j, h1, h2 => by
    rw [rowM, mergeL_eq]
    cases h : Nat.beq j k with
    | true =>
      have h := Nat.eq_of_beq_eq_true h
      rw [show j - k = 0 by omega]
      rfl
    | false =>
      have h : j ≠ k := fun e => by rw [e, Nat.beq_refl] at h; cases h
      rw [cond_false, rowM_eq n (k + 1) (l.drop 1) j (by omega) (by omega), List.drop_drop]
      congr 2
      omega
def rowAt (len wd : Nat) (l : List Value) : Nat → List Value := bif Nat.beq len 1 then fun _ => l else bif Nat.beq wd 1 && Nat.ble len 16 then rowM (len - 1) 0 l else fun j => (l.drop (j * wd)).take wd
theorem rowAt_eq {len wd : Nat} {l : List Value} (hl : l.length = len * wd) {j : Nat} (hj : j < len) : rowAt len wd l j = (l.drop (j * wd)).take wd := by
  unfold rowAt
  cases h : Nat.beq len 1 with
  | false =>
    cases h2 : Nat.beq wd 1 && Nat.ble len 16 with
    | false => rfl
    | true =>
      rw [Bool.and_eq_true] at h2
      have e := Nat.eq_of_beq_eq_true h2.1
      subst e
      rw [cond_false, cond_true, rowM_eq _ _ _ _ (Nat.zero_le _) (by omega), Nat.sub_zero, Nat.mul_one]
  | true =>
    have h := Nat.eq_of_beq_eq_true h
    subst h
    have : j = 0 := by omega
    subst this
    rw [cond_true, Nat.zero_mul, List.drop_zero, List.take_of_length_le (by omega)]

def buildSliceA (P : Program) (t : TypeId) (len : Nat) (parts : List (Nat × Value)) (base : Nat) : Option Delta :=
  match P.underlying t with
  | some (.slice e) => match P.info? e with
    | some i => match i.zero with
      | some z =>
        if len * i.size = 0 then
          (match parts with
          | [] => some { val := .own base len, new := [.row true len i.size (fun _ => []) e], obl := [Nat.beq len 0] }
          | _ => none)
        else match Instr.fill (fun q => some (q * i.size, i.size)) ((Array.range (len * i.size)).map (z.cells[· % z.cells.size]!)) parts with
          | some cells => some { val := .own base len, new := [.row true len i.size (rowAt len i.size cells.toList) e], obl := [Nat.beq cells.size (len * i.size), Nat.ble (len * i.size) 16777216, cells.toList.all Value.oneCell'] }
          | none => none
      | none => none
    | none => none
  | _ => none

theorem row_of_list {l : List Value} {c wd : Nat} (hl : l.length = c * wd) (h1 : ∀ x ∈ l, x.oneCell' = true) : ∀ j, j < c → (((l.drop (j * wd)).take wd).length = wd ∧ ∀ x ∈ (l.drop (j * wd)).take wd, x.oneCell' = true) ∧ ∀ k, k < wd → l[0 + (j * wd + k)]? = ((l.drop (j * wd)).take wd)[k]? := by
  intro j hj
  have hmul : (j + 1) * wd ≤ c * wd := Nat.mul_le_mul_right _ hj
  rw [Nat.add_mul, Nat.one_mul] at hmul
  refine ⟨⟨by simp; omega, fun x hx => h1 x (List.mem_of_mem_drop (List.mem_of_mem_take hx))⟩, fun k hk => ?_⟩
  rw [List.getElem?_take, if_pos hk, List.getElem?_drop, Nat.zero_add]

theorem buildSliceA_sound {P : Program} {t : TypeId} {len : Nat} {parts : List (Nat × Value)} {base : Nat} {δ : Delta} {ν : Nu} {w : World} (h : buildSliceA P t len parts base = some δ) (ho : obls δ.obl = true) (hb : ν base = none) :
    ∃ v w' ν', (Instr.buildSlice t len parts.toArray).run P w = .ok v w' ∧ Did ν ν' base δ w w' v := by
  unfold buildSliceA at h
  split at h
  · rename_i e hu
    split at h
    · rename_i i hi
      split at h
      · rename_i z hz
        split at h
        · rename_i h0
          split at h
          · simp only [Option.some.injEq] at h
            subst h
            have hl0 : len = 0 := by
              simp only [obls, List.all_cons, List.all_nil, Bool.and_true, id] at ho
              exact Nat.eq_of_beq_eq_true ho
            subst hl0
            refine ⟨.slice (some ⟨w.heap.size, 0, none⟩) 0 0, w.alloc (.cells #[] e), _, ?_, Did.new1 (c := 0) (o := .cells #[] e) hb rfl rfl rfl rfl rfl rfl ?_ ?_⟩
            · simp [Instr.buildSlice, run_underlying hu, sizeOf, typeInfo, hi, Instr.fill, newRow]
              simp [Array.range]
            · simp only [VR]
              exact ⟨_, upd_same _ _ _, rfl⟩
            · refine .inr ⟨_, [], e, (0, 0), upd_same _ _ _, ?_, fun _ => ⟨rfl, rfl, rfl, by simp, by simp [maxLen]⟩, Nat.le_refl _, fun j hj => by omega⟩
              show (w.heap.push _)[w.heap.size]? = _
              simp
          · cases h
        · rename_i hpos
          split at h
          · rename_i cells hf
            simp only [Option.some.injEq] at h
            subst h
            simp only [obls, List.all_cons, List.all_nil, Bool.and_true, id, Bool.and_eq_true] at ho
            obtain ⟨ho1, ho2, ho3⟩ := ho
            have hs : cells.size = len * i.size := Nat.eq_of_beq_eq_true ho1
            have hle := Nat.le_of_ble_eq_true ho2
            have hlen : len ≤ maxLen := by
              have : 0 < i.size := by
                rcases Nat.eq_zero_or_pos i.size with h0 | h0
                · rw [h0] at hpos; simp at hpos
                · exact h0
              have h3 : len * 1 ≤ len * i.size := Nat.mul_le_mul_left _ this
              simp only [maxLen]
              omega
            refine ⟨_, _, _, run_buildSlice w t e len parts.toArray cells i z hu hi hz (by omega) hpos hf, Did.new1 (c := len) (o := .cells cells e) hb rfl rfl rfl rfl rfl rfl ?_ ?_⟩
            · simp only [VR]
              exact ⟨_, upd_same _ _ _, rfl⟩
            · refine .inr ⟨_, cells.toList, e, (0, 0), upd_same _ _ _, ?_, fun _ => ⟨rfl, rfl, rfl, by simpa using hs, hlen⟩, Nat.le_refl _, fun j hj => by
                rw [rowAt_eq (by simpa using hs) hj]
                exact row_of_list (by simpa using hs) (fun x hx => List.all_eq_true.1 ho3 x hx) j hj⟩
              show (w.heap.push _)[w.heap.size]? = _
              simp
          · cases h
      · cases h
    · cases h
  · cases h

def makeSliceA (P : Program) (t : TypeId) (l c : Int) (base : Nat) : Option Delta :=
  match P.underlying t with
  | some (.slice e) => match P.info? e with
    | some i => match i.zero with
      | some z =>
        if z.cells.size = i.size ∧ 0 < i.size ∧ i.bytes ≤ 256 ∧ z.cells.toList.all Value.oneCell' = true then
          some { val := .own base l.toNat, new := [.row true l.toNat i.size (fun _ => z.cells.toList) e], obl := [decide (0 ≤ l), decide (l ≤ c), decide (c ≤ 1099511627776)] }
        else none
      | none => none
    | none => none
  | _ => none

theorem makeSliceA_sound {P : Program} {t : TypeId} {l c : Int} {kl kc : IntKind} {base : Nat} {δ : Delta} {ν : Nu} {w : World} (h : makeSliceA P t l c base = some δ) (ho : obls δ.obl = true) (hb : ν base = none) :
    ∃ v w' ν', (Instr.makeSlice t (.int kl l) (.int kc c)).run P w = .ok v w' ∧ Did ν ν' base δ w w' v := by
  unfold makeSliceA at h
  split at h
  · rename_i e hu
    split at h
    · rename_i i hi
      split at h
      · rename_i z hz
        split at h
        · rename_i hc
          obtain ⟨hzs, hpos, hby, hone⟩ := hc
          simp only [Option.some.injEq] at h
          subst h
          simp only [obls, List.all_cons, List.all_nil, Bool.and_true, id, Bool.and_eq_true, decide_eq_true_eq] at ho
          obtain ⟨h0, h1, h2⟩ := ho
          have hbytes : (i.bytes : Int) * c ≤ 281474976710656 := by
            have : (i.bytes : Int) * c ≤ 256 * c := Int.mul_le_mul_of_nonneg_right (by omega) (by omega)
            omega
          have hrun := run_make (P := P) w t e i z hu hi hz kl kc l c h0 h1 hbytes (by omega)
          refine ⟨_, _, _, hrun, Did.new1 (c := c.toNat) (o := .cells (madeCells z.cells (c.toNat * i.size)) e) hb rfl rfl rfl rfl rfl rfl ?_ ?_⟩
          · simp only [VR]
            exact ⟨_, upd_same _ _ _, rfl⟩
          · refine .inr ⟨_, (madeCells z.cells (c.toNat * i.size)).toList, e, (0, 0), upd_same _ _ _, ?_, fun _ => ⟨rfl, rfl, rfl, by simp [madeCells], by simp only [maxLen]; omega⟩, by show l.toNat ≤ c.toNat; omega, ?_⟩
            · show (w.heap.push _)[w.heap.size]? = _
              simp
            · intro j hj
              have hjc : j < c.toNat := by omega
              refine ⟨⟨by simpa using hzs, fun x hx => List.all_eq_true.1 hone x hx⟩, fun k hk => ?_⟩
              have hmul : (j + 1) * i.size ≤ c.toNat * i.size := Nat.mul_le_mul_right _ hjc
              rw [Nat.add_mul, Nat.one_mul] at hmul
              have hmod : (j * i.size + k) % z.cells.size = k := by
                rw [hzs, Nat.mul_comm, Nat.mul_add_mod, Nat.mod_eq_of_lt hk]
              have hkz : k < z.cells.size := by omega
              simp only [madeCells, Nat.zero_add, Array.toList_map, List.getElem?_map, Array.toList_range]
              rw [List.getElem?_range (by omega)]
              simp only [Option.map_some, hmod]
              rw [getElem!_pos z.cells k hkz]
              simp [hkz]
        · cases h
      · cases h
    · cases h
  · cases h

end Go.Proofs.YtddhmidegldhdaaGreatDoor

/- The abstract machine, 4: append. No conditions. -/
namespace Go.Proofs.YtddhmidegldhdaaGreatDoor
open Go.RowKit

def elemsA (H : List AB) (s : Nat) : AV → Option (Nat × Nat × (Nat → List Value) × List Bool)
  | .own i m => match H.getD i .gone with
    | .row _ n wd g _ => if wd = s then some (i, m, g, [Nat.ble m n]) else none
    | _ => none
  | .sl i w j k m _ => match H.getD i .gone with
    | .row _ n wd g _ => if wd = s ∧ w = s ∧ k = 0 then some (i, m, fun q => g (j + q), [Nat.ble (j + m) n]) else none
    | _ => none
  | _ => none

structure Elems (w : World) (s : Nat) (y : Value) (m : Nat) (g : Nat → List Value) : Prop where
  mk' : ∃ (p : Option Addr) (c : Nat) (news : List Value), y = .slice p m c ∧ (p = none → m = 0) ∧ news.length = m * s ∧ (∀ a, p = some a → ∀ (j : Nat) v, news[j]? = some v → w.cell? (a.add j) = some v) ∧
    ∀ q, q < m → ((g q).length = s ∧ ∀ x ∈ g q, x.oneCell' = true) ∧ ∀ k, k < s → news[q * s + k]? = (g q)[k]?

theorem elems_of {w : World} {l : List Value} {n : Nat} {t : TypeId} {fz : Nat × Nat} {s m off : Nat} {g : Nat → List Value} (hh : w.heap[n]? = some (.cells l.toArray t fz))
    (h : ∀ q, q < m → ((g q).length = s ∧ ∀ x ∈ g q, x.oneCell' = true) ∧ ∀ k, k < s → l[off + (q * s + k)]? = (g q)[k]?) :
    ∃ news : List Value, news.length = m * s ∧ (∀ (j : Nat) v, news[j]? = some v → w.cell? ((⟨n, off, none⟩ : Addr).add j) = some v) ∧
      ∀ q, q < m → ((g q).length = s ∧ ∀ x ∈ g q, x.oneCell' = true) ∧ ∀ k, k < s → news[q * s + k]? = (g q)[k]? := by
  refine ⟨(l.drop off).take (m * s), ?_, ?_, ?_⟩
  · rcases Nat.eq_zero_or_pos m with rfl | hm
    · simp
    · rcases Nat.eq_zero_or_pos s with rfl | hs
      · simp
      · obtain ⟨⟨e1, _⟩, e2⟩ := h (m - 1) (by omega)
        have e3 := e2 (s - 1) (by omega)
        have hx : (g (m - 1))[s - 1]? = some (g (m - 1))[s - 1] := List.getElem?_eq_getElem (by omega)
        rw [hx] at e3
        have hlt := (List.getElem?_eq_some_iff.1 e3).1
        have : (m - 1) * s + s = m * s := by
          have : m = (m - 1) + 1 := by omega
          rw [this, Nat.add_mul, Nat.one_mul, Nat.add_sub_cancel]
        simp only [List.length_take, List.length_drop]
        omega
  · intro j v hj
    rw [List.getElem?_take] at hj
    split at hj
    · rw [List.getElem?_drop] at hj
      rw [addr_add, cell_at hh]
      exact hj
    · cases hj
  · intro q hq
    refine ⟨(h q hq).1, fun k hk => ?_⟩
    have hmul : (q + 1) * s ≤ m * s := Nat.mul_le_mul_right _ hq
    rw [Nat.add_mul, Nat.one_mul] at hmul
    rw [List.getElem?_take, if_pos (by omega), List.getElem?_drop]
    exact (h q hq).2 k hk

theorem elemsA_sound {H : List AB} {s : Nat} {x : AV} {i m : Nat} {g : Nat → List Value} {ob : List Bool} {ν : Nu} {w : World} {y : Value} (h : elemsA H s x = some (i, m, g, ob)) (ho : obls ob = true) (hv : VR ν x y) (hr : BR ν i (H.getD i .gone) w) :
    Elems w s y m g := by
  unfold elemsA at h
  split at h
  · rename_i i' m'
    split at h
    · rename_i rw' n wd g' t hH
      split at h
      · rename_i e
        subst e
        simp only [Option.some.injEq, Prod.mk.injEq] at h
        obtain ⟨rfl, rfl, rfl, rfl⟩ := h
        simp only [VR] at hv
        obtain ⟨b, hb, rfl⟩ := hv
        rw [hH] at hr
        rcases hr with ⟨_, _, e1⟩ | ⟨b', l, t', fz, e1, e2, e3, e4, e5⟩
        · rw [hb] at e1; cases e1
        rw [hb] at e1; cases e1
        have hle : m' ≤ n := by
          simp only [obls, List.all_cons, List.all_nil, Bool.and_true, id] at ho
          exact Nat.le_of_ble_eq_true ho
        obtain ⟨news, h1, h2, h3⟩ := elems_of (m := m') (off := b.o) e2 (fun q hq => e5 q (by omega))
        exact ⟨_, _, news, rfl, by simp, h1, fun a ha => (by cases ha; exact h2), h3⟩
      · cases h
    · cases h
  · rename_i i' w' j k m' cap
    split at h
    · rename_i rw' n wd g' t hH
      split at h
      · rename_i e
        obtain ⟨rfl, rfl, rfl⟩ := e
        simp only [Option.some.injEq, Prod.mk.injEq] at h
        obtain ⟨rfl, rfl, rfl, rfl⟩ := h
        simp only [VR] at hv
        obtain ⟨p, c, rfl, hc, hmc, hp⟩ := hv
        have hle : j + m' ≤ n := by
          simp only [obls, List.all_cons, List.all_nil, Bool.and_true, id] at ho
          exact Nat.le_of_ble_eq_true ho
        rcases Nat.eq_zero_or_pos c with h0 | h0
        · have hm0 : m' = 0 := by omega
          subst hm0
          exact ⟨p, c, [], rfl, fun _ => rfl, by simp, fun a _ j v hj => by simp at hj, fun q hq => by omega⟩
        · obtain ⟨b, hb, rfl⟩ := hp h0
          rw [hH] at hr
          rcases hr with ⟨_, h00, e1⟩ | ⟨b', l, t', fz, e1, e2, e3, e4, e5⟩
          · rw [hb] at e1; cases e1
          rw [hb] at e1; cases e1
          obtain ⟨news, h1, h2, h3⟩ := elems_of (m := m') (off := b.o + (j * w' + 0)) (g := fun q => g' (j + q)) e2 (fun q hq => by
            obtain ⟨f1, f2⟩ := e5 (j + q) (by omega)
            refine ⟨f1, fun k hk => ?_⟩
            rw [← f2 k hk, Nat.add_mul]
            congr 1
            omega)
          exact ⟨_, _, news, rfl, by simp, h1, fun a ha => (by cases ha; exact h2), h3⟩
      · cases h
    · cases h
  · cases h

def appendA (P : Program) (t : TypeId) (H : List AB) (s x : AV) (base : Nat) : Option Delta :=
  match P.underlying t with
  | some (.slice e) => match P.info? e with
    | some i => match i.zero with
      | some z =>
        if z.cells.size = i.size ∧ 0 < i.size ∧ i.bytes ≤ 256 then
          match elemsA H i.size x with
          | some (ix, m, gx, ob) =>
            match s with
            | .own is len => match H.getD is .gone with
              | .row true n wd g ty => if wd = i.size ∧ ty = e then
                  some { val := .own base (len + m), rd := [is, ix], put := [(is, .gone)], new := [.row true (len + m) wd (fun q => mergeL (Nat.blt q len) (g q) (gx (q - len))) e], obl := Nat.ble len n :: Nat.ble (len + m) 549755813888 :: ob }
                else none
              | _ => none
            | .v (.slice none 0 0) => some { val := .own base m, rd := [ix], new := [.row true m i.size gx e], obl := Nat.blt 0 m :: Nat.ble m 549755813888 :: ob }
            | _ => none
          | none => none
        else none
      | none => none
    | none => none
  | _ => none

def flatN (g : Nat → List Value) : Nat → List Value
  | 0 => []
  | n + 1 => flatN g n ++ g n

theorem flatN_take {s m : Nat} {g : Nat → List Value} {news : List Value} (hn : news.length = m * s) (h : ∀ q, q < m → ((g q).length = s ∧ ∀ x ∈ g q, x.oneCell' = true) ∧ ∀ k, k < s → news[q * s + k]? = (g q)[k]?) : ∀ n, n ≤ m → flatN g n = news.take (n * s)
  | 0, _ => by simp [flatN]
  | n + 1, hle => by
    have ih := flatN_take hn h n (by omega)
    obtain ⟨⟨h1, _⟩, h2⟩ := h n (by omega)
    have hmul : (n + 1) * s ≤ m * s := Nat.mul_le_mul_right _ hle
    rw [Nat.add_mul, Nat.one_mul] at hmul
    have e : g n = (news.drop (n * s)).take s := by
      apply List.ext_getElem?
      intro k
      rw [List.getElem?_take]
      by_cases hk : k < s
      · rw [if_pos hk, List.getElem?_drop, h2 k hk]
      · rw [if_neg hk, List.getElem?_eq_none (by omega)]
    rw [flatN, ih, e, Nat.add_mul, Nat.one_mul, List.take_add]

def copyA (P : Program) (t : TypeId) (H : List AB) (dst src : AV) : Option Delta :=
  match P.underlying t, dst with
  | some (.slice e), .sl i w j k m _ => match szA P e, H.getD i .gone, elemsA H 1 src with
    | some 1, .cells cs ty, some (ix, mm, gx, ob) =>
      some { val := .v (.int .i64 (Nat.min mm m : Nat)), rd := [i, ix], put := [(i, .cells (splice cs (j * w + k) ((flatN gx (Nat.min mm m)).map .v)) ty)], obl := Nat.blt 0 m :: Nat.blt 0 mm :: Nat.ble (j * w + k + Nat.min mm m) cs.length :: ob }
    | _, _, _ => none
  | _, _ => none

theorem copyA_sound {P : Program} {t t' ty : TypeId} {H : List AB} {dst src : AV} {δ : Delta} {ν : Nu} {w : World} {y z : Value} {base : Nat} (h : copyA P t H dst src = some δ) (ho : obls δ.obl = true) (hy : VR ν dst y) (hz : VR ν src z) (hr : ∀ i ∈ δ.rd, BR ν i (H.getD i .gone) w)
    (hone : ∀ {s m : Nat} {gx : Nat → List Value} {news : List Value}, 0 < s → news.length = m * s → (∀ q, q < m → ((gx q).length = s ∧ ∀ x ∈ gx q, x.oneCell' = true) ∧ ∀ k, k < s → news[q * s + k]? = (gx q)[k]?) → ∀ v ∈ news, v.oneCell' = true) :
    ∃ v w', (Builtin.copy_ #[t, t'] ty #[y, z]).run P w = .ok v w' ∧ Did ν ν base δ w w' v := by
  unfold copyA at h
  split at h
  · rename_i e i wd j k m cap hu
    split at h
    · rename_i cs ct ix mm gx ob hs hH hel
      simp only [Option.some.injEq] at h
      subst h
      simp only [obls, List.all_cons, id, Bool.and_eq_true] at ho
      obtain ⟨ho1, ho2, ho3, ho4⟩ := ho
      have hm : 0 < m := by simpa [Nat.blt_eq] using ho1
      have hmm : 0 < mm := by simpa [Nat.blt_eq] using ho2
      have hle := Nat.le_of_ble_eq_true ho3
      obtain ⟨pa, c, news, rfl, hpn, hn1, hn2, hn3⟩ := (elemsA_sound hel ho4 hz (hr ix (by simp))).mk'
      cases pa with
      | none => have := hpn rfl; omega
      | some a =>
      have hsrc := hn2 a rfl
      simp only [VR] at hy
      obtain ⟨p, c', rfl, _, hlc, hp⟩ := hy
      obtain ⟨b, hb, rfl⟩ := hp (by omega)
      have hbr := hr i (by simp)
      rw [hH] at hbr
      obtain ⟨b', l, e1, e2, e3, e4⟩ := hbr
      rw [hb] at e1; cases e1
      have hfl := flatN_take hn1 hn3 (Nat.min mm m) (Nat.min_le_left _ _)
      rw [Nat.mul_one] at hfl hn1
      have hflen : (flatN gx (Nat.min mm m)).length = Nat.min mm m := by
        rw [hfl, List.length_take, hn1]
        exact Nat.min_eq_left (Nat.min_le_left _ _)
      have hll := e4.length
      have hrun := run_copy_row (P := P) w t t' ty e b.n (j * wd + k) m c' a mm c l.toArray ct (flatN gx (Nat.min mm m)) hu hs e3 hflen (fun q v hq => hsrc q v (by
        rw [hfl, List.getElem?_take] at hq
        split at hq
        · exact hq
        · cases hq)) (by simp only [List.size_toArray]; omega) (fun v hv => by
          rw [hfl] at hv
          exact hone (s := 1) (m := mm) Nat.one_pos (by omega) hn3 v (List.mem_of_mem_take hv))
      rw [e2, Nat.zero_add]
      refine ⟨_, _, hrun, Le.refl _, fun q h h' => absurd h h', by simp only [VR, goInt, hflen], ?_, by intro q bb hq; simp at hq, rfl, rfl, rfl, by simp, ?_, by intro q bb hq; simp at hq, by intro q q' bb bb' _ hq; simp at hq⟩
      · intro q bb hq
        simp only [lookB] at hq
        split at hq
        · rename_i ee; subst ee; cases hq
          refine ⟨b, _, hb, e2, setRow_heap _ _ _ _ _ _ e3, ?_⟩
          have := VRs.splice (j * wd + k) e4 (VRs.map_v (ν := ν) (flatN gx (Nat.min mm m)))
          rw [splice_eq l _ _ (by omega)] at this
          simpa using this
        · cases hq
      · intro q hq hne
        refine setRow_other _ _ _ _ ?_
        have := hne (i, _) b (List.mem_cons_self) hb
        exact fun e => this e.symm
    · cases h
  · cases h

theorem grow_row {s len m : Nat} {g gx : Nat → List Value} {l news rest : List Value} (hl : l.length = len * s) (hn : news.length = m * s)
    (hg : ∀ q, q < len → ((g q).length = s ∧ ∀ x ∈ g q, x.oneCell' = true) ∧ ∀ k, k < s → l[q * s + k]? = (g q)[k]?) (hx : ∀ q, q < m → ((gx q).length = s ∧ ∀ x ∈ gx q, x.oneCell' = true) ∧ ∀ k, k < s → news[q * s + k]? = (gx q)[k]?) :
    ∀ j, j < len + m → (((fun q => mergeL (Nat.blt q len) (g q) (gx (q - len))) j).length = s ∧ ∀ x ∈ (fun q => mergeL (Nat.blt q len) (g q) (gx (q - len))) j, x.oneCell' = true) ∧ ∀ k, k < s → (l ++ news ++ rest)[0 + (j * s + k)]? = ((fun q => mergeL (Nat.blt q len) (g q) (gx (q - len))) j)[k]? := by
  intro j hj
  by_cases hjl : j < len
  · have hb : Nat.blt j len = true := by simpa [Nat.blt_eq] using hjl
    simp only [mergeL_eq, hb, cond_true]
    refine ⟨(hg j hjl).1, fun k hk => ?_⟩
    have hmul : (j + 1) * s ≤ len * s := Nat.mul_le_mul_right _ hjl
    rw [Nat.add_mul, Nat.one_mul] at hmul
    rw [Nat.zero_add, List.append_assoc, List.getElem?_append_left (by omega)]
    exact (hg j hjl).2 k hk
  · have hb : Nat.blt j len = false := by
      cases hb : Nat.blt j len with
      | true => exact absurd (by simpa [Nat.blt_eq] using hb) hjl
      | false => rfl
    simp only [mergeL_eq, hb, cond_false]
    have hjm : j - len < m := by omega
    refine ⟨(hx _ hjm).1, fun k hk => ?_⟩
    have hmul : (j - len + 1) * s ≤ m * s := Nat.mul_le_mul_right _ hjm
    rw [Nat.add_mul, Nat.one_mul] at hmul
    have hsub : (j - len) * s = j * s - len * s := Nat.sub_mul ..
    have hle : len * s ≤ j * s := Nat.mul_le_mul_right _ (by omega)
    rw [Nat.zero_add, List.append_assoc, List.getElem?_append_right (by omega), List.getElem?_append_left (by omega), ← (hx _ hjm).2 k hk]
    congr 1
    omega

theorem one_of_rows {s m : Nat} {gx : Nat → List Value} {news : List Value} (hs : 0 < s) (hn : news.length = m * s) (hx : ∀ q, q < m → ((gx q).length = s ∧ ∀ x ∈ gx q, x.oneCell' = true) ∧ ∀ k, k < s → news[q * s + k]? = (gx q)[k]?) :
    ∀ v ∈ news, v.oneCell' = true := by
  intro v hv
  obtain ⟨j, hj⟩ := List.mem_iff_getElem?.1 hv
  have hlt := (List.getElem?_eq_some_iff.1 hj).1
  have hq : j / s < m := by
    rw [Nat.div_lt_iff_lt_mul hs]
    omega
  have hr := Nat.mod_lt j hs
  have he : j / s * s + j % s = j := by rw [Nat.mul_comm]; exact Nat.div_add_mod j s
  have h2 := (hx _ hq).2 _ hr
  rw [he, hj] at h2
  exact (hx _ hq).1.2 v (List.mem_of_getElem? h2.symm)

theorem appendA_sound {P : Program} {t ty : TypeId} {H : List AB} {s x : AV} {base : Nat} {δ : Delta} {ν : Nu} {w : World} {ys yx : Value} (h : appendA P t H s x base = some δ) (ho : obls δ.obl = true) (hs : VR ν s ys) (hx : VR ν x yx) (hb : ν base = none)
    (hr : ∀ i ∈ δ.rd, BR ν i (H.getD i .gone) w) (hlt : ∀ i b, ν i = some b → b.n < w.heap.size) :
    ∃ v w' ν', (Builtin.append_ #[t, t] ty #[ys, yx]).run P w = .ok v w' ∧ Did ν ν' base δ w w' v := by
  unfold appendA at h
  split at h
  · rename_i e hu
    split at h
    · rename_i i hi
      split at h
      · rename_i z hz
        split at h
        · rename_i hc
          obtain ⟨hzs, hpos, hby⟩ := hc
          split at h
          · rename_i ix m gx ob hel
            split at h
            · rename_i is len
              split at h
              · rename_i n wd g ty' hH
                split at h
                · rename_i hwd
                  obtain ⟨rfl, rfl⟩ := hwd
                  simp only [Option.some.injEq] at h
                  subst h
                  simp only [obls, List.all_cons, id, Bool.and_eq_true] at ho
                  obtain ⟨ho1, ho2, ho3⟩ := ho
                  have hln := Nat.le_of_ble_eq_true ho1
                  have hbig := Nat.le_of_ble_eq_true ho2
                  obtain ⟨pa, c, news, rfl, hpn, hn1, hn2', hn3⟩ := (elemsA_sound hel ho3 hx (hr ix (by simp))).mk'
                  have hone := one_of_rows hpos hn1 hn3
                  have hbr := hr is (by simp)
                  rw [hH] at hbr
                  rcases hbr with ⟨h00, _, _⟩ | ⟨b, l, t', fz, e1, e2, e3, e4, e5⟩
                  · cases h00
                  obtain ⟨rfl, eo, rfl, el, ec⟩ := e3 rfl
                  simp only [VR] at hs
                  obtain ⟨b', hb', rfl⟩ := hs
                  rw [e1] at hb'; cases hb'
                  have hg : ∀ q, q < len → ((g q).length = i.size ∧ ∀ x ∈ g q, x.oneCell' = true) ∧ ∀ k, k < i.size → (l.take (len * i.size))[q * i.size + k]? = (g q)[k]? := by
                    intro q hq
                    obtain ⟨f1, f2⟩ := e5 q (by omega)
                    refine ⟨f1, fun k hk => ?_⟩
                    have hmul : (q + 1) * i.size ≤ len * i.size := Nat.mul_le_mul_right _ hq
                    rw [Nat.add_mul, Nat.one_mul] at hmul
                    rw [List.getElem?_take, if_pos (by omega)]
                    have := f2 k hk
                    rwa [eo, Nat.zero_add] at this
                  have hlc : len * i.size ≤ l.length := by rw [el]; exact Nat.mul_le_mul_right _ (by omega)
                  have hlt' : (l.take (len * i.size)).length = len * i.size := by simp; omega
                  have hput : ∀ (k : Bk) (w' : World) (q : Nat) cc, lookB q [(is, AB.gone)] = some cc → BR (upd ν base k) q cc w' := by
                    intro k w' q cc hq
                    simp only [lookB] at hq
                    split at hq
                    · cases hq; trivial
                    · cases hq
                  have lk : lookB is [(is, AB.gone)] = some .gone := by simp [lookB]
                  rw [eo]
                  cases pa with
                  | none =>
                    have hm0 := hpn rfl
                    subst hm0
                    have hroom : len ≤ b.c := by omega
                    refine ⟨.slice (some ⟨b.n, 0, none⟩) len b.c, w, upd ν base b, ?_, Did.one (b := .row true (len + 0) i.size _ t') hb rfl ⟨hlt is b e1, .inr ⟨is, b, lk, e1, rfl⟩⟩ (hput _ _) ?_ ?_ rfl rfl rfl (Nat.le_refl _) (fun _ _ _ => rfl)⟩
                    · simp [Builtin.append_, run_underlying hu, sizeOf, typeInfo, hi, Builtin.lenOf, hroom, Builtin.firstCells, storeCells]
                    · simp only [VR]
                      exact ⟨b, upd_same _ _ _, by rw [eo]; rfl⟩
                    · refine .inr ⟨b, l, t', (0, 0), upd_same _ _ _, e2, fun _ => ⟨rfl, eo, rfl, el, ec⟩, by omega, fun q hq => ?_⟩
                      have hb' : Nat.blt q len = true := by simpa [Nat.blt_eq] using hq
                      simp only [mergeL_eq, hb', cond_true]
                      exact e5 q (by omega)
                  | some a =>
                  have hn2 := hn2' a rfl
                  by_cases hroom : len + m ≤ b.c
                  · have hfit : len * i.size + news.length ≤ l.toArray.size := by
                      simp only [List.size_toArray]
                      rw [hn1, el, ← Nat.add_mul]
                      exact Nat.mul_le_mul_right _ hroom
                    have hrun := run_append_room (P := P) w t ty t' i hu hi b.n len b.c l.toArray e2 a m c news hn1 hn2 hone hroom hfit
                    refine ⟨_, _, upd ν base b, hrun, Did.one (b := .row true (len + m) i.size _ t') hb rfl ⟨by simpa using hlt is b e1, .inr ⟨is, b, lk, e1, rfl⟩⟩ (hput _ _) ?_ ?_ rfl rfl rfl (by simp) ?_⟩
                    · simp only [VR]
                      exact ⟨b, upd_same _ _ _, by rw [eo]⟩
                    · refine .inr ⟨b, _, t', (0, 0), upd_same _ _ _, setRow_heap _ _ _ _ _ _ e2, fun _ => ⟨rfl, eo, rfl, ?_, ec⟩, hroom, ?_⟩
                      · simp only [List.size_toArray] at hfit
                        simp only [List.length_append, List.length_take, List.length_drop] at hfit ⊢
                        omega
                      · rw [eo]
                        simp only []
                        exact grow_row hlt' hn1 hg hn3
                    · intro q hq hne
                      refine setRow_other _ _ _ _ ?_
                      have := hne (is, .gone) b (by simp) e1
                      exact fun e => this e.symm
                  · have holds : ∀ (j : Nat) v, (l.take (len * i.size))[j]? = some v → w.cell? ((⟨b.n, 0, none⟩ : Addr).add j) = some v := by
                      intro j v hj
                      rw [List.getElem?_take] at hj
                      split at hj
                      · rw [addr_add, cell_at e2, Nat.zero_add]; exact hj
                      · cases hj
                    have hby2 : (len + m) * i.bytes ≤ 140737488355328 := by
                      have : (len + m) * i.bytes ≤ 549755813888 * 256 := Nat.mul_le_mul hbig hby
                      omega
                    have hrun := run_append_grow (P := P) w t ty t' i z hu hi hz ⟨b.n, 0, none⟩ len b.c (l.take (len * i.size)) hlt' holds a m c news hn1 hn2 (by omega) (by omega) (growslice_fits (by omega) hby2)
                    have hge := grownCap_ge w (len + m) b.c t'
                    have hcm : grownCap w (len + m) b.c t' ≤ maxLen := grownCap_le_maxLen w (len + m) b.c t' (by simp only [maxLen]; omega)
                    refine ⟨_, _, upd ν base ⟨w.heap.size, 0, grownCap w (len + m) b.c t'⟩, hrun, Did.one (b := .row true (len + m) i.size _ t') hb rfl ⟨by simp, .inl (Nat.le_refl _)⟩ (hput _ _) ?_ ?_ rfl rfl rfl (by simp) ?_⟩
                    · simp only [VR]
                      exact ⟨_, upd_same _ _ _, rfl⟩
                    · refine .inr ⟨_, (l.take (len * i.size)) ++ news ++ (Builtin.zeroCells z.cells (grownCap w (len + m) b.c t' - (len + m))).toList, t', (0, 0), upd_same _ _ _, ?_, fun _ => ⟨rfl, rfl, rfl, ?_, hcm⟩, hge, grow_row hlt' hn1 hg hn3⟩
                      · show (w.heap.push _)[w.heap.size]? = _
                        simp
                      · simp only [List.length_append, hlt', hn1, Array.length_toList, size_zeroCells, hzs, ← Nat.add_mul]
                        congr 1
                        omega
                    · intro q hq _
                      show (w.heap.push _)[q]? = _
                      rw [Array.getElem?_push, if_neg (by omega)]
                · cases h
              · cases h
            · simp only [Option.some.injEq] at h
              subst h
              simp only [obls, List.all_cons, id, Bool.and_eq_true] at ho
              obtain ⟨ho1, ho2, ho3⟩ := ho
              have hm : 0 < m := by simpa [Nat.blt_eq] using ho1
              have hbig := Nat.le_of_ble_eq_true ho2
              obtain ⟨pa, c, news, rfl, hpn, hn1, hn2', hn3⟩ := (elemsA_sound hel ho3 hx (hr ix (by simp))).mk'
              cases pa with
              | none => have := hpn rfl; omega
              | some a =>
              have hn2 := hn2' a rfl
              simp only [VR] at hs
              subst hs
              have hby2 : m * i.bytes ≤ 140737488355328 := by
                have : m * i.bytes ≤ 549755813888 * 256 := Nat.mul_le_mul hbig hby
                omega
              have hrun := run_append_nil (P := P) w t ty e i z hu hi hz a m c news hn1 hn2 hm (by omega) (by omega)
              have hge := grownCap_ge w m 0 e
              have hcm : grownCap w m 0 e ≤ maxLen := grownCap_le_maxLen w m 0 e (by simp only [maxLen]; omega)
              refine ⟨_, _, upd ν base ⟨w.heap.size, 0, grownCap w m 0 e⟩, hrun, Did.one (b := .row true m i.size gx e) hb rfl ⟨by simp, .inl (Nat.le_refl _)⟩ (by intro q cc hq; simp [lookB] at hq) ?_ ?_ rfl rfl rfl (by simp) ?_⟩
              · simp only [VR]
                exact ⟨_, upd_same _ _ _, rfl⟩
              · refine .inr ⟨_, news ++ (Builtin.zeroCells z.cells (grownCap w m 0 e - m)).toList, e, (0, 0), upd_same _ _ _, ?_, fun _ => ⟨rfl, rfl, rfl, ?_, hcm⟩, hge, ?_⟩
                · show (w.heap.push _)[w.heap.size]? = _
                  simp
                · simp only [List.length_append, hn1, Array.length_toList, size_zeroCells, hzs, ← Nat.add_mul]
                  congr 1
                  omega
                · intro j hj
                  refine ⟨(hn3 j hj).1, fun k hk => ?_⟩
                  have hmul : (j + 1) * i.size ≤ m * i.size := Nat.mul_le_mul_right _ hj
                  rw [Nat.add_mul, Nat.one_mul] at hmul
                  rw [Nat.zero_add, List.getElem?_append_left (by omega)]
                  exact (hn3 j hj).2 k hk
              · intro q hq _
                show (w.heap.push _)[q]? = _
                rw [Array.getElem?_push, if_neg (by omega)]
            · cases h
          · cases h
        · cases h
      · cases h
    · cases h
  · cases h

def clearA (P : Program) (t : TypeId) (H : List AB) (x : AV) : Option Delta :=
  match P.underlying t, x with
  | some (.slice e), .sl i w j 0 m _ => (match P.info? e, H.getD i .gone with
    | some inf, .row true n wd g ty => (match inf.zero with
      | some z => if wd = w ∧ z.cells.size = w ∧ 0 < w ∧ z.cells.toList.all Value.oneCell' = true then
          some { val := .v (.tuple #[]), rd := [i], put := [(i, .row true n wd (fun q => mergeL (Nat.ble j q && Nat.blt q (j + m)) z.cells.toList (g q)) ty)], obl := [Nat.ble (j + m) n] }
        else none
      | none => none)
    | _, _ => none)
  | _, _ => none

theorem zeroCells_get (z : Array Value) (m idx : Nat) (h : idx < m * z.size) : (Builtin.zeroCells z m).toList[idx]? = some (z[idx % z.size]!) := by
  simp [Builtin.zeroCells, h]

theorem clearA_sound {P : Program} {t ty' : TypeId} {H : List AB} {x : AV} {δ : Delta} {ν : Nu} {w : World} {y : Value} {base : Nat} (h : clearA P t H x = some δ) (ho : obls δ.obl = true) (hy : VR ν x y) (hr : ∀ i ∈ δ.rd, BR ν i (H.getD i .gone) w) :
    ∃ v w', (Builtin.clear_ #[t] ty' #[y]).run P w = .ok v w' ∧ Did ν ν base δ w w' v := by
  unfold clearA at h
  split at h
  case h_2 => cases h
  rename_i e i wd0 j m cap hu
  split at h
  case h_2 => cases h
  rename_i inf n wd g ty hi hH
  split at h
  case h_2 => cases h
  rename_i z hz
  split at h
  case isFalse => cases h
  rename_i hc
  obtain ⟨rfl, hzs, hw0, hone⟩ := hc
  simp only [Option.some.injEq] at h
  subst h
  have hle : j + m ≤ n := by simpa [obls] using ho
  simp only [VR] at hy
  obtain ⟨p, c, rfl, _, hmc, hp⟩ := hy
  have hbr := hr i (by simp)
  rw [hH] at hbr
  have dead : ∀ (w' : World) v, v = .tuple #[] → w'.os = w.os → w'.tape = w.tape → w'.output = w.output → w'.heap.size = w.heap.size → (∀ q, (∀ b, ν i = some b → b.n ≠ q) → w'.heap[q]? = w.heap[q]?) → BR ν i (.row true n wd (fun q => mergeL (Nat.ble j q && Nat.blt q (j + m)) z.cells.toList (g q)) ty) w' →
      Did ν ν base { val := .v (.tuple #[]), rd := [i], put := [(i, .row true n wd (fun q => mergeL (Nat.ble j q && Nat.blt q (j + m)) z.cells.toList (g q)) ty)], obl := [Nat.ble (j + m) n] } w w' v := by
    intro w' v hv h1 h2 h3 h4 h5 h6
    refine ⟨Le.refl _, fun q h h' => absurd h h', by simp only [VR, hv], ?_, by intro q bb hq; simp at hq, h1, h2, h3, by omega, ?_, by intro q bb hq; simp at hq, by intro q q' bb bb' _ hq; simp at hq⟩
    · intro q bb hq
      simp only [lookB] at hq
      split at hq
      · rename_i ee; subst ee; cases hq; exact h6
      · cases hq
    · intro q _ hne
      exact h5 q fun b hb => hne (i, _) b List.mem_cons_self hb
  by_cases hm : m = 0
  · subst hm
    refine ⟨.tuple #[], w, ?_, dead w _ rfl rfl rfl rfl rfl (fun _ _ => rfl) ?_⟩
    · cases p <;> simp [Builtin.clear_, run_underlying hu]
    · have e0 : (fun q => mergeL (Nat.ble j q && Nat.blt q (j + 0)) z.cells.toList (g q)) = g := by
        funext q
        have : (Nat.ble j q && Nat.blt q (j + 0)) = false := by
          cases hb : (Nat.ble j q && Nat.blt q (j + 0)) with
          | false => rfl
          | true =>
            rw [Bool.and_eq_true, Nat.ble_eq, Nat.blt_eq] at hb
            omega
        rw [mergeL_eq, this, cond_false]
      rw [e0]
      exact hbr
  · obtain ⟨b, hb, rfl⟩ := hp (by omega)
    rcases hbr with ⟨h0, _⟩ | ⟨b', l, t', fz, e1, e2, e3, e4, e5⟩
    · cases h0
    rw [hb] at e1
    cases e1
    obtain ⟨rfl, eo, rfl, el, ec⟩ := e3 rfl
    have hmul : (j + m) * wd ≤ b.c * wd := Nat.mul_le_mul_right _ (by omega)
    rw [Nat.add_mul] at hmul
    have hzl : (Builtin.zeroCells z.cells m).toList.length = m * wd := by simp [Builtin.zeroCells, hzs]
    have hst := run_storeCells_at P b.n (j * wd) t' (Builtin.zeroCells z.cells m).toList 0 l.toArray w e2 (by simp only [List.size_toArray]; omega) (by
      intro v hv
      obtain ⟨idx, hidx⟩ := List.mem_iff_getElem?.1 hv
      have hil : idx < m * z.cells.size := by
        have := (List.getElem?_eq_some_iff.1 hidx).1
        rw [hzs]
        omega
      rw [zeroCells_get _ _ _ hil] at hidx
      cases hidx
      have hlt : idx % z.cells.size < z.cells.size := Nat.mod_lt _ (by omega)
      refine List.all_eq_true.1 hone _ ?_
      rw [getElem!_pos z.cells _ hlt]
      simp)
    have hzv : ∀ w : World, (zeroValue e).run P w = .ok z w := fun w => by simp [zeroValue, typeInfo, hi, hz]
    refine ⟨.tuple #[], w.setRow b.n (splice l (j * wd) (Builtin.zeroCells z.cells m).toList).toArray, ?_, dead _ _ rfl rfl rfl rfl (by simp) (fun q hq => setRow_other _ _ _ _ fun e => hq b hb e.symm) ?_⟩
    · rw [splice_eq l _ _ (by omega)]
      have hbo : b.o + (j * wd + 0) = j * wd := by omega
      simp only [Nat.add_zero] at hst
      rw [hbo]
      cases m with
      | zero => exact (hm rfl).elim
      | succ m =>
        simp only [Builtin.clear_]
        simp [run_underlying hu, hzv, hst]
    · refine .inr ⟨b, _, _, _, hb, setRow_heap _ _ _ _ _ _ e2, fun _ => ⟨rfl, eo, rfl, by rw [splice_length _ _ _ (by omega)]; exact el, ec⟩, e4, ?_⟩
      intro q hq
      obtain ⟨⟨hg1, hg3⟩, hg2⟩ := e5 q hq
      have hqm : (q + 1) * wd ≤ b.c * wd := Nat.mul_le_mul_right _ (by omega)
      rw [Nat.add_mul, Nat.one_mul] at hqm
      cases hin : (Nat.ble j q && Nat.blt q (j + m)) with
      | true =>
        simp only [mergeL_eq, hin, cond_true]
        rw [Bool.and_eq_true, Nat.ble_eq, Nat.blt_eq] at hin
        refine ⟨⟨by simpa using hzs, fun x hx => List.all_eq_true.1 hone x hx⟩, fun k hk => ?_⟩
        have h1 : j * wd ≤ q * wd := Nat.mul_le_mul_right _ hin.1
        have h2 : (q + 1) * wd ≤ (j + m) * wd := Nat.mul_le_mul_right _ (by omega)
        rw [Nat.add_mul, Nat.add_mul, Nat.one_mul] at h2
        have h3 : (q - j) * wd = q * wd - j * wd := by rw [Nat.sub_mul]
        rw [splice_get _ _ _ (by omega), eo, Nat.zero_add, hzl, if_pos (by omega), zeroCells_get _ _ _ (by rw [hzs]; omega), hzs]
        have h4 : q * wd + k - j * wd = k + wd * (q - j) := by
          rw [Nat.mul_comm wd, h3]
          omega
        rw [h4, Nat.add_mul_mod_self_left, Nat.mod_eq_of_lt hk, getElem!_pos z.cells k (by omega)]
        simp [hzs, hk]
      | false =>
        simp only [mergeL_eq, hin, cond_false]
        refine ⟨⟨hg1, hg3⟩, fun k hk => ?_⟩
        have hout : q < j ∨ j + m ≤ q := by
          rcases Nat.lt_or_ge q j with h | h
          · exact .inl h
          · rcases Nat.lt_or_ge q (j + m) with h' | h'
            · exfalso
              have : (Nat.ble j q && Nat.blt q (j + m)) = true := by rw [Bool.and_eq_true, Nat.ble_eq, Nat.blt_eq]; omega
              rw [this] at hin
              cases hin
            · exact .inr h'
        have hno : ¬ (j * wd ≤ q * wd + k ∧ q * wd + k < j * wd + m * wd) := by
          rcases hout with h | h
          · have := Nat.mul_le_mul_right wd (show q + 1 ≤ j by omega)
            rw [Nat.add_mul, Nat.one_mul] at this
            omega
          · have := Nat.mul_le_mul_right wd h
            rw [Nat.add_mul] at this
            omega
        rw [splice_get _ _ _ (by omega), eo, Nat.zero_add, hzl, if_neg hno]
        have := hg2 k hk
        rwa [eo, Nat.zero_add] at this

end Go.Proofs.YtddhmidegldhdaaGreatDoor

/- The abstract machine, 5: operations that only reckon. No conditions. -/
namespace Go.Proofs.YtddhmidegldhdaaGreatDoor
open Go.RowKit

def evA (T : List AV) : Operand → AV
  | .tmp t => T.getD t .dead
  | .const v => .v v
  | .global g => .v (.pointer (some ⟨g, 0, none⟩))
  | .func f => .fn f []

def fieldAddrA (P : Program) (S : TypeId) (x : AV) (f : Nat) : Option AV :=
  match P.underlying S, x with
  | some (.struct fields), .ptr i w j k => match fields[f]? with
    | some fd => match szA P fd.type with
      | some (_ + 1) => some (.ptr i w j (k + fd.offset))
      | _ => none
    | none => none
  | _, _ => none

theorem fieldAddrA_sound {P : Program} {S : TypeId} {x r : AV} {f : Nat} {ν : Nu} {y : Value} {w : World} (h : fieldAddrA P S x f = some r) (hv : VR ν x y) : ∃ v, (Instr.fieldAt S y f).run P w = .ok v w ∧ VR ν r v := by
  unfold fieldAddrA at h
  split at h
  · rename_i fields i wd j k hu
    split at h
    · rename_i fd hf
      split at h
      · rename_i s hs
        simp only [Option.some.injEq] at h
        subst h
        simp only [VR] at hv
        obtain ⟨b, hb, rfl⟩ := hv
        refine ⟨.pointer (some ⟨b.n, b.o + (j * wd + (k + fd.offset)), none⟩), ?_, ?_⟩
        · simp [Instr.fieldAt, run_underlying hu, hf, Instr.sureAddr, fieldPlace, run_sizeOf' hs, addr_add]
        · simp only [VR]
          exact ⟨b, hb, rfl⟩
      · cases h
    · cases h
  · cases h

def indexAddrA (P : Program) (_ : List AB) (t : TypeId) (x idx : AV) : Option Delta :=
  match P.underlying t, x, idx with
  | some (.array len e), .ptr i w j k, .v (.int _ n) => match szA P e with
    | some s => some { val := .ptr i w j (k + n.toNat * s), obl := [decide (0 ≤ n), decide (n < len)] }
    | none => none
  | some (.slice e), .own i len, .v (.int _ n) => match szA P e with
    | some s => some { val := .ptr i s n.toNat 0, obl := [decide (0 ≤ n), decide (n < len)] }
    | none => none
  | some (.slice e), .sl i w j k len _, .v (.int _ n) => match szA P e with
    | some s => if w = s then some { val := .ptr i w (j + n.toNat) k, obl := [decide (0 ≤ n), decide (n < len)] } else none
    | none => none
  | _, _, _ => none

theorem indexAddrA_plain {P : Program} {H : List AB} {t : TypeId} {x idx : AV} {δ : Delta} (h : indexAddrA P H t x idx = some δ) : δ.put = [] ∧ δ.new = [] := by
  unfold indexAddrA at h
  repeat (first | split at h | (simp only [Option.some.injEq] at h; subst h; exact ⟨rfl, rfl⟩) | cases h)

theorem indexAddrA_sound {P : Program} {H : List AB} {t : TypeId} {x idx : AV} {δ : Delta} {ν : Nu} {y z : Value} {w : World} (h : indexAddrA P H t x idx = some δ) (ho : obls δ.obl = true) (hv : VR ν x y) (hz : VR ν idx z) : ∃ v, (Instr.indexAt t y z).run P w = .ok v w ∧ VR ν δ.val v := by
  unfold indexAddrA at h
  split at h
  · rename_i len e i wd j k kk n hu
    split at h
    · rename_i s hs
      simp only [Option.some.injEq] at h
      subst h
      simp only [obls, List.all_cons, List.all_nil, Bool.and_true, id, Bool.and_eq_true, decide_eq_true_eq] at ho
      simp only [VR] at hv hz
      obtain ⟨b, hb, rfl⟩ := hv
      subst hz
      refine ⟨.pointer (some ⟨b.n, b.o + (j * wd + (k + n.toNat * s)), none⟩), ?_, ?_⟩
      · simp [Instr.indexAt, asIntOf, run_underlying hu, Instr.sureAddr, ho.1, ho.2, run_sizeOf' hs, addr_add]
      · simp only [VR]
        exact ⟨b, hb, rfl⟩
    · cases h
  · rename_i e i len kk n hu
    split at h
    · rename_i s hs
      simp only [Option.some.injEq] at h
      subst h
      simp only [obls, List.all_cons, List.all_nil, Bool.and_true, id, Bool.and_eq_true, decide_eq_true_eq] at ho
      simp only [VR] at hv hz
      obtain ⟨b, hb, rfl⟩ := hv
      subst hz
      refine ⟨.pointer (some ⟨b.n, b.o + (n.toNat * s + 0), none⟩), ?_, ?_⟩
      · simp [Instr.indexAt, asIntOf, run_underlying hu, ho.1, ho.2, run_sizeOf' hs, addr_add]
      · simp only [VR]
        exact ⟨b, hb, rfl⟩
    · cases h
  · rename_i e i wd j k len cap kk n hu
    split at h
    · rename_i s hs
      split at h
      · rename_i hw
        subst hw
        simp only [Option.some.injEq] at h
        subst h
        simp only [obls, List.all_cons, List.all_nil, Bool.and_true, id, Bool.and_eq_true, decide_eq_true_eq] at ho
        simp only [VR] at hv hz
        obtain ⟨p, c, rfl, _, hlc, hp⟩ := hv
        subst hz
        obtain ⟨b, hb, rfl⟩ := hp (by omega)
        refine ⟨.pointer (some ⟨b.n, b.o + ((j + n.toNat) * wd + k), none⟩), ?_, ?_⟩
        · simp [Instr.indexAt, asIntOf, run_underlying hu, ho.1, ho.2, run_sizeOf' hs, addr_add, Nat.add_mul]
        · simp only [VR]
          exact ⟨b, hb, rfl⟩
      · cases h
    · cases h
  · cases h

def partA (P : Program) (t : TypeId) (cs : List AV) (off : Nat) : Option AV :=
  match aggA P t, szA P t with
  | some true, some s => some (.agg ((cs.drop off).take s))
  | some false, some _ => cs[off]?
  | _, _ => none

theorem partA_sound {P : Program} {t : TypeId} {cs : List AV} {off : Nat} {r : AV} {ν : Nu} {l : List Value} {w : World} (h : partA P t cs off = some r) (hv : VRs ν cs l) : ∃ v, (part t l.toArray off).run P w = .ok v w ∧ VR ν r v := by
  unfold partA at h
  split at h
  · rename_i s ha hs
    simp only [Option.some.injEq] at h
    subst h
    refine ⟨.agg ((l.drop off).take s).toArray, ?_, ?_⟩
    · simp [part, run_isAgg ha, run_sizeOf' hs]
    · simp only [VR]
      exact ⟨_, rfl, (hv.drop _).take _⟩
  · rename_i s ha hs
    obtain ⟨y, hy, hr⟩ := hv.get h
    refine ⟨y, ?_, hr⟩
    simp [part, run_isAgg ha, hy]
  · cases h

def AV.parts : AV → Option (List AV)
  | .v (.agg arr) => some (arr.toList.map .v)
  | .agg cs => some cs
  | _ => none

theorem VR_parts {ν : Nu} {a : AV} {cs : List AV} {y : Value} (h : a.parts = some cs) (hv : VR ν a y) : ∃ l : List Value, y = .agg l.toArray ∧ VRs ν cs l := by
  unfold AV.parts at h
  split at h
  · rename_i arr
    simp only [Option.some.injEq] at h
    subst h
    simp only [VR] at hv
    exact ⟨arr.toList, by simp [hv], VRs.map_v _⟩
  · simp only [Option.some.injEq] at h
    subst h
    simp only [VR] at hv
    exact hv
  · cases h

def fieldA (P : Program) (S : TypeId) (x : AV) (f : Nat) : Option AV :=
  match P.underlying S, x.parts with
  | some (.struct fields), some cs => match fields[f]? with
    | some fd => partA P fd.type cs fd.offset
    | none => none
  | _, _ => none

theorem fieldA_sound {P : Program} {S : TypeId} {x r : AV} {f : Nat} {ν : Nu} {y : Value} {w : World} (h : fieldA P S x f = some r) (hv : VR ν x y) : ∃ v, (Instr.field S y f).run P w = .ok v w ∧ VR ν r v := by
  unfold fieldA at h
  split at h
  · rename_i fields cs hu hp
    split at h
    · rename_i fd hf
      obtain ⟨l, rfl, hl⟩ := VR_parts hp hv
      obtain ⟨v, h1, h2⟩ := partA_sound (w := w) h hl
      refine ⟨v, ?_, h2⟩
      simp [Instr.field, run_underlying hu, hf, asAgg, h1]
    · cases h
  · cases h

def byB (s : ByteArray) (n : Int) : Int := ((s.data[n.toNat]!).toNat : Nat)
def indexA (P : Program) (t : TypeId) (x idx : AV) : Option (AV × List Bool) :=
  match P.underlying t, idx with
  | some (.array len e), .v (.int _ n) => match szA P e, x.parts with
    | some s, some cs => (partA P e cs (n.toNat * s)).map fun r => (r, [decide (0 ≤ n), decide (n < len)])
    | _, _ => none
  | some .string, .v (.int _ n) => match x with
    | .v (.string s) => some (.v (.int .u8 (byB s n)), [decide (0 ≤ n), decide (n < s.size)])
    | _ => none
  | _, _ => none

theorem indexA_sound {P : Program} {t : TypeId} {x idx r : AV} {ob : List Bool} {ν : Nu} {y z : Value} {w : World} (h : indexA P t x idx = some (r, ob)) (ho : obls ob = true) (hv : VR ν x y) (hz : VR ν idx z) : ∃ v, (Instr.index t y z).run P w = .ok v w ∧ VR ν r v := by
  unfold indexA at h
  split at h
  · rename_i len e kk n hu
    split at h
    · rename_i s cs hs hp
      simp only [Option.map_eq_some_iff] at h
      obtain ⟨r', h1, h2⟩ := h
      simp only [Prod.mk.injEq] at h2
      obtain ⟨rfl, rfl⟩ := h2
      simp only [obls, List.all_cons, List.all_nil, Bool.and_true, id, Bool.and_eq_true, decide_eq_true_eq] at ho
      obtain ⟨l, rfl, hl⟩ := VR_parts hp hv
      obtain ⟨v, h3, h4⟩ := partA_sound (w := w) h1 hl
      simp only [VR] at hz
      subst hz
      exact ⟨v, by simp [Instr.index, asIntOf, run_underlying hu, ho.1, ho.2, run_sizeOf' hs, h3], h4⟩
    · cases h
  · rename_i kk n hu
    split at h
    · rename_i s
      simp only [Option.some.injEq, Prod.mk.injEq] at h
      obtain ⟨rfl, rfl⟩ := h
      simp only [obls, List.all_cons, List.all_nil, Bool.and_true, id, Bool.and_eq_true, decide_eq_true_eq] at ho
      simp only [VR] at hv hz
      subst hv hz
      refine ⟨.int .u8 ((s.data[n.toNat]!).toNat : Nat), ?_, by simp only [VR, byB]⟩
      have hlt : n.toNat < s.size := by omega
      have hg : s[n.toNat]? = some s[n.toNat] := by simp [hlt]
      simp only [Instr.index, asIntOf]
      simp [run_underlying hu, ho.1, hg]
      have : n.toNat < s.data.size := hlt
      rw [getElem!_pos s.data n.toNat this]
      rfl
    · cases h
  · cases h

def bndA : Option AV → Option (Option Int)
  | none => some none
  | some (.v (.int _ n)) => some (some n)
  | _ => none

def sliceA (P : Program) (H : List AB) (t : TypeId) (x : AV) (lo hi mx : Option AV) : Option Delta :=
  match P.underlying t, x, bndA lo, bndA hi, bndA mx with
  | some (.slice e), .own i len, some l, some h, some m => match szA P e, H.getD i .gone with
    | some s, .row _ n _ _ _ => if m.isSome && h.isNone then none else
      some { val := .sl i s (l.getD 0).toNat 0 ((h.getD len) - (l.getD 0)).toNat (m.map fun m => (m - (l.getD 0)).toNat), rd := [i],
             obl := [decide (0 ≤ l.getD 0), decide (l.getD 0 ≤ h.getD len), decide (h.getD len ≤ m.getD len), decide (m.getD len ≤ len), Nat.ble len n] }
    | _, _ => none
  | some (.slice e), .sl i w j k len cap, some l, some h, some m => match szA P e with
    | some s => if m.isSome && h.isNone then none else if w = s then
      some { val := .sl i w (j + (l.getD 0).toNat) k ((h.getD len) - (l.getD 0)).toNat (match m with | some m => some (m - (l.getD 0)).toNat | none => cap.map fun c => c - (l.getD 0).toNat),
             obl := [decide (0 ≤ l.getD 0), decide (l.getD 0 ≤ h.getD len), decide (h.getD len ≤ m.getD len), decide (m.getD len ≤ len)] }
      else none
    | none => none
  | some .string, .v (.string s), some l, some h, some none =>
      some { val := .v (.string (s.extract (l.getD 0).toNat (h.getD s.size).toNat)), obl := [decide (0 ≤ l.getD 0), decide (l.getD 0 ≤ h.getD s.size), decide (h.getD s.size ≤ s.size)] }
  | some (.array n e), .ptr i w j k, some none, some none, some none => match szA P e with
    | some s => some { val := .sl i s 0 (j * w + k) n (some n) }
    | none => none
  | _, _, _, _, _ => none

theorem sliceA_plain {P : Program} {H : List AB} {t : TypeId} {x : AV} {lo hi mx : Option AV} {δ : Delta} (h : sliceA P H t x lo hi mx = some δ) : δ.put = [] ∧ δ.new = [] := by
  unfold sliceA at h
  repeat (first | split at h | (simp only [Option.some.injEq] at h; subst h; exact ⟨rfl, rfl⟩) | cases h)

inductive BndOk (ν : Nu) : Option AV → Option Value → Prop
  | none : BndOk ν none none
  | some {a v} : VR ν a v → BndOk ν (some a) (some v)

theorem bndA_val {ν : Nu} {a : Option AV} {v : Option Value} {n : Option Int} (h : bndA a = some n) (hv : BndOk ν a v) : (n = none ∧ v = none) ∨ ∃ k m, n = some m ∧ v = some (.int k m) := by
  cases hv with
  | none => simp [bndA] at h; exact .inl ⟨h.symm, rfl⟩
  | some hv =>
    unfold bndA at h
    split at h
    · rename_i e; cases e
    · rename_i k m e
      cases e
      simp only [Option.some.injEq] at h
      subst h
      simp only [VR] at hv
      exact .inr ⟨k, m, rfl, by rw [hv]⟩
    · cases h

theorem sliceBounds_run {P : Program} {w : World} {isS : Bool} {len cap : Nat} {lo hi mx : Option Value} {l h m : Option Int} (h1 : (l = none ∧ lo = none) ∨ ∃ k n, l = some n ∧ lo = some (.int k n)) (h2 : (h = none ∧ hi = none) ∨ ∃ k n, h = some n ∧ hi = some (.int k n))
    (h3 : (m = none ∧ mx = none) ∨ ∃ k n, m = some n ∧ mx = some (.int k n)) (hmh : (m.isSome && h.isNone) = false) (b1 : 0 ≤ l.getD 0) (b2 : l.getD 0 ≤ h.getD len) (b3 : h.getD len ≤ m.getD cap) (b4 : m.getD cap ≤ cap) :
    (Instr.sliceBounds isS len cap lo hi mx).run P w = .ok ((l.getD 0).toNat, (h.getD len).toNat, (m.getD cap).toNat) w := by
  rcases h3 with ⟨rfl, rfl⟩ | ⟨k3, n3, rfl, rfl⟩
  · rcases h2 with ⟨rfl, rfl⟩ | ⟨k2, n2, rfl, rfl⟩
    · rcases h1 with ⟨rfl, rfl⟩ | ⟨k1, n1, rfl, rfl⟩
      · simp [Instr.sliceBounds]
      · simp at b1 b2 b3 b4
        simp [Instr.sliceBounds, Instr.sliceBound, asIntOf, b1, b2]
    · rcases h1 with ⟨rfl, rfl⟩ | ⟨k1, n1, rfl, rfl⟩
      · simp at b1 b2 b3 b4
        simp [Instr.sliceBounds, Instr.sliceBound, asIntOf, b2, b3]
      · simp at b1 b2 b3 b4
        have : 0 ≤ n2 := by omega
        have e : (n2.toNat : Int) = n2 := by omega
        simp [Instr.sliceBounds, Instr.sliceBound, asIntOf, b1, b2, b3, this, e]
  · rcases h2 with ⟨rfl, rfl⟩ | ⟨k2, n2, rfl, rfl⟩
    · simp at hmh
    · rcases h1 with ⟨rfl, rfl⟩ | ⟨k1, n1, rfl, rfl⟩
      · simp at b1 b2 b3 b4
        have : 0 ≤ n3 := by omega
        have e : (n3.toNat : Int) = n3 := by omega
        simp [Instr.sliceBounds, Instr.sliceBound, asIntOf, b2, b3, b4, this, e]
      · simp at b1 b2 b3 b4
        have : 0 ≤ n3 := by omega
        have e : (n3.toNat : Int) = n3 := by omega
        have : 0 ≤ n2 := by omega
        have e : (n2.toNat : Int) = n2 := by omega
        simp [Instr.sliceBounds, Instr.sliceBound, asIntOf, *]

end Go.Proofs.YtddhmidegldhdaaGreatDoor

/- The abstract machine, 31: a built slice whose parts are slices; append of an empty slice to nil. No conditions. -/
namespace Go.Proofs.YtddhmidegldhdaaGreatDoor
open Go.RowKit

def buildSlice2A (P : Program) (t : TypeId) (x y : AV) (base : Nat) : Option Delta :=
  match P.underlying t with
  | some (.slice e) => match P.info? e with
    | some i => match i.zero with
      | some (.slice none 0 0) => if i.size = 1 then (match x, y with
        | .sl .., .sl .. => some { val := .sl base 1 0 0 2 (some 2), new := [.cells [x, y] e] }
        | _, _ => none) else none
      | _ => none
    | none => none
  | _ => none

theorem VR_sl_slice {ν : Nu} {a b c d e : Nat} {f : Option Nat} {y : Value} (h : VR ν (.sl a b c d e f) y) : ∃ p l c, y = .slice p l c := by
  simp only [VR] at h
  obtain ⟨p, c, rfl, _⟩ := h
  exact ⟨p, _, c, rfl⟩

theorem fill_two {s : Nat} (hs : s = 1) (p1 : Option Addr) (l1 q1 : Nat) (p2 : Option Addr) (l2 q2 : Nat) :
    Instr.fill (fun q => some (q * s, s)) ((Array.range (2 * s)).map ((Value.slice none 0 0).cells[· % (Value.slice none 0 0).cells.size]!)) [(0, .slice p1 l1 q1), (1, .slice p2 l2 q2)] = some #[.slice p1 l1 q1, .slice p2 l2 q2] := by
  subst hs
  simp [Instr.fill, Array.range, Value.cells, Array.zipIdx]
  apply Array.ext
  · simp
  · intro i h1 h2
    have h3 : i < 2 := by simpa using h2
    match i, h3 with
    | 0, _ => simp
    | 1, _ => simp

theorem buildSlice2A_sound {P : Program} {t : TypeId} {x y : AV} {base : Nat} {δ : Delta} {ν : Nu} {w : World} {vx vy : Value} (h : buildSlice2A P t x y base = some δ) (hx : VR ν x vx) (hy : VR ν y vy) (hb : ν base = none) :
    ∃ v w' ν', (Instr.buildSlice t 2 #[(0, vx), (1, vy)]).run P w = .ok v w' ∧ Did ν ν' base δ w w' v := by
  unfold buildSlice2A at h
  split at h
  · rename_i e hu
    split at h
    · rename_i i hi
      split at h
      · rename_i hz
        split at h
        · rename_i hs
          split at h
          · rename_i a1 b1 c1 d1 e1 f1 a2 b2 c2 d2 e2 f2
            simp only [Option.some.injEq] at h
            subst h
            obtain ⟨p1, l1, q1, rfl⟩ := VR_sl_slice hx
            obtain ⟨p2, l2, q2, rfl⟩ := VR_sl_slice hy
            have hrun := run_buildSlice (P := P) w t e 2 #[(0, .slice p1 l1 q1), (1, .slice p2 l2 q2)] #[.slice p1 l1 q1, .slice p2 l2 q2] i (.slice none 0 0) hu hi hz (by omega) (by omega) (fill_two hs _ _ _ _ _ _)
            refine ⟨_, _, _, hrun, Did.new1 (c := 2) (o := .cells #[.slice p1 l1 q1, .slice p2 l2 q2] e) hb rfl rfl rfl rfl rfl rfl ?_ ?_⟩
            · simp only [VR]
              exact ⟨_, 2, rfl, by simp, by omega, fun _ => ⟨_, upd_same _ _ _, rfl⟩⟩
            · refine ⟨_, [.slice p1 l1 q1, .slice p2 l2 q2], upd_same _ _ _, rfl, ?_, ?_⟩
              · show (w.heap.push _)[w.heap.size]? = _
                simp
              · simp only [VRs]
                exact ⟨hx.le (upd_le hb), hy.le (upd_le hb), trivial⟩
          · cases h
        · cases h
      · cases h
    · cases h
  · cases h

def appendE (P : Program) (t : TypeId) (s x : AV) : Option Delta :=
  match P.underlying t, x with
  | some (.slice e), .sl _ w _ _ l _ => match P.info? e with
    | some _ => (match w with
      | 0 => (match l with
        | 0 => (match s with
          | .v (.slice none 0 0) => some { val := .v (.slice none 0 0) }
          | .sl i' w' j' k' l' c' => some { val := .sl i' w' j' k' l' c' }
          | _ => none)
        | _ => none)
      | _ => none)
    | none => none
  | _, _ => none

theorem appendE_plain {P : Program} {t : TypeId} {s x : AV} {δ : Delta} (h : appendE P t s x = some δ) : δ.put = [] ∧ δ.new = [] := by
  unfold appendE at h
  repeat (first | split at h | (simp only [Option.some.injEq] at h; subst h; exact ⟨rfl, rfl⟩) | cases h)

theorem append_nothing {P : Program} {t ty e : TypeId} {i : TypeInfo} (hu : P.underlying t = some (.slice e)) (hi : P.info? e = some i) (b p : Option Addr) (l c c' : Nat) (hl : l ≤ c) (w : World) :
    (Builtin.append_ #[t, t] ty #[.slice b l c, .slice p 0 c']).run P w = .ok (.slice b l c) w := by
  cases p with
  | none => cases b <;> simp [Builtin.append_, run_underlying hu, sizeOf, typeInfo, hi, Builtin.lenOf, hl, Builtin.firstCells, storeCells]
  | some a => cases b <;> simp [Builtin.append_, run_underlying hu, sizeOf, typeInfo, hi, Builtin.lenOf, hl, Builtin.firstCells, storeCells, loadCells, loadCellsFrom]

theorem appendE_sound {P : Program} {t ty : TypeId} {s x : AV} {δ : Delta} {ν : Nu} {ys yx : Value} (h : appendE P t s x = some δ) (hs : VR ν s ys) (hx : VR ν x yx) (w : World) :
    ∃ v, (Builtin.append_ #[t, t] ty #[ys, yx]).run P w = .ok v w ∧ VR ν δ.val v := by
  unfold appendE at h
  split at h
  · rename_i e a w0 j k l c hu
    split at h
    · rename_i i hi
      split at h
      · split at h
        · simp only [VR] at hx
          obtain ⟨p, c, rfl, _, _, _⟩ := hx
          split at h
          · simp only [Option.some.injEq] at h
            subst h
            simp only [VR] at hs
            subst hs
            exact ⟨_, append_nothing hu hi none p 0 0 c (Nat.le_refl _) w, by simp only [VR]⟩
          · simp only [Option.some.injEq] at h
            subst h
            have hs' := hs
            simp only [VR] at hs'
            obtain ⟨b, c2, rfl, _, hlc, _⟩ := hs'
            exact ⟨_, append_nothing hu hi b p _ c2 c hlc w, hs⟩
          · cases h
        · cases h
      · cases h
    · cases h
  · cases h

end Go.Proofs.YtddhmidegldhdaaGreatDoor

/- The abstract machine, 6: one operation. Conditions: those of the table of callees. -/
namespace Go.Proofs.YtddhmidegldhdaaGreatDoor
open Go.RowKit

theorem sliceA_sound {P : Program} {H : List AB} {t : TypeId} {x : AV} {lo hi mx : Option AV} {δ : Delta} {ν : Nu} {y : Value} {vlo vhi vmx : Option Value} {w : World} (h : sliceA P H t x lo hi mx = some δ) (ho : obls δ.obl = true) (hv : VR ν x y)
    (h1 : BndOk ν lo vlo) (h2 : BndOk ν hi vhi) (h3 : BndOk ν mx vmx) (hr : ∀ i ∈ δ.rd, BR ν i (H.getD i .gone) w) : ∃ v, (Instr.sliceAt t y vlo vhi vmx).run P w = .ok v w ∧ VR ν δ.val v := by
  unfold sliceA at h
  split at h
  · rename_i e i len l hh m hu hl hhi hm
    split at h
    · rename_i s rw' n wd g ty hs hH
      split at h
      · cases h
      · rename_i hmh
        simp only [Option.some.injEq] at h
        subst h
        simp only [obls, List.all_cons, List.all_nil, Bool.and_true, id, Bool.and_eq_true, decide_eq_true_eq] at ho
        obtain ⟨b1, b2, b3, b4, b5⟩ := ho
        have hln := Nat.le_of_ble_eq_true b5
        have hbr := hr i (by simp)
        rw [hH] at hbr
        simp only [VR] at hv
        obtain ⟨b, hb0, rfl⟩ := hv
        rcases hbr with ⟨_, _, e1⟩ | ⟨b', _, _, _, e1, _, _, e4, _⟩
        · rw [hb0] at e1; cases e1
        rw [hb0] at e1; cases e1
        have e1 := hb0
        have hmc : hh.getD len ≤ m.getD (b.c : Int) ∧ m.getD (b.c : Int) ≤ b.c := by
          cases m with
          | none => simp at b3 b4 ⊢; omega
          | some m => simp at b3 b4 ⊢; omega
        have hb := sliceBounds_run (P := P) (w := w) (isS := true) (len := len) (cap := b.c) (bndA_val hl h1) (bndA_val hhi h2) (bndA_val hm h3) ((Bool.not_eq_true _).mp hmh) b1 b2 hmc.1 hmc.2
        refine ⟨.slice (some (if (m.getD (b.c : Int)).toNat = (l.getD 0).toNat then ⟨b.n, b.o, none⟩ else ⟨b.n, b.o + (l.getD 0).toNat * s, none⟩)) ((hh.getD len).toNat - (l.getD 0).toNat) ((m.getD (b.c : Int)).toNat - (l.getD 0).toNat), ?_, ?_⟩
        · simp only [Instr.sliceAt, Sem.run_bind, run_underlying hu, Result.andThen_ok, Instr.slice]
          rw [hb]
          simp [run_sizeOf' hs, addr_add]
          split <;> rfl
        · simp only [VR]
          refine ⟨some (if (m.getD (b.c : Int)).toNat = (l.getD 0).toNat then ⟨b.n, b.o, none⟩ else ⟨b.n, b.o + (l.getD 0).toNat * s, none⟩), (m.getD (b.c : Int)).toNat - (l.getD 0).toNat, ?_, ?_, ?_, ?_⟩
          · congr 1
            omega
          · intro c' hc'
            cases m with
            | none => simp at hc'
            | some m => simp at hc' ⊢; omega
          · omega
          · intro hc
            exact ⟨b, e1, by rw [if_neg (by omega), Nat.add_zero]⟩
    · cases h
  · rename_i e i wd j k len cap l hh m hu hl hhi hm
    split at h
    · rename_i s hs
      split at h
      · cases h
      · rename_i hmh
        split at h
        · rename_i hw
          subst hw
          simp only [Option.some.injEq] at h
          subst h
          simp only [obls, List.all_cons, List.all_nil, Bool.and_true, id, Bool.and_eq_true, decide_eq_true_eq] at ho
          obtain ⟨b1, b2, b3, b4⟩ := ho
          simp only [VR] at hv
          obtain ⟨p, c, rfl, hcap, hlc, hp⟩ := hv
          have hmc : hh.getD len ≤ m.getD (c : Int) ∧ m.getD (c : Int) ≤ c := by
            cases m with
            | none => simp at b3 b4 ⊢; omega
            | some m => simp at b3 b4 ⊢; omega
          have hb := sliceBounds_run (P := P) (w := w) (isS := true) (len := len) (cap := c) (bndA_val hl h1) (bndA_val hhi h2) (bndA_val hm h3) ((Bool.not_eq_true _).mp hmh) b1 b2 hmc.1 hmc.2
          refine ⟨.slice (if (m.getD (c : Int)).toNat = (l.getD 0).toNat then p else p.map (·.add ((l.getD 0).toNat * wd))) ((hh.getD len).toNat - (l.getD 0).toNat) ((m.getD (c : Int)).toNat - (l.getD 0).toNat), ?_, ?_⟩
          · simp only [Instr.sliceAt, Sem.run_bind, run_underlying hu, Result.andThen_ok, Instr.slice]
            rw [hb]
            simp [run_sizeOf' hs]
          · simp only [VR]
            refine ⟨if (m.getD (c : Int)).toNat = (l.getD 0).toNat then p else p.map (·.add ((l.getD 0).toNat * wd)), (m.getD (c : Int)).toNat - (l.getD 0).toNat, ?_, ?_, ?_, ?_⟩
            · congr 1
              omega
            · intro c' hc'
              cases m with
              | none =>
                simp only [Option.map_eq_some_iff] at hc'
                obtain ⟨c0, hc0, rfl⟩ := hc'
                have := hcap c0 hc0
                simp; omega
              | some m => simp at hc' ⊢; omega
            · omega
            · intro hc
              obtain ⟨b, e1, e2⟩ := hp (by omega)
              refine ⟨b, e1, ?_⟩
              rw [if_neg (by omega), e2, Option.map_some, addr_add]
              congr 2
              rw [Nat.add_mul]
              omega
        · cases h
    · cases h
  · rename_i s l hh hu hl hhi hm
    simp only [Option.some.injEq] at h
    subst h
    simp only [obls, List.all_cons, List.all_nil, Bool.and_true, id, Bool.and_eq_true, decide_eq_true_eq] at ho
    obtain ⟨b1, b2, b3⟩ := ho
    simp only [VR] at hv
    subst hv
    rcases bndA_val hm h3 with ⟨_, rfl⟩ | ⟨_, _, h0, _⟩
    · have hb := sliceBounds_run (P := P) (w := w) (isS := false) (len := s.size) (cap := s.size) (m := none) (bndA_val hl h1) (bndA_val hhi h2) (.inl ⟨rfl, rfl⟩) rfl b1 b2 (by simpa using b3) (by simp)
      refine ⟨_, ?_, by simp only [VR]; rfl⟩
      simp only [Instr.sliceAt, Sem.run_bind, run_underlying hu, Result.andThen_ok, Instr.slice]
      simp [hb]
    · cases h0
  · rename_i n e i wd j k hu hl hhi hm
    split at h
    · rename_i s hs
      simp only [Option.some.injEq] at h
      subst h
      simp only [VR] at hv
      obtain ⟨b, hb, rfl⟩ := hv
      rcases bndA_val hl h1 with ⟨_, rfl⟩ | ⟨_, _, h0, _⟩
      · rcases bndA_val hhi h2 with ⟨_, rfl⟩ | ⟨_, _, h0, _⟩
        · rcases bndA_val hm h3 with ⟨_, rfl⟩ | ⟨_, _, h0, _⟩
          · refine ⟨.slice (some ⟨b.n, b.o + (j * wd + k), none⟩) n n, ?_, ?_⟩
            · simp [Instr.sliceAt, run_underlying hu, Instr.sureAddr, Instr.sliceBounds, run_sizeOf' hs, Addr.add]
            · simp only [VR]
              exact ⟨_, n, rfl, by simp, Nat.le_refl _, fun _ => ⟨b, hb, by simp⟩⟩
          · cases h0
        · cases h0
      · cases h0
    · cases h
  · cases h

abbrev Spec := List AV → List AB → Nat → Option Delta

def Seps (ν : Nu) (H : List AB) (δ : Delta) : Prop := ∀ i c j b b', (i, c) ∈ δ.put → j ∈ δ.rd → i ≠ j → (H.getD j .gone).live = true → ν i = some b → ν j = some b' → b.n ≠ b'.n

def SpecOk (P : Program) (f : FuncId) (S : Spec) : Prop :=
  (∀ args w, (callFunc f args).run P w = .ok (.enter f args) w) ∧
  ∀ avs H base δ ν (vals : List Value) w, S avs H base = some δ → obls δ.obl = true → VRs ν avs vals → (∀ i ∈ δ.rd, BR ν i (H.getD i .gone) w) → (∀ i b, ν i = some b → b.n < w.heap.size) → (∀ j, j < δ.new.length → ν (base + j) = none) → Seps ν H δ → TabOk (CallM ν δ w) w →
    Calls P f vals.toArray w fun e w' => ∃ v ν', e = .returned v ∧ Did ν ν' base δ w w' v

abbrev Gam := FuncId → Option Spec
def GamOk (P : Program) (Γ : Gam) : Prop := ∀ f S, Γ f = some S → SpecOk P f S

def pureA (P : Program) (s : Sem Value) : Option Delta := (pureRun P s).map fun x => { val := .v x }

def pickA (q : Bool) (a b : AV) : AV :=
  match a, b with
  | .v (.bool x), .v (.bool y) => .v (.bool (cond q x y))
  | _, _ => cond q a b

theorem pickA_sound {ν : Nu} {q : Bool} {a b : AV} {x y : Value} (hx : VR ν a x) (hy : VR ν b y) : VR ν (pickA q a b) (if q then x else y) := by
  unfold pickA
  split
  · simp only [VR] at hx hy ⊢
    subst hx hy
    cases q <;> rfl
  · cases q
    · exact hy
    · exact hx

def partV (P : Program) (t : TypeId) (l : List Value) (off : Nat) : Option Value :=
  match aggA P t, szA P t with
  | some true, some s => some (.agg ((l.drop off).take s).toArray)
  | some false, some _ => l[off]?
  | _, _ => none
theorem partV_run {P : Program} {t : TypeId} {l : List Value} {off : Nat} {v : Value} (h : partV P t l off = some v) (w : World) : (part t l.toArray off).run P w = .ok v w := by
  unfold partV at h
  split at h
  · rename_i s ha hs
    simp only [Option.some.injEq] at h
    subst h
    simp [part, run_isAgg ha, run_sizeOf' hs]
  · rename_i s ha hs
    simp [part, run_isAgg ha, h]
  · cases h
def eqFs (P : Program) (f : TypeId → Value → Value → Option Bool) (xs ys : List Value) : List Field → Option Bool
  | [] => some true
  | fd :: fs => if fd.name ≠ "_" then (match partV P fd.type xs fd.offset, partV P fd.type ys fd.offset with
      | some a, some b => (match f fd.type a b, eqFs P f xs ys fs with
        | some q, some r => some (q && r)
        | _, _ => none)
      | _, _ => none) else none
def eqIs (P : Program) (f : Value → Value → Option Bool) (e : TypeId) (c : Nat) (xs ys : List Value) : List Nat → Option Bool
  | [] => some true
  | i :: is => match partV P e xs (i * c), partV P e ys (i * c) with
    | some a, some b => (match f a b, eqIs P f e c xs ys is with
      | some q, some r => some (q && r)
      | _, _ => none)
    | _, _ => none
def eqB (a b : ByteArray) : Bool := decide (a.toList = b.toList)
def eqV (P : Program) : Nat → TypeId → Value → Value → Option Bool
  | 0, _, _, _ => none
  | d + 1, t, x, y => match P.underlying t, x, y with
    | some (.int _), .int k a, .int k' b => if k = k' then some (a == b) else none
    | some .bool, .bool a, .bool b => some (a == b)
    | some .string, .string a, .string b => some (eqB a b)
    | some (.struct fs), .agg xs, .agg ys => if P.stoodInHeld t = false then eqFs P (eqV P d) xs.toList ys.toList fs.toList else none
    | some (.array n e), .agg xs, .agg ys => (match P.info? e with
      | some _ => eqIs P (eqV P d e) e (P.cellsOf e) xs.toList ys.toList (List.range n)
      | none => none)
    | _, _, _ => none
theorem beq_dec (l r : List UInt8) : (l == r) = decide (l = r) := by rw [Bool.eq_iff_iff]; simp
theorem eqFs_run {P : Program} {d : Nat} {f : TypeId → Value → Value → Option Bool} (hf : ∀ t x y b, f t x y = some b → ∀ w : World, (Op.equalIn d t x y).run P w = .ok b w) (xs ys : List Value) : ∀ (fs : List Field) (b : Bool), eqFs P f xs ys fs = some b → ∀ w : World, (Op.eqFields d xs.toArray ys.toArray fs).run P w = .ok b w
  | [], b, h, w => by
    simp only [eqFs, Option.some.injEq] at h
    subst h
    simp [Op.eqFields]
  | fd :: fs, b, h, w => by
    unfold eqFs at h
    split at h
    · rename_i hn
      split at h
      · rename_i x y h1 h2
        split at h
        · rename_i q r h3 h4
          simp only [Option.some.injEq] at h
          subst h
          have e4 := eqFs_run hf xs ys fs r h4 w
          simp only [Op.eqFields]
          rw [if_pos hn]
          simp only [Sem.run_bind, partV_run h1, partV_run h2, Result.andThen_ok, hf _ _ _ _ h3]
          cases q
          · simp
          · simpa using e4
        · cases h
      · cases h
    · cases h
theorem eqIs_run {P : Program} {d : Nat} {e : TypeId} {f : Value → Value → Option Bool} (hf : ∀ x y b, f x y = some b → ∀ w : World, (Op.equalIn d e x y).run P w = .ok b w) (c : Nat) (xs ys : List Value) : ∀ (is : List Nat) (b : Bool), eqIs P f e c xs ys is = some b → ∀ w : World, (Op.eqItems d e c xs.toArray ys.toArray is).run P w = .ok b w
  | [], b, h, w => by
    simp only [eqIs, Option.some.injEq] at h
    subst h
    simp [Op.eqItems]
  | i :: is, b, h, w => by
    unfold eqIs at h
    split at h
    · rename_i x y h1 h2
      split at h
      · rename_i q r h3 h4
        simp only [Option.some.injEq] at h
        subst h
        have e4 := eqIs_run hf c xs ys is r h4 w
        simp only [Op.eqItems]
        simp only [Sem.run_bind, partV_run h1, partV_run h2, Result.andThen_ok, hf _ _ _ h3]
        cases q
        · simp
        · simpa using e4
      · cases h
    · cases h
theorem eqV_run {P : Program} (k : Nat) : ∀ (d : Nat) (t : TypeId) (x y : Value) (b : Bool), eqV P d t x y = some b → ∀ w : World, (Op.equalIn (d + k) t x y).run P w = .ok b w
  | 0, t, x, y, b, h, w => by simp [eqV] at h
  | d + 1, t, x, y, b, h, w => by
    have ih := eqV_run (P := P) k d
    rw [Nat.add_right_comm]
    unfold eqV at h
    split at h
    · rename_i k0 k1 a k2 b' hu
      split at h
      · rename_i hk
        subst hk
        cases h
        exact run_equalIn_int w (d + k) t k1 k0 a b' hu
      · cases h
    · rename_i a b' hu
      cases h
      exact run_equalIn_bool' w (d + k) t a b' hu
    · rename_i a b' hu
      cases h
      rw [run_equalIn_string w (d + k) t a b' hu, beq_dec]
      rfl
    · rename_i fs xs ys hu
      split at h
      · rename_i hp
        have hfs : P.fieldsOf t = fs := by simp [Program.fieldsOf, hu]
        rw [run_equalIn_struct w (d + k) t xs ys (by rw [hfs]; exact hu) hp, hfs]
        have := eqFs_run (P := P) (d := d + k) (fun t x y b hh => ih t x y b hh) xs.toList ys.toList fs.toList b h w
        simpa using this
      · cases h
    · rename_i n e xs ys hu
      split at h
      · rename_i i hi
        rw [run_equalIn_array w (d + k) xs ys hu hi]
        have := eqIs_run (P := P) (d := d + k) (fun x y b hh => ih e x y b hh) (P.cellsOf e) xs.toList ys.toList (List.range n) b h w
        simpa using this
      · cases h
    · cases h
def eqA (P : Program) (op : BinOp) (t : TypeId) (x y : Value) : Option Delta :=
  match op, x, y with
  | .eql, .agg xs, .agg ys => if P.eqGuardType P.depth t = false then (eqV P 20 t (.agg xs) (.agg ys)).map fun q => { val := .v (.bool q) } else none
  | .neq, .agg xs, .agg ys => if P.eqGuardType P.depth t = false then (eqV P 20 t (.agg xs) (.agg ys)).map fun q => { val := .v (.bool (!q)) } else none
  | _, _, _ => none
theorem eqA_sound {P : Program} {op : BinOp} {t : TypeId} {ox oy : Operand} {x y : Value} {δ : Delta} (h : eqA P op t x y = some δ) (ν : Nu) (w : World) :
    (δ.put = [] ∧ δ.new = []) ∧ ∃ v, (do eqGuard op t ox oy x y; binOp op t x y : Sem Value).run P w = .ok v w ∧ VR ν δ.val v := by
  unfold eqA at h
  split at h
  · rename_i xs ys
    split at h
    · rename_i hg
      simp only [Option.map_eq_some_iff] at h
      obtain ⟨q, hq, rfl⟩ := h
      have := eqV_run 9980 20 t _ _ q hq w
      refine ⟨⟨rfl, rfl⟩, .bool q, ?_, by simp only [VR]⟩
      simp only [Sem.run_bind, run_eqGuard_agg (P := P) w .eql t ox oy xs ys hg, Result.andThen_ok, run_eql_struct]
      rw [show (10000 : Nat) = 20 + 9980 from rfl, this]
      simp
    · cases h
  · rename_i xs ys
    split at h
    · rename_i hg
      simp only [Option.map_eq_some_iff] at h
      obtain ⟨q, hq, rfl⟩ := h
      have := eqV_run 9980 20 t _ _ q hq w
      refine ⟨⟨rfl, rfl⟩, .bool (!q), ?_, by simp only [VR]⟩
      simp only [Sem.run_bind, run_eqGuard_agg (P := P) w .neq t ox oy xs ys hg, Result.andThen_ok, run_neq_struct]
      rw [show (10000 : Nat) = 20 + 9980 from rfl, this]
      simp
    · cases h
  · cases h

def fltA (op : BinOp) (k : FloatKind) (a b : Nat) : Option (Option Nat) :=
  match op with
  | .add => some (k.format.add a b)
  | .sub => some (k.format.sub a b)
  | .mul => some (k.format.mul a b)
  | _ => none
def fltC (op : BinOp) (k : FloatKind) (a b c d : Nat) : Option (Option Nat × Option Nat) :=
  match op with
  | .add => some (k.format.add a c, k.format.add b d)
  | .sub => some (k.format.sub a c, k.format.sub b d)
  | _ => none
theorem fltA_run {P : Program} {op : BinOp} {k : FloatKind} {a b v : Nat} {t : TypeId} {ox oy : Operand} (h : fltA op k a b = some (some v)) (w : World) : (do eqGuard op t ox oy (.float k a) (.float k b); binOp op t (.float k a) (.float k b) : Sem Value).run P w = .ok (.float k v) w := by
  unfold fltA at h
  cases op <;> simp only [Option.some.injEq, reduceCtorEq] at h <;> simp [eqGuard, binOp, Op.floatArith, h]
theorem fltC_run {P : Program} {op : BinOp} {k : FloatKind} {a b c d v u : Nat} {t : TypeId} {ox oy : Operand} (h : fltC op k a b c d = some (some v, some u)) (w : World) : (do eqGuard op t ox oy (.complex k a b) (.complex k c d); binOp op t (.complex k a b) (.complex k c d) : Sem Value).run P w = .ok (.complex k v u) w := by
  unfold fltC at h
  cases op <;> simp only [Option.some.injEq, Prod.mk.injEq, reduceCtorEq] at h <;> simp [eqGuard, binOp, Op.complexOp, Op.Complex.arith, Op.floatArith, h.1, h.2]

def nilA (P : Program) (op : BinOp) (t : TypeId) (x : AV) (y : Value) : Option Delta :=
  match op, x, y with
  | .eql, .own _ _, .slice none _ _ => (match P.underlying t with
    | some (.slice _) => some { val := .v (.bool false) }
    | _ => none)
  | .neq, .own _ _, .slice none _ _ => (match P.underlying t with
    | some (.slice _) => some { val := .v (.bool true) }
    | _ => none)
  | .eql, .sl _ _ _ _ len _, .slice none _ _ => (match P.underlying t with
    | some (.slice _) => some { val := .v (.bool false), obl := [decide (0 < len)] }
    | _ => none)
  | .neq, .sl _ _ _ _ len _, .slice none _ _ => (match P.underlying t with
    | some (.slice _) => some { val := .v (.bool true), obl := [decide (0 < len)] }
    | _ => none)
  | .eql, .ptr _ _ _ _, .pointer none => (match P.underlying t with
    | some (.pointer _) => some { val := .v (.bool false) }
    | _ => none)
  | .neq, .ptr _ _ _ _, .pointer none => (match P.underlying t with
    | some (.pointer _) => some { val := .v (.bool true) }
    | _ => none)
  | _, _, _ => none
theorem nil_sliceD {P : Program} (d : Nat) (t e : TypeId) (a : Addr) (n c n' c' : Nat) (h : P.underlying t = some (.slice e)) (w : World) : (Op.equalIn (d + 1) t (.slice (some a) n c) (.slice none n' c')).run P w = .ok false w := by
  simp [Op.equalIn, run_underlying h]
theorem nil_ptrD {P : Program} (d : Nat) (t e : TypeId) (a : Addr) (h : P.underlying t = some (.pointer e)) (w : World) : (Op.equalIn (d + 1) t (.pointer (some a)) (.pointer none)).run P w = .ok false w := by
  simp [Op.equalIn, run_underlying h]
theorem nil_slice {P : Program} {t e : TypeId} (a : Addr) (n c n' c' : Nat) (ox oy : Operand) (h : P.underlying t = some (.slice e)) (w : World) :
    (do eqGuard .eql t ox oy (.slice (some a) n c) (.slice none n' c'); binOp .eql t (.slice (some a) n c) (.slice none n' c') : Sem Value).run P w = .ok (.bool false) w ∧
    (do eqGuard .neq t ox oy (.slice (some a) n c) (.slice none n' c'); binOp .neq t (.slice (some a) n c) (.slice none n' c') : Sem Value).run P w = .ok (.bool true) w := by
  have e : (Op.equalIn 10000 t (.slice (some a) n c) (.slice none n' c')).run P w = .ok false w := nil_sliceD 9999 t e a n c n' c' h w
  constructor <;> simp [eqGuard, binOp, Op.equal, Op.maxDepth, e]
theorem nil_ptr {P : Program} {t e : TypeId} (a : Addr) (ox oy : Operand) (h : P.underlying t = some (.pointer e)) (w : World) :
    (do eqGuard .eql t ox oy (.pointer (some a)) (.pointer none); binOp .eql t (.pointer (some a)) (.pointer none) : Sem Value).run P w = .ok (.bool false) w ∧
    (do eqGuard .neq t ox oy (.pointer (some a)) (.pointer none); binOp .neq t (.pointer (some a)) (.pointer none) : Sem Value).run P w = .ok (.bool true) w := by
  have e : (Op.equalIn 10000 t (.pointer (some a)) (.pointer none)).run P w = .ok false w := nil_ptrD 9999 t e a h w
  constructor <;> simp [eqGuard, binOp, Op.equal, Op.maxDepth, e]
def errA (P : Program) (op : BinOp) (t : TypeId) (oy : Operand) (x : AV) (y : Value) : Option Delta :=
  match op, oy, x, y with
  | .eql, .const _, .err q, .nilIface => (match P.underlying t with
    | some (.interface _) => some { val := .v (.bool (!q)) }
    | _ => none)
  | .neq, .const _, .err q, .nilIface => (match P.underlying t with
    | some (.interface _) => some { val := .v (.bool q) }
    | _ => none)
  | _, _, _, _ => none
theorem err_eqD {P : Program} (d : Nat) (t : TypeId) (ms : Array (String × TypeId)) (x : Value) (q : Bool) (hx : cond q (∃ t' x', x = .iface t' x') (x = .nilIface)) (h : P.underlying t = some (.interface ms)) (w : World) :
    (Op.equalIn (d + 1) t x .nilIface).run P w = .ok (!q) w := by
  cases q
  · obtain rfl : x = .nilIface := hx
    simp [Op.equalIn, run_underlying h]
  · obtain ⟨t', x', rfl⟩ := hx
    simp [Op.equalIn, run_underlying h]
theorem err_eq {P : Program} {t : TypeId} {ms : Array (String × TypeId)} {x : Value} {q : Bool} (ox : Operand) (c : Value) (hx : cond q (∃ t' x', x = .iface t' x') (x = .nilIface)) (h : P.underlying t = some (.interface ms)) (w : World) :
    (do eqGuard .eql t ox (.const c) x .nilIface; binOp .eql t x .nilIface : Sem Value).run P w = .ok (.bool (!q)) w ∧
    (do eqGuard .neq t ox (.const c) x .nilIface; binOp .neq t x .nilIface : Sem Value).run P w = .ok (.bool q) w := by
  have e : (Op.equalIn 10000 t x .nilIface).run P w = .ok (!q) w := err_eqD 9999 t ms x q hx h w
  cases q
  · obtain rfl : x = .nilIface := hx
    constructor <;> simp [eqGuard, binOp, Op.equal, Op.maxDepth, e]
  · obtain ⟨t', x', rfl⟩ := hx
    constructor <;> simp [eqGuard, binOp, Op.equal, Op.maxDepth, e]
theorem errA_plain {P : Program} {op : BinOp} {t : TypeId} {oy : Operand} {x : AV} {y : Value} {δ : Delta} (h : errA P op t oy x y = some δ) : δ.put = [] ∧ δ.new = [] := by
  unfold errA at h
  split at h <;> first | (split at h <;> first | (cases h; exact ⟨rfl, rfl⟩) | cases h) | cases h
theorem errA_sound {P : Program} {op : BinOp} {t : TypeId} {ox oy : Operand} {x : AV} {δ : Delta} {ν : Nu} {vx y : Value} (h : errA P op t oy x y = some δ) (hx : VR ν x vx) (w : World) :
    ∃ v, (do eqGuard op t ox oy vx y; binOp op t vx y : Sem Value).run P w = .ok v w ∧ VR ν δ.val v := by
  unfold errA at h
  split at h
  · split at h
    · rename_i hu
      cases h
      simp only [VR] at hx
      exact ⟨_, (err_eq ox _ hx hu w).1, by simp only [VR]⟩
    · cases h
  · split at h
    · rename_i hu
      cases h
      simp only [VR] at hx
      exact ⟨_, (err_eq ox _ hx hu w).2, by simp only [VR]⟩
    · cases h
  · cases h
theorem nilA_plain {P : Program} {op : BinOp} {t : TypeId} {x : AV} {y : Value} {δ : Delta} (h : nilA P op t x y = some δ) : δ.put = [] ∧ δ.new = [] := by
  unfold nilA at h
  split at h <;> first | (split at h <;> first | (cases h; exact ⟨rfl, rfl⟩) | cases h) | cases h
theorem nilA_sound {P : Program} {op : BinOp} {t : TypeId} {ox oy : Operand} {x : AV} {δ : Delta} {ν : Nu} {vx y : Value} (h : nilA P op t x y = some δ) (ho : obls δ.obl = true) (hx : VR ν x vx) (w : World) :
    ∃ v, (do eqGuard op t ox oy vx y; binOp op t vx y : Sem Value).run P w = .ok v w ∧ VR ν δ.val v := by
  unfold nilA at h
  split at h
  · split at h
    · rename_i hu
      cases h
      simp only [VR] at hx
      obtain ⟨b, _, rfl⟩ := hx
      exact ⟨_, (nil_slice _ _ _ _ _ ox oy hu w).1, by simp only [VR]⟩
    · cases h
  · split at h
    · rename_i hu
      cases h
      simp only [VR] at hx
      obtain ⟨b, _, rfl⟩ := hx
      exact ⟨_, (nil_slice _ _ _ _ _ ox oy hu w).2, by simp only [VR]⟩
    · cases h
  · split at h
    · rename_i hu
      cases h
      simp only [VR] at hx
      obtain ⟨p, c, rfl, _, hl, hp⟩ := hx
      have h0 := of_decide_eq_true (by simpa [obls] using ho)
      obtain ⟨b, _, rfl⟩ := hp (by omega)
      exact ⟨_, (nil_slice _ _ _ _ _ ox oy hu w).1, by simp only [VR]⟩
    · cases h
  · split at h
    · rename_i hu
      cases h
      simp only [VR] at hx
      obtain ⟨p, c, rfl, _, hl, hp⟩ := hx
      have h0 := of_decide_eq_true (by simpa [obls] using ho)
      obtain ⟨b, _, rfl⟩ := hp (by omega)
      exact ⟨_, (nil_slice _ _ _ _ _ ox oy hu w).2, by simp only [VR]⟩
    · cases h
  · split at h
    · rename_i hu
      cases h
      simp only [VR] at hx
      obtain ⟨b, _, rfl⟩ := hx
      exact ⟨_, (nil_ptr _ ox oy hu w).1, by simp only [VR]⟩
    · cases h
  · split at h
    · rename_i hu
      cases h
      simp only [VR] at hx
      obtain ⟨b, _, rfl⟩ := hx
      exact ⟨_, (nil_ptr _ ox oy hu w).2, by simp only [VR]⟩
    · cases h
  · cases h
def catB (a b : ByteArray) : ByteArray := a ++ b
def txOf (l : List UInt8) : ByteArray := ⟨l.toArray⟩
def u8Of (z : Int) : UInt8 := UInt8.ofNat z.toNat
def lessB (a b : ByteArray) : Bool := Op.bytesLess a.toList b.toList
theorem eqB_self (a : ByteArray) : eqB a a = true := decide_eq_true rfl
def binA (P : Program) (op : BinOp) (t : TypeId) (ox oy : Operand) (x y : AV) : Option Delta :=
  match x.toV, y.toV with
  | some (.int k a), some (.int k' b) =>
    (match op with
    | .quo => if k = k' then some { val := .v (.int k (k.wrap (a.tdiv b))), obl := [!decide (b = 0)] } else none
    | .rem => if k = k' then some { val := .v (.int k (a.tmod b)), obl := [!decide (b = 0)] } else none
    | _ => pureA P (do eqGuard op t ox oy (.int k a) (.int k' b); binOp op t (.int k a) (.int k' b)))
  | some (.float k a), some (.float k' b) => (match fltA op k a b with
    | some r => if k = k' then some { val := .v (.float k (r.getD 0)), obl := [r.isSome] } else none
    | none => pureA P (do eqGuard op t ox oy (.float k a) (.float k' b); binOp op t (.float k a) (.float k' b)))
  | some (.complex k a b), some (.complex k' c d) => (match fltC op k a b c d with
    | some r => if k = k' then some { val := .v (.complex k (r.1.getD 0) (r.2.getD 0)), obl := [r.1.isSome, r.2.isSome] } else none
    | none => pureA P (do eqGuard op t ox oy (.complex k a b) (.complex k' c d); binOp op t (.complex k a b) (.complex k' c d)))
  | some (.string a), some (.string b) => (match op with
    | .add => some { val := .v (.string (catB a b)), obl := [Nat.ble (a.size + b.size) 9223372036854775807] }
    | .eql => some { val := .v (.bool (eqB a b)) }
    | .neq => some { val := .v (.bool (!eqB a b)) }
    | .lss => some { val := .v (.bool (lessB a b)) }
    | .leq => some { val := .v (.bool (lessB a b || eqB a b)) }
    | .gtr => some { val := .v (.bool (!(lessB a b || eqB a b))) }
    | .geq => some { val := .v (.bool (!lessB a b)) }
    | _ => pureA P (do eqGuard op t ox oy (.string a) (.string b); binOp op t (.string a) (.string b)))
  | some vx, some vy => (match eqA P op t vx vy with
    | some δ => some δ
    | none => pureA P (do eqGuard op t ox oy vx vy; binOp op t vx vy))
  | none, some vy => (match errA P op t oy x vy with
    | some δ => some δ
    | none => nilA P op t x vy)
  | _, _ => none

theorem pureA_plain {P : Program} {s : Sem Value} {δ : Delta} (h : pureA P s = some δ) : δ.put = [] ∧ δ.new = [] := by
  simp only [pureA, Option.map_eq_some_iff] at h
  obtain ⟨x, _, rfl⟩ := h
  exact ⟨rfl, rfl⟩

theorem pureA_sound {P : Program} {s : Sem Value} {δ : Delta} (h : pureA P s = some δ) (ν : Nu) (w : World) : ∃ v, s.run P w = .ok v w ∧ VR ν δ.val v := by
  simp only [pureA, Option.map_eq_some_iff] at h
  obtain ⟨x, hx, rfl⟩ := h
  exact ⟨x, pureRun_run hx w, by simp only [VR]⟩

theorem binA_plain {P : Program} {op : BinOp} {t : TypeId} {ox oy : Operand} {x y : AV} {δ : Delta} (h : binA P op t ox oy x y = some δ) : δ.put = [] ∧ δ.new = [] := by
  unfold binA at h
  repeat (first | exact pureA_plain h | exact nilA_plain h | (rename_i hq; cases h; exact errA_plain hq) | (rename_i hq; cases h; exact (eqA_sound (ox := ox) (oy := oy) hq (fun _ => none) default).1) | split at h | (simp only [Option.some.injEq] at h; subst h; exact ⟨rfl, rfl⟩) | cases h)

theorem binA_sound {P : Program} {op : BinOp} {t : TypeId} {ox oy : Operand} {x y : AV} {δ : Delta} {ν : Nu} {vx vy : Value} (h : binA P op t ox oy x y = some δ) (ho : obls δ.obl = true) (hx : VR ν x vx) (hy : VR ν y vy) (w : World) :
    ∃ v, (do eqGuard op t ox oy vx vy; binOp op t vx vy : Sem Value).run P w = .ok v w ∧ VR ν δ.val v := by
  unfold binA at h
  split at h
  · rename_i k a k' b h1 h2
    have e1 := VR_toV h1 hx
    have e2 := VR_toV h2 hy
    subst e1 e2
    split at h
    · split at h
      · rename_i hk
        subst hk
        simp only [Option.some.injEq] at h
        subst h
        have hb : b ≠ 0 := by simpa [obls] using ho
        exact ⟨.int k (k.wrap (a.tdiv b)), by simp [eqGuard, binOp, Op.intDiv, hb], by simp only [VR]⟩
      · cases h
    · split at h
      · rename_i hk
        subst hk
        simp only [Option.some.injEq] at h
        subst h
        have hb : b ≠ 0 := by simpa [obls] using ho
        exact ⟨.int k (a.tmod b), by simp [eqGuard, binOp, Op.intDiv, hb], by simp only [VR]⟩
      · cases h
    · exact pureA_sound h ν w
  · rename_i k a k' b h1 h2
    have e1 := VR_toV h1 hx
    have e2 := VR_toV h2 hy
    subst e1 e2
    split at h
    · rename_i r hr
      split at h
      · rename_i hk
        subst hk
        simp only [Option.some.injEq] at h
        subst h
        have hs : r.isSome = true := by simpa [obls] using ho
        obtain ⟨v, rfl⟩ := Option.isSome_iff_exists.1 hs
        exact ⟨.float k v, fltA_run hr w, by simp only [VR, Option.getD_some]⟩
      · cases h
    · exact pureA_sound h ν w
  · rename_i k a b k' c d h1 h2
    have e1 := VR_toV h1 hx
    have e2 := VR_toV h2 hy
    subst e1 e2
    split at h
    · rename_i r hr
      split at h
      · rename_i hk
        subst hk
        simp only [Option.some.injEq] at h
        subst h
        have hs : r.1.isSome = true ∧ r.2.isSome = true := by simpa [obls] using ho
        obtain ⟨r1, r2⟩ := r
        obtain ⟨hs1, hs2⟩ := hs
        simp only at hs1 hs2
        obtain ⟨v, rfl⟩ := Option.isSome_iff_exists.1 hs1
        obtain ⟨u, rfl⟩ := Option.isSome_iff_exists.1 hs2
        exact ⟨.complex k v u, fltC_run hr w, by simp only [VR, Option.getD_some]⟩
      · cases h
    · exact pureA_sound h ν w
  · rename_i a b h1 h2
    have e1 := VR_toV h1 hx
    have e2 := VR_toV h2 hy
    subst e1 e2
    split at h
    · simp only [Option.some.injEq] at h
      subst h
      have hs : a.size + b.size ≤ 9223372036854775807 := by simpa [obls, Nat.ble_eq] using ho
      exact ⟨.string (catB a b), by simp [eqGuard, binOp, run_string_add_sum w a b hs, catB], by simp only [VR]⟩
    · simp only [Option.some.injEq] at h
      subst h
      exact ⟨.bool (eqB a b), by simp [eqGuard, binOp, Op.stringOp, beq_dec, eqB], by simp only [VR]⟩
    · simp only [Option.some.injEq] at h
      subst h
      exact ⟨.bool (!eqB a b), by simp [eqGuard, binOp, Op.stringOp, beq_dec, eqB], by simp only [VR]⟩
    · simp only [Option.some.injEq] at h
      subst h
      exact ⟨.bool (lessB a b), by simp [eqGuard, binOp, Op.stringOp, lessB], by simp only [VR]⟩
    · simp only [Option.some.injEq] at h
      subst h
      exact ⟨.bool ((lessB a b || eqB a b)), by simp [eqGuard, binOp, Op.stringOp, beq_dec, eqB, lessB], by simp only [VR]⟩
    · simp only [Option.some.injEq] at h
      subst h
      exact ⟨.bool ((!(lessB a b || eqB a b))), by simp [eqGuard, binOp, Op.stringOp, beq_dec, eqB, lessB], by simp only [VR]⟩
    · simp only [Option.some.injEq] at h
      subst h
      exact ⟨.bool ((!lessB a b)), by simp [eqGuard, binOp, Op.stringOp, lessB], by simp only [VR]⟩
    · exact pureA_sound h ν w
  · rename_i vx' vy' _ _ _ h1 h2
    have e1 := VR_toV h1 hx
    have e2 := VR_toV h2 hy
    subst e1 e2
    split at h
    · rename_i hq
      cases h
      exact (eqA_sound hq ν w).2
    · exact pureA_sound h ν w
  · rename_i h2
    have e2 := VR_toV h2 hy
    subst e2
    split at h
    · rename_i hq
      cases h
      exact errA_sound hq hx w
    · exact nilA_sound h ho hx w
  · cases h

def partsV (ρ : Operand → AV) : List (Nat × Operand) → Option (List (Nat × Value))
  | [] => some []
  | p :: l => match AV.toV (ρ p.2), partsV ρ l with
    | some x, some xs => some ((p.1, x) :: xs)
    | _, _ => none

theorem partsV_sound {ν : Nu} {ρ : Operand → AV} {σ : Operand → Value} : ∀ {l : List (Nat × Operand)} {ps : List (Nat × Value)}, partsV ρ l = some ps → (∀ p ∈ l, VR ν (ρ p.2) (σ p.2)) → l.map (fun p => (p.1, σ p.2)) = ps
  | [], ps, h, _ => by simp only [partsV, Option.some.injEq] at h; subst h; rfl
  | p :: l, ps, h, hv => by
    simp only [partsV] at h
    split at h
    · rename_i x xs h1 h2
      simp only [Option.some.injEq] at h
      subst h
      rw [List.map_cons, partsV_sound h2 fun q hq => hv q (List.mem_cons_of_mem _ hq), VR_toV h1 (hv p List.mem_cons_self)]
    · cases h

theorem fill_one {pl : Nat → Option (Nat × Nat)} {z : Array Value} {y1 : Value} {a1 : Array Value} (h : Instr.fill pl z [(0, y1)] = some a1) (hc : y1.cells = #[y1]) : ∃ off, off < z.size ∧ ∀ y : Value, y.cells = #[y] → Instr.fill pl z [(0, y)] = some (z.setIfInBounds off y) := by
  unfold Instr.fill at h
  split at h
  · cases h
  · rename_i off size hp
    split at h
    · cases h
    · rename_i hn
      rw [hc] at hn
      simp only [List.size_toArray, List.length_cons, List.length_nil, Nat.zero_add, ne_eq, Bool.or_eq_true, decide_eq_true_eq, not_or, Decidable.not_not, gt_iff_lt] at hn
      refine ⟨off, by omega, fun y hy => ?_⟩
      unfold Instr.fill
      rw [hp]
      simp only [hy]
      rw [if_neg (by simp; omega)]
      simp [Instr.fill]
theorem build_at {P : Program} {t : TypeId} {w : World} {y1 : Value} {a1 : Array Value} (h1 : (Instr.build t #[(0, y1)]).run P w = .ok (.agg a1) w) (hc : y1.cells = #[y1]) :
    ∃ (z : Array Value) (off : Nat), off < z.size ∧ ∀ y : Value, y.cells = #[y] → (Instr.build t #[(0, y)]).run P w = .ok (.agg (z.setIfInBounds off y)) w := by
  unfold Instr.build at h1
  rw [Sem.run_bind] at h1
  cases e1 : (zeroValue t).run P w with
  | ok zv w1 =>
    rw [e1, Result.andThen_ok, Sem.run_bind] at h1
    cases e2 : (underlying t).run P w1 with
    | ok u w2 =>
      rw [e2, Result.andThen_ok] at h1
      split at h1
      · rename_i fields
        rw [Sem.run_bind] at h1
        cases e3 : Sem.run P (Array.mapM (fun f : Field => do
              let s ← sizeOf f.type
              pure (f.offset, s)) fields) w2 with
        | ok pl w3 =>
          rw [e3, Result.andThen_ok] at h1
          split at h1
          · rename_i cells hf
            obtain ⟨off, ho, hk⟩ := fill_one (pl := fun x => pl[x]?) hf hc
            simp only [Sem.run_pure, Result.ok.injEq] at h1
            obtain ⟨_, rfl⟩ := h1
            refine ⟨zv.cells, off, ho, fun y hy => ?_⟩
            unfold Instr.build
            rw [Sem.run_bind, e1, Result.andThen_ok, Sem.run_bind, e2, Result.andThen_ok]
            simp only [Sem.run_bind, e3, Result.andThen_ok]
            rw [show Instr.fill (fun x => pl[x]?) zv.cells (#[(0, y)] : Array (Nat × Value)).toList = some (zv.cells.setIfInBounds off y) from hk y hy]
            rfl
          · exact absurd h1 (by simp [stuck])
        | _ => rw [e3] at h1; cases h1
      · rename_i n elem
        rw [Sem.run_bind] at h1
        cases e3 : Sem.run P (sizeOf elem) w2 with
        | ok sz w3 =>
          rw [e3, Result.andThen_ok] at h1
          split at h1
          · rename_i cells hf
            obtain ⟨off, ho, hk⟩ := fill_one (pl := fun i => some (i * sz, sz)) hf hc
            simp only [Sem.run_pure, Result.ok.injEq] at h1
            obtain ⟨_, rfl⟩ := h1
            refine ⟨zv.cells, off, ho, fun y hy => ?_⟩
            unfold Instr.build
            rw [Sem.run_bind, e1, Result.andThen_ok, Sem.run_bind, e2, Result.andThen_ok]
            simp only [Sem.run_bind, e3, Result.andThen_ok]
            rw [show Instr.fill (fun i => some (i * sz, sz)) zv.cells (#[(0, y)] : Array (Nat × Value)).toList = some (zv.cells.setIfInBounds off y) from hk y hy]
            rfl
          · exact absurd h1 (by simp [stuck])
        | _ => rw [e3] at h1; cases h1
      · exact absurd h1 (by simp [stuck])
    | _ => rw [e2] at h1; cases h1
  | _ => rw [e1] at h1; cases h1
def buildB (P : Program) (t : TypeId) (x : AV) : Option Delta :=
  match x, pureRun P (Instr.build t #[(0, .slice none 0 0)]), pureRun P (Instr.build t #[(0, .slice none 1 1)]) with
  | .sl i w j k l c, some (.agg a1), some (.agg a2) => match a1.toList, a2.toList with
    | .slice none 0 0 :: rest, .slice none 1 1 :: _ => some { val := .agg (.sl i w j k l c :: rest.map .v) }
    | _, _ => none
  | _, _, _ => none
theorem buildB_plain {P : Program} {t : TypeId} {x : AV} {δ : Delta} (h : buildB P t x = some δ) : δ.put = [] ∧ δ.new = [] := by
  unfold buildB at h
  split at h
  · split at h
    · cases h; exact ⟨rfl, rfl⟩
    · cases h
  · cases h
theorem buildB_sound {P : Program} {t : TypeId} {x : AV} {δ : Delta} {ν : Nu} {y : Value} (h : buildB P t x = some δ) (hx : VR ν x y) (w : World) : ∃ v, (Instr.build t #[(0, y)]).run P w = .ok v w ∧ VR ν δ.val v := by
  unfold buildB at h
  split at h
  · rename_i i wd j k l c a1 a2 h1 h2
    split at h
    · rename_i rest r2 e1 e2
      cases h
      obtain ⟨z, off, ho, hk⟩ := build_at (y1 := .slice none 0 0) (pureRun_run h1 w) rfl
      have q1 := hk (.slice none 0 0) rfl
      have q2 := hk (.slice none 1 1) rfl
      rw [pureRun_run h1 w] at q1
      rw [pureRun_run h2 w] at q2
      simp only [Result.ok.injEq, Value.agg.injEq, and_true] at q1 q2
      have hv := hx
      simp only [VR] at hv
      obtain ⟨p, cc, rfl, _⟩ := hv
      refine ⟨_, hk (.slice p l cc) rfl, ?_⟩
      have ez : off = 0 := by
        rcases Nat.eq_zero_or_pos off with e | hpos
        · exact e
        · have g1 : a1[0]? = z[0]? := by rw [q1, Array.getElem?_setIfInBounds_ne (by omega)]
          have g2 : a2[0]? = z[0]? := by rw [q2, Array.getElem?_setIfInBounds_ne (by omega)]
          rw [← g2, ← Array.getElem?_toList, ← Array.getElem?_toList, e1, e2] at g1
          simp at g1
      subst ez
      have g3 : z.toList.set 0 (.slice none 0 0) = .slice none 0 0 :: rest := by
        rw [← e1, q1, Array.toList_setIfInBounds]
      simp only [VR]
      refine ⟨.slice p l cc :: rest, ?_, ?_⟩
      · congr 1
        apply Array.ext'
        rw [Array.toList_setIfInBounds]
        cases hz : z.toList with
        | nil => rw [hz] at g3; cases g3
        | cons a as =>
          rw [hz] at g3
          simp only [List.set_cons_zero, List.cons.injEq, true_and] at g3
          subst g3
          rfl
      · simp only [VRs]
        exact ⟨hx, VRs.map_v rest⟩
    · cases h
  · cases h

theorem fill_cons {pl : Nat → Option (Nat × Nat)} {z : Array Value} {i : Nat} {y : Value} {rest : List (Nat × Value)} (hc : y.cells = #[y]) : Instr.fill pl z ((i, y) :: rest) = match pl i with
    | none => none
    | some (off, size) => if 1 ≠ size ∨ z.size < off + 1 then none else Instr.fill pl (z.setIfInBounds off y) rest := by
  rw [Instr.fill]
  cases pl i with
  | none => rfl
  | some p =>
    obtain ⟨off, size⟩ := p
    simp only [hc]
    by_cases h : 1 ≠ size ∨ z.size < off + 1
    · rw [if_pos h, if_pos (by simpa using h)]
    · rw [if_neg h, if_neg (by simpa using h)]
      simp
theorem fill_pair {pl : Nat → Option (Nat × Nat)} {z : Array Value} {i j : Nat} {y1 y2 : Value} {a1 : Array Value} (h : Instr.fill pl z [(i, y1), (j, y2)] = some a1) (hc1 : y1.cells = #[y1]) (hc2 : y2.cells = #[y2]) : ∃ off1 off2, off1 < z.size ∧ off2 < z.size ∧ ∀ x y : Value, x.cells = #[x] → y.cells = #[y] → Instr.fill pl z [(i, x), (j, y)] = some ((z.setIfInBounds off1 x).setIfInBounds off2 y) := by
  rw [fill_cons hc1] at h
  cases p1 : pl i with
  | none => rw [p1] at h; cases h
  | some p =>
    obtain ⟨o1, s1⟩ := p
    rw [p1] at h
    simp only at h
    split at h
    · cases h
    · rename_i n1
      rw [fill_cons hc2] at h
      cases p2 : pl j with
      | none => rw [p2] at h; cases h
      | some p =>
        obtain ⟨o2, s2⟩ := p
        rw [p2] at h
        simp only at h
        split at h
        · cases h
        · rename_i n2
          rw [Array.size_setIfInBounds] at n2
          refine ⟨o1, o2, by omega, by omega, fun x y hx hy => ?_⟩
          rw [fill_cons hx, p1]
          simp only
          rw [if_neg n1, fill_cons hy, p2]
          simp only
          rw [if_neg (by rw [Array.size_setIfInBounds]; exact n2)]
          rfl
theorem build_pair {P : Program} {t : TypeId} {w : World} {i j : Nat} {y1 y2 : Value} {a1 : Array Value} (h1 : (Instr.build t #[(i, y1), (j, y2)]).run P w = .ok (.agg a1) w) (hc1 : y1.cells = #[y1]) (hc2 : y2.cells = #[y2]) :
    ∃ (z : Array Value) (off1 off2 : Nat), off1 < z.size ∧ off2 < z.size ∧ ∀ x y : Value, x.cells = #[x] → y.cells = #[y] → (Instr.build t #[(i, x), (j, y)]).run P w = .ok (.agg ((z.setIfInBounds off1 x).setIfInBounds off2 y)) w := by
  unfold Instr.build at h1
  rw [Sem.run_bind] at h1
  cases e1 : (zeroValue t).run P w with
  | ok zv w1 =>
    rw [e1, Result.andThen_ok, Sem.run_bind] at h1
    cases e2 : (underlying t).run P w1 with
    | ok u w2 =>
      rw [e2, Result.andThen_ok] at h1
      split at h1
      · rename_i fields
        rw [Sem.run_bind] at h1
        cases e3 : Sem.run P (Array.mapM (fun f : Field => do
              let s ← sizeOf f.type
              pure (f.offset, s)) fields) w2 with
        | ok pl w3 =>
          rw [e3, Result.andThen_ok] at h1
          split at h1
          · rename_i cells hf
            obtain ⟨o1, o2, ho1, ho2, hk⟩ := fill_pair (pl := fun x => pl[x]?) hf hc1 hc2
            simp only [Sem.run_pure, Result.ok.injEq] at h1
            obtain ⟨_, rfl⟩ := h1
            refine ⟨zv.cells, o1, o2, ho1, ho2, fun x y hx hy => ?_⟩
            unfold Instr.build
            rw [Sem.run_bind, e1, Result.andThen_ok, Sem.run_bind, e2, Result.andThen_ok]
            simp only [Sem.run_bind, e3, Result.andThen_ok]
            rw [show Instr.fill (fun x => pl[x]?) zv.cells (#[(i, x), (j, y)] : Array (Nat × Value)).toList = some ((zv.cells.setIfInBounds o1 x).setIfInBounds o2 y) from hk x y hx hy]
            rfl
          · exact absurd h1 (by simp [stuck])
        | _ => rw [e3] at h1; cases h1
      · rename_i n elem
        rw [Sem.run_bind] at h1
        cases e3 : Sem.run P (sizeOf elem) w2 with
        | ok sz w3 =>
          rw [e3, Result.andThen_ok] at h1
          split at h1
          · rename_i cells hf
            obtain ⟨o1, o2, ho1, ho2, hk⟩ := fill_pair (pl := fun i => some (i * sz, sz)) hf hc1 hc2
            simp only [Sem.run_pure, Result.ok.injEq] at h1
            obtain ⟨_, rfl⟩ := h1
            refine ⟨zv.cells, o1, o2, ho1, ho2, fun x y hx hy => ?_⟩
            unfold Instr.build
            rw [Sem.run_bind, e1, Result.andThen_ok, Sem.run_bind, e2, Result.andThen_ok]
            simp only [Sem.run_bind, e3, Result.andThen_ok]
            rw [show Instr.fill (fun i => some (i * sz, sz)) zv.cells (#[(i, x), (j, y)] : Array (Nat × Value)).toList = some ((zv.cells.setIfInBounds o1 x).setIfInBounds o2 y) from hk x y hx hy]
            rfl
          · exact absurd h1 (by simp [stuck])
        | _ => rw [e3] at h1; cases h1
      · exact absurd h1 (by simp [stuck])
    | _ => rw [e2] at h1; cases h1
  | _ => rw [e1] at h1; cases h1
def isSl (n : Nat) : Value → Bool
  | .slice none m _ => Nat.beq m n
  | _ => false
def markC (x y : AV) : List Value → List Value → List AV
  | u :: us, v :: vs => (bif isSl 5 u && isSl 6 v then y else bif isSl 3 u && isSl 4 v then x else .v u) :: markC x y us vs
  | _, _ => []
theorem markC_len (x y : AV) : ∀ (a b : List Value), a.length = b.length → (markC x y a b).length = a.length
  | [], [], _ => rfl
  | _ :: us, _ :: vs, h => by rw [markC, List.length_cons, List.length_cons, markC_len x y us vs (by simpa using h)]
theorem markC_get (x y : AV) : ∀ (a b : List Value) (k : Nat) (u v : Value), a[k]? = some u → b[k]? = some v → (markC x y a b)[k]? = some (bif isSl 5 u && isSl 6 v then y else bif isSl 3 u && isSl 4 v then x else .v u)
  | [], _, _, _, _, h, _ => by cases h
  | _ :: _, [], _, _, _, _, h => by cases h
  | _ :: us, _ :: vs, 0, u, v, h, h' => by
    simp only [List.getElem?_cons_zero, Option.some.injEq] at h h'
    subst h h'
    rfl
  | _ :: us, _ :: vs, k + 1, u, v, h, h' => by
    rw [List.getElem?_cons_succ] at h h'
    rw [markC, List.getElem?_cons_succ]
    exact markC_get x y us vs k u v h h'
def isSlA : AV → Bool
  | .own .. | .sl .. => true
  | _ => false
theorem isSlA_cells {ν : Nu} {a : AV} {y : Value} (h : isSlA a = true) (hv : VR ν a y) : y.cells = #[y] := by
  cases a with
  | sl => simp only [VR] at hv; obtain ⟨p, c, rfl, _⟩ := hv; rfl
  | own => simp only [VR] at hv; obtain ⟨b, _, rfl⟩ := hv; rfl
  | _ => cases h
def buildC (P : Program) (t : TypeId) (i j : Nat) (x y : AV) : Option Delta :=
  match isSlA x && isSlA y, pureRun P (Instr.build t #[(i, .slice none 3 3), (j, .slice none 5 5)]), pureRun P (Instr.build t #[(i, .slice none 4 4), (j, .slice none 6 6)]) with
  | true, some (.agg a1), some (.agg a2) => some { val := .agg (markC x y a1.toList a2.toList) }
  | _, _, _ => none
theorem buildC_plain {P : Program} {t : TypeId} {i j : Nat} {x y : AV} {δ : Delta} (h : buildC P t i j x y = some δ) : δ.put = [] ∧ δ.new = [] := by
  unfold buildC at h
  split at h
  · cases h; exact ⟨rfl, rfl⟩
  · cases h
theorem buildC_sound {P : Program} {t : TypeId} {i j : Nat} {x y : AV} {δ : Delta} {ν : Nu} {x' y' : Value} (h : buildC P t i j x y = some δ) (hx : VR ν x x') (hy : VR ν y y') (w : World) : ∃ v, (Instr.build t #[(i, x'), (j, y')]).run P w = .ok v w ∧ VR ν δ.val v := by
  unfold buildC at h
  split at h
  · rename_i a1 a2 hb h1 h2
    cases h
    rw [Bool.and_eq_true] at hb
    obtain ⟨z, o1, o2, ho1, ho2, hk⟩ := build_pair (y1 := .slice none 3 3) (y2 := .slice none 5 5) (pureRun_run h1 w) rfl rfl
    have q1 := hk (.slice none 3 3) (.slice none 5 5) rfl rfl
    have q2 := hk (.slice none 4 4) (.slice none 6 6) rfl rfl
    rw [pureRun_run h1 w] at q1
    rw [pureRun_run h2 w] at q2
    simp only [Result.ok.injEq, Value.agg.injEq, and_true] at q1 q2
    refine ⟨_, hk x' y' (isSlA_cells hb.1 hx) (isSlA_cells hb.2 hy), ?_⟩
    simp only [VR]
    refine ⟨((z.setIfInBounds o1 x').setIfInBounds o2 y').toList, rfl, ?_⟩
    have s1 : a1.toList.length = z.size := by rw [q1]; simp
    have s2 : a2.toList.length = z.size := by rw [q2]; simp
    refine VRs.of (by rw [markC_len _ _ _ _ (by rw [s1, s2]), s1]; simp) fun k a v ha hv => ?_
    have hkz : k < z.size := by
      have := (List.getElem?_eq_some_iff.1 hv).1
      simpa using this
    have g : ∀ p q : Value, ((z.setIfInBounds o1 p).setIfInBounds o2 q).toList[k]? = some (if o2 = k then q else if o1 = k then p else z[k]) := fun p q => by
      rw [Array.getElem?_toList, Array.getElem?_setIfInBounds, Array.getElem?_setIfInBounds, Array.size_setIfInBounds]
      by_cases e2 : o2 = k
      · rw [if_pos e2, if_pos e2, if_pos ho2]
      · rw [if_neg e2, if_neg e2]
        by_cases e1 : o1 = k
        · rw [if_pos e1, if_pos e1, if_pos ho1]
        · rw [if_neg e1, if_neg e1, Array.getElem?_eq_getElem hkz]
    rw [g] at hv
    rw [markC_get x y _ _ k _ _ (by rw [q1]; exact g _ _) (by rw [q2]; exact g _ _)] at ha
    simp only [Option.some.injEq] at ha hv
    subst ha hv
    by_cases e2 : o2 = k
    · simp only [if_pos e2]; exact hy
    · simp only [if_neg e2]
      by_cases e1 : o1 = k
      · simp only [if_pos e1]; exact hx
      · simp only [if_neg e1]
        have : ∀ (u : Value) (m n : Nat), m ≠ n → (isSl m u && isSl n u) = false := fun u m n hmn => by
          cases e : isSl m u && isSl n u with
          | false => rfl
          | true =>
            rw [Bool.and_eq_true] at e
            unfold isSl at e
            split at e
            · exact absurd ((Nat.eq_of_beq_eq_true e.1).symm.trans (Nat.eq_of_beq_eq_true e.2)) hmn
            · cases e.1
        rw [this _ 5 6 (by decide), this _ 3 4 (by decide), cond_false, cond_false]
        simp only [VR]
  · cases h

def lenA (P : Program) (t : TypeId) (x : AV) : Option Delta :=
  match P.underlying t, x with
  | some (.slice _), .own _ len => some { val := .v (.int .i64 len) }
  | some (.slice _), .sl _ _ _ _ len _ => some { val := .v (.int .i64 len) }
  | _, _ => match x.toV with
    | some v => pureA P (Builtin.len_ #[t] 0 #[v])
    | none => none

def builtinA (P : Program) (b : Builtin) (ts : Array TypeId) (args : List AV) (H : List AB) (base : Nat) : Option Delta :=
  match b with
  | .len => (match args, ts.toList with
    | [x], [t] => lenA P t x
    | _, _ => none)
  | .append => (match args, ts.toList with
    | [s, x], [t, t'] => if t = t' then (match appendE P t s x with
      | some δ => some δ
      | none => appendA P t H s x base) else none
    | _, _ => none)
  | .copy => (match args, ts.toList with
    | [d, x], [t, _] => copyA P t H d x
    | _, _ => none)
  | .clear => (match args, ts.toList with
    | [x], [t] => clearA P t H x
    | _, _ => none)
  | .max => (match AV.toVs args with
    | some vs => pureA P (Builtin.max_ #[] 0 vs.toArray)
    | none => none)
  | .min => (match AV.toVs args with
    | some vs => pureA P (Builtin.min_ #[] 0 vs.toArray)
    | none => none)
  | .real => (match AV.toVs args with
    | some vs => pureA P (Builtin.real_ #[] 0 vs.toArray)
    | none => none)
  | .imag => (match AV.toVs args with
    | some vs => pureA P (Builtin.imag_ #[] 0 vs.toArray)
    | none => none)
  | .complex => (match AV.toVs args with
    | some vs => pureA P (Builtin.complex_ #[] 0 vs.toArray)
    | none => none)
  | _ => none

def fnOf : AV → Option (FuncId × List AV)
  | .fn g caps => some (g, caps)
  | .v (.func (.func g) ⟨[]⟩ l) => some (g, l.toList.map .v)
  | _ => none
theorem fnOf_sound {ν : Nu} {a : AV} {y : Value} {g : FuncId} {caps : List AV} (h : fnOf a = some (g, caps)) (hv : VR ν a y) : ∃ l, y = .func (.func g) #[] (List.toArray l) ∧ VRs ν caps l := by
  unfold fnOf at h
  split at h
  · cases h
    simpa only [VR] using hv
  · cases h
    simp only [VR] at hv
    exact ⟨_, hv, VRs.map_v _⟩
  · cases h

def extA (P : Program) (g : FuncId) (args : List AV) : Option Delta :=
  match P.funcs[g]? with
  | some fn => (match fn.body with
    | none => (match AV.toVs args with
      | some vs => (match pureRun P (callFunc g vs.toArray) with
        | some (.value v) => some { val := .v v }
        | _ => none)
      | none => none)
    | some _ => none)
  | none => none

def callA (P : Program) (Γ : Gam) (c : Call) (ρ : Operand → AV) (H : List AB) (base : Nat) : Option Delta :=
  match c.callee with
  | .value f => (match fnOf (ρ f) with
    | some (g, caps) => (match Γ g with
      | some S => S (c.args.toList.map ρ ++ caps) H base
      | none => extA P g (c.args.toList.map ρ ++ caps))
    | _ => none)
  | .builtin b => builtinA P b c.argTypes (c.args.toList.map ρ) H base
  | .invoke r m => (match ρ r with
    | .v (.iface t v) => (match pureRun P (method (P.types.size + Made.depth) t v m) with
      | some (f, x) => (match Γ f with
        | some S => S (.v x :: c.args.toList.map ρ) H base
        | none => none)
      | none => none)
    | _ => none)

def bytesOf : List (List Value) → Option (List UInt8)
  | [] => some []
  | r :: rs => match r, bytesOf rs with
    | [.int .u8 z], some l => some (u8Of z :: l)
    | _, _ => none
def bytesOk : List (List Value) → List Bool
  | [] => []
  | r :: rs => match r with
    | [.int .u8 z] => decide (0 ≤ z) :: decide (z < 256) :: bytesOk rs
    | _ => bytesOk rs
theorem bytesOf_get : ∀ {rs : List (List Value)} {l : List UInt8}, bytesOf rs = some l → obls (bytesOk rs) = true → l.length = rs.length ∧ ∀ j (hj : j < rs.length) (hj' : j < l.length), rs[j] = [.int .u8 (l[j].toNat : Int)]
  | [], l, h, _ => by
    simp only [bytesOf, Option.some.injEq] at h
    subst h
    exact ⟨rfl, fun j hj => absurd hj (Nat.not_lt_zero _)⟩
  | r :: rs, l, h, ho => by
    unfold bytesOf at h
    split at h
    · rename_i z l' hl
      simp only [Option.some.injEq] at h
      subst h
      simp only [bytesOk, obls, List.all_cons, id, Bool.and_eq_true, decide_eq_true_eq] at ho
      obtain ⟨h1, h2⟩ := bytesOf_get hl ho.2.2
      refine ⟨by simp [h1], fun j hj hj' => ?_⟩
      cases j with
      | zero =>
        simp only [List.getElem_cons_zero, u8Of, UInt8.toNat_ofNat', List.cons.injEq, Value.int.injEq, and_true, true_and]
        omega
      | succ j => simpa using h2 j (by simpa using hj) (by simpa using hj')
    · cases h
def bytesA (P : Program) (H : List AB) (src dst : TypeId) (x : AV) : Option Delta :=
  match x, P.underlying src, P.underlying dst with
  | .own i len, some (.slice e), some .string => (match P.underlying e, H.getD i .gone with
    | some (.int .u8), .row _ n 1 g _ => (match bytesOf ((List.range len).map g) with
      | some l => some { val := .v (.string (txOf l)), rd := [i], obl := Nat.ble len n :: bytesOk ((List.range len).map g) }
      | none => none)
    | _, _ => none)
  | _, _, _ => none
theorem bytesA_plain {P : Program} {H : List AB} {s d : TypeId} {x : AV} {δ : Delta} (h : bytesA P H s d x = some δ) : δ.put = [] ∧ δ.new = [] := by
  unfold bytesA at h
  split at h
  · split at h
    · split at h
      · cases h; exact ⟨rfl, rfl⟩
      · cases h
    · cases h
  · cases h
theorem bytesA_sound {P : Program} {H : List AB} {s d : TypeId} {x : AV} {δ : Delta} {ν : Nu} {y : Value} {w : World} (h : bytesA P H s d x = some δ) (ho : obls δ.obl = true) (hr : ∀ i ∈ δ.rd, BR ν i (H.getD i .gone) w) (hx : VR ν x y) :
    ∃ v, (convert s d y).run P w = .ok v w ∧ VR ν δ.val v := by
  unfold bytesA at h
  split at h
  · rename_i i len e hs hd
    split at h
    · rename_i rw n g t he hH
      split at h
      · rename_i bs hbs
        simp only [Option.some.injEq] at h
        subst h
        have ho' : len ≤ n ∧ obls (bytesOk ((List.range len).map g)) = true := by simpa [obls, Nat.ble_eq] using ho
        obtain ⟨hlen, ho⟩ := ho'
        obtain ⟨hbl, hbg⟩ := bytesOf_get hbs ho
        have hb := hr i (by simp)
        rw [hH] at hb
        simp only [VR] at hx
        obtain ⟨b, hb1, rfl⟩ := hx
        rcases hb with ⟨_, _, h3⟩ | ⟨b', l, t', fz, h1, h2, _, hn, hg⟩
        · rw [h3] at hb1; cases hb1
        · rw [hb1] at h1
          cases h1
          refine ⟨_, ?_, by simp only [VR]; rfl⟩
          have hbl' : bs.length = len := by simpa using hbl
          have hc := run_convert_bytes_back (P := P) w s d e ⟨b.n, b.o, none⟩ b.c bs hs he hd fun j hj => by
            have hj' : j < len := by omega
            obtain ⟨g1, g2⟩ := hg j (by omega)
            have e3 := g2 0 (by omega)
            have e4 := hbg j (by simpa using hj') hj
            simp only [List.getElem_map, List.getElem_range] at e4
            rw [show (⟨b.n, b.o, none⟩ : Addr).add j = ⟨b.n, b.o + j, none⟩ by simp [Addr.add], cell_at h2]
            simp only [Nat.mul_one, Nat.add_zero] at e3
            rw [e3, e4]
            rfl
          rw [hbl'] at hc
          exact hc
      · cases h
    · cases h
  · cases h

def opA (P : Program) (Γ : Gam) (o : Oper) (T : List AV) (H : List AB) (base : Nat) : Option Delta :=
  match o.op with
  | .move x => some { val := evA T x }
  | .assign x => some { val := evA T x }
  | .pick c a b => (match evA T c with
    | .v (.bool q) => some { val := pickA q (evA T a) (evA T b) }
    | _ => none)
  | .alloc t => allocA P t base
  | .box t x => boxA t (evA T x) base
  | .build t parts => (match partsV (evA T) parts.toList with
    | some ps => pureA P (Instr.build t ps.toArray)
    | none => (match parts.toList with
      | [(0, o)] => buildB P t (evA T o)
      | [(i, o), (j, o')] => buildC P t i j (evA T o) (evA T o')
      | _ => none))
  | .buildSlice t len parts => (match partsV (evA T) parts.toList with
    | some ps => buildSliceA P t len ps base
    | none => (match len, parts.toList with
      | 2, [(0, x), (1, y)] => buildSlice2A P t (evA T x) (evA T y) base
      | _, _ => none))
  | .load t a => loadA P H t (evA T a)
  | .store t a x => storeA P H t (evA T a) (evA T x)
  | .nilCheck x => (match evA T x with
    | .ptr i w j k => some { val := .ptr i w j k }
    | _ => none)
  | .binOp op t x y _ => binA P op t x y (evA T x) (evA T y)
  | .unOp op _ x => (match (evA T x).toV with
    | some v => pureA P (Op.unary op v)
    | none => none)
  | .convert src dst x => (match (evA T x).toV with
    | some v => pureA P (convert src dst v)
    | none => bytesA P H src dst (evA T x))
  | .makeInterface t x => (match (evA T x).toV with
    | some v => pureA P (Instr.makeInterface t v)
    | none => none)
  | .makeFunc (.func f) first cap => if first.size = 0 then some { val := .fn f (cap.toList.map (evA T)) } else none
  | .makeSlice t l c => (match evA T l, evA T c with
    | .v (.int _ l), .v (.int _ c) => makeSliceA P t l c base
    | _, _ => none)
  | .slice t x lo hi mx => sliceA P H t (evA T x) (lo.map (evA T)) (hi.map (evA T)) (mx.map (evA T))
  | .fieldAddr s x f => (fieldAddrA P s (evA T x) f).map fun r => { val := r }
  | .field s x f => (fieldA P s (evA T x) f).map fun r => { val := r }
  | .indexAddr t x ix => indexAddrA P H t (evA T x) (evA T ix)
  | .index t x ix => (indexA P t (evA T x) (evA T ix)).map fun r => { val := r.1, obl := r.2 }
  | .extract x ix => (match evA T x with
    | .tup cs => (cs[ix]?).map fun r => { val := r }
    | .v (.tuple arr) => (arr.toList[ix]?).map fun r => { val := .v r }
    | _ => none)
  | .call c => callA P Γ c (evA T) H base
  | _ => none

end Go.Proofs.YtddhmidegldhdaaGreatDoor

/- The abstract machine, 7: one operation does what its word says. Conditions: those of the table of callees. -/
namespace Go.Proofs.YtddhmidegldhdaaGreatDoor
open Go.RowKit

theorem wp_val {P : Program} {o : Oper} {a : Act} {w w' : World} {next : Act → World → Prop} {Q : Exit → Act → World → Prop} {v : Value} (h : (execOp a.eval o).run P w = .ok (.value v) w') (hn : next (a.put o.dst v) w') : o.wp P a w next Q := by
  unfold Oper.wp
  rw [h]
  exact hn

theorem wp_skip' {P : Program} {o : Oper} {a : Act} {w w' : World} {next : Act → World → Prop} {Q : Exit → Act → World → Prop} (h : (execOp a.eval o).run P w = .ok .skip w') (hn : next (a.put o.dst undef) w') : o.wp P a w next Q := by
  unfold Oper.wp
  rw [h]
  exact hn

theorem VRs_map {ν : Nu} {ρ : Operand → AV} {σ : Operand → Value} : ∀ {l : List Operand}, (∀ x ∈ l, VR ν (ρ x) (σ x)) → VRs ν (l.map ρ) (l.map σ)
  | [], _ => by simp only [List.map_nil, VRs]
  | x :: l, h => by
    simp only [List.map_cons, VRs]
    exact ⟨h x List.mem_cons_self, VRs_map fun y hy => h y (List.mem_cons_of_mem _ hy)⟩

theorem lenA_plain {P : Program} {t : TypeId} {x : AV} {δ : Delta} (h : lenA P t x = some δ) : δ.put = [] ∧ δ.new = [] := by
  unfold lenA at h
  repeat (first | exact pureA_plain h | split at h | (simp only [Option.some.injEq] at h; subst h; exact ⟨rfl, rfl⟩) | cases h)

theorem lenA_sound {P : Program} {t ty : TypeId} {x : AV} {δ : Delta} {ν : Nu} {y : Value} {w : World} (h : lenA P t x = some δ) (hx : VR ν x y) : ∃ v, (Builtin.len_ #[t] ty #[y]).run P w = .ok v w ∧ VR ν δ.val v := by
  unfold lenA at h
  split at h
  · rename_i e i len hu
    simp only [Option.some.injEq] at h
    subst h
    simp only [VR] at hx
    obtain ⟨b, _, rfl⟩ := hx
    exact ⟨.int .i64 len, by simp [Builtin.len_, run_underlying hu, goInt], by simp only [VR]⟩
  · rename_i e i wd j k len cap hu
    simp only [Option.some.injEq] at h
    subst h
    simp only [VR] at hx
    obtain ⟨p, c, rfl, _⟩ := hx
    exact ⟨.int .i64 len, by simp [Builtin.len_, run_underlying hu, goInt], by simp only [VR]⟩
  · split at h
    · rename_i v hv
      have := VR_toV hv hx
      subst this
      exact pureA_sound h ν w
    · cases h

theorem opA_sound {P : Program} {Γ : Gam} (hΓ : GamOk P Γ) {o : Oper} {a : Act} {T : List AV} {H : List AB} {base : Nat} {δ : Delta} {ν : Nu} {w : World} {next : Act → World → Prop} {Q : Exit → Act → World → Prop}
    (h : opA P Γ o T H base = some δ) (ho : obls δ.obl = true) (hT : ∀ x ∈ o.op.operands, VR ν (evA T x) (a.eval x)) (hr : ∀ i ∈ δ.rd, BR ν i (H.getD i .gone) w) (hlt : ∀ i b, ν i = some b → b.n < w.heap.size)
    (hb : ∀ j, j < δ.new.length → ν (base + j) = none) (hsep : Seps ν H δ) (htab : TabOk (CallM ν δ w) w) (hn : ∀ v w' ν', Did ν ν' base δ w w' v → next (a.put o.dst v) w') : o.wp P a w next Q := by
  have same : ∀ (s : Sem Value), (∃ v, s.run P w = .ok v w ∧ VR ν δ.val v) → δ.put = [] → δ.new = [] → (execOp a.eval o = (do pure (.value (← s)) : Sem Next)) → o.wp P a w next Q := by
    rintro s ⟨v, h1, h2⟩ hp hn' he
    refine wp_val (v := v) (w' := w) ?_ (hn v w ν (Did.same h2 hp hn'))
    rw [he]
    simp [h1]
  have made : ∀ (s : Sem Value), (∃ v w' ν', s.run P w = .ok v w' ∧ Did ν ν' base δ w w' v) → (execOp a.eval o = (do pure (.value (← s)) : Sem Next)) → o.wp P a w next Q := by
    rintro s ⟨v, w', ν', h1, h2⟩ he
    refine wp_val (v := v) (w' := w') ?_ (hn v w' ν' h2)
    rw [he]
    simp [h1]
  obtain ⟨dst, op, ty, pos, after, guard⟩ := o
  cases op with
  | move x =>
    simp only [opA, Option.some.injEq] at h
    subst h
    exact same (pure (a.eval x)) ⟨_, rfl, hT x (by simp [Op.operands])⟩ rfl rfl (by simp [execOp])
  | assign x =>
    simp only [opA, Option.some.injEq] at h
    subst h
    exact same (pure (a.eval x)) ⟨_, rfl, hT x (by simp [Op.operands])⟩ rfl rfl (by simp [execOp])
  | pick c x y =>
    simp only [opA] at h
    split at h
    · rename_i q hq
      simp only [Option.some.injEq] at h
      subst h
      have hc := hT c (by simp [Op.operands])
      rw [hq] at hc
      simp only [VR] at hc
      refine wp_val (v := if q then a.eval x else a.eval y) (w' := w) ?_ (hn _ w ν (Did.same (pickA_sound (hT x (by simp [Op.operands])) (hT y (by simp [Op.operands]))) rfl rfl))
      simp [execOp, hc, asBool]
    · cases h
  | alloc t =>
    simp only [opA] at h
    have hb0 : ν base = none := by
      have : δ.new.length = 1 := by
        unfold allocA boxA at h
        repeat (first | split at h | (simp only [Option.map_eq_some_iff] at h; obtain ⟨c, _, rfl⟩ := h; rfl) | cases h)
      simpa using hb 0 (by omega)
    exact made _ (allocA_sound h hb0) rfl
  | box t x =>
    simp only [opA] at h
    have hb0 : ν base = none := by
      have : δ.new.length = 1 := by
        unfold boxA at h
        simp only [Option.map_eq_some_iff] at h; obtain ⟨c, _, rfl⟩ := h; rfl
      simpa using hb 0 (by omega)
    exact made _ (boxA_sound h (hT x (by simp [Op.operands])) hb0) rfl
  | build t parts =>
    simp only [opA] at h
    split at h
    · rename_i ps hps
      have := partsV_sound (ν := ν) (σ := a.eval) hps (fun p hp => hT p.2 (by simp only [Op.operands, List.mem_toArray]; exact List.mem_map.2 ⟨p, hp, rfl⟩))
      have e : (parts.map fun (i, x) => (i, a.eval x)) = ps.toArray := by
        rw [← this]
        apply Array.ext'
        simp
      refine same _ (pureA_sound h ν w) (pureA_plain h).1 (pureA_plain h).2 ?_
      rw [← e]
      rfl
    · split at h
      · rename_i o ho
        have e : (parts.map fun (i, x) => (i, a.eval x)) = #[(0, a.eval o)] := by
          apply Array.ext'
          simp [ho]
        have hx : VR ν (evA T o) (a.eval o) := hT o (by simp only [Op.operands, List.mem_toArray]; exact List.mem_map.2 ⟨(0, o), by rw [ho]; simp, rfl⟩)
        refine same _ (buildB_sound h hx w) (buildB_plain h).1 (buildB_plain h).2 ?_
        rw [← e]
        rfl
      · rename_i i o j o' ho
        have e : (parts.map fun (i, x) => (i, a.eval x)) = #[(i, a.eval o), (j, a.eval o')] := by
          apply Array.ext'
          simp [ho]
        have hx : VR ν (evA T o) (a.eval o) := hT o (by simp only [Op.operands, List.mem_toArray]; exact List.mem_map.2 ⟨(i, o), by rw [ho]; simp, rfl⟩)
        have hy : VR ν (evA T o') (a.eval o') := hT o' (by simp only [Op.operands, List.mem_toArray]; exact List.mem_map.2 ⟨(j, o'), by rw [ho]; simp, rfl⟩)
        refine same _ (buildC_sound h hx hy w) (buildC_plain h).1 (buildC_plain h).2 ?_
        rw [← e]
        rfl
      · cases h
  | buildSlice t len parts =>
    simp only [opA] at h
    split at h
    · rename_i ps hps
      have := partsV_sound (ν := ν) (σ := a.eval) hps (fun p hp => hT p.2 (by simp only [Op.operands, List.mem_toArray]; exact List.mem_map.2 ⟨p, hp, rfl⟩))
      have e : (parts.map fun (i, x) => (i, a.eval x)) = ps.toArray := by
        rw [← this]
        apply Array.ext'
        simp
      have hb0 : ν base = none := by
        have : δ.new.length = 1 := by
          unfold buildSliceA at h
          repeat (first | split at h | (simp only [Option.some.injEq] at h; subst h; rfl) | cases h)
        simpa using hb 0 (by omega)
      refine made _ (buildSliceA_sound h ho hb0) ?_
      rw [← e]
      rfl
    · split at h
      · rename_i x y hxy
        have e : (parts.map fun (i, x) => (i, a.eval x)) = #[(0, a.eval x), (1, a.eval y)] := by
          apply Array.ext'
          simp [hxy]
        have hx : VR ν (evA T x) (a.eval x) := hT x (by simp only [Op.operands, List.mem_toArray]; exact List.mem_map.2 ⟨(0, x), by rw [hxy]; simp, rfl⟩)
        have hy : VR ν (evA T y) (a.eval y) := hT y (by simp only [Op.operands, List.mem_toArray]; exact List.mem_map.2 ⟨(1, y), by rw [hxy]; simp, rfl⟩)
        have hb0 : ν base = none := by
          have : δ.new.length = 1 := by
            unfold buildSlice2A at h
            repeat (first | split at h | (simp only [Option.some.injEq] at h; subst h; rfl) | cases h)
          simpa using hb 0 (by omega)
        refine made _ (buildSlice2A_sound h hx hy hb0) ?_
        rw [← e]
        rfl
      · cases h
  | load t x =>
    simp only [opA] at h
    exact same _ (loadA_sound h ho (hT x (by simp [Op.operands])) hr) (loadA_plain h).1 (loadA_plain h).2 rfl
  | store t x y =>
    simp only [opA] at h
    obtain ⟨w', h1, h2⟩ := storeA_sound (base := base) h ho (hT x (by simp [Op.operands])) (hT y (by simp [Op.operands])) hr
    refine wp_skip' (w' := w') ?_ (hn _ w' ν h2)
    simp [execOp, h1]
  | nilCheck x =>
    simp only [opA] at h
    split at h
    · rename_i i wd j k hx
      simp only [Option.some.injEq] at h
      subst h
      have hv := hT x (by simp [Op.operands])
      rw [hx] at hv
      have hv' := hv
      simp only [VR] at hv
      obtain ⟨b, hb1, hb2⟩ := hv
      refine wp_val (v := a.eval x) (w' := w) ?_ (hn _ w ν (Did.same hv' rfl rfl))
      simp [execOp, hb2]
    · cases h
  | binOp op t x y yt =>
    simp only [opA] at h
    exact same _ (binA_sound h ho (hT x (by simp [Op.operands])) (hT y (by simp [Op.operands])) w) (binA_plain h).1 (binA_plain h).2 rfl
  | unOp op t x =>
    simp only [opA] at h
    split at h
    · rename_i v hv
      have := VR_toV hv (hT x (by simp [Op.operands]))
      subst this
      exact same _ (pureA_sound h ν w) (pureA_plain h).1 (pureA_plain h).2 rfl
    · cases h
  | convert s d x =>
    simp only [opA] at h
    split at h
    · rename_i v hv
      have := VR_toV hv (hT x (by simp [Op.operands]))
      subst this
      exact same _ (pureA_sound h ν w) (pureA_plain h).1 (pureA_plain h).2 rfl
    · exact same _ (bytesA_sound h ho hr (hT x (by simp [Op.operands]))) (bytesA_plain h).1 (bytesA_plain h).2 rfl
  | makeInterface s x =>
    simp only [opA] at h
    split at h
    · rename_i v hv
      have := VR_toV hv (hT x (by simp [Op.operands]))
      subst this
      exact same _ (pureA_sound h ν w) (pureA_plain h).1 (pureA_plain h).2 rfl
    · cases h
  | makeFunc fn first cap =>
    cases fn with
    | func f' =>
      simp only [opA] at h
      split at h
      · rename_i h0
        simp only [Option.some.injEq] at h
        subst h
        have hf : first = #[] := Array.size_eq_zero_iff.1 h0
        subst hf
        refine same (Instr.makeFunc (.func f') (#[].map a.eval) (cap.map a.eval)) ⟨.func (.func f') #[] (cap.map a.eval), by simp [Instr.makeFunc], ?_⟩ rfl rfl rfl
        simp only [VR]
        refine ⟨cap.toList.map a.eval, ?_, VRs_map fun x hx => hT x (by simp [Op.operands]; simpa using hx)⟩
        congr 1
        apply Array.ext'
        simp
      · cases h
    | _ => simp only [opA] at h; cases h
  | makeSlice t l c =>
    simp only [opA] at h
    split at h
    · rename_i k1 l' k2 c' hl hc
      have e1 := hT l (by simp [Op.operands])
      have e2 := hT c (by simp [Op.operands])
      rw [hl] at e1
      rw [hc] at e2
      simp only [VR] at e1 e2
      have hb0 : ν base = none := by
        have : δ.new.length = 1 := by
          unfold makeSliceA at h
          repeat (first | split at h | (simp only [Option.some.injEq] at h; subst h; rfl) | cases h)
        simpa using hb 0 (by omega)
      refine made _ (makeSliceA_sound (kl := k1) (kc := k2) h ho hb0) ?_
      rw [← e1, ← e2]
      rfl
    · cases h
  | slice t x lo hi mx =>
    simp only [opA] at h
    have bnd : ∀ q : Option Operand, (∀ z, q = some z → z ∈ (Op.slice t x lo hi mx).operands) → BndOk ν (q.map (evA T)) (q.map a.eval) := by
      intro q hq
      cases q with
      | none => exact .none
      | some z => exact .some (hT z (hq z rfl))
    refine same _ (sliceA_sound (w := w) h ho (hT x (by simp [Op.operands])) (bnd lo ?_) (bnd hi ?_) (bnd mx ?_) hr) (sliceA_plain h).1 (sliceA_plain h).2 rfl
    all_goals (rintro z rfl; simp [Op.operands])
  | fieldAddr s x f =>
    simp only [opA, Option.map_eq_some_iff] at h
    obtain ⟨r, h1, rfl⟩ := h
    exact same _ (fieldAddrA_sound h1 (hT x (by simp [Op.operands]))) rfl rfl rfl
  | field s x f =>
    simp only [opA, Option.map_eq_some_iff] at h
    obtain ⟨r, h1, rfl⟩ := h
    exact same _ (fieldA_sound h1 (hT x (by simp [Op.operands]))) rfl rfl rfl
  | indexAddr t x ix =>
    simp only [opA] at h
    exact same _ (indexAddrA_sound h ho (hT x (by simp [Op.operands])) (hT ix (by simp [Op.operands]))) (indexAddrA_plain h).1 (indexAddrA_plain h).2 rfl
  | index t x ix =>
    simp only [opA, Option.map_eq_some_iff] at h
    obtain ⟨⟨r, ob⟩, h1, rfl⟩ := h
    exact same _ (indexA_sound h1 ho (hT x (by simp [Op.operands])) (hT ix (by simp [Op.operands]))) rfl rfl rfl
  | extract x ix =>
    simp only [opA] at h
    have hx := hT x (by simp [Op.operands])
    split at h
    · rename_i cs hcs
      simp only [Option.map_eq_some_iff] at h
      obtain ⟨r, h1, rfl⟩ := h
      rw [hcs] at hx
      simp only [VR] at hx
      obtain ⟨l, h2, h3⟩ := hx
      obtain ⟨y, hy, hr'⟩ := h3.get h1
      refine same (Instr.extract (a.eval x) ix) ⟨y, ?_, hr'⟩ rfl rfl rfl
      simp [Instr.extract, h2, hy]
    · rename_i arr hcs
      simp only [Option.map_eq_some_iff] at h
      obtain ⟨r, h1, rfl⟩ := h
      rw [hcs] at hx
      simp only [VR] at hx
      refine same (Instr.extract (a.eval x) ix) ⟨r, ?_, by simp only [VR]⟩ rfl rfl rfl
      have : arr[ix]? = some r := by simpa using h1
      simp [Instr.extract, hx, this]
    · cases h
  | call c =>
    simp only [opA, callA] at h
    obtain ⟨callee, args, ats⟩ := c
    have hargs : VRs ν (args.toList.map (evA T)) (args.toList.map a.eval) := VRs_map fun x hx => hT x (by simp [Op.operands, Call.operands]; right; simpa using hx)
    cases callee with
    | value f =>
      simp only at h
      have hf := hT f (by simp [Op.operands, Call.operands])
      split at h
      · rename_i g caps hg
        obtain ⟨l, h2, h3⟩ := fnOf_sound hg hf
        split at h
        · rename_i S hS
          obtain ⟨s1, s2⟩ := hΓ g S hS
          have hc := s2 _ _ _ _ _ _ _ h ho (hargs.append h3) hr hlt hb hsep htab
          unfold Oper.wp
          have he : (execOp a.eval ⟨dst, .call ⟨.value f, args, ats⟩, ty, pos, after, guard⟩).run P w = .ok (.enter g (args.toList.map a.eval ++ l).toArray) w := by
            have e : (args.map a.eval ++ l.toArray) = (args.toList.map a.eval ++ l).toArray := by
              apply Array.ext'
              simp
            rw [← e]
            simp [execOp, resolve, h2, Deferred.ofValue, invoke, s1]
          rw [he]
          simp only [Oper.upon]
          refine hc.mono ?_
          rintro e w' ⟨v, ν', rfl, hd⟩
          exact hn v w' ν' hd
        · unfold extA at h
          split at h
          · split at h
            · split at h
              · rename_i vs hvs
                split at h
                · rename_i v hv
                  cases h
                  have hvals := VR_toVs hvs (hargs.append h3)
                  refine wp_val (v := v) (w' := w) ?_ (hn _ w ν (Did.same (by simp only [VR]) rfl rfl))
                  have e : (args.map a.eval ++ l.toArray) = vs.toArray := by
                    rw [← hvals]
                    apply Array.ext'
                    simp
                  have hrun := pureRun_run hv w
                  rw [← e] at hrun
                  simp [execOp, resolve, h2, Deferred.ofValue, invoke, hrun]
                · cases h
              · cases h
            · cases h
          · cases h
      · cases h
    | invoke r m =>
      simp only at h
      have hrv := hT r (by simp [Op.operands, Call.operands])
      split at h
      · rename_i t v hr1
        rw [hr1] at hrv
        simp only [VR] at hrv
        split at h
        · rename_i f x hm
          split at h
          · rename_i S hS
            obtain ⟨s1, s2⟩ := hΓ f S hS
            have hx : VRs ν (AV.v x :: args.toList.map (evA T)) (x :: args.toList.map a.eval) := by
              simp only [VRs, VR]
              exact ⟨trivial, hargs⟩
            have hc := s2 _ _ _ _ _ _ _ h ho hx hr hlt hb hsep htab
            unfold Oper.wp
            have he : (execOp a.eval ⟨dst, .call ⟨.invoke r m, args, ats⟩, ty, pos, after, guard⟩).run P w = .ok (.enter f (x :: args.toList.map a.eval).toArray) w := by
              have hm' := pureRun_run hm w
              have e : (#[a.eval r] ++ args.map a.eval).extract 1 (#[a.eval r] ++ args.map a.eval).size = args.map a.eval := by
                apply Array.ext'
                simp
                exact List.take_of_length_le (by simp)
              have e2 : #[x] ++ args.map a.eval = (x :: args.toList.map a.eval).toArray := by
                apply Array.ext'
                simp
              have e3 : (invoke (.fn (.method m) #[]) (#[a.eval r] ++ args.map a.eval)).run P w = .ok (.enter f (x :: args.toList.map a.eval).toArray) w := by
                have e4 : (#[a.eval r] ++ args.map a.eval)[0]? = some (a.eval r) := by
                  rw [Array.getElem?_append_left (by simp)]
                  rfl
                have e5 : invoke (.fn (.method m) #[]) (#[a.eval r] ++ args.map a.eval) = callMethod (a.eval r) m (args.map a.eval) := by
                  unfold invoke
                  simp only [e4, e]
                rw [e5, hrv]
                unfold callMethod
                simp [hm', e2, s1]
              simp [execOp, resolve, e3]
            rw [he]
            simp only [Oper.upon]
            refine hc.mono ?_
            rintro e w' ⟨v, ν', rfl, hd⟩
            exact hn v w' ν' hd
          · cases h
        · cases h
      · cases h
    | builtin b =>
      simp only at h
      have hb1 : ∀ (s : Sem Value), (execOp a.eval ⟨dst, .call ⟨.builtin b, args, ats⟩, ty, pos, after, guard⟩ = (do pure (.value (← s)) : Sem Next)) → (execOp a.eval ⟨dst, .call ⟨.builtin b, args, ats⟩, ty, pos, after, guard⟩ = (do pure (.value (← s)) : Sem Next)) := fun _ h => h
      cases b <;> simp only [builtinA] at h <;> first | cases h | skip
      case append =>
        split at h
        · rename_i s x t t' hA hts
          split at h
          · rename_i htt
            subst htt
            have e1 : args.map a.eval = #[(args.toList.map a.eval).getD 0 undef, (args.toList.map a.eval).getD 1 undef] := by
              have := hargs.length
              rw [hA] at this
              apply Array.ext'
              simp only [Array.toList_map]
              match hL : args.toList.map a.eval, this with
              | [p, q], _ => rfl
            have e2 : ats = #[t, t] := by apply Array.ext'; simpa using hts
            rw [hA] at hargs
            have hv : VR ν s ((args.toList.map a.eval).getD 0 undef) ∧ VR ν x ((args.toList.map a.eval).getD 1 undef) := by
              match hL : args.toList.map a.eval, hargs with
              | [p, q], hh => simp only [VRs] at hh; exact ⟨hh.1, hh.2.1⟩
            split at h
            · rename_i δ' hE
              simp only [Option.some.injEq] at h
              subst h
              refine same _ (appendE_sound (ty := ty) hE hv.1 hv.2 w) (appendE_plain hE).1 (appendE_plain hE).2 ?_
              subst e2
              simp only [execOp, resolve, e1]
              rfl
            · have hb0 : ν base = none := by
                have : δ.new.length = 1 := by
                  unfold appendA at h
                  repeat (first | split at h | (simp only [Option.some.injEq] at h; subst h; rfl) | cases h)
                simpa using hb 0 (by omega)
              refine made _ (appendA_sound (ty := ty) h ho hv.1 hv.2 hb0 hr hlt) ?_
              subst e2
              simp only [execOp, resolve, e1]
              rfl
          · cases h
        · cases h
      case copy =>
        split at h
        · rename_i s x t t' hA hts
          have e1 : args.map a.eval = #[(args.toList.map a.eval).getD 0 undef, (args.toList.map a.eval).getD 1 undef] := by
            have := hargs.length
            rw [hA] at this
            apply Array.ext'
            simp only [Array.toList_map]
            match hL : args.toList.map a.eval, this with
            | [p, q], _ => rfl
          have e2 : ats = #[t, t'] := by apply Array.ext'; simpa using hts
          rw [hA] at hargs
          have hv : VR ν s ((args.toList.map a.eval).getD 0 undef) ∧ VR ν x ((args.toList.map a.eval).getD 1 undef) := by
            match hL : args.toList.map a.eval, hargs with
            | [p, q], hh => simp only [VRs] at hh; exact ⟨hh.1, hh.2.1⟩
          obtain ⟨v, w', h1, h2⟩ := copyA_sound (t' := t') (ty := ty) (base := base) h ho hv.1 hv.2 hr (fun hs hn hx => one_of_rows hs hn hx)
          refine made _ ⟨v, w', ν, h1, h2⟩ ?_
          subst e2
          simp only [execOp, resolve, e1]
          rfl
        · cases h
      case clear =>
        split at h
        · rename_i x t hA hts
          have e1 : args.map a.eval = #[(args.toList.map a.eval).getD 0 undef] := by
            have := hargs.length
            rw [hA] at this
            apply Array.ext'
            simp only [Array.toList_map]
            match hL : args.toList.map a.eval, this with
            | [p], _ => rfl
          have e2 : ats = #[t] := by apply Array.ext'; simpa using hts
          rw [hA] at hargs
          have hv : VR ν x ((args.toList.map a.eval).getD 0 undef) := by
            match hL : args.toList.map a.eval, hargs with
            | [p], hh => simp only [VRs] at hh; exact hh.1
          obtain ⟨v, w', h1, h2⟩ := clearA_sound (ty' := ty) (base := base) h ho hv hr
          refine made _ ⟨v, w', ν, h1, h2⟩ ?_
          subst e2
          simp only [execOp, resolve, e1]
          rfl
        · cases h
      case len =>
        split at h
        · rename_i x t hA hts
          have e1 : args.map a.eval = #[(args.toList.map a.eval).getD 0 undef] := by
            have := hargs.length
            rw [hA] at this
            apply Array.ext'
            simp only [Array.toList_map]
            match hL : args.toList.map a.eval, this with
            | [p], _ => rfl
          have e2 : ats = #[t] := by apply Array.ext'; simpa using hts
          rw [hA] at hargs
          have hv : VR ν x ((args.toList.map a.eval).getD 0 undef) := by
            match hL : args.toList.map a.eval, hargs with
            | [p], hh => simp only [VRs] at hh; exact hh.1
          refine same _ (lenA_sound (ty := ty) h hv) (lenA_plain h).1 (lenA_plain h).2 ?_
          subst e2
          simp only [execOp, resolve, e1]
          rfl
        · cases h
      case max =>
        split at h
        · rename_i vs hvs
          have := VR_toVs hvs hargs
          refine same _ (pureA_sound h ν w) (pureA_plain h).1 (pureA_plain h).2 ?_
          have e1 : args.map a.eval = vs.toArray := by apply Array.ext'; simpa using this
          simp only [execOp, resolve, e1]
          rfl
        · cases h
      case min =>
        split at h
        · rename_i vs hvs
          have := VR_toVs hvs hargs
          refine same _ (pureA_sound h ν w) (pureA_plain h).1 (pureA_plain h).2 ?_
          have e1 : args.map a.eval = vs.toArray := by apply Array.ext'; simpa using this
          simp only [execOp, resolve, e1]
          rfl
        · cases h
      case real =>
        split at h
        · rename_i vs hvs
          have := VR_toVs hvs hargs
          refine same _ (pureA_sound h ν w) (pureA_plain h).1 (pureA_plain h).2 ?_
          have e1 : args.map a.eval = vs.toArray := by apply Array.ext'; simpa using this
          simp only [execOp, resolve, e1]
          rfl
        · cases h
      case imag =>
        split at h
        · rename_i vs hvs
          have := VR_toVs hvs hargs
          refine same _ (pureA_sound h ν w) (pureA_plain h).1 (pureA_plain h).2 ?_
          have e1 : args.map a.eval = vs.toArray := by apply Array.ext'; simpa using this
          simp only [execOp, resolve, e1]
          rfl
        · cases h
      case complex =>
        split at h
        · rename_i vs hvs
          have := VR_toVs hvs hargs
          refine same _ (pureA_sound h ν w) (pureA_plain h).1 (pureA_plain h).2 ?_
          have e1 : args.map a.eval = vs.toArray := by apply Array.ext'; simpa using this
          simp only [execOp, resolve, e1]
          rfl
        · cases h
  | _ => simp only [opA] at h; cases h

end Go.Proofs.YtddhmidegldhdaaGreatDoor
