/- The abstract machine, 1: abstract values, abstract blocks, what they say of a frame and of a world. No conditions. -/
import Derived.Orders
import Derived.Tactics
import Derived.Below
import Derived.ProofKit
import Derived.WalkKit
import Derived.Laws.AppendOwn
import Derived.Laws.Rows
import Derived.Laws.Tables
import Derived.KernelRfl
namespace Go.Proofs.Ytkbdppnlojlcdaa
open Go.RowKit

/-- Where an abstract block lies: its number, where its first cell lies, its capacity in elements. -/
structure Bk where
  n : Nat
  o : Nat
  c : Nat

abbrev Nu := Nat → Option Bk

inductive AV where
  | v (x : Value)
  | ptr (i w j k : Nat)
  | sl (i w j k len : Nat) (cap : Option Nat)
  | own (i len : Nat)
  | agg (cs : List AV)
  | tup (cs : List AV)
  | fn (f : FuncId) (cs : List AV)
  | dead
  deriving Inhabited

mutual
def VR (ν : Nu) : AV → Value → Prop
  | .v x, y => y = x
  | .ptr i w j k, y => ∃ b, ν i = some b ∧ y = .pointer (some ⟨b.n, b.o + (j * w + k), none⟩)
  | .sl i w j k len cap, y => ∃ p c, y = .slice p len c ∧ (∀ c', cap = some c' → c = c') ∧ len ≤ c ∧ (0 < c → ∃ b, ν i = some b ∧ p = some ⟨b.n, b.o + (j * w + k), none⟩)
  | .own i len, y => ∃ b, ν i = some b ∧ y = .slice (some ⟨b.n, b.o, none⟩) len b.c
  | .agg cs, y => ∃ l, y = .agg (List.toArray l) ∧ VRs ν cs l
  | .tup cs, y => ∃ l, y = .tuple (List.toArray l) ∧ VRs ν cs l
  | .fn f cs, y => ∃ l, y = .func (.func f) #[] (List.toArray l) ∧ VRs ν cs l
  | .dead, _ => True
def VRs (ν : Nu) : List AV → List Value → Prop
  | [], [] => True
  | a :: as, y :: ys => VR ν a y ∧ VRs ν as ys
  | _, _ => False
end

inductive AB where
  | cells (cs : List AV) (t : TypeId)
  | row (rw : Bool) (n w : Nat) (g : Nat → List Value) (t : TypeId)
  | gone
  deriving Inhabited

def AB.wr : AB → Bool
  | .cells _ _ => true
  | .row rw _ _ _ _ => rw
  | .gone => false
def AB.live : AB → Bool
  | .gone => false
  | _ => true

def BR (ν : Nu) (i : Nat) : AB → World → Prop
  | .cells cs t, w => ∃ b l, ν i = some b ∧ b.o = 0 ∧ w.heap[b.n]? = some (.cells (List.toArray l) t (0, 0)) ∧ VRs ν cs l
  | .row rw n wd g t, w => (rw = false ∧ n = 0 ∧ ν i = none) ∨ ∃ b l t' fz, ν i = some b ∧ w.heap[b.n]? = some (.cells (List.toArray l) t' fz) ∧ (rw = true → fz = (0, 0) ∧ b.o = 0 ∧ t' = t ∧ l.length = b.c * wd ∧ b.c ≤ maxLen) ∧ n ≤ b.c ∧
      ∀ j, j < n → ((g j).length = wd ∧ ∀ x ∈ g j, x.oneCell' = true) ∧ ∀ k, k < wd → l[b.o + (j * wd + k)]? = (g j)[k]?
  | .gone, _ => True

def Le (ν ν' : Nu) : Prop := ∀ i b, ν i = some b → ν' i = some b
theorem Le.refl (ν : Nu) : Le ν ν := fun _ _ h => h
theorem Le.trans {a b c : Nu} (h : Le a b) (k : Le b c) : Le a c := fun i x hx => k i x (h i x hx)

mutual
theorem VR.le {ν ν' : Nu} (h : Le ν ν') : ∀ {a : AV} {y : Value}, VR ν a y → VR ν' a y
  | .v _, _, hv => by simpa only [VR] using hv
  | .ptr .., _, hv => by
    simp only [VR] at hv ⊢
    obtain ⟨b, h1, h2⟩ := hv
    exact ⟨b, h _ _ h1, h2⟩
  | .sl .., _, hv => by
    simp only [VR] at hv ⊢
    obtain ⟨p, c, h1, h2, h3, h4⟩ := hv
    exact ⟨p, c, h1, h2, h3, fun hc => let ⟨b, h5, h6⟩ := h4 hc; ⟨b, h _ _ h5, h6⟩⟩
  | .own .., _, hv => by
    simp only [VR] at hv ⊢
    obtain ⟨b, h1, h2⟩ := hv
    exact ⟨b, h _ _ h1, h2⟩
  | .agg cs, _, hv => by
    simp only [VR] at hv ⊢
    obtain ⟨l, h1, h2⟩ := hv
    exact ⟨l, h1, VRs.le h h2⟩
  | .tup cs, _, hv => by
    simp only [VR] at hv ⊢
    obtain ⟨l, h1, h2⟩ := hv
    exact ⟨l, h1, VRs.le h h2⟩
  | .fn _ cs, _, hv => by
    simp only [VR] at hv ⊢
    obtain ⟨l, h1, h2⟩ := hv
    exact ⟨l, h1, VRs.le h h2⟩
  | .dead, _, _ => by simp only [VR]
theorem VRs.le {ν ν' : Nu} (h : Le ν ν') : ∀ {as : List AV} {ys : List Value}, VRs ν as ys → VRs ν' as ys
  | [], [], _ => by simp only [VRs]
  | _ :: _, _ :: _, hv => by
    simp only [VRs] at hv ⊢
    exact ⟨VR.le h hv.1, VRs.le h hv.2⟩
  | [], _ :: _, hv => by simp only [VRs] at hv
  | _ :: _, [], hv => by simp only [VRs] at hv
end

theorem VRs.length {ν : Nu} : ∀ {as : List AV} {ys : List Value}, VRs ν as ys → as.length = ys.length
  | [], [], _ => rfl
  | _ :: _, _ :: _, hv => by
    simp only [VRs] at hv
    simp [VRs.length hv.2]
  | [], _ :: _, hv => by simp only [VRs] at hv
  | _ :: _, [], hv => by simp only [VRs] at hv

theorem VRs.get {ν : Nu} : ∀ {as : List AV} {ys : List Value} (_ : VRs ν as ys) {i : Nat} {a : AV}, as[i]? = some a → ∃ y, ys[i]? = some y ∧ VR ν a y
  | [], [], _, i, a, h => by simp at h
  | a0 :: as, y0 :: ys, hv, i, a, h => by
    simp only [VRs] at hv
    cases i with
    | zero => simp at h; subst h; exact ⟨y0, rfl, hv.1⟩
    | succ i => simpa using VRs.get hv.2 (i := i) (by simpa using h)
  | [], _ :: _, hv, _, _, _ => by simp only [VRs] at hv
  | _ :: _, [], hv, _, _, _ => by simp only [VRs] at hv

theorem VRs.of {ν : Nu} : ∀ {as : List AV} {ys : List Value}, as.length = ys.length → (∀ (i : Nat) a y, as[i]? = some a → ys[i]? = some y → VR ν a y) → VRs ν as ys
  | [], [], _, _ => by simp only [VRs]
  | a :: as, y :: ys, hl, h => by
    simp only [VRs]
    exact ⟨h 0 a y rfl rfl, VRs.of (by simpa using hl) fun i a' y' h1 h2 => h (i + 1) a' y' (by simpa using h1) (by simpa using h2)⟩
  | [], _ :: _, hl, _ => by simp at hl
  | _ :: _, [], hl, _ => by simp at hl

theorem VRs.take {ν : Nu} {as : List AV} {ys : List Value} (h : VRs ν as ys) (n : Nat) : VRs ν (as.take n) (ys.take n) :=
  VRs.of (by simp [h.length]) fun i a y h1 h2 => by
    rw [List.getElem?_take] at h1 h2
    split at h1
    · rename_i hlt
      rw [if_pos hlt] at h2
      obtain ⟨y', e1, e2⟩ := h.get h1
      rw [e1] at h2; cases h2; exact e2
    · cases h1

theorem VRs.drop {ν : Nu} {as : List AV} {ys : List Value} (h : VRs ν as ys) (n : Nat) : VRs ν (as.drop n) (ys.drop n) :=
  VRs.of (by simp [h.length]) fun i a y h1 h2 => by
    rw [List.getElem?_drop] at h1 h2
    obtain ⟨y', e1, e2⟩ := h.get h1
    rw [e1] at h2; cases h2; exact e2

theorem VRs.append {ν : Nu} : ∀ {as bs : List AV} {ys zs : List Value}, VRs ν as ys → VRs ν bs zs → VRs ν (as ++ bs) (ys ++ zs)
  | [], _, [], _, _, h2 => h2
  | _ :: _, _, _ :: _, _, h1, h2 => by
    simp only [VRs, List.cons_append] at h1 ⊢
    exact ⟨h1.1, h1.2.append h2⟩
  | [], _, _ :: _, _, h1, _ => by simp only [VRs] at h1
  | _ :: _, _, [], _, h1, _ => by simp only [VRs] at h1

theorem VRs.map_v {ν : Nu} : ∀ (l : List Value), VRs ν (l.map .v) l
  | [] => by simp only [VRs, List.map_nil]
  | x :: l => by
    simp only [List.map_cons, VRs, VR]
    exact ⟨trivial, VRs.map_v l⟩

theorem VRs.map_v_eq {ν : Nu} : ∀ {l ys : List Value}, VRs ν (l.map .v) ys → ys = l
  | [], [], _ => rfl
  | x :: l, y :: ys, h => by
    simp only [List.map_cons, VRs, VR] at h
    rw [h.1, VRs.map_v_eq h.2]
  | [], _ :: _, h => by simp only [List.map_nil, VRs] at h
  | _ :: _, [], h => by simp only [List.map_cons, VRs] at h

mutual
def AV.toV : AV → Option Value
  | .v x => some x
  | .agg cs => (AV.toVs cs).map fun l => .agg l.toArray
  | .tup cs => (AV.toVs cs).map fun l => .tuple l.toArray
  | .fn f [] => some (.func (.func f) #[] #[])
  | _ => none
def AV.toVs : List AV → Option (List Value)
  | [] => some []
  | a :: as => match AV.toV a, AV.toVs as with
    | some x, some xs => some (x :: xs)
    | _, _ => none
end

mutual
theorem VR_toV {ν : Nu} : ∀ {a : AV} {x y : Value}, a.toV = some x → VR ν a y → y = x
  | .v _, _, _, h, hv => by
    simp only [AV.toV, Option.some.injEq] at h
    simp only [VR] at hv
    rw [hv, h]
  | .agg cs, _, _, h, hv => by
    simp only [AV.toV, Option.map_eq_some_iff] at h
    simp only [VR] at hv
    obtain ⟨l, h1, rfl⟩ := h
    obtain ⟨l', rfl, h2⟩ := hv
    rw [VR_toVs h1 h2]
  | .tup cs, _, _, h, hv => by
    simp only [AV.toV, Option.map_eq_some_iff] at h
    simp only [VR] at hv
    obtain ⟨l, h1, rfl⟩ := h
    obtain ⟨l', rfl, h2⟩ := hv
    rw [VR_toVs h1 h2]
  | .ptr .., _, _, h, _ => by simp [AV.toV] at h
  | .sl .., _, _, h, _ => by simp [AV.toV] at h
  | .own .., _, _, h, _ => by simp [AV.toV] at h
  | .fn f [], _, _, h, hv => by
    simp only [AV.toV, Option.some.injEq] at h
    simp only [VR] at hv
    obtain ⟨l, rfl, h2⟩ := hv
    cases l with
    | nil => exact h
    | cons => simp only [VRs] at h2
  | .fn _ (_ :: _), _, _, h, _ => by simp [AV.toV] at h
  | .dead, _, _, h, _ => by simp [AV.toV] at h
theorem VR_toVs {ν : Nu} : ∀ {as : List AV} {xs ys : List Value}, AV.toVs as = some xs → VRs ν as ys → ys = xs
  | [], xs, ys, h, hv => by
    simp only [AV.toVs, Option.some.injEq] at h
    subst h
    cases ys with
    | nil => rfl
    | cons _ _ => simp only [VRs] at hv
  | a :: as, xs, ys, h, hv => by
    cases ys with
    | nil => simp only [VRs] at hv
    | cons y ys =>
      simp only [VRs] at hv
      simp only [AV.toVs] at h
      split at h
      · rename_i x xs' h1 h2
        simp only [Option.some.injEq] at h
        subst h
        rw [VR_toV h1 hv.1, VR_toVs h2 hv.2]
      · cases h
end

def AV.cells : AV → Option (List AV)
  | .v (.agg arr) => some (arr.toList.map .v)
  | .v (.tuple _) => none
  | .v x => some [.v x]
  | .agg cs => some cs
  | .tup _ => none
  | .dead => none
  | a => some [a]

theorem VR_cells {ν : Nu} {a : AV} {cs : List AV} {y : Value} (h : a.cells = some cs) (hv : VR ν a y) : VRs ν cs y.cells.toList := by
  cases a with
  | v x =>
    simp only [VR] at hv
    subst hv
    cases y <;> simp only [AV.cells, Option.some.injEq, reduceCtorEq] at h <;> subst h <;> simp only [Value.cells]
    case agg arr => exact VRs.map_v _
    all_goals simp [VRs, VR]
  | agg cs' =>
    simp only [AV.cells, Option.some.injEq] at h
    subst h
    simp only [VR] at hv
    obtain ⟨l, rfl, h2⟩ := hv
    simpa [Value.cells] using h2
  | tup => simp [AV.cells] at h
  | dead => simp [AV.cells] at h
  | ptr i w j k =>
    simp only [AV.cells, Option.some.injEq] at h
    subst h
    have hv' := hv
    simp only [VR] at hv
    obtain ⟨b, _, rfl⟩ := hv
    simp only [Value.cells, VRs]
    exact ⟨hv', trivial⟩
  | sl i w j k len cap =>
    simp only [AV.cells, Option.some.injEq] at h
    subst h
    have hv' := hv
    simp only [VR] at hv
    obtain ⟨p, c, rfl, _⟩ := hv
    simp only [Value.cells, VRs]
    exact ⟨hv', trivial⟩
  | own i len =>
    simp only [AV.cells, Option.some.injEq] at h
    subst h
    have hv' := hv
    simp only [VR] at hv
    obtain ⟨b, _, rfl⟩ := hv
    simp only [Value.cells, VRs]
    exact ⟨hv', trivial⟩
  | fn f cs' =>
    simp only [AV.cells, Option.some.injEq] at h
    subst h
    have hv' := hv
    simp only [VR] at hv
    obtain ⟨l, rfl, _⟩ := hv
    simp only [Value.cells, VRs]
    exact ⟨hv', trivial⟩

/-- One cell: no whole value of several cells. -/
def AV.flat : AV → Bool
  | .v (.agg _) => false
  | .v (.tuple _) => false
  | .v (.bool _) | .v (.int _ _) | .v (.float _ _) | .v (.complex _ _ _) | .v (.string _) | .v (.pointer _) | .v (.slice _ _ _) | .v .nilFunc | .v .nilIface | .v (.func _ _ _) | .v (.iface _ _) | .v (.map _) => true
  | .ptr .. | .sl .. | .own .. | .fn .. => true
  | _ => false

theorem VR_flat {ν : Nu} {a : AV} {y : Value} (h : a.flat = true) (hv : VR ν a y) : y.oneCell' = true := by
  cases a with
  | v x =>
    simp only [VR] at hv
    subst hv
    cases y <;> simp_all [AV.flat, Value.oneCell']
  | ptr => simp only [VR] at hv; obtain ⟨b, _, rfl⟩ := hv; rfl
  | sl => simp only [VR] at hv; obtain ⟨p, c, rfl, _⟩ := hv; rfl
  | own => simp only [VR] at hv; obtain ⟨b, _, rfl⟩ := hv; rfl
  | fn => simp only [VR] at hv; obtain ⟨l, rfl, _⟩ := hv; rfl
  | agg => simp [AV.flat] at h
  | tup => simp [AV.flat] at h
  | dead => simp [AV.flat] at h

/-- A run that touches neither memory nor the tape. -/
def pureRun (P : Program) {α : Type} : Sem α → Option α
  | .pure a => some a
  | .program k => pureRun P (k P)
  | .mark _ k => pureRun P k
  | _ => none

theorem pureRun_run {P : Program} {α : Type} {s : Sem α} {a : α} (h : pureRun P s = some a) (w : World) : s.run P w = .ok a w := by
  induction s with
  | pure x => simp only [pureRun, Option.some.injEq] at h; subst h; rfl
  | program k ih => simp only [pureRun] at h; simpa [Sem.run] using ih _ h
  | mark m k ih => simp only [pureRun] at h; simpa [Sem.run] using ih h
  | _ => simp [pureRun] at h

/-- What the blocks of H say of the world: those that may be written lie apart from all others, and within M. -/
structure RH (M : Nat → Prop) (ν : Nu) (H : Nat → AB) (w : World) : Prop where
  br : ∀ i, BR ν i (H i) w
  sep : ∀ i j b b', i ≠ j → (H i).wr = true → (H j).live = true → ν i = some b → ν j = some b' → b.n ≠ b'.n
  own : ∀ i b, (H i).wr = true → ν i = some b → M b.n
  lt : ∀ i b, ν i = some b → b.n < w.heap.size

/-- What has been kept since w0: all blocks outside M. -/
structure Fr (M : Nat → Prop) (w0 w : World) : Prop where
  os : w.os = w0.os
  tape : w.tape = w0.tape
  output : w.output = w0.output
  size : w0.heap.size ≤ w.heap.size
  block : ∀ k, k < w0.heap.size → ¬ M k → w.heap[k]? = w0.heap[k]?

theorem Fr.refl (M : Nat → Prop) (w : World) : Fr M w w := ⟨rfl, rfl, rfl, Nat.le_refl _, fun _ _ _ => rfl⟩
theorem Fr.trans {M : Nat → Prop} {a b c : World} (h : Fr M a b) (k : Fr M b c) : Fr M a c :=
  ⟨k.os.trans h.os, k.tape.trans h.tape, k.output.trans h.output, Nat.le_trans h.size k.size, fun i hi hm => (k.block i (Nat.lt_of_lt_of_le hi h.size) hm).trans (h.block i hi hm)⟩
theorem Fr.mono {M M' : Nat → Prop} {a b : World} (h : Fr M a b) (hm : ∀ k, k < a.heap.size → M k → M' k) : Fr M' a b :=
  ⟨h.os, h.tape, h.output, h.size, fun k hk hn => h.block k hk fun hM => hn (hm k hk hM)⟩
theorem Fr.drew {M : Nat → Prop} {a w : World} (h : Fr M a w) : Fr M a { w with drawn := w.drawn + 1 } := ⟨h.os, h.tape, h.output, h.size, h.block⟩
theorem Fr.below {w w' : World} (h : Fr (fun _ => False) w w') : Below w.heap.size w w' := ⟨h.os, h.tape, h.output, h.size, fun k hk => h.block k hk fun f => f⟩
theorem Below.fr {w w' : World} (h : Below w.heap.size w w') : Fr (fun _ => False) w w' := ⟨h.os, h.tape, h.output, h.size, fun k hk _ => h.block k hk⟩

theorem BR.of_block {ν : Nu} {i : Nat} {b : AB} {w w' : World} (h : BR ν i b w) (hb : ∀ k, ν i = some k → b.live = true → w'.heap[k.n]? = w.heap[k.n]?) : BR ν i b w' := by
  cases b with
  | cells cs t =>
    obtain ⟨b, l, h1, h2, h3, h4⟩ := h
    exact ⟨b, l, h1, h2, (hb b h1 rfl).trans h3, h4⟩
  | row rw n wd g t =>
    rcases h with h | ⟨b, l, t', fz, h1, h2, h3⟩
    · exact .inl h
    · exact .inr ⟨b, l, t', fz, h1, (hb b h1 rfl).trans h2, h3⟩
  | gone => trivial

theorem BR.le {ν ν' : Nu} {i : Nat} {b : AB} {w : World} (hl : Le ν ν') (hn : ν i = none → ν' i = none) (h : BR ν i b w) : BR ν' i b w := by
  cases b with
  | cells cs t =>
    obtain ⟨b, l, h1, h2, h3, h4⟩ := h
    exact ⟨b, l, hl _ _ h1, h2, h3, h4.le hl⟩
  | row rw n wd g t =>
    rcases h with ⟨h1, h2, h3⟩ | ⟨b, l, t', fz, h1, h2, h3⟩
    · exact .inl ⟨h1, h2, hn h3⟩
    · exact .inr ⟨b, l, t', fz, hl _ _ h1, h2, h3⟩
  | gone => trivial

/-- What one operation does, abstractly. -/
structure Delta where
  val : AV
  rd : List Nat := []
  put : List (Nat × AB) := []
  new : List AB := []
  obl : List Bool := []

def lookB (i : Nat) : List (Nat × AB) → Option AB
  | [] => none
  | p :: l => if p.1 = i then some p.2 else lookB i l

theorem lookB_mem {i : Nat} {b : AB} : ∀ {l : List (Nat × AB)}, lookB i l = some b → (i, b) ∈ l
  | [], h => by simp [lookB] at h
  | p :: l, h => by
    simp only [lookB] at h
    split at h
    · rename_i e; cases h; subst e; exact List.mem_cons_self
    · exact List.mem_cons_of_mem _ (lookB_mem h)

theorem lookB_none {i : Nat} : ∀ {l : List (Nat × AB)}, lookB i l = none → ∀ p ∈ l, p.1 ≠ i
  | [], _ => by simp
  | p :: l, h => by
    simp only [lookB] at h
    split at h
    · cases h
    · rename_i e
      intro q hq
      rcases List.mem_cons.1 hq with rfl | hq
      · exact e
      · exact lookB_none h q hq

/-- What one operation did: v its value; 'base' the first number of its new blocks. -/
structure Did (ν ν' : Nu) (base : Nat) (δ : Delta) (w w' : World) (v : Value) : Prop where
  le : Le ν ν'
  dom : ∀ i, ν i = none → ν' i ≠ none → base ≤ i ∧ i < base + δ.new.length
  val : VR ν' δ.val v
  put : ∀ i b, lookB i δ.put = some b → BR ν' i b w'
  new : ∀ j b, δ.new[j]? = some b → BR ν' (base + j) b w'
  os : w'.os = w.os
  tape : w'.tape = w.tape
  output : w'.output = w.output
  size : w.heap.size ≤ w'.heap.size
  block : ∀ k, k < w.heap.size → (∀ p b, p ∈ δ.put → ν p.1 = some b → b.n ≠ k) → w'.heap[k]? = w.heap[k]?
  fresh : ∀ j b, j < δ.new.length → ν' (base + j) = some b → b.n < w'.heap.size ∧ (w.heap.size ≤ b.n ∨ ∃ i b0, lookB i δ.put = some AB.gone ∧ ν i = some b0 ∧ b0.n = b.n)
  apart : ∀ j j' b b', j ≠ j' → j < δ.new.length → j' < δ.new.length → ν' (base + j) = some b → ν' (base + j') = some b' → b.n ≠ b'.n

/-- The blocks behind an operation. -/
def appF (base : Nat) (δ : Delta) (H : Nat → AB) : Nat → AB := fun i =>
  if base ≤ i ∧ i < base + δ.new.length then δ.new.getD (i - base) .gone else (lookB i δ.put).getD (H i)

theorem RH.step {M : Nat → Prop} {ν ν' : Nu} {H : Nat → AB} {base : Nat} {δ : Delta} {w w' : World} {v : Value} (h : RH M ν H w) (hM : ∀ k, w.heap.size ≤ k → M k) (d : Did ν ν' base δ w w' v)
    (hput : ∀ p ∈ δ.put, (H p.1).wr = true) (hnew : ∀ j, j < δ.new.length → ν (base + j) = none) : RH M ν' (appF base δ H) w' := by
  have old : ∀ i, ¬ (base ≤ i ∧ i < base + δ.new.length) → ∀ b, ν' i = some b → ν i = some b := by
    intro i hi b hb
    cases hn : ν i with
    | none => exact absurd (d.dom i hn (by rw [hb]; simp)) hi
    | some b0 => rw [d.le _ _ hn] at hb; exact hb
  have isnew : ∀ i, base ≤ i ∧ i < base + δ.new.length → ∃ j, j < δ.new.length ∧ i = base + j := fun i hi => ⟨i - base, by omega, by omega⟩
  have wrlive : ∀ b : AB, b.wr = true → b.live = true := fun b hb => by cases b <;> simp_all [AB.wr, AB.live]
  have oldwr : ∀ i, ¬ (base ≤ i ∧ i < base + δ.new.length) → ((appF base δ H) i).wr = true → (H i).wr = true := by
    intro i hi hw
    simp only [appF, if_neg hi] at hw
    cases hl : lookB i δ.put with
    | none => simpa [hl] using hw
    | some b => exact hput _ (lookB_mem hl)
  have oldlive : ∀ i, ¬ (base ≤ i ∧ i < base + δ.new.length) → ((appF base δ H) i).live = true → (H i).live = true := by
    intro i hi hw
    simp only [appF, if_neg hi] at hw
    cases hl : lookB i δ.put with
    | none => simpa [hl] using hw
    | some b => exact wrlive _ (hput _ (lookB_mem hl))
  have notgone : ∀ i, ¬ (base ≤ i ∧ i < base + δ.new.length) → ((appF base δ H) i).live = true → ∀ i' b0 b, ν i = some b → lookB i' δ.put = some .gone → ν i' = some b0 → b0.n ≠ b.n := by
    intro i hi hw i' b0 b hb h1 h2
    have hne : i' ≠ i := by
      rintro rfl
      simp only [appF, if_neg hi, h1, Option.getD_some, AB.live] at hw
      cases hw
    exact h.sep i' i b0 b hne (hput _ (lookB_mem h1)) (oldlive i hi hw) h2 hb
  refine ⟨fun i => ?_, ?_, ?_, ?_⟩
  · by_cases hi : base ≤ i ∧ i < base + δ.new.length
    · obtain ⟨j, hj, rfl⟩ := isnew i hi
      simp only [appF, if_pos hi, Nat.add_sub_cancel_left]
      have : δ.new[j]? = some δ.new[j] := by simp [hj]
      rw [List.getD_eq_getElem?_getD, this]
      exact d.new j _ this
    · simp only [appF, if_neg hi]
      cases hl : lookB i δ.put with
      | some b => exact d.put _ _ hl
      | none =>
        refine ((h.br i).of_block fun k hk hlive => d.block k.n (h.lt i k hk) ?_).le d.le ?_
        · intro p b hp hb
          exact h.sep p.1 i b k (lookB_none hl p hp) (hput p hp) hlive hb hk
        · intro hn
          cases hn' : ν' i with
          | none => rfl
          | some z => exact absurd (d.dom i hn (by rw [hn']; simp)) hi
  · intro i j b b' hne hwi hlj hbi hbj
    by_cases hi : base ≤ i ∧ i < base + δ.new.length
    · obtain ⟨x, hx, rfl⟩ := isnew i hi
      by_cases hj : base ≤ j ∧ j < base + δ.new.length
      · obtain ⟨y, hy, rfl⟩ := isnew j hj
        exact d.apart x y b b' (by omega) hx hy hbi hbj
      · have hbj' := old j hj b' hbj
        rcases (d.fresh x b hx hbi).2 with hf | ⟨i', b0, h1, h2, h3⟩
        · have := h.lt j b' hbj'
          omega
        · rw [← h3]
          exact notgone j hj hlj i' b0 b' hbj' h1 h2
    · by_cases hj : base ≤ j ∧ j < base + δ.new.length
      · obtain ⟨y, hy, rfl⟩ := isnew j hj
        have hbi' := old i hi b hbi
        rcases (d.fresh y b' hy hbj).2 with hf | ⟨i', b0, h1, h2, h3⟩
        · have := h.lt i b hbi'
          omega
        · rw [← h3]
          exact (notgone i hi (wrlive _ hwi) i' b0 b hbi' h1 h2).symm
      · exact h.sep i j b b' hne (oldwr i hi hwi) (oldlive j hj hlj) (old i hi b hbi) (old j hj b' hbj)
  · intro i b hw hb
    by_cases hi : base ≤ i ∧ i < base + δ.new.length
    · obtain ⟨x, hx, rfl⟩ := isnew i hi
      rcases (d.fresh x b hx hb).2 with hf | ⟨i', b0, h1, h2, h3⟩
      · exact hM _ hf
      · rw [← h3]; exact h.own i' b0 (hput _ (lookB_mem h1)) h2
    · exact h.own i b (oldwr i hi hw) (old i hi b hb)
  · intro i b hb
    by_cases hi : base ≤ i ∧ i < base + δ.new.length
    · obtain ⟨x, hx, rfl⟩ := isnew i hi
      exact (d.fresh x b hx hb).1
    · exact Nat.lt_of_lt_of_le (h.lt i b (old i hi b hb)) d.size

theorem Did.fr {M : Nat → Prop} {ν ν' : Nu} {H : Nat → AB} {base : Nat} {δ : Delta} {w0 w w' : World} {v : Value} (h : RH M ν H w) (d : Did ν ν' base δ w w' v) (hput : ∀ p ∈ δ.put, (H p.1).wr = true) (f : Fr M w0 w) : Fr M w0 w' :=
  f.trans ⟨d.os, d.tape, d.output, d.size, fun k hk hm => d.block k hk fun p b hp hb e => hm (e ▸ h.own p.1 b (hput p hp) hb)⟩

end Go.Proofs.Ytkbdppnlojlcdaa
