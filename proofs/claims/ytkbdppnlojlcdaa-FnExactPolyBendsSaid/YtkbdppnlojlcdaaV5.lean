/- The abstract machine, 5: operations that only reckon. No conditions. -/
import Derived.Test.YtkbdppnlojlcdaaV4
namespace Go.Proofs.Ytkbdppnlojlcdaa
open Go.RowKit

def evA (T : List AV) : Operand → AV
  | .tmp t => T.getD t .dead
  | .const v => .v v
  | .global g => .v (.pointer (some ⟨g, 0, none⟩))
  | .func f => .fn f []

def fieldAddrA (P : Program) (S : TypeId) (x : AV) (f : Nat) : Option AV :=
  match P.underlying S, x with
  | some (.struct fields), .ptr i w j k => match fields[f]? with
    | some fd => match szA P fd.type with
      | some (_ + 1) => some (.ptr i w j (k + fd.offset))
      | _ => none
    | none => none
  | _, _ => none

theorem fieldAddrA_sound {P : Program} {S : TypeId} {x r : AV} {f : Nat} {ν : Nu} {y : Value} {w : World} (h : fieldAddrA P S x f = some r) (hv : VR ν x y) : ∃ v, (Instr.fieldAt S y f).run P w = .ok v w ∧ VR ν r v := by
  unfold fieldAddrA at h
  split at h
  · rename_i fields i wd j k hu
    split at h
    · rename_i fd hf
      split at h
      · rename_i s hs
        simp only [Option.some.injEq] at h
        subst h
        simp only [VR] at hv
        obtain ⟨b, hb, rfl⟩ := hv
        refine ⟨.pointer (some ⟨b.n, b.o + (j * wd + (k + fd.offset)), none⟩), ?_, ?_⟩
        · simp [Instr.fieldAt, run_underlying hu, hf, Instr.sureAddr, fieldPlace, run_sizeOf' hs, addr_add]
        · simp only [VR]
          exact ⟨b, hb, rfl⟩
      · cases h
    · cases h
  · cases h

/-- The address of an element. -/
def indexAddrA (P : Program) (H : List AB) (t : TypeId) (x idx : AV) : Option Delta :=
  match P.underlying t, x, idx with
  | some (.array len e), .ptr i w j k, .v (.int _ n) => match szA P e with
    | some s => some { val := .ptr i w j (k + n.toNat * s), obl := [decide (0 ≤ n), decide (n < len)] }
    | none => none
  | some (.slice e), .own i len, .v (.int _ n) => match szA P e with
    | some s => some { val := .ptr i s n.toNat 0, obl := [decide (0 ≤ n), decide (n < len)] }
    | none => none
  | some (.slice e), .sl i w j k len _, .v (.int _ n) => match szA P e with
    | some s => if w = s then some { val := .ptr i w (j + n.toNat) k, obl := [decide (0 ≤ n), decide (n < len)] } else none
    | none => none
  | _, _, _ => none

theorem indexAddrA_plain {P : Program} {H : List AB} {t : TypeId} {x idx : AV} {δ : Delta} (h : indexAddrA P H t x idx = some δ) : δ.put = [] ∧ δ.new = [] := by
  unfold indexAddrA at h
  repeat (first | split at h | (simp only [Option.some.injEq] at h; subst h; exact ⟨rfl, rfl⟩) | cases h)

theorem indexAddrA_sound {P : Program} {H : List AB} {t : TypeId} {x idx : AV} {δ : Delta} {ν : Nu} {y z : Value} {w : World} (h : indexAddrA P H t x idx = some δ) (ho : obls δ.obl = true) (hv : VR ν x y) (hz : VR ν idx z) : ∃ v, (Instr.indexAt t y z).run P w = .ok v w ∧ VR ν δ.val v := by
  unfold indexAddrA at h
  split at h
  · rename_i len e i wd j k kk n hu
    split at h
    · rename_i s hs
      simp only [Option.some.injEq] at h
      subst h
      simp only [obls, List.all_cons, List.all_nil, Bool.and_true, id, Bool.and_eq_true, decide_eq_true_eq] at ho
      simp only [VR] at hv hz
      obtain ⟨b, hb, rfl⟩ := hv
      subst hz
      refine ⟨.pointer (some ⟨b.n, b.o + (j * wd + (k + n.toNat * s)), none⟩), ?_, ?_⟩
      · simp [Instr.indexAt, asIntOf, run_underlying hu, Instr.sureAddr, ho.1, ho.2, run_sizeOf' hs, addr_add]
      · simp only [VR]
        exact ⟨b, hb, rfl⟩
    · cases h
  · rename_i e i len kk n hu
    split at h
    · rename_i s hs
      simp only [Option.some.injEq] at h
      subst h
      simp only [obls, List.all_cons, List.all_nil, Bool.and_true, id, Bool.and_eq_true, decide_eq_true_eq] at ho
      simp only [VR] at hv hz
      obtain ⟨b, hb, rfl⟩ := hv
      subst hz
      refine ⟨.pointer (some ⟨b.n, b.o + (n.toNat * s + 0), none⟩), ?_, ?_⟩
      · simp [Instr.indexAt, asIntOf, run_underlying hu, ho.1, ho.2, run_sizeOf' hs, addr_add]
      · simp only [VR]
        exact ⟨b, hb, rfl⟩
    · cases h
  · rename_i e i wd j k len cap kk n hu
    split at h
    · rename_i s hs
      split at h
      · rename_i hw
        subst hw
        simp only [Option.some.injEq] at h
        subst h
        simp only [obls, List.all_cons, List.all_nil, Bool.and_true, id, Bool.and_eq_true, decide_eq_true_eq] at ho
        simp only [VR] at hv hz
        obtain ⟨p, c, rfl, _, hlc, hp⟩ := hv
        subst hz
        obtain ⟨b, hb, rfl⟩ := hp (by omega)
        refine ⟨.pointer (some ⟨b.n, b.o + ((j + n.toNat) * wd + k), none⟩), ?_, ?_⟩
        · simp [Instr.indexAt, asIntOf, run_underlying hu, ho.1, ho.2, run_sizeOf' hs, addr_add, Nat.add_mul]
        · simp only [VR]
          exact ⟨b, hb, rfl⟩
      · cases h
    · cases h
  · cases h

/-- A part of a value of several cells. -/
def partA (P : Program) (t : TypeId) (cs : List AV) (off : Nat) : Option AV :=
  match aggA P t, szA P t with
  | some true, some s => some (.agg ((cs.drop off).take s))
  | some false, some _ => cs[off]?
  | _, _ => none

theorem partA_sound {P : Program} {t : TypeId} {cs : List AV} {off : Nat} {r : AV} {ν : Nu} {l : List Value} {w : World} (h : partA P t cs off = some r) (hv : VRs ν cs l) : ∃ v, (part t l.toArray off).run P w = .ok v w ∧ VR ν r v := by
  unfold partA at h
  split at h
  · rename_i s ha hs
    simp only [Option.some.injEq] at h
    subst h
    refine ⟨.agg ((l.drop off).take s).toArray, ?_, ?_⟩
    · simp [part, run_isAgg ha, run_sizeOf' hs]
    · simp only [VR]
      exact ⟨_, rfl, (hv.drop _).take _⟩
  · rename_i s ha hs
    obtain ⟨y, hy, hr⟩ := hv.get h
    refine ⟨y, ?_, hr⟩
    simp [part, run_isAgg ha, hy]
  · cases h

def AV.parts : AV → Option (List AV)
  | .v (.agg arr) => some (arr.toList.map .v)
  | .agg cs => some cs
  | _ => none

theorem VR_parts {ν : Nu} {a : AV} {cs : List AV} {y : Value} (h : a.parts = some cs) (hv : VR ν a y) : ∃ l : List Value, y = .agg l.toArray ∧ VRs ν cs l := by
  unfold AV.parts at h
  split at h
  · rename_i arr
    simp only [Option.some.injEq] at h
    subst h
    simp only [VR] at hv
    exact ⟨arr.toList, by simp [hv], VRs.map_v _⟩
  · simp only [Option.some.injEq] at h
    subst h
    simp only [VR] at hv
    exact hv
  · cases h

def fieldA (P : Program) (S : TypeId) (x : AV) (f : Nat) : Option AV :=
  match P.underlying S, x.parts with
  | some (.struct fields), some cs => match fields[f]? with
    | some fd => partA P fd.type cs fd.offset
    | none => none
  | _, _ => none

theorem fieldA_sound {P : Program} {S : TypeId} {x r : AV} {f : Nat} {ν : Nu} {y : Value} {w : World} (h : fieldA P S x f = some r) (hv : VR ν x y) : ∃ v, (Instr.field S y f).run P w = .ok v w ∧ VR ν r v := by
  unfold fieldA at h
  split at h
  · rename_i fields cs hu hp
    split at h
    · rename_i fd hf
      obtain ⟨l, rfl, hl⟩ := VR_parts hp hv
      obtain ⟨v, h1, h2⟩ := partA_sound (w := w) h hl
      refine ⟨v, ?_, h2⟩
      simp [Instr.field, run_underlying hu, hf, asAgg, h1]
    · cases h
  · cases h

def indexA (P : Program) (t : TypeId) (x idx : AV) : Option (AV × List Bool) :=
  match P.underlying t, idx with
  | some (.array len e), .v (.int _ n) => match szA P e, x.parts with
    | some s, some cs => (partA P e cs (n.toNat * s)).map fun r => (r, [decide (0 ≤ n), decide (n < len)])
    | _, _ => none
  | some .string, .v (.int _ n) => match x with
    | .v (.string s) => some (.v (.int .u8 ((s.data[n.toNat]!).toNat : Nat)), [decide (0 ≤ n), decide (n < s.size)])
    | _ => none
  | _, _ => none

theorem indexA_sound {P : Program} {t : TypeId} {x idx r : AV} {ob : List Bool} {ν : Nu} {y z : Value} {w : World} (h : indexA P t x idx = some (r, ob)) (ho : obls ob = true) (hv : VR ν x y) (hz : VR ν idx z) : ∃ v, (Instr.index t y z).run P w = .ok v w ∧ VR ν r v := by
  unfold indexA at h
  split at h
  · rename_i len e kk n hu
    split at h
    · rename_i s cs hs hp
      simp only [Option.map_eq_some_iff] at h
      obtain ⟨r', h1, h2⟩ := h
      simp only [Prod.mk.injEq] at h2
      obtain ⟨rfl, rfl⟩ := h2
      simp only [obls, List.all_cons, List.all_nil, Bool.and_true, id, Bool.and_eq_true, decide_eq_true_eq] at ho
      obtain ⟨l, rfl, hl⟩ := VR_parts hp hv
      obtain ⟨v, h3, h4⟩ := partA_sound (w := w) h1 hl
      simp only [VR] at hz
      subst hz
      exact ⟨v, by simp [Instr.index, asIntOf, run_underlying hu, ho.1, ho.2, run_sizeOf' hs, h3], h4⟩
    · cases h
  · rename_i kk n hu
    split at h
    · rename_i s
      simp only [Option.some.injEq, Prod.mk.injEq] at h
      obtain ⟨rfl, rfl⟩ := h
      simp only [obls, List.all_cons, List.all_nil, Bool.and_true, id, Bool.and_eq_true, decide_eq_true_eq] at ho
      simp only [VR] at hv hz
      subst hv hz
      refine ⟨.int .u8 ((s.data[n.toNat]!).toNat : Nat), ?_, by simp only [VR]⟩
      have hlt : n.toNat < s.size := by omega
      have hg : s[n.toNat]? = some s[n.toNat] := by simp [hlt]
      simp only [Instr.index, asIntOf]
      simp [run_underlying hu, ho.1, hg]
      have : n.toNat < s.data.size := hlt
      rw [getElem!_pos s.data n.toNat this]
      rfl
    · cases h
  · cases h

def bndA : Option AV → Option (Option Int)
  | none => some none
  | some (.v (.int _ n)) => some (some n)
  | _ => none

def sliceA (P : Program) (H : List AB) (t : TypeId) (x : AV) (lo hi mx : Option AV) : Option Delta :=
  match P.underlying t, x, bndA lo, bndA hi, bndA mx with
  | some (.slice e), .own i len, some l, some h, some m => match szA P e, H.getD i .gone with
    | some s, .row _ n _ _ _ => if m.isSome && h.isNone then none else
      some { val := .sl i s (l.getD 0).toNat 0 ((h.getD len) - (l.getD 0)).toNat (m.map fun m => (m - (l.getD 0)).toNat), rd := [i],
             obl := [decide (0 ≤ l.getD 0), decide (l.getD 0 ≤ h.getD len), decide (h.getD len ≤ m.getD len), decide (m.getD len ≤ len), Nat.ble len n] }
    | _, _ => none
  | some (.slice e), .sl i w j k len cap, some l, some h, some m => match szA P e with
    | some s => if m.isSome && h.isNone then none else if w = s then
      some { val := .sl i w (j + (l.getD 0).toNat) k ((h.getD len) - (l.getD 0)).toNat (match m with | some m => some (m - (l.getD 0)).toNat | none => cap.map fun c => c - (l.getD 0).toNat),
             obl := [decide (0 ≤ l.getD 0), decide (l.getD 0 ≤ h.getD len), decide (h.getD len ≤ m.getD len), decide (m.getD len ≤ len)] }
      else none
    | none => none
  | some .string, .v (.string s), some l, some h, some none =>
      some { val := .v (.string (s.extract (l.getD 0).toNat (h.getD s.size).toNat)), obl := [decide (0 ≤ l.getD 0), decide (l.getD 0 ≤ h.getD s.size), decide (h.getD s.size ≤ s.size)] }
  | some (.array n e), .ptr i w j k, some none, some none, some none => match szA P e with
    | some s => some { val := .sl i s 0 (j * w + k) n (some n) }
    | none => none
  | _, _, _, _, _ => none

theorem sliceA_plain {P : Program} {H : List AB} {t : TypeId} {x : AV} {lo hi mx : Option AV} {δ : Delta} (h : sliceA P H t x lo hi mx = some δ) : δ.put = [] ∧ δ.new = [] := by
  unfold sliceA at h
  repeat (first | split at h | (simp only [Option.some.injEq] at h; subst h; exact ⟨rfl, rfl⟩) | cases h)

inductive BndOk (ν : Nu) : Option AV → Option Value → Prop
  | none : BndOk ν none none
  | some {a v} : VR ν a v → BndOk ν (some a) (some v)

theorem bndA_val {ν : Nu} {a : Option AV} {v : Option Value} {n : Option Int} (h : bndA a = some n) (hv : BndOk ν a v) : (n = none ∧ v = none) ∨ ∃ k m, n = some m ∧ v = some (.int k m) := by
  cases hv with
  | none => simp [bndA] at h; exact .inl ⟨h.symm, rfl⟩
  | some hv =>
    unfold bndA at h
    split at h
    · rename_i e; cases e
    · rename_i k m e
      cases e
      simp only [Option.some.injEq] at h
      subst h
      simp only [VR] at hv
      exact .inr ⟨k, m, rfl, by rw [hv]⟩
    · cases h

theorem sliceBounds_run {P : Program} {w : World} {isS : Bool} {len cap : Nat} {lo hi mx : Option Value} {l h m : Option Int} (h1 : (l = none ∧ lo = none) ∨ ∃ k n, l = some n ∧ lo = some (.int k n)) (h2 : (h = none ∧ hi = none) ∨ ∃ k n, h = some n ∧ hi = some (.int k n))
    (h3 : (m = none ∧ mx = none) ∨ ∃ k n, m = some n ∧ mx = some (.int k n)) (hmh : (m.isSome && h.isNone) = false) (b1 : 0 ≤ l.getD 0) (b2 : l.getD 0 ≤ h.getD len) (b3 : h.getD len ≤ m.getD cap) (b4 : m.getD cap ≤ cap) :
    (Instr.sliceBounds isS len cap lo hi mx).run P w = .ok ((l.getD 0).toNat, (h.getD len).toNat, (m.getD cap).toNat) w := by
  rcases h3 with ⟨rfl, rfl⟩ | ⟨k3, n3, rfl, rfl⟩
  · rcases h2 with ⟨rfl, rfl⟩ | ⟨k2, n2, rfl, rfl⟩
    · rcases h1 with ⟨rfl, rfl⟩ | ⟨k1, n1, rfl, rfl⟩
      · simp [Instr.sliceBounds]
      · simp at b1 b2 b3 b4
        simp [Instr.sliceBounds, Instr.sliceBound, asIntOf, b1, b2]
    · rcases h1 with ⟨rfl, rfl⟩ | ⟨k1, n1, rfl, rfl⟩
      · simp at b1 b2 b3 b4
        simp [Instr.sliceBounds, Instr.sliceBound, asIntOf, b2, b3]
      · simp at b1 b2 b3 b4
        have : 0 ≤ n2 := by omega
        have e : (n2.toNat : Int) = n2 := by omega
        simp [Instr.sliceBounds, Instr.sliceBound, asIntOf, b1, b2, b3, this, e]
  · rcases h2 with ⟨rfl, rfl⟩ | ⟨k2, n2, rfl, rfl⟩
    · simp at hmh
    · rcases h1 with ⟨rfl, rfl⟩ | ⟨k1, n1, rfl, rfl⟩
      · simp at b1 b2 b3 b4
        have : 0 ≤ n3 := by omega
        have e : (n3.toNat : Int) = n3 := by omega
        simp [Instr.sliceBounds, Instr.sliceBound, asIntOf, b2, b3, b4, this, e]
      · simp at b1 b2 b3 b4
        have : 0 ≤ n3 := by omega
        have e : (n3.toNat : Int) = n3 := by omega
        have : 0 ≤ n2 := by omega
        have e : (n2.toNat : Int) = n2 := by omega
        simp [Instr.sliceBounds, Instr.sliceBound, asIntOf, b1, b2, b3, b4, *]

end Go.Proofs.Ytkbdppnlojlcdaa
