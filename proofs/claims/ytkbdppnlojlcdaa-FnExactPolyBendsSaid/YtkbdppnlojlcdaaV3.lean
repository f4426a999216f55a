/- The abstract machine, 3: operations that make blocks. No conditions. -/
import Derived.Test.YtkbdppnlojlcdaaV2
import Derived.Laws.MakeOwn
import Derived.Laws.OwnMore
import Derived.Great.BuildSlice
namespace Go.Proofs.Ytkbdppnlojlcdaa
open Go.RowKit

def upd (ν : Nu) (i : Nat) (b : Bk) : Nu := fun j => if j = i then some b else ν j
theorem upd_same (ν : Nu) (i : Nat) (b : Bk) : upd ν i b i = some b := by simp [upd]
theorem upd_le {ν : Nu} {i : Nat} {b : Bk} (h : ν i = none) : Le ν (upd ν i b) := by
  intro j x hx
  have : j ≠ i := by rintro rfl; rw [h] at hx; cases hx
  simp [upd, this, hx]

theorem Did.one {ν : Nu} {base : Nat} {δ : Delta} {w w' : World} {v : Value} {b : AB} {k : Bk} (hb : ν base = none) (hn : δ.new = [b]) (hk : k.n < w'.heap.size ∧ (w.heap.size ≤ k.n ∨ ∃ i b0, lookB i δ.put = some AB.gone ∧ ν i = some b0 ∧ b0.n = k.n))
    (hput : ∀ i c, lookB i δ.put = some c → BR (upd ν base k) i c w') (hv : VR (upd ν base k) δ.val v) (hbr : BR (upd ν base k) base b w') (os : w'.os = w.os) (tape : w'.tape = w.tape) (output : w'.output = w.output) (size : w.heap.size ≤ w'.heap.size)
    (block : ∀ q, q < w.heap.size → (∀ p b, p ∈ δ.put → ν p.1 = some b → b.n ≠ q) → w'.heap[q]? = w.heap[q]?) : Did ν (upd ν base k) base δ w w' v where
  le := upd_le hb
  dom := by
    intro i h h'
    rw [hn]
    by_cases e : i = base
    · subst e; simp
    · simp [upd, e, h] at h'
  val := hv
  put := hput
  new := by
    rw [hn]
    intro j c hj
    cases j with
    | zero => simp at hj; subst hj; simpa using hbr
    | succ j => simp at hj
  os := os
  tape := tape
  output := output
  size := size
  block := block
  fresh := by
    rw [hn]
    intro j c hj hc
    have : j = 0 := by simpa using hj
    subst this
    simp [upd] at hc
    subst hc
    exact hk
  apart := by
    rw [hn]
    intro j j' c c' hne hj hj'
    simp at hj hj'
    omega

/-- A new block behind all others. -/
theorem Did.new1 {ν : Nu} {base : Nat} {δ : Delta} {w w' : World} {v : Value} {b : AB} {c : Nat} {o : Obj} (hb : ν base = none) (hp : δ.put = []) (hn : δ.new = [b])
    (hh : w'.heap = w.heap.push o) (os : w'.os = w.os) (tape : w'.tape = w.tape) (output : w'.output = w.output) (hv : VR (upd ν base ⟨w.heap.size, 0, c⟩) δ.val v) (hbr : BR (upd ν base ⟨w.heap.size, 0, c⟩) base b w') :
    Did ν (upd ν base ⟨w.heap.size, 0, c⟩) base δ w w' v :=
  Did.one hb hn ⟨by rw [hh]; simp, .inl (Nat.le_refl _)⟩ (by rw [hp]; intro i c h; simp [lookB] at h) hv hbr os tape output (by rw [hh]; simp)
    (fun q hq _ => by rw [hh, Array.getElem?_push, if_neg (by omega)])

theorem push_new (a : Array Obj) (o : Obj) : (a.push o)[a.size]? = some o := by simp

/-- A box, or a new variable. -/
def boxA (t : TypeId) (x : AV) (base : Nat) : Option Delta := (AV.cells x).map fun cs => { val := .ptr base 0 0 0, new := [.cells cs t] }

theorem boxA_sound {P : Program} {t : TypeId} {x : AV} {base : Nat} {δ : Delta} {ν : Nu} {w : World} {y : Value} (h : boxA t x base = some δ) (hx : VR ν x y) (hb : ν base = none) :
    ∃ v w' ν', (Instr.box t y).run P w = .ok v w' ∧ Did ν ν' base δ w w' v := by
  simp only [boxA, Option.map_eq_some_iff] at h
  obtain ⟨cs, hc, rfl⟩ := h
  refine ⟨.pointer (some ⟨w.heap.size, 0, none⟩), w.alloc (.cells y.cells t), _, ?_, Did.new1 (c := 0) (o := .cells y.cells t) hb rfl rfl rfl rfl rfl rfl ?_ ?_⟩
  · simp [Instr.box, newVar, newRow]
  · simp only [VR]
    exact ⟨_, upd_same _ _ _, by simp⟩
  · refine ⟨_, y.cells.toList, upd_same _ _ _, rfl, ?_, (VR_cells hc hx).le (upd_le hb)⟩
    show (w.heap.push _)[w.heap.size]? = _
    simp

def allocA (P : Program) (t : TypeId) (base : Nat) : Option Delta :=
  match P.info? t with
  | some i => match i.zero with
    | some z => boxA t (.v z) base
    | none => none
  | none => none

theorem allocA_sound {P : Program} {t : TypeId} {base : Nat} {δ : Delta} {ν : Nu} {w : World} (h : allocA P t base = some δ) (hb : ν base = none) :
    ∃ v w' ν', (Instr.alloc t true (.tuple #[])).run P w = .ok v w' ∧ Did ν ν' base δ w w' v := by
  unfold allocA at h
  split at h
  · rename_i i hi
    split at h
    · rename_i z hz
      obtain ⟨v, w', ν', h1, h2⟩ := boxA_sound (P := P) (w := w) (y := z) h (by simp only [VR]) hb
      refine ⟨v, w', ν', ?_, h2⟩
      rw [← h1]
      simp [Instr.alloc, Instr.box, zeroValue, typeInfo, hi, hz]
    · cases h
  · cases h

/-- A new slice of a list of elements that are written out. -/
def buildSliceA (P : Program) (t : TypeId) (len : Nat) (parts : List (Nat × Value)) (base : Nat) : Option Delta :=
  match P.underlying t with
  | some (.slice e) => match P.info? e with
    | some i => match i.zero with
      | some z =>
        if len * i.size = 0 then
          (match parts with
          | [] => some { val := .own base len, new := [.row true len i.size (fun _ => []) e], obl := [Nat.beq len 0] }
          | _ => none)
        else match Instr.fill (fun q => some (q * i.size, i.size)) ((Array.range (len * i.size)).map (z.cells[· % z.cells.size]!)) parts with
          | some cells => some { val := .own base len, new := [.row true len i.size (fun j => (cells.toList.drop (j * i.size)).take i.size) e], obl := [Nat.beq cells.size (len * i.size), Nat.ble (len * i.size) 16777216, cells.toList.all Value.oneCell'] }
          | none => none
      | none => none
    | none => none
  | _ => none

theorem row_of_list {l : List Value} {c wd : Nat} (hl : l.length = c * wd) (h1 : ∀ x ∈ l, x.oneCell' = true) : ∀ j, j < c → (((l.drop (j * wd)).take wd).length = wd ∧ ∀ x ∈ (l.drop (j * wd)).take wd, x.oneCell' = true) ∧ ∀ k, k < wd → l[0 + (j * wd + k)]? = ((l.drop (j * wd)).take wd)[k]? := by
  intro j hj
  have hmul : (j + 1) * wd ≤ c * wd := Nat.mul_le_mul_right _ hj
  rw [Nat.add_mul, Nat.one_mul] at hmul
  refine ⟨⟨by simp; omega, fun x hx => h1 x (List.mem_of_mem_drop (List.mem_of_mem_take hx))⟩, fun k hk => ?_⟩
  rw [List.getElem?_take, if_pos hk, List.getElem?_drop, Nat.zero_add]

theorem buildSliceA_sound {P : Program} {t : TypeId} {len : Nat} {parts : List (Nat × Value)} {base : Nat} {δ : Delta} {ν : Nu} {w : World} (h : buildSliceA P t len parts base = some δ) (ho : obls δ.obl = true) (hb : ν base = none) :
    ∃ v w' ν', (Instr.buildSlice t len parts.toArray).run P w = .ok v w' ∧ Did ν ν' base δ w w' v := by
  unfold buildSliceA at h
  split at h
  · rename_i e hu
    split at h
    · rename_i i hi
      split at h
      · rename_i z hz
        split at h
        · rename_i h0
          split at h
          · simp only [Option.some.injEq] at h
            subst h
            have hl0 : len = 0 := by
              simp only [obls, List.all_cons, List.all_nil, Bool.and_true, id] at ho
              exact Nat.eq_of_beq_eq_true ho
            subst hl0
            refine ⟨.slice (some ⟨w.heap.size, 0, none⟩) 0 0, w.alloc (.cells #[] e), _, ?_, Did.new1 (c := 0) (o := .cells #[] e) hb rfl rfl rfl rfl rfl rfl ?_ ?_⟩
            · simp [Instr.buildSlice, run_underlying hu, sizeOf, typeInfo, hi, Instr.fill, newRow]
              simp [Array.range]
            · simp only [VR]
              exact ⟨_, upd_same _ _ _, rfl⟩
            · refine .inr ⟨_, [], e, (0, 0), upd_same _ _ _, ?_, fun _ => ⟨rfl, rfl, rfl, by simp, by simp [maxLen]⟩, Nat.le_refl _, fun j hj => by omega⟩
              show (w.heap.push _)[w.heap.size]? = _
              simp
          · cases h
        · rename_i hpos
          split at h
          · rename_i cells hf
            simp only [Option.some.injEq] at h
            subst h
            simp only [obls, List.all_cons, List.all_nil, Bool.and_true, id, Bool.and_eq_true] at ho
            obtain ⟨ho1, ho2, ho3⟩ := ho
            have hs : cells.size = len * i.size := Nat.eq_of_beq_eq_true ho1
            have hle := Nat.le_of_ble_eq_true ho2
            have hlen : len ≤ maxLen := by
              have : 0 < i.size := by
                rcases Nat.eq_zero_or_pos i.size with h0 | h0
                · rw [h0] at hpos; simp at hpos
                · exact h0
              have h3 : len * 1 ≤ len * i.size := Nat.mul_le_mul_left _ this
              simp only [maxLen]
              omega
            refine ⟨_, _, _, run_buildSlice w t e len parts.toArray cells i z hu hi hz (by omega) hpos hf, Did.new1 (c := len) (o := .cells cells e) hb rfl rfl rfl rfl rfl rfl ?_ ?_⟩
            · simp only [VR]
              exact ⟨_, upd_same _ _ _, rfl⟩
            · refine .inr ⟨_, cells.toList, e, (0, 0), upd_same _ _ _, ?_, fun _ => ⟨rfl, rfl, rfl, by simpa using hs, hlen⟩, Nat.le_refl _, row_of_list (by simpa using hs) (fun x hx => List.all_eq_true.1 ho3 x hx)⟩
              show (w.heap.push _)[w.heap.size]? = _
              simp
          · cases h
      · cases h
    · cases h
  · cases h

/-- make. -/
def makeSliceA (P : Program) (t : TypeId) (l c : Int) (base : Nat) : Option Delta :=
  match P.underlying t with
  | some (.slice e) => match P.info? e with
    | some i => match i.zero with
      | some z =>
        if z.cells.size = i.size ∧ 0 < i.size ∧ i.bytes ≤ 256 ∧ z.cells.toList.all Value.oneCell' = true then
          some { val := .own base l.toNat, new := [.row true l.toNat i.size (fun _ => z.cells.toList) e], obl := [decide (0 ≤ l), decide (l ≤ c), decide (c ≤ 1099511627776)] }
        else none
      | none => none
    | none => none
  | _ => none

theorem makeSliceA_sound {P : Program} {t : TypeId} {l c : Int} {kl kc : IntKind} {base : Nat} {δ : Delta} {ν : Nu} {w : World} (h : makeSliceA P t l c base = some δ) (ho : obls δ.obl = true) (hb : ν base = none) :
    ∃ v w' ν', (Instr.makeSlice t (.int kl l) (.int kc c)).run P w = .ok v w' ∧ Did ν ν' base δ w w' v := by
  unfold makeSliceA at h
  split at h
  · rename_i e hu
    split at h
    · rename_i i hi
      split at h
      · rename_i z hz
        split at h
        · rename_i hc
          obtain ⟨hzs, hpos, hby, hone⟩ := hc
          simp only [Option.some.injEq] at h
          subst h
          simp only [obls, List.all_cons, List.all_nil, Bool.and_true, id, Bool.and_eq_true, decide_eq_true_eq] at ho
          obtain ⟨h0, h1, h2⟩ := ho
          have hbytes : (i.bytes : Int) * c ≤ 281474976710656 := by
            have : (i.bytes : Int) * c ≤ 256 * c := Int.mul_le_mul_of_nonneg_right (by omega) (by omega)
            omega
          have hrun := run_make (P := P) w t e i z hu hi hz kl kc l c h0 h1 hbytes (by omega)
          refine ⟨_, _, _, hrun, Did.new1 (c := c.toNat) (o := .cells (madeCells z.cells (c.toNat * i.size)) e) hb rfl rfl rfl rfl rfl rfl ?_ ?_⟩
          · simp only [VR]
            exact ⟨_, upd_same _ _ _, rfl⟩
          · refine .inr ⟨_, (madeCells z.cells (c.toNat * i.size)).toList, e, (0, 0), upd_same _ _ _, ?_, fun _ => ⟨rfl, rfl, rfl, by simp [madeCells], by simp only [maxLen]; omega⟩, by show l.toNat ≤ c.toNat; omega, ?_⟩
            · show (w.heap.push _)[w.heap.size]? = _
              simp
            · intro j hj
              have hjc : j < c.toNat := by omega
              refine ⟨⟨by simpa using hzs, fun x hx => List.all_eq_true.1 hone x hx⟩, fun k hk => ?_⟩
              have hmul : (j + 1) * i.size ≤ c.toNat * i.size := Nat.mul_le_mul_right _ hjc
              rw [Nat.add_mul, Nat.one_mul] at hmul
              have hmod : (j * i.size + k) % z.cells.size = k := by
                rw [hzs, Nat.mul_comm, Nat.mul_add_mod, Nat.mod_eq_of_lt hk]
              have hkz : k < z.cells.size := by omega
              simp only [madeCells, Nat.zero_add, Array.toList_map, List.getElem?_map, Array.toList_range]
              rw [List.getElem?_range (by omega)]
              simp only [Option.map_some, hmod]
              rw [getElem!_pos z.cells k hkz]
              simp [hkz]
        · cases h
      · cases h
    · cases h
  · cases h

end Go.Proofs.Ytkbdppnlojlcdaa
