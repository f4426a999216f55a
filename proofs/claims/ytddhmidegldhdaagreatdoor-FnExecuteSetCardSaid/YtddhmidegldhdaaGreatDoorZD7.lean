/- Execute: a session. Conditions: the lines' words are at hand; the length of what is printed. -/
import Derived.Test.YtddhmidegldhdaaGreatDoorZD0
import Derived.Test.YtddhmidegldhdaaGreatDoorZD1
import Derived.Test.YtddhmidegldhdaaGreatDoorZD2
import Derived.Test.YtddhmidegldhdaaGreatDoorZD3
import Derived.Test.YtddhmidegldhdaaGreatDoorZD4
import Derived.Test.YtddhmidegldhdaaGreatDoorZD5
import Derived.Test.YtddhmidegldhdaaGreatDoorZD6
import Derived.Maps.OwnSet
import Derived.StringKeys
import Derived.Laws.EntriesVeiled
import Derived.WalkLawsBesides
import Derived.Shelf.Strings.BuilderK
/- The table of a session's words, as answer makes it. No conditions. -/
namespace Go.Proofs.YtddhmidegldhdaaGreatDoor
open Go.RowKit Go.Shelf
set_option maxRecDepth 100000

def wordsT : List (List UInt8 × Bool × FuncId) := [([97, 100, 100], true, 90), ([97, 114, 101, 97], true, 104), ([97, 116], true, 102), ([98, 97, 99, 107], false, 97), ([102, 97, 115, 116, 101, 114], true, 96), ([102, 111, 108, 100], false, 100), ([103, 114, 105, 100], true, 103), ([105, 110], true, 92), ([108, 97, 116, 101, 114], true, 95), ([109, 105, 114, 114, 111, 114], false, 98), ([111, 117, 116], true, 93), ([112, 101, 114, 105, 111, 100], false, 101), ([112, 108, 111, 116], true, 106), ([115, 101, 116], true, 89), ([115, 104, 111, 119], false, 99), ([115, 117, 109], false, 105), ([116, 105, 109, 101, 115], true, 91), ([116, 117, 114, 110], true, 94)]
def tabF (l : List UInt8) : Option (Bool × FuncId) := (wordsT.find? fun x => x.1 == l).map (·.2)
def rC : Value → Option (DataW Unit × List MemPlace)
  | .agg (Array.mk [.bool r, .func (.func f) (Array.mk []) (Array.mk [])]) => some (.agg [.lit (.bool r), .lit (.int .i64 f)], [])
  | .agg (Array.mk [.bool r, .nilFunc]) => some (.agg [.lit (.bool r), .lit (.int .i64 (-1))], [])
  | _ => none
def dC (x : List UInt8 × Bool × FuncId) : Lit × DataW Unit := (.string x.1, .agg [.lit (.bool x.2.1), .lit (.int .i64 x.2.2)])
def tabD : DataW Unit := .map (wordsT.map dC)
def putD (d : DataW Unit) (x : List UInt8 × Bool × FuncId) : DataW Unit := d.put (dC x).1 (dC x).2
def wordsO : List (List UInt8 × Bool × FuncId) := [([115, 101, 116], true, 89), ([97, 100, 100], true, 90), ([116, 105, 109, 101, 115], true, 91), ([105, 110], true, 92), ([111, 117, 116], true, 93), ([116, 117, 114, 110], true, 94), ([108, 97, 116, 101, 114], true, 95), ([102, 97, 115, 116, 101, 114], true, 96), ([98, 97, 99, 107], false, 97), ([109, 105, 114, 114, 111, 114], false, 98), ([115, 104, 111, 119], false, 99), ([102, 111, 108, 100], false, 100), ([112, 101, 114, 105, 111, 100], false, 101), ([97, 116], true, 102), ([103, 114, 105, 100], true, 103), ([97, 114, 101, 97], true, 104), ([115, 117, 109], false, 105), ([112, 108, 111, 116], true, 106)]
theorem tabD_eq : wordsO.foldl putD (.map []) = tabD := by kernel_rfl
theorem has_tab (l : List UInt8) : Maps.has tabD (.string l) = (tabF l).isSome := by
  show (wordsT.map dC).any (fun p => p.1.sameKey (.string l)) = _
  unfold tabF
  generalize wordsT = ws
  induction ws with
  | nil => rfl
  | cons x ws ih =>
    rw [List.map_cons, List.any_cons, List.find?_cons]
    show (x.1 == l || _) = _
    cases h : x.1 == l with
    | true => rfl
    | false => rw [Bool.false_or]; exact ih
theorem at_tab (l : List UInt8) (z : DataW Unit) : tabD.atKey (.string l) z = match tabF l with | some y => .agg [.lit (.bool y.1), .lit (.int .i64 y.2)] | none => z := by
  unfold tabD DataW.atKey tabF
  simp only
  generalize wordsT = ws
  induction ws with
  | nil => rfl
  | cons x ws ih =>
    rw [List.map_cons, List.find?_cons, List.find?_cons]
    have e : (dC x).1.sameKey (.string l) = (x.1 == l) := rfl
    rw [e]
    cases h : (x.1 == l) with
    | true => rfl
    | false => exact ih
theorem rC_inv {v : Value} {r : Bool} {f : FuncId} {ps : List MemPlace} (h : rC v = some (.agg [.lit (.bool r), .lit (.int .i64 f)], ps)) : v = .agg #[.bool r, .func (.func f) #[] #[]] := by
  unfold rC at h
  split at h
  · simp only [Option.some.injEq, Prod.mk.injEq, DataW.agg.injEq, List.cons.injEq, DataW.lit.injEq, Lit.bool.injEq, Lit.int.injEq, and_true, true_and] at h
    obtain ⟨⟨rfl, h⟩, _⟩ := h
    have := Int.ofNat.inj h
    subst this
    rfl
  · simp only [Option.some.injEq, Prod.mk.injEq, DataW.agg.injEq, List.cons.injEq, DataW.lit.injEq, Lit.int.injEq, and_true, true_and] at h
    obtain ⟨⟨_, h⟩, _⟩ := h
    exact absurd h (by omega)
  · cases h
theorem tabF_mem {l : List UInt8} {r : Bool} {f : FuncId} (h : tabF l = some (r, f)) : (l, r, f) ∈ wordsT := by
  unfold tabF at h
  simp only [Option.map_eq_some_iff] at h
  obtain ⟨x, h1, h2⟩ := h
  have h3 := List.mem_of_find?_eq_some h1
  have h4 := List.find?_some h1
  have h5 := eq_of_beq h4
  obtain ⟨a, b⟩ := x
  simp only at h5 h2
  subst h5 h2
  exact h3
theorem keyS : Maps.Keyed Tryz.prog 9 := Maps.string_keyed (by kernel_rfl)
theorem tMap : Tryz.prog.underlying 128 = some (.map 9 127) := by kernel_rfl
theorem tStr : Tryz.prog.underlying 9 = some .string := by kernel_rfl
def Filled (b : Nat) : List (List UInt8 × Bool × FuncId) → World → World → Prop
  | [], w, w' => w = w'
  | x :: l, w, w' => ∃ w1, (Instr.mapUpdate 128 (.map (some b)) (.string ⟨x.1.toArray⟩) (.agg #[.bool x.2.1, .func (.func x.2.2) #[] #[]])).run Tryz.prog w = .ok () w1 ∧ Filled b l w1 w'
theorem fill_map {b : Nat} : ∀ (l : List (List UInt8 × Bool × FuncId)) (n : Nat) (D : DataW Unit) (w : World), w.ownsMap Tryz.prog 9 rC b n D → (∀ x ∈ l, x.1.length ≤ 1000) → n + l.length ≤ 1000 → ∃ w', Filled b l w w' ∧ w'.ownsMap Tryz.prog 9 rC b (n + l.length) (l.foldl putD D) ∧ w.mapTurned w' b
  | [], n, D, w, h, _, _ => ⟨w, rfl, h, h.turned_refl⟩
  | x :: l, n, D, w, h, hx, hn => by
    rw [List.length_cons] at hn
    obtain ⟨w1, h1, h2, h3⟩ := h.store keyS tMap (by unfold maxLen; omega) (key := .string ⟨x.1.toArray⟩) (val := .agg #[.bool x.2.1, .func (.func x.2.2) #[] #[]]) (kl := (dC x).1) (d := (dC x).2) (ps := []) (Go.WideMaps.keyOf_string_mk tStr (by rw [mkS_size]; have := hx x List.mem_cons_self; unfold maxLen; omega)) rfl
    obtain ⟨w2, h4, h5, h6⟩ := fill_map l (n + 1) _ w1 h2 (fun y hy => hx y (List.mem_cons_of_mem _ hy)) (by omega)
    refine ⟨w2, ⟨w1, h1, h4⟩, ?_, h3.trans h6⟩
    rw [List.length_cons, show n + (l.length + 1) = n + 1 + l.length by omega]
    exact h5
end Go.Proofs.YtddhmidegldhdaaGreatDoor

/- answer: a line is answered. Conditions: tidy lists; the words of the line have their words. -/
namespace Go.Proofs.YtddhmidegldhdaaGreatDoor
open Go.RowKit Go.Shelf
set_option maxRecDepth 100000

abbrev CmdT := List UInt8 → List Wh → List UInt8 → Option (List Wh × List UInt8)
def lineQ (Sg : CmdT) (L : List Wh) (line : List UInt8) : List Wh × List UInt8 :=
  match tabF (Lib.cut line [32]).1 with
  | some (r, _) => bif r == (Lib.cut line [32]).2.2 then (match Sg (Lib.cut line [32]).1 L (Lib.cut line [32]).2.1 with
    | some x => x
    | none => (L, [110, 111])) else (L, [119, 104, 97, 116])
  | none => (L, [119, 104, 97, 116])
def LineOk (Sg : CmdT) (line : List UInt8) : Prop := ∀ r f, tabF (Lib.cut line [32]).1 = some (r, f) → r = (Lib.cut line [32]).2.2 → CmdOk f (Sg (Lib.cut line [32]).1)
def APost (D : Nat) (x : List Wh × List UInt8) (w : World) (e : Ending) (w' : World) : Prop :=
  e = .returned (.string ⟨x.2.toArray⟩) ∧ Desk D x.1 w' ∧ isTidy x.1 ∧ Fr (nwD w D) w w'
theorem calls_cut (s : ByteArray) (w : World) (ht : TabOk (nwM w) w) (hs : s.size ≤ 1000) : Calls Tryz.prog 108 #[.string s, .string ⟨#[32]⟩] w (VPost w (.tuple #[.string ⟨(Lib.cut s.data.toList [32]).1.toArray⟩, .string ⟨(Lib.cut s.data.toList [32]).2.1.toArray⟩, .bool (Lib.cut s.data.toList [32]).2.2])) :=
  v_v ok_cut [.string s, .string ⟨#[32]⟩] (δ := { val := .v (.tuple #[.string (cuA s ⟨#[32]⟩), .string (cuB s ⟨#[32]⟩), .bool (cuF s ⟨#[32]⟩)]), obl := [Nat.blt s.size 4294967281] }) rfl rfl (by simp only [ob_cons, ob_nil, and_true, Nat.blt_eq]; omega) rfl rfl ht
theorem zeroC (w : World) : (zeroValue 127).run Tryz.prog w = .ok (.agg #[.bool false, .nilFunc]) w := by kernel_rfl
theorem rC_inv0 {v : Value} {ps : List MemPlace} (h : rC v = some (.agg [.lit (.bool false), .lit (.int .i64 (-1))], ps)) : v = .agg #[.bool false, .nilFunc] := by
  unfold rC at h
  split at h
  · simp only [Option.some.injEq, Prod.mk.injEq, DataW.agg.injEq, List.cons.injEq, DataW.lit.injEq, Lit.int.injEq, and_true, true_and] at h
    obtain ⟨⟨_, h⟩, _⟩ := h
    exact absurd h (by omega)
  · simp only [Option.some.injEq, Prod.mk.injEq, DataW.agg.injEq, List.cons.injEq, DataW.lit.injEq, Lit.bool.injEq, and_true] at h
    obtain ⟨rfl, _⟩ := h
    rfl
  · cases h
theorem words_fn : (wordsT.all fun x => (match Tryz.prog.funcs[x.2.2]? with | some fn => fn.body.isSome | none => false)) = true := by kernel_rfl
theorem enters_w {f : FuncId} {l : List UInt8} {r : Bool} (h : tabF l = some (r, f)) (args : Array Value) (w : World) : (callFunc f args).run Tryz.prog w = .ok (.enter f args) w := by
  have hm := List.all_eq_true.1 words_fn _ (tabF_mem h)
  simp only at hm
  cases hf : Tryz.prog.funcs[f]? with
  | none => rw [hf] at hm; cases hm
  | some fn => rw [hf] at hm; exact enters f fn hf hm args w
theorem cutL_le (l c : List UInt8) : (Lib.cut l c).1.length ≤ l.length ∧ (Lib.cut l c).2.1.length ≤ l.length := by
  unfold Lib.cut
  split
  · simp only [List.length_take, List.length_drop]; omega
  · simp
theorem fr_box {w W : World} (f : Fr (nwM w) w W) (o : Obj) (v : Value) : Fr (nwM w) w ((W.alloc o).setCell ⟨w.heap.size, 0, none⟩ v) := by
  have f1 : Fr (nwM w) w (W.alloc o) := f.trans (fr_grown (World.grownBy_alloc W o none) fun k e => by cases e)
  refine f1.trans ⟨rfl, rfl, rfl, by simp [World.setCell], fun k _ hk => Below.heap_setCell _ _ _ _ (fun e => hk ?_)⟩
  exact Nat.le_of_eq e.symm
theorem ReadsW.box {w : World} {B : Nat} {v x y : Value} {L : List Wh} {fz : Nat × Nat} (h : ReadsW w v L) (hb : w.heap[B]? = some (.cells #[x] 9 fz)) : ReadsW (w.setCell ⟨B, 0, none⟩ y) v L := by
  refine h.kept (by simp [World.setCell]) fun k _ ⟨l, fz', hk⟩ => Below.heap_setCell _ _ _ _ fun e => ?_
  have e : k = B := e
  rw [e, hb] at hk
  simp only [Option.some.injEq, Obj.cells.injEq] at hk
  exact absurd hk.2.1 (by decide)
theorem Desk.box {D B : Nat} {L : List Wh} {w : World} {x y : Value} {fz : Nat × Nat} (h : Desk D L w) (hb : w.heap[B]? = some (.cells #[x] 9 fz)) (hB : B ≠ D) : Desk D L (w.setCell ⟨B, 0, none⟩ y) := by
  obtain ⟨p, n, c, h1, h2⟩ := h
  refine ⟨p, n, c, ?_, h2.box hb⟩
  rw [Below.heap_setCell _ _ _ _ (show D ≠ B from hB.symm)]
  exact h1
theorem fr_boxD {w W : World} {D : Nat} (f : Fr (nwD w D) w W) (o : Obj) (v : Value) : Fr (nwD w D) w ((W.alloc o).setCell ⟨w.heap.size, 0, none⟩ v) := by
  have f1 : Fr (nwD w D) w (W.alloc o) := f.trans (fr_grown (World.grownBy_alloc W o none) fun k e => by cases e)
  refine f1.trans ⟨rfl, rfl, rfl, by simp [World.setCell], fun k _ hk => Below.heap_setCell _ _ _ _ (fun e => hk ?_)⟩
  exact .inl (Nat.le_of_eq e.symm)
theorem fr_setD {w W : World} {D : Nat} (f : Fr (nwD w D) w W) (v : Value) : Fr (nwD w D) w (W.setCell ⟨w.heap.size, 0, none⟩ v) := by
  refine f.trans ⟨rfl, rfl, rfl, by simp [World.setCell], fun k _ hk => Below.heap_setCell _ _ _ _ (fun e => hk ?_)⟩
  exact .inl (Nat.le_of_eq e.symm)
set_option maxHeartbeats 8000000 in
theorem calls_answer {Sg : CmdT} {D : Nat} {L : List Wh} (s : ByteArray) {w : World} (hd : Desk D L w) (ht : TabOk (nwD w D) w) (hT : isTidy L) (hs : s.size ≤ 1000) (hok : LineOk Sg s.data.toList) :
    Calls Tryz.prog 47 #[.pointer (some ⟨D, 0, none⟩), .string s] w (APost D (lineQ Sg L s.data.toList) w) := by
  have mixed := mixed
  have hmf : ∀ (fn : Fn) (first cap : Array Value) (w : World), (Instr.makeFunc fn first cap).run Tryz.prog w = .ok (.func fn first cap) w := fun _ _ _ _ => rfl
  obtain ⟨wm, hwm⟩ : ∃ wm, (w.alloc (.cells #[.string ⟨#[]⟩] 9)).alloc (.map #[] 0) = wm := ⟨_, rfl⟩
  have hm0 : wm.ownsMap Tryz.prog 9 rC (w.heap.size + 1) 0 (.map []) := by
    have := World.ownsMap_made (w.alloc (.cells #[.string ⟨#[]⟩] 9)) Tryz.prog 9 rC
    rw [hwm] at this
    simpa using this
  obtain ⟨wf, hfill, hown, hturn⟩ := fill_map wordsO 0 _ wm hm0 (by decide) (by decide)
  rw [tabD_eq] at hown
  obtain ⟨x0, h0, ⟨x1, h1, ⟨x2, h2, ⟨x3, h3, ⟨x4, h4, ⟨x5, h5, ⟨x6, h6, ⟨x7, h7, ⟨x8, h8, ⟨x9, h9, ⟨x10, h10, ⟨x11, h11, ⟨x12, h12, ⟨x13, h13, ⟨x14, h14, ⟨x15, h15, ⟨x16, h16, ⟨x17, h17, rfl⟩⟩⟩⟩⟩⟩⟩⟩⟩⟩⟩⟩⟩⟩⟩⟩⟩⟩ := hfill
  simp only [] at h0 h1 h2 h3 h4 h5 h6 h7 h8 h9 h10 h11 h12 h13 h14 h15 h16 h17
  have hmk : (Instr.makeMap 128 none).run Tryz.prog (w.alloc (.cells #[.string ⟨#[]⟩] 9)) = .ok (.map (some (w.heap.size + 1))) wm := by rw [run_makeMap, ← hwm]; simp
  clear hm0
  have fa : Fr (nwM w) w x17 := by
    refine (nw_trans (fr_grown (World.grownBy_alloc w (.cells #[.string ⟨#[]⟩] 9) none) fun k e => by cases e) (fr_grown (M := nwM _) (hwm ▸ World.grownBy_alloc (w.alloc (.cells #[.string ⟨#[]⟩] 9)) (.map #[] 0) none) fun k e => by cases e)).trans (fr_grown hturn.grown fun k e => ?_)
    cases e
    show w.heap.size ≤ w.heap.size + 1
    omega
  have hbox : x17.heap[w.heap.size]? = some (.cells #[.string ⟨#[]⟩] 9 (0, 0)) := by
    rw [hturn.grown.block _ (by rw [← hwm]; simp; omega) (by simp), ← hwm]
    exact (Below.heap_alloc (w.alloc (.cells #[.string ⟨#[]⟩] 9)) _ w.heap.size (by simp)).trans (World.alloc_heap_new _ _)
  have hc := calls_cut s x17 (ht.nw.nwf fa) hs
  have hsz : (Lib.cut s.data.toList [32]).1.length ≤ 1000 := Nat.le_trans (cutL_le _ _).1 (by rw [show s.data.toList.length = s.size from rfl]; exact hs)
  have hsr : (Lib.cut s.data.toList [32]).2.1.length ≤ 1000 := Nat.le_trans (cutL_le _ _).2 (by rw [show s.data.toList.length = s.size from rfl]; exact hs)
  have hlk0 := fun (w2 : World) (f2 : Fr (nwM x17) x17 w2) => (hown.kept (nw_grown f2) (by simp)).look_ok keyS tMap (zeroC w2) rfl (Go.WideMaps.keyOf_string_mk tStr (s := ⟨(Lib.cut s.data.toList [32]).1.toArray⟩) (by rw [mkS_size]; unfold maxLen; omega))
  simp only [has_tab, at_tab] at hlk0
  clear hturn hwm hown
  unfold lineQ
  unfold LineOk at hok
  generalize (Lib.cut s.data.toList [32]).2.1 = rst at *
  generalize (Lib.cut s.data.toList [32]).2.2 = spc at *
  generalize (Lib.cut s.data.toList [32]).1 = wd at *
  cases hT : tabF wd with
  | none =>
    simp only [hT] at hlk0
    clear hok hT
    go_enter_defers Tryz.func47, Tryz.ntmps47
    go_wp2_with (go_at_call 108; refine hc.mono ?_; rintro e w2 ⟨rfl, f2⟩; obtain ⟨lv, lps, hlk, hR⟩ := hlk0 w2 f2; obtain rfl := rC_inv0 hR; clear hR)
    have hbd : w.heap.size < w2.heap.size := Nat.lt_of_lt_of_le (Array.getElem?_eq_some_iff.1 hbox).1 f2.size
    have hb2 : (w2.alloc (.cells #[.bool false, .nilFunc] 127)).heap[w.heap.size]? = some (.cells #[.string ⟨#[]⟩] 9 (0, 0)) := (Below.heap_alloc _ _ _ hbd).trans ((f2.block _ (Array.getElem?_eq_some_iff.1 hbox).1 (Nat.not_le.2 (Array.getElem?_eq_some_iff.1 hbox).1)).trans hbox)
    have fW : Fr (nwM w) w (w2.alloc (.cells #[.bool false, .nilFunc] 127)) := (nw_trans fa f2).trans (fr_grown (World.grownBy_alloc w2 _ none) fun k e => by cases e)
    generalize hW : w2.alloc (.cells #[.bool false, .nilFunc] 127) = W at *
    have hlt : w.heap.size < W.heap.size := (Array.getElem?_eq_some_iff.1 hb2).1
    have hcW : W.cell? ⟨w.heap.size, 0, none⟩ = some (.string ⟨#[]⟩) := by rw [cell_of_row W _ 0 #[.string ⟨#[]⟩] _ (0, 0) hb2]; rfl
    have hzW : W.frozen? ⟨w.heap.size, 0, none⟩ = false := frozen_of_row W _ 0 #[.string ⟨#[]⟩] _ hb2
    refine leaves_cons (f := 107) (args := #[.pointer (some ⟨w.heap.size, 0, none⟩)]) (by simp) (by simp [go_sem]) ?_
    refine (catch_mal ⟨w.heap.size, 0, none⟩ (.string ⟨#[]⟩) [] _ hcW hzW hlt).mono ?_
    rintro e u' w'' ⟨rfl, rfl, o, rfl⟩
    have hcO : (W.alloc o).cell? ⟨w.heap.size, 0, none⟩ = some (.string ⟨#[]⟩) := (World.cell?_of_block (Below.heap_alloc W o _ hlt)).trans hcW
    have fO := fr_box fW o (.string whatB)
    simp [Leaves, settle, results, Tryz.results47, go_sem, hcO]
    exact ⟨rfl, hd.fr fO, hT, fO.nwd⟩
  | some rf =>
    obtain ⟨r, f⟩ := rf
    simp only [hT] at hlk0
    have ew := enters_w hT
    have hok := hok r f hT
    clear hT
    cases hrs : r == spc with
    | false =>
      clear hok
      simp only [hrs, cond_false]
      go_enter_defers Tryz.func47, Tryz.ntmps47
      go_wp2_with (go_at_call 108; refine hc.mono ?_; rintro e w2 ⟨rfl, f2⟩; obtain ⟨lv, lps, hlk, hR⟩ := hlk0 w2 f2; obtain rfl := rC_inv hR; clear hR)
      have hbd : w.heap.size < w2.heap.size := Nat.lt_of_lt_of_le (Array.getElem?_eq_some_iff.1 hbox).1 f2.size
      have hb2 : (w2.alloc (.cells #[.bool r, .func (.func f) #[] #[]] 127)).heap[w.heap.size]? = some (.cells #[.string ⟨#[]⟩] 9 (0, 0)) := (Below.heap_alloc _ _ _ hbd).trans ((f2.block _ (Array.getElem?_eq_some_iff.1 hbox).1 (Nat.not_le.2 (Array.getElem?_eq_some_iff.1 hbox).1)).trans hbox)
      have fW : Fr (nwM w) w (w2.alloc (.cells #[.bool r, .func (.func f) #[] #[]] 127)) := (nw_trans fa f2).trans (fr_grown (World.grownBy_alloc w2 _ none) fun k e => by cases e)
      generalize hW : w2.alloc (.cells #[.bool r, .func (.func f) #[] #[]] 127) = W at *
      have hlt : w.heap.size < W.heap.size := (Array.getElem?_eq_some_iff.1 hb2).1
      have hcW : W.cell? ⟨w.heap.size, 0, none⟩ = some (.string ⟨#[]⟩) := by rw [cell_of_row W _ 0 #[.string ⟨#[]⟩] _ (0, 0) hb2]; rfl
      have hzW : W.frozen? ⟨w.heap.size, 0, none⟩ = false := frozen_of_row W _ 0 #[.string ⟨#[]⟩] _ hb2
      refine leaves_cons (f := 107) (args := #[.pointer (some ⟨w.heap.size, 0, none⟩)]) (by simp) (by simp [go_sem]) ?_
      refine (catch_mal ⟨w.heap.size, 0, none⟩ (.string ⟨#[]⟩) [] _ hcW hzW hlt).mono ?_
      rintro e u' w'' ⟨rfl, rfl, o, rfl⟩
      have hcO : (W.alloc o).cell? ⟨w.heap.size, 0, none⟩ = some (.string ⟨#[]⟩) := (World.cell?_of_block (Below.heap_alloc W o _ hlt)).trans hcW
      have fO := fr_box fW o (.string whatB)
      simp [Leaves, settle, results, Tryz.results47, go_sem, hcO]
      exact ⟨rfl, hd.fr fO, hT, fO.nwd⟩

    | true =>
      obtain rfl := eq_of_beq hrs
      simp only [hrs, cond_true]
      clear hrs
      have hcm := fun (W : World) (h : Desk D L W) (h2 : TabOk (nwD W D) W) => hok rfl (D := D) (L := L) ⟨rst.toArray⟩ h h2 hT (by rw [mkS_size]; exact hsr)
      clear hok
      have hend : ∀ w2, Fr (nwM x17) x17 w2 → ∀ o, w.heap.size < (w2.alloc o).heap.size ∧ (w2.alloc o).heap[w.heap.size]? = some (.cells #[.string ⟨#[]⟩] 9 (0, 0)) ∧ Fr (nwM w) w (w2.alloc o) := fun w2 f2 o => by
        have hbd : w.heap.size < w2.heap.size := Nat.lt_of_lt_of_le (Array.getElem?_eq_some_iff.1 hbox).1 f2.size
        refine ⟨by simp; omega, (Below.heap_alloc _ _ _ hbd).trans ((f2.block _ (Array.getElem?_eq_some_iff.1 hbox).1 (Nat.not_le.2 (Array.getElem?_eq_some_iff.1 hbox).1)).trans hbox), (nw_trans fa f2).trans (fr_grown (World.grownBy_alloc w2 _ none) fun k e => by cases e)⟩
      clear hbox fa
      have hDlt := hd.lt
      have hfin : ∀ w2 W o, Fr (nwM x17) x17 w2 → Fr (nwD (w2.alloc o) D) (w2.alloc o) W → w.heap.size < W.heap.size ∧ W.heap[w.heap.size]? = some (.cells #[.string ⟨#[]⟩] 9 (0, 0)) ∧ Fr (nwD w D) w W := fun w2 W o f2 f3 => by
        obtain ⟨e1, e2, e3⟩ := hend w2 f2 o
        refine ⟨Nat.lt_of_lt_of_le e1 f3.size, (f3.block _ e1 fun h => h.elim (fun h => by omega) (fun h => by omega)).trans e2, e3.nwd.trans (f3.mono fun k _ h => h.elim (fun x => .inl (Nat.le_trans e3.size x)) .inr)⟩
      have hcell : ∀ W : World, W.heap[w.heap.size]? = some (.cells #[.string ⟨#[]⟩] 9 (0, 0)) → W.cell? ⟨w.heap.size, 0, none⟩ = some (.string ⟨#[]⟩) ∧ W.frozen? ⟨w.heap.size, 0, none⟩ = false := fun W hb2 => ⟨by rw [cell_of_row W _ 0 #[.string ⟨#[]⟩] _ (0, 0) hb2]; rfl, frozen_of_row W _ 0 #[.string ⟨#[]⟩] _ hb2⟩
      cases hS : Sg wd L rst with
      | none =>
        simp only [hS] at hcm ⊢
        clear hS
        go_enter_defers Tryz.func47, Tryz.ntmps47
        go_wp2_with (first | (go_at_call 108; refine hc.mono ?_; rintro e w2 ⟨rfl, f2⟩; obtain ⟨lv, lps, hlk, hR⟩ := hlk0 w2 f2; obtain rfl := rC_inv hR; clear hR) | (refine (hcm _ (hd.fr (hend _ ‹_› _).2.2) (ht.nwg (hend _ ‹_› _).2.2.nwd)).mono ?_; rintro e W h5; obtain ⟨rfl, h6⟩ := h5.none_eq))
        obtain ⟨hlt, hb2, fW⟩ := hfin _ _ _ f2 h6.1
        have hcW : W.cell? ⟨w.heap.size, 0, none⟩ = some (.string ⟨#[]⟩) := by rw [cell_of_row W _ 0 #[.string ⟨#[]⟩] _ (0, 0) hb2]; rfl
        have hzW : W.frozen? ⟨w.heap.size, 0, none⟩ = false := frozen_of_row W _ 0 #[.string ⟨#[]⟩] _ hb2
        refine leaves_cons (f := 107) (args := #[.pointer (some ⟨w.heap.size, 0, none⟩)]) (by simp) (by simp [go_sem]) ?_
        refine (catch_ref ⟨w.heap.size, 0, none⟩ (.string ⟨#[]⟩) [] _ hcW hzW hlt).mono ?_
        rintro e u' w'' ⟨rfl, rfl, o, rfl⟩
        have hcO : (W.alloc o).cell? ⟨w.heap.size, 0, none⟩ = some (.string ⟨#[]⟩) := (World.cell?_of_block (Below.heap_alloc W o _ hlt)).trans hcW
        have fO := fr_boxD fW o (.string noB)
        have dO := (h6.2.2.fr (fr_grown (World.grownBy_alloc W o none) fun k e => by cases e)).box (y := .string noB) ((Below.heap_alloc W o _ hlt).trans hb2) (Nat.ne_of_gt hDlt)
        simp [Leaves, settle, results, Tryz.results47, go_sem, hcO]
        exact ⟨rfl, dO, hT, fO⟩
      | some x =>
        obtain ⟨T, t⟩ := x
        simp only [hS] at hcm ⊢
        clear hS
        go_enter_defers Tryz.func47, Tryz.ntmps47
        go_wp2_with (first | (go_at_call 108; refine hc.mono ?_; rintro e w2 ⟨rfl, f2⟩; obtain ⟨lv, lps, hlk, hR⟩ := hlk0 w2 f2; obtain rfl := rC_inv hR; clear hR) | (refine (hcm _ (hd.fr (hend _ ‹_› _).2.2) (ht.nwg (hend _ ‹_› _).2.2.nwd)).mono ?_; rintro e W h5; obtain ⟨rfl, h6⟩ := h5.some_eq; clear h5; obtain ⟨hlt, hb2, fW⟩ := hfin _ _ _ ‹_› h6.1; obtain ⟨hcW, hzW⟩ := hcell W hb2))
        refine leaves_cons (f := 107) (args := #[.pointer (some ⟨w.heap.size, 0, none⟩)]) (by simp) (by simp [go_sem]) ?_
        refine (catch_idle ⟨w.heap.size, 0, none⟩ _).mono ?_
        rintro e u' w'' ⟨rfl, rfl, rfl⟩
        have fO := fr_setD fW (.string ⟨t.toArray⟩)
        have dO := h6.2.2.1.box (y := .string ⟨t.toArray⟩) hb2 (Nat.ne_of_gt hDlt)
        simp [Leaves, settle, results, Tryz.results47, go_sem, hcW]
        exact ⟨rfl, dO, h6.2.2.2, fO⟩
end Go.Proofs.YtddhmidegldhdaaGreatDoor

/- strings.Builder at the world: what is written, what it holds. Conditions: its length. -/
namespace Go.Proofs.YtddhmidegldhdaaGreatDoor
open Go.RowKit Go.Shelf
set_option maxRecDepth 100000

def Built (b : Nat) (l : List UInt8) (w : World) : Prop := Lib.IsBuilderF 70 5 b b (Lib.byteCells l) w
theorem Built.lt {b : Nat} {l : List UInt8} {w : World} (h : Built b l w) : b < w.heap.size := h.elim (fun h => h.lt) fun h => h.lt
theorem Built.new (w : World) : Built w.heap.size [] (w.alloc (.cells #[.pointer none, .slice none 0 0] 70)) := Lib.IsBuilderF.of (Lib.fresh_isBuilder _ _ w)
theorem built_kept {b : Nat} {p : Value} {l : List Value} {w w' : World} (h : Lib.BuilderAtF 70 5 b b p l w) (hk : ∀ (k : Nat) (c : Array Value) (fz : Nat × Nat), (w.heap[k]? = some (.cells c 70 fz) ∨ w.heap[k]? = some (.cells c 5 fz)) → w'.heap[k]? = w.heap[k]?) : Lib.BuilderAtF 70 5 b b p l w' := by
  obtain ⟨hB, v, hb, ⟨h1, h2⟩, hne⟩ := h
  refine ⟨hB, v, (hk _ _ _ (.inl hb)).trans hb, ⟨h1, ?_⟩, hne⟩
  rcases h2 with h2 | ⟨g, cap, cur, fz, e1, e2, e3, e4⟩
  · exact .inl h2
  · exact .inr ⟨g, cap, cur, fz, e1, e2, (hk _ _ _ (.inr e3)).trans e3, e4⟩
theorem Built.kept {b : Nat} {l : List UInt8} {w w' : World} (h : Built b l w) (hk : ∀ (k : Nat) (c : Array Value) (fz : Nat × Nat), (w.heap[k]? = some (.cells c 70 fz) ∨ w.heap[k]? = some (.cells c 5 fz)) → w'.heap[k]? = w.heap[k]?) : Built b l w' :=
  h.elim (fun h => .inl (built_kept h hk)) fun h => .inr (built_kept h hk)
def BFr (b : Nat) (w w' : World) : Prop := Below b w w' ∧ Lib.OthersKept 5 (some b) w w'
theorem calls_ws {b : Nat} {l : List UInt8} {w : World} (s : ByteArray) (h : Built b l w) (hl : l.length + s.size ≤ 140737488355328) :
    Calls Tryz.prog 46 #[.pointer (some ⟨b, 0, none⟩), .string s] w fun e w' => e = .returned (.tuple #[.int .i64 s.size, .nilIface]) ∧ Built b (l ++ s.data.toList) w' ∧ BFr b w w' := by
  refine (Any.Builder_WriteString_k { Tryz.lays156 with } Tryz.extra156 b b _ s w h (by rw [Lib.byteCells_length]; exact hl) (Nat.le_of_lt h.lt)).mono ?_
  rintro e w' ⟨rfl, h1, h2, h3⟩
  refine ⟨rfl, ?_, h2, h3⟩
  rw [Lib.strCells_eq, ← Lib.byteCells_append] at h1
  exact .inr h1
theorem calls_wl {b : Nat} {l : List UInt8} {w : World} (x : List UInt8) (h : Built b l w) (hl : l.length + x.length ≤ 100000000) :
    Calls Tryz.prog 46 #[.pointer (some ⟨b, 0, none⟩), .string ⟨x.toArray⟩] w fun e w' => ∃ v, e = .returned v ∧ Built b (l ++ x) w' ∧ BFr b w w' :=
  (calls_ws ⟨x.toArray⟩ h (by rw [mkS_size]; exact Nat.le_trans hl (by decide))).mono fun _ _ h => ⟨_, h.1, h.2⟩
theorem calls_bs {b : Nat} {l : List UInt8} {w : World} (h : Built b l w) :
    Calls Tryz.prog 49 #[.pointer (some ⟨b, 0, none⟩)] w fun e w' => e = .returned (.string ⟨l.toArray⟩) ∧ BFr b w w' := by
  refine (Any.Builder_String_any_k { Tryz.lays156 with } Tryz.extra156 b b l w h (Nat.le_of_lt h.lt)).mono ?_
  rintro e w' ⟨rfl, _, h2, h3⟩
  exact ⟨rfl, h2, h3⟩
theorem BFr.desk {b D : Nat} {L : List Wh} {w w' : World} (h : BFr b w w') (hD : D < b) (hb : ¬ Wrow w b) (hd : Desk D L w) : Desk D L w' := by
  obtain ⟨p, n, c, h1, h2⟩ := hd
  refine ⟨p, n, c, (h.1.block D hD).trans h1, h2.kept h.1.size fun k _ ⟨l, fz, hk⟩ => ?_⟩
  rw [hk]
  exact h.2 k _ hk (fun e => hb (by cases e; exact ⟨_, _, hk⟩)) fun c fz' e => by
    simp only [Obj.cells.injEq] at e
    exact absurd e.2.1 (by decide)
theorem Built.ne {b : Nat} {l : List UInt8} {w : World} (h : Built b l w) : ¬ Wrow w b := fun ⟨c, fz, hk⟩ => by
  rcases h with ⟨_, v, hb, _⟩ | ⟨_, v, hb, _⟩
  · rw [hk] at hb
    simp only [Option.some.injEq, Obj.cells.injEq] at hb
    exact absurd hb.2.1 (by decide)
  · rw [hk] at hb
    simp only [Option.some.injEq, Obj.cells.injEq] at hb
    exact absurd hb.2.1 (by decide)
theorem Built.fr {b D : Nat} {l : List UInt8} {w w' : World} (h : Built b l w) (hd : ∃ c fz, w.heap[D]? = some (.cells c 67 fz)) (f : Fr (nwD w D) w w') : Built b l w' := by
  refine h.kept fun k c fz hk => f.block k ?_ fun hm => ?_
  · rcases hk with hk | hk <;> exact (Array.getElem?_eq_some_iff.1 hk).1
  · have hlt : k < w.heap.size := by rcases hk with hk | hk <;> exact (Array.getElem?_eq_some_iff.1 hk).1
    rcases hm with hm | rfl
    · exact absurd hm (Nat.not_le.2 hlt)
    · obtain ⟨c', fz', hd⟩ := hd
      rcases hk with hk | hk
      · rw [hd] at hk
        simp only [Option.some.injEq, Obj.cells.injEq] at hk
        exact absurd hk.2.1 (by decide)
      · rw [hd] at hk
        simp only [Option.some.injEq, Obj.cells.injEq] at hk
        exact absurd hk.2.1 (by decide)
end Go.Proofs.YtddhmidegldhdaaGreatDoor

/- Execute: a session. Conditions: the lines' words are at hand; the length of what is printed. -/
namespace Go.Proofs.YtddhmidegldhdaaGreatDoor
open Go.RowKit Go.Shelf
set_option maxRecDepth 100000

def sessQ (Sg : CmdT) (x : List Wh × List UInt8) (line : List UInt8) : List Wh × List UInt8 := ((lineQ Sg x.1 line).1, x.2 ++ ((lineQ Sg x.1 line).2 ++ [10]))
def exQ (Sg : CmdT) (ls : List (List UInt8)) : List Wh × List UInt8 := ls.foldl (sessQ Sg) ([], [])
def linesQ (s : List UInt8) : List (List UInt8) := (cuC 10 s).dropLast
def endQ (x : List Wh × List UInt8) : List UInt8 := x.2 ++ ([119, 104, 101, 101, 108, 115, 32] ++ (Lib.itoa x.1.length ++ [10]))
theorem exQ_snoc (Sg : CmdT) (ls : List (List UInt8)) (l : List UInt8) : exQ Sg (ls ++ [l]) = sessQ Sg (exQ Sg ls) l := by
  unfold exQ
  rw [List.foldl_append]
  rfl
theorem tab_later {w w' : World} {D : Nat} (h : TabOk (nwM w) w) (f : Fr (nwM w) w w') (hD : w.heap.size ≤ D) : TabOk (nwD w' D) w' :=
  (h.fr f).mono fun _ _ hk => hk.elim (fun x => Nat.le_trans f.size x) (fun e => e ▸ hD)
theorem BFr.fr {b : Nat} {w0 w w' : World} (h : BFr b w w') (hb : w0.heap.size ≤ b) (f : Fr (nwM w0) w0 w) : Fr (nwM w0) w0 w' :=
  f.trans ⟨h.1.os, h.1.tape, h.1.output, h.1.size, fun k _ hm => h.1.block k (Nat.lt_of_lt_of_le (Nat.not_le.1 hm) hb)⟩
theorem cuC_length (c : UInt8) : ∀ l : List UInt8, (cuC c l).length ≤ l.length + 1
  | [] => by simp [cuC]
  | b :: l => by
    have ih := cuC_length c l
    unfold cuC
    rw [List.length_cons]
    split
    · rw [List.length_cons]; omega
    · split
      · rename_i x xs e
        rw [e, List.length_cons] at ih
        rw [List.length_cons]
        omega
      · simp
def rowO (ws : List (List UInt8)) : Obj := .cells ((ws.map fun l => (⟨l.toArray⟩ : ByteArray)).map Value.string).toArray 9
theorem rowO_cell {ws : List (List UInt8)} {w : World} {G : Nat} (h : w.heap[G]? = some (rowO ws)) (j : Nat) (hj : j < ws.length) : w.cell? ⟨G, j, none⟩ = some (.string ⟨ws[j].toArray⟩) := by
  unfold World.cell?
  simp only
  rw [h]
  simp [rowO, hj]
theorem row_world {w w1 : World} {ws : List (List UInt8)} (h : w1 = w.alloc (.cells ((ws.map fun l => (⟨l.toArray⟩ : ByteArray)).map Value.string).toArray 9)) : Fr (nwM w) w w1 ∧ w1.heap[w.heap.size]? = some (rowO ws) := by
  subst h
  exact ⟨fr_grown (World.grownBy_alloc w _ none) (fun k e => by cases e), World.alloc_heap_new _ _⟩
theorem rowO_ne (ws : List (List UInt8)) (c : Array Value) (fz : Nat × Nat) : rowO ws ≠ .cells c 5 fz := fun e => by
  simp only [rowO, Obj.cells.injEq] at e
  exact absurd e.2.1 (by decide)
theorem bytes_app (a b : List UInt8) : ((⟨a.toArray⟩ : ByteArray) ++ ⟨b.toArray⟩) = ⟨(a ++ b).toArray⟩ := by
  apply ByteArray.ext
  simp [ByteArray.data_append]
set_option maxHeartbeats 8000000 in
theorem calls_sess {Sg : CmdT} (s : ByteArray) {w : World} (ht : TabOk (nwM w) w) (hs : s.size ≤ 900) (hok : ∀ l ∈ linesQ s.data.toList, LineOk Sg l) (hlen : ∀ k, (exQ Sg ((linesQ s.data.toList).take k)).2.length ≤ 90000000) (hL : ∀ k, (exQ Sg ((linesQ s.data.toList).take k)).1.length ≤ 100000) :
    Calls Tryz.prog 15 #[.string s] w (VPost w (.string ⟨(endQ (exQ Sg (linesQ s.data.toList))).toArray⟩)) := by
  have mixed := mixed
  have hs1 : (s.size : Int) ≤ 900 := by omega
  obtain ⟨W0, hW0⟩ : ∃ W0, (w.alloc (.cells #[.slice none 0 0] 67)).alloc (.cells #[.pointer none, .slice none 0 0] 70) = W0 := ⟨_, rfl⟩
  have f0 : Fr (nwM w) w W0 := hW0 ▸ (nw_trans (fr_grown (World.grownBy_alloc w _ none) fun k e => by cases e) (fr_grown (World.grownBy_alloc _ _ none) fun k e => by cases e))
  have hd0 : Desk w.heap.size [] W0 := by
    refine ⟨none, 0, 0, ?_, ReadsW.nil _⟩
    rw [← hW0, Below.heap_alloc _ _ _ (by simp)]
    exact World.alloc_heap_new _ _
  have hb0 : Built (w.heap.size + 1) [] W0 := by
    have := Built.new (w.alloc (.cells #[.slice none 0 0] 67))
    rw [hW0] at this
    simpa using this
  have hz0 : w.heap.size + 1 < W0.heap.size := by rw [← hW0]; simp
  obtain ⟨m, hm⟩ := tab_num (ht.nwf f0)
  have hsp := Any.strings_Split { Tryz.laysSplit with } Tryz.laysSplit.i9 s ⟨#[10]⟩ m W0 (by omega) hm (by decide)
  have hl := spB_length s ⟨#[10]⟩ (by decide)
  have hcu := spB_cuC s 10
  rw [show Lib.splitB ⟨#[10]⟩ 0 (Lib.countB s ⟨#[10]⟩) s = spB s ⟨#[10]⟩ from rfl, ← hl, hcu, List.length_map] at hsp
  have hne : cuC 10 s.data.toList ≠ [] := cuC_ne _ _
  have hwl : (cuC 10 s.data.toList).length ≤ 901 := Nat.le_trans (cuC_length 10 _) (by rw [show s.data.toList.length = s.size by rw [Array.length_toList]; rfl]; omega)
  have hwz : ∀ x ∈ cuC 10 s.data.toList, x.length ≤ 1000 := fun x hx => by
    have := cuC_sizes _ x hx
    have e : s.data.toList.length = s.size := by rw [Array.length_toList]; rfl
    omega
  unfold linesQ at *
  generalize cuC 10 s.data.toList = ws at *
  obtain ⟨n, hn⟩ : ∃ n, ws.length = n + 1 := ⟨ws.length - 1, by have := List.length_pos_iff.2 hne; omega⟩
  rw [hn] at hsp
  have hn1 : (n : Int) ≤ 900 := by omega
  clear hl hcu hm
  go_enter Tryz.func15, Tryz.ntmps15
  go_wp2_with (go_at_call 45; refine hsp.mono ?_; rintro e w1 ⟨rfl, hw1⟩; obtain ⟨f1, c1⟩ := row_world hw1; clear hw1)
  obtain ⟨G, hG⟩ : ∃ G, G = W0.heap.size := ⟨_, rfl⟩
  have hGz : w.heap.size + 1 < G := by omega
  rw [← hG] at c1 ⊢
  have hd1 := hd0.fr f1
  have hb1 := hb0.fr (D := w.heap.size) (by obtain ⟨p, n, c, h, _⟩ := hd0; exact ⟨_, _, h⟩) f1.nwd
  have fw1 := nw_trans f0 f1
  clear hsp hd0 hb0 f0 f1 hz0 hW0 hG
  go_loopw [21] (fun i wr => ∃ (k : Nat) (X : List Wh × List UInt8), k ≤ n ∧ i = .int .i64 k ∧ X = exQ Sg (ws.dropLast.take k) ∧ Desk w.heap.size X.1 wr ∧ isTidy X.1 ∧ Built (w.heap.size + 1) X.2 wr ∧ Fr (nwM w) w wr ∧ wr.heap[G]? = some (rowO ws)) (fun i _ => n - (intOf i).toNat)
  case atStart => exact ⟨0, ([], []), Nat.zero_le _, rfl, rfl, hd1, isTidy_nil, hb1, fw1, c1⟩
  case round =>
    obtain ⟨k, X, hk, rfl, hX, hd, hT, hb, fr, cr⟩ := hrel
    by_cases hlt : k < n
    · have hkw : k < ws.length := by omega
      have hkl : k < ws.dropLast.length := by rw [List.length_dropLast]; omega
      have hc := rowO_cell cr k hkw
      have hln : ws.dropLast[k] = ws[k] := List.getElem_dropLast _
      have hX1 : exQ Sg (ws.dropLast.take (k + 1)) = sessQ Sg X ws[k] := by rw [List.take_succ_eq_append_getElem hkl, exQ_snoc, ← hX, hln]
      have hlk := hlen (k + 1)
      rw [hX1] at hlk
      have ha := calls_answer ⟨ws[k].toArray⟩ hd (tab_later ht fr (Nat.le_refl _)) hT (by rw [mkS_size]; exact hwz _ (List.getElem_mem hkw)) (hok _ (by rw [← hln]; exact List.getElem_mem hkl))
      have hlt2 : (k : Int) < n := by omega
      rw [show (ByteArray.mk ws[k].toArray).data.toList = ws[k] from rfl] at ha
      unfold sessQ at hX1 hlk
      generalize lineQ Sg X.1 ws[k] = y at *
      obtain ⟨T, t⟩ := y
      have hyl : t.length + 1 ≤ 100000000 := by simp at hlk; omega
      generalize ws[k] = l at *
      clear hok hlen hL hwl hwz hln hX
      have mid : ∀ w2, Fr (nwD wr w.heap.size) wr w2 → Built (w.heap.size + 1) X.2 w2 := fun w2 f2 => hb.fr (by obtain ⟨p, n, c, h, _⟩ := hd; exact ⟨_, _, h⟩) f2
      have next : ∀ w2 w3, Desk w.heap.size T w2 → isTidy T → Fr (nwD wr w.heap.size) wr w2 → Built (w.heap.size + 1) (X.2 ++ (t ++ [10])) w3 → BFr (w.heap.size + 1) w2 w3 → ∃ (k' : Nat) (X' : List Wh × List UInt8), k' ≤ n ∧ Value.int .i64 ((k : Int) + 1) = .int .i64 k' ∧ X' = exQ Sg (ws.dropLast.take k') ∧ Desk w.heap.size X'.1 w3 ∧ isTidy X'.1 ∧ Built (w.heap.size + 1) X'.2 w3 ∧ Fr (nwM w) w w3 ∧ w3.heap[G]? = some (rowO ws) := fun w2 w3 d2 t2 f2 b3 f3 => by
        refine ⟨k + 1, (T, X.2 ++ (t ++ [10])), by omega, by simp, hX1.symm, f3.desk (by omega) (mid w2 f2).ne d2, t2, b3, ?_, ?_⟩
        · exact f3.fr (by omega) (fr.trans (f2.mono fun k _ h => h.elim (fun x => Nat.le_trans fr.size x) (fun e => Nat.le_of_eq e.symm)))
        · refine f3.2 G _ ((f2.block G (Array.getElem?_eq_some_iff.1 cr).1 fun h => h.elim (fun h => absurd h (Nat.not_le.2 (Array.getElem?_eq_some_iff.1 cr).1)) fun h => by omega).trans cr) (fun e => by simp only [Option.some.injEq] at e; omega) (rowO_ne ws)
      have hws : ∀ w2, Fr (nwD wr w.heap.size) wr w2 → Calls Tryz.prog 46 #[.pointer (some ⟨w.heap.size + 1, 0, none⟩), .string ((⟨t.toArray⟩ : ByteArray) ++ ⟨#[10]⟩)] w2 fun e w' => ∃ v, e = .returned v ∧ Built (w.heap.size + 1) (X.2 ++ (t ++ [10])) w' ∧ BFr (w.heap.size + 1) w2 w' := fun w2 f2 => by
        rw [bytes_app t [10]]
        exact calls_wl (t ++ [10]) (mid w2 f2) (by rw [List.length_append] at hlk; exact Nat.le_trans hlk (by decide))
      clear mid hX1 hd hb hT fr cr ht fw1 hGz hlk
      go_wp2_with (first | (go_at_call 47; refine ha.mono ?_; rintro e w2 ⟨rfl, d2, t2, f2⟩) | (go_at_call 46; refine (hws _ ‹_›).mono ?_; rintro e w3 ⟨v, rfl, b3, f3⟩; obtain hinv := next _ _ d2 t2 f2 b3 f3))
      exact ⟨hinv, by simp [intOf]; omega⟩
    · have hkn : k = n := by omega
      subst hkn
      rw [List.take_of_length_le (by rw [List.length_dropLast]; omega)] at hX
      have hlk := hlen k
      have hLk := hL k
      rw [List.take_of_length_le (by rw [List.length_dropLast]; omega), ← hX] at hlk hLk
      obtain ⟨L, out⟩ := X
      have hlk : out.length ≤ 90000000 := hlk
      have hLk : L.length ≤ 100000 := hLk
      obtain ⟨p, n0, c, hq, hr⟩ := id hd
      obtain ⟨p', n', c', hv⟩ := hr.slice
      have hnl : n0 = L.length := by
        obtain ⟨ν, _, hv, _⟩ := hr
        simp only [VR] at hv
        obtain ⟨_, _, e, _⟩ := hv
        cases e
        rfl
      subst hnl
      have c0 : wr.cell? ⟨w.heap.size, 0, none⟩ = some (.slice p L.length c) := by rw [cell_of_row wr w.heap.size 0 #[.slice p L.length c] _ (0, 0) hq]; rfl
      have hsh := itoa_short L.length (by omega) (by omega)
      have hdb : ((decB L.length).size : Int) ≤ 20 := by rw [show (decB L.length).size = (Lib.itoa L.length).length by unfold decB; rw [mkS_size]]; omega
      have hit := calls_itoa L.length wr (ht.nwf fr) (by omega) (by omega)
      have hws : ∀ w2, Fr (nwM wr) wr w2 → Calls Tryz.prog 46 #[.pointer (some ⟨w.heap.size + 1, 0, none⟩), .string ((⟨#[119, 104, 101, 101, 108, 115, 32]⟩ : ByteArray) ++ decB L.length ++ ⟨#[10]⟩)] w2 fun e w' => ∃ v, e = .returned v ∧ (Built (w.heap.size + 1) (endQ (L, out)) w' ∧ Fr (nwM w) w w') := fun w2 f2 => by
        have hb2 := hb.fr (D := w.heap.size) ⟨_, _, hq⟩ f2.nwd
        have e1 : (⟨#[119, 104, 101, 101, 108, 115, 32]⟩ : ByteArray) ++ decB L.length ++ ⟨#[10]⟩ = ⟨([119, 104, 101, 101, 108, 115, 32] ++ (Lib.itoa L.length ++ [10])).toArray⟩ := by
          rw [show decB L.length = ⟨(Lib.itoa L.length).toArray⟩ from rfl, show (⟨#[119, 104, 101, 101, 108, 115, 32]⟩ : ByteArray) = ⟨([119, 104, 101, 101, 108, 115, 32] : List UInt8).toArray⟩ from rfl, show (⟨#[10]⟩ : ByteArray) = ⟨([10] : List UInt8).toArray⟩ from rfl, bytes_app, bytes_app, List.append_assoc]
        rw [e1]
        refine (calls_wl _ hb2 ?_).mono ?_
        · simp only [List.length_append, List.length_cons, List.length_nil]
          omega
        · rintro e w' ⟨v, rfl, h1, h2⟩
          exact ⟨v, rfl, h1, h2.fr (by omega) (nw_trans fr f2)⟩
      have hbs : ∀ w3, Built (w.heap.size + 1) (endQ (L, out)) w3 → Fr (nwM w) w w3 → Calls Tryz.prog 49 #[.pointer (some ⟨w.heap.size + 1, 0, none⟩)] w3 (VPost w (.string ⟨(endQ (L, out)).toArray⟩)) := fun w3 h3 f3 => by
        refine (calls_bs h3).mono ?_
        rintro e w' ⟨rfl, h⟩
        exact ⟨rfl, h.fr (by omega) f3⟩
      have hfin : ∀ _ : Unit, endQ (exQ Sg ws.dropLast) = endQ (L, out) := fun _ => by rw [← hX]
      clear hd hb hT hX hlk cr hq hr hv hok hlen hL hwl hwz ht hsh fw1 c1 hn
      generalize endQ (L, out) = r at *
      generalize decB L.length = q at *
      go_wp2_with (first | (go_at_call 48; refine hit.mono ?_; rintro e w2 ⟨rfl, f2⟩) | (go_at_call 46; refine (hws _ ‹_›).mono ?_; rintro e w3 ⟨v, rfl, b3, f3⟩) | (go_at_call 49; refine (hbs _ ‹_› ‹_›).mono ?_; rintro e w4 ⟨rfl, f4⟩))
      rw [hfin ()]
      go_ret
      exact ⟨rfl, f4⟩
end Go.Proofs.YtddhmidegldhdaaGreatDoor
