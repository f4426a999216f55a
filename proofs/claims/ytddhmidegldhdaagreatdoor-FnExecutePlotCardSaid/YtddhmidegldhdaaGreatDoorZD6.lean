/- The tables that the rows list, errors.errorType among them: a world that has them; what they say of the machine's tables. No conditions. -/
import Derived.Test.YtddhmidegldhdaaGreatDoorZD0
import Derived.Test.YtddhmidegldhdaaGreatDoorZD1
import Derived.Test.YtddhmidegldhdaaGreatDoorZD2
import Derived.Test.YtddhmidegldhdaaGreatDoorZD3
import Derived.Test.YtddhmidegldhdaaGreatDoorZD4
import Derived.Test.YtddhmidegldhdaaGreatDoorZD5
import Derived.Shelf.Strings.Shaped
import Derived.LaidLaws
import Derived.LaidSub
import Derived.Handed
import Derived.Test.YtddhmidegldhdaaGreatDoorCards
import Derived.LaidHandle
import Derived.Stop.Joined
/- The tables that the rows list, errors.errorType among them: a world that has them; what they say of the machine's tables. No conditions. -/
namespace Go.Proofs.YtddhmidegldhdaaGreatDoor
open Go.ChangeShapes Go.WideShapes Go.ChangeAt Go.RowKit Go.Shelf
set_option maxRecDepth 100000

def laidFlat : DataW Unit → List Value
  | .agg xs => xs.flatMap fun
      | .lit (.int k z) => [Value.int k z]
      | .agg ys => ys.map fun
        | .lit (.int k z) => Value.int k z
        | _ => undef
      | _ => [undef]
  | _ => []
def putT (g : Nat) (d : DataW Unit) (hp : Array Obj) : Array Obj := hp.modify g fun
  | .cells _ t fz => .cells (laidFlat d).toArray t fz
  | o => o
def putV (g : Nat) (v : Value) (hp : Array Obj) : Array Obj := hp.modify g fun
  | .cells _ t fz => .cells #[v] t fz
  | o => o
abbrev synS : ByteArray := { data := #[105, 110, 118, 97, 108, 105, 100, 32, 115, 121, 110, 116, 97, 120] }
abbrev ranS : ByteArray := { data := #[118, 97, 108, 117, 101, 32, 111, 117, 116, 32, 111, 102, 32, 114, 97, 110, 103, 101] }
noncomputable def lowW : Nat := (World.holding Tryz.prog default ⟨#[], #[], []⟩).heap.size
noncomputable def laidW (os : Os) : World :=
  let w0 := World.holding Tryz.prog os ⟨#[.cells #[.string synS] 337, .cells #[.string ranS] 337], #[], []⟩
  { w0 with heap := putT 8 Rows.laid_math_bits_deBruijn32tab (putT 9 Rows.laid_math_bits_deBruijn64tab (putT 3 Rows.laid_internal_strconv_uint64pow10
      (putT 5 Rows.laid_unicode_utf8_acceptRanges (putT 4 Rows.laid_unicode_utf8_first
        (putV 6 (.iface 335 (.pointer (some ⟨lowW, 0, none⟩))) (putV 7 (.iface 335 (.pointer (some ⟨lowW + 1, 0, none⟩))) w0.heap)))))) }
def laidL : List (String × DataW Unit) := [("math/bits.deBruijn32tab", Rows.laid_math_bits_deBruijn32tab), ("math/bits.deBruijn64tab", Rows.laid_math_bits_deBruijn64tab), ("internal/strconv.uint64pow10", Rows.laid_internal_strconv_uint64pow10), ("unicode/utf8.acceptRanges", Rows.laid_unicode_utf8_acceptRanges), ("strconv.ErrRange", Rows.laid_strconv_ErrRange), ("strconv.ErrSyntax", Rows.laid_strconv_ErrSyntax), ("unicode/utf8.first", Rows.laid_unicode_utf8_first)]
noncomputable def laidH (os : Os) : World := { laidW os with heap := putV 0 eT (laidW os).heap }
theorem laidH_met (os : Os) (args : Array Value) : laidMetH Tryz.prog Rows.fnExecuteRingRow.laid ((laidH os).forCall (fun _ _ => 0) ⟨#[], args, []⟩).memory :=
  laidMetH_of_parts (laidMet_of_run' 8 (by kernel_rfl) (by kernel_rfl)) (by kernel_rfl)

def Tryz.laysIdx_ren : Go.Shelf.Ren := ⟨fun | 143 => 144 | 219 => 213 | 217 => 171 | 225 => 277 | 224 => 278 | 267 => 279 | 266 => 246 | 314 => 315 | n => n, fun | 9 => 9 | 3 => 3 | 4 => 4 | 5 => 5 | 46 => 175 | 146 => 307 | 51 => 203 | n => n, fun | 1 => 1 | n => n⟩
theorem Tryz.laysIdx : Go.Proofs.LaysM.n143 Tryz.prog Tryz.laysIdx_ren := {
  mixed := by kernel_rfl
  f143 := Tryz.func144.trans (congrArg some (by kernel_rfl))
  f217 := Tryz.func171.trans (congrArg some (by kernel_rfl))
  f219 := Tryz.func213.trans (congrArg some (by kernel_rfl))
  f224 := Tryz.func278.trans (congrArg some (by kernel_rfl))
  f225 := Tryz.func277.trans (congrArg some (by kernel_rfl))
  f266 := Tryz.func246.trans (congrArg some (by kernel_rfl))
  f267 := Tryz.func279.trans (congrArg some (by kernel_rfl))
  f314 := Tryz.func315.trans (congrArg some (by kernel_rfl))
  t3 := Tryz.underlying3
  a3 := Tryz.isAgg3
  z3 := Tryz.sizeOf3
  v3 := Tryz.zeroValue3
  t4 := Tryz.underlying4
  a4 := Tryz.isAgg4
  z4 := Tryz.sizeOf4
  v4 := Tryz.zeroValue4
  t5 := Tryz.underlying5
  a5 := Tryz.isAgg5
  z5 := Tryz.sizeOf5
  v5 := Tryz.zeroValue5
  t9 := Tryz.underlying9
  a9 := Tryz.isAgg9
  z9 := Tryz.sizeOf9
  v9 := Tryz.zeroValue9
  t46 := Tryz.underlying175
  a46 := Tryz.isAgg175
  z46 := Tryz.sizeOf175
  v46 := Tryz.zeroValue175
  t51 := Tryz.underlying203
  a51 := Tryz.isAgg203
  z51 := Tryz.sizeOf203
  v51 := Tryz.zeroValue203
  t146 := Tryz.underlying307
  a146 := Tryz.isAgg307
  z146 := Tryz.sizeOf307
  v146 := Tryz.zeroValue307
  g1 := by kernel_rfl
  i3 := by kernel_rfl
  i4 := by kernel_rfl
  i5 := by kernel_rfl
  i9 := by kernel_rfl
  i46 := by kernel_rfl
  i51 := by kernel_rfl
  i146 := by kernel_rfl
  m1 := by kernel_rfl
  s1_3 := fun w h => Go.Proofs.cell_of_shapedOpen_int (zero := #[.int .i64 0]) (t := 3) h (of_decide_eq_true (by kernel_rfl)) (by kernel_rfl) rfl (by kernel_rfl) (by kernel_rfl) Tryz.underlying3 }
theorem one_cell {cs : Array Value} (h : cs.size = 1) : ∃ c, cs = #[c] := by
  obtain ⟨l⟩ := cs
  match l, h with
  | [c], _ => exact ⟨c, rfl⟩
theorem iface_cells {W : World} (name : String) (g : Nat) (tn : String) (d : DataW Unit) (hg : Tryz.prog.globalNamed name = some g) (hty : (Tryz.prog.globals[g]?).map (·.type) = some 49) {ms : Array (String × TypeId)} (hu : Tryz.prog.underlying 49 = some (.interface ms))
    (h : laidMet Tryz.prog [(name, .iface tn d)] W) : ∃ l t fz, W.heap[g]? = some (.cells (List.toArray l) t fz) ∧ anErr l := by
  obtain ⟨ps, ⟨g', t', cs, fuel, p, q, hg', ht', hvar, hd, _, _⟩, _⟩ := h
  obtain rfl := Option.some.inj (hg.symm.trans hg')
  obtain rfl := Option.some.inj (hty.symm.trans ht')
  obtain ⟨_, u, v, e1, _, _⟩ := iface_of_trod hu hd
  unfold World.var? at hvar
  rw [hg, Option.bind_some] at hvar
  split at hvar
  · rename_i cs' t fz hcs
    simp only [Option.some.injEq] at hvar
    subst hvar
    exact ⟨cs'.toList, t, fz, hcs, .iface u v, e1, .inr ⟨u, v, rfl⟩⟩
  · cases hvar
theorem typ_et : Tryz.prog.globalNamed "errors.errorType" = some 0 := by kernel_rfl
theorem typ_rt : (Tryz.prog.cutTypes.find? (·.1 == "internal/reflectlite.rtype")).map (·.2) = some 221 := by kernel_rfl
theorem typ_row : ((List.range Tryz.prog.types.size).filter fun t => Tryz.prog.rowNamed t [101, 114, 114, 111, 114]) = [49] := by kernel_rfl
theorem laid_tab {W : World} (hH : laidMetH Tryz.prog Rows.fnExecuteRingRow.laid W) (hsh : W.ShapedOpen Tryz.prog) : TabOk (fun k => W.heap.size ≤ k) W := by
  have h' : laidMet Tryz.prog laidL W ∧ handlesMet Tryz.prog [("errors.errorType", Rows.laid_errors_errorType)] W := hH
  obtain ⟨h, hh⟩ := h'
  have lt : ∀ {g : Nat} {o : Obj}, W.heap[g]? = some o → ¬ W.heap.size ≤ g := fun h => by
    have := (Array.getElem?_eq_some_iff.1 h).1
    omega
  intro x hx
  simp only [tabG, List.mem_cons, List.not_mem_nil, or_false] at hx
  rcases hx with rfl | rfl | rfl | rfl | rfl
  · have h1 : laidMet Tryz.prog [("internal/strconv.uint64pow10", Lib.tabData .u64 Lib.pow10Tab)] W := h.filter fun x => x.1 == "internal/strconv.uint64pow10"
    have e : Tryz.prog.globalNamed "internal/strconv.uint64pow10" = some 3 := by kernel_rfl
    have h2 := Lib.tabIs_of_head (t := 305) (e := 207) (n := 20) e (by kernel_rfl) Tryz.underlying305 Tryz.underlying207 (by kernel_rfl) (by kernel_rfl) h1
    unfold Lib.TabIs World.var? at h2
    rw [e, Option.bind_some] at h2
    split at h2
    · rename_i cs t fz hcs
      simp only [Option.some.injEq] at h2
      subst h2
      exact ⟨lt hcs, _, t, fz, hcs, rfl⟩
    · cases h2
  · obtain ⟨m, hm⟩ := Tryz.laysIdx.s1_3 W hsh
    obtain ⟨cs, hh, hs, _⟩ := hsh.1 1 #[.int .i64 0] 3 (of_decide_eq_true (by kernel_rfl)) (by kernel_rfl)
    obtain ⟨c, rfl⟩ := one_cell hs
    refine ⟨lt hh, [c], _, _, hh, m, ?_⟩
    have hm' : W.cell? ⟨1, 0, none⟩ = some (.int .i64 m) := hm
    simp only [World.cell?, hh] at hm'
    simpa using hm'
  · have h1 : laidMet Tryz.prog [("strconv.ErrSyntax", Rows.laid_strconv_ErrSyntax)] W := h.filter fun x => x.1 == "strconv.ErrSyntax"
    obtain ⟨l, t, fz, h2, h3⟩ := iface_cells "strconv.ErrSyntax" 6 _ _ (by kernel_rfl) (by kernel_rfl) Tryz.underlying49 h1
    exact ⟨lt h2, l, t, fz, h2, h3⟩
  · have h1 : laidMet Tryz.prog [("strconv.ErrRange", Rows.laid_strconv_ErrRange)] W := h.filter fun x => x.1 == "strconv.ErrRange"
    obtain ⟨l, t, fz, h2, h3⟩ := iface_cells "strconv.ErrRange" 7 _ _ (by kernel_rfl) (by kernel_rfl) Tryz.underlying49 h1
    exact ⟨lt h2, l, t, fz, h2, h3⟩
  · obtain ⟨name, u, ty, e1, e2, e3, e4, e5⟩ := hh _ (List.mem_singleton.2 rfl)
    have en : name = [101, 114, 114, 111, 114] := (Option.some.inj e1).symm
    subst en
    obtain rfl := Option.some.inj (typ_rt.symm.trans e2)
    have hm : ty ∈ (List.range Tryz.prog.types.size).filter fun t => Tryz.prog.rowNamed t [101, 114, 114, 111, 114] := List.mem_filter.2 ⟨List.mem_range.2 e3, e4⟩
    rw [typ_row] at hm
    obtain rfl := List.mem_singleton.1 hm
    have hq : typeHandle Tryz.prog 49 = .pointer (some ⟨10, 49, none⟩) := by kernel_rfl
    rw [hq] at e5
    unfold World.var? at e5
    rw [typ_et, Option.bind_some] at e5
    split at e5
    · rename_i cs t fz hcs
      simp only [Option.some.injEq] at e5
      subst e5
      exact ⟨lt hcs, _, t, fz, hcs, rfl⟩
    · cases e5

theorem wrapS {H : Type} {enc : TypeId × Value → H} {a : Assume} {C : Checked} {os : Os} {f : FuncId} {fn : Func} {s : ChangeSpec} {conds : List PathCond} {apart fresh handsOn again : Bool} {X : World → Array Value → Prop}
    (hX : ∀ (w w' : World) (args : Array Value), w.heap = w'.heap → X w args → X w' args)
    (own : ownKnob C.prog.godebug = none) (started : os.Started) (noInit : C.prog.inits.idxOf? f = none) (hfn : C.prog.funcs[f]? = some fn)
    (witness : ∃ (w : World) (tape : Tape) (i : Input), w.os = os ∧ (w.forCall tape i).Shaped C.prog ∧ i.vars = [] ∧ Input.okWide C.prog (w.forCall tape i) .any w.heap.size f i ∧
      ((s.pre enc C.prog fn conds apart (w.forCall tape i).memory i.args ∧ X (w.forCall tape i).memory i.args) ∧ sizedMet enc C.prog fn (OpenSpec.ofChange s) apart (w.forCall tape i).memory i.args) ∧ a.holds C.prog (lone (Frame.enter C.prog f i.args .normal) [] (w.forCall tape i)))
    (contract : ∀ (W : World) (base : Nat) (args : Array Value) (ds gs : List (DataW H)) (before : List MemPlace),
      (∀ (j : Nat) t v, fn.params[j]? = some t → args[j]? = some v → Value.okWide C.prog W .any base t v) →
      DataW.Whole enc C.prog fn.params.toList s.vars apart W args.toList ds gs before →
      X W args → W.ShapedOpen C.prog →
      Calls C.prog f args W fun e W' => ∃ v, e = .returned v ∧ s.post enc C.prog fn apart fresh handsOn again W args v W') :
    ReturnsInHanded a C os f .any (fun w args => (s.pre enc C.prog fn conds apart w args ∧ X w args) ∧ sizedMet enc C.prog fn (OpenSpec.ofChange s) apart w args) (s.post enc C.prog fn apart fresh handsOn again) := by
  refine returnsInHanded_of_calls own started noInit witness ?_
  intro w tape i _ hsh _ hok hpre hholds
  obtain ⟨_, _, _, fn', hfn', _, _, _, _, hval⟩ := hok
  have e : fn' = fn := Option.some.inj (hfn'.symm.trans hfn)
  subst e
  obtain ⟨⟨⟨ds, gs, before, hw, hc⟩, hx⟩, hz⟩ := hpre
  have hw' := DataW.Whole.of_heap (w' := w.forCall tape i) (by rfl) hw
  refine (contract (w.forCall tape i) w.heap.size i.args ds gs before hval hw' (hX _ _ _ (by rfl) hx) hsh).mono fun e W' ⟨v, he, hp⟩ => ?_
  subst he
  exact ChangeSpec.post_blind hp

end Go.Proofs.YtddhmidegldhdaaGreatDoor
