/- EntryMake of the program and of the reference return the same, for whatever list: FnExactEntryMake returns true, and its argument reads as before. Conditions: the tables, as the row lists them; tied by the card. -/
import Derived.Test.YtekffadnmmhpiaaGreatDoorZD0
import Derived.Test.YtekffadnmmhpiaaGreatDoorZD1
import Derived.Test.YtekffadnmmhpiaaGreatDoorZD2
import Derived.Test.YtekffadnmmhpiaaGreatDoorZD3
import Derived.Test.YtekffadnmmhpiaaGreatDoorZD4
import Derived.Test.YtekffadnmmhpiaaGreatDoorZD5
import Derived.Test.YtekffadnmmhpiaaGreatDoorZD6
import Derived.Test.YtekffadnmmhpiaaGreatDoorCards
import Derived.Test.YtekffadnmmhpiaaGreatDoorTie
import Derived.LaidLaws
import Derived.LaidSub
import Derived.SevenTiedAt
/- FnExactEntryMake: the whole. Conditions: a list of wheels. -/
namespace Go.Proofs.YtekffadnmmhpiaaGreatDoor
open Go.RowKit
set_option maxRecDepth 100000

theorem lawXe_h (v : List Wh → ByteArray × Int) (y : List Wh → Bool) (m : Nat) (f : Nat → Nat → Int) (t : TypeId) (u4 : _) (hu4 : (AB.row false m 9 (row9 f) t) = u4) (u6 : _) (hu6 : (0 : Nat) = u6) (u9 : _) (hu9 : (decide (m ≤ (549755813888 : Nat))) = u9) (u10 : _) (hu10 : (allW m fun q ↦ row9 f (u6 + q)) = u10) (u13 : _) (hu13 : (Nat.ble (u6 + m) m) = u13) (u14 : _) (hu14 : [AV.v (.bool false)] = u14) (u15 : _) (hu15 : [AV.v (.bool true)] = u15) (u0 : _) (hu0 : (Prod.snd (u6, m, fun q ↦ row9 f (u6 + q), [u13])) = u0) (u3 : _) (hu3 : (row9 (itW fun q ↦ row9 f (u6 + q))) = u3) (u11 : _) (hu11 : (itW (Prod.fst (Prod.snd u0))) = u11) (u16 : _) (hu16 : (Prod.fst u0) = u16) (u5 : _) (hu5 : (Prod.snd (List.length [u4] + u6, Prod.fst u0, row9 u11, [Nat.ble u16 u16])) = u5) (u7 : _) (hu7 : (AB.row true u16 9 (row9 u11) 42) = u7) (u2 : _) (hu2 : (v (listW (itW (Prod.fst (Prod.snd u5))) (Prod.fst u5))) = u2) (u8 : _) (hu8 : [AV.v (.string (Prod.fst u2)), AV.v (.int .u32 (Prod.snd u2))] = u8) (u1 : _) (hu1 : (Prod.snd (List.length [u4, u7, Prod.snd (Prod.fst (List.length [u4, u7], AB.cells (splice [AV.v (.string (ByteArray.mk #[])), AV.v (.int .u32 0)] (u6 * u6 + u6) u8) (26 : Nat)), AB.cells u8 (26 : Nat))] + u6, Prod.fst u0, row9 u11, [Nat.ble u16 u16])) = u1) (u12 : _) (hu12 : (v (listW (itW (Prod.fst (Prod.snd u1))) (Prod.fst u1))) = u12) : execF Tryz.prog (ext (ext gmH 5 (specR md_ws (FemO v y))) 7 (specR md_ws (FemO v y))) noLam 100 Tryz.f3 [.sl 0 9 0 0 m none] [.row false m 9 (row9 f) t] (packK 1)
    = bif decide (IntKind.wrap .i64 ((1048576 : Int) - (m : Int)) < (0 : Int)) then Res.out .ret u15 [u4] else bif decide (IntKind.wrap .i64 ((1048576 : Int) - (m : Int)) < (0 : Int)) then Res.out .ret u15 [u4] else needs [u13, u10, u9, Nat.ble m m, allW m u3, decide (m ≤ (274877906944 : Nat)), u13, u10, u9, Nat.ble m m, allW m u3, decide (m ≤ (274877906944 : Nat))] (bif !eqB u12.1 u2.1 then Res.out .ret u14 [u4] else bif u12.2 != u2.2 then Res.out .ret u14 [u4] else bif !y (listW (itW u3) m) == y (listW (itW u3) m) then Res.out .ret u14 [u4] else needs [u13, u10, u9, Nat.ble m m, Nat.ble m m, Nat.beq m m, allW m u3, allW m u3, sameW m (itW u3) (itW u3), decide (m ≤ (1099511627776 : Nat))] (Res.out .ret u15 [u4])) := by
  subst hu12 hu1 hu8 hu2 hu7 hu5 hu16 hu11 hu3 hu0 hu15 hu14 hu13 hu10 hu9 hu6 hu4
  kernel_rfl
theorem lawXe (v : List Wh → ByteArray × Int) (y : List Wh → Bool) (m : Nat) (f : Nat → Nat → Int) (t : TypeId) : type_of% (lawXe_h v y m f t _ rfl _ rfl _ rfl _ rfl _ rfl _ rfl _ rfl _ rfl _ rfl _ rfl _ rfl _ rfl _ rfl _ rfl _ rfl _ rfl _ rfl) := lawXe_h v y m f t _ rfl _ rfl _ rfl _ rfl _ rfl _ rfl _ rfl _ rfl _ rfl _ rfl _ rfl _ rfl _ rfl _ rfl _ rfl _ rfl _ rfl

theorem yes_xem (m : Nat) (f : Nat → Nat → Int) (t : TypeId) (hm : m ≤ 9223372036854775807) : ∃ Γ, GamOk Tryz.prog Γ ∧ GoodQ (execF Tryz.prog Γ noLam 100 Tryz.f3 [.sl 0 9 0 0 m none] [.row false m 9 (row9 f) t] (packK 1)) SaysYes := by
  have e1 : IntKind.wrap IntKind.i64 ((1048576 : Int) - (m : Int)) = 1048576 - m := wr_in (by omega)
  refine ⟨_, ext_ok (ext_ok gmH_ok ok_emS) ok_emI, ?_⟩
  rw [lawXe]
  by_cases hb : m ≤ 1048576
  · have c1 : decide ((1048576 : Int) - m < 0) = false := decide_eq_false (by omega)
    have b40 : decide (m ≤ 1099511627776) = true := decide_eq_true (by omega)
    have b39 : decide (m ≤ 549755813888) = true := decide_eq_true (by omega)
    have b38 : decide (m ≤ 274877906944) = true := decide_eq_true (by omega)
    simp only [row9_itW, listW_itW, e1, c1, b40, b39, b38, allW_row, sameW_self, ble_me, beq_me, needs_t, needs_nil, cond_false, Nat.zero_add, beq_self_eq_true, bne_self_eq_false, Bool.not_true, row0, eqB_self]
    exact good_out rfl
  · rw [e1, show decide ((1048576 : Int) - m < 0) = true from decide_eq_true (by omega)]
    exact good_out rfl

end Go.Proofs.YtekffadnmmhpiaaGreatDoor

/- EntryMake of the program and of the reference return the same, for whatever list: FnExactEntryMake returns true, and its argument reads as before. Conditions: the tables, as the row lists them; tied by the card. -/
namespace Go.Proofs.YtekffadnmmhpiaaGreatDoor
open Go.ChangeShapes Go.WideShapes Go.ChangeAt Go.RowKit

set_option maxRecDepth 100000
def laidVals : DataW Unit → Array Value
  | .agg xs => (xs.map fun
      | .lit (.int k z) => Value.int k z
      | _ => undef).toArray
  | _ => #[]
def putT (g : Nat) (d : DataW Unit) (hp : Array Obj) : Array Obj := hp.modify g fun
  | .cells _ t fz => .cells (laidVals d) t fz
  | o => o
noncomputable def laidW (os : Os) : World :=
  let w0 := World.holding Tryz.prog os ⟨#[], #[], []⟩
  { w0 with heap := putT 3 Rows.laid_math_bits_deBruijn32tab (putT 4 Rows.laid_math_bits_deBruijn64tab (putT 1 Rows.laid_internal_strconv_uint64pow10 w0.heap)) }
theorem laidW_met (os : Os) (args : Array Value) : laidMet Tryz.prog Rows.fnExactEntryMakeRow.laid ((laidW os).forCall (fun _ _ => 0) ⟨#[], args, []⟩).memory :=
  laidMet_of_run' 8 (by kernel_rfl) (by kernel_rfl)
theorem laid_tab {W : World} (h : laidMet Tryz.prog Rows.fnExactEntryMakeRow.laid W) : TabOk (fun k => W.heap.size ≤ k) W := by
  have h1 : laidMet Tryz.prog [("internal/strconv.uint64pow10", Lib.tabData .u64 Lib.pow10Tab)] W := h.filter fun x => x.1 == "internal/strconv.uint64pow10"
  have e : Tryz.prog.globalNamed "internal/strconv.uint64pow10" = some 1 := by kernel_rfl
  have h2 := Lib.tabIs_of_head (t := 136) (e := 116) (n := 20) e (by kernel_rfl) Tryz.underlying136 Tryz.underlying116 (by kernel_rfl) (by kernel_rfl) h1
  unfold Lib.TabIs World.var? at h2
  rw [e, Option.bind_some] at h2
  intro x hx
  obtain rfl : x = (1, fun l => l = Lib.pow10Tab.map fun z => Value.int .u64 z) := by simpa [tabG] using hx
  split at h2
  · rename_i cs t fz hcs
    simp only [Option.some.injEq] at h2
    subst h2
    refine ⟨?_, _, t, fz, hcs, rfl⟩
    have := (Array.getElem?_eq_some_iff.1 hcs).1
    simp only
    omega
  · cases h2

theorem xem_lifted (os : Os) (started : os.Started) (H : Type) (enc : TypeId × Value → H) :
    ReturnsInHanded {} Tryz.checked os 3 .any (fun w args => (Rows.fnExactEntryMakeSpec.pre enc Tryz.prog Tryz.f3 Rows.fnExactEntryMakeRow.domain false w args ∧ laidMet Tryz.prog Rows.fnExactEntryMakeRow.laid w) ∧ sizedMet enc Tryz.prog Tryz.f3 (OpenSpec.ofChange Rows.fnExactEntryMakeSpec) false w args)
      (Rows.fnExactEntryMakeSpec.post enc Tryz.prog Tryz.f3 false true false false) := by
  refine returnsInHanded_of_change_and (C := Tryz.checked) (X := fun w _ => laidMet Tryz.prog Rows.fnExactEntryMakeRow.laid w) (fun _ _ _ hh h => h.of_heap hh) own started (by kernel_rfl) Tryz.func3
    (ChangeSpec.witness_at (enc := enc) (C := Tryz.checked) (os := os) (X := fun w _ => laidMet Tryz.prog Rows.fnExactEntryMakeRow.laid w) false (laidW os) #[.slice none 0 0] 8 rfl (by kernel_rfl) (by kernel_rfl) (by kernel_rfl) (by kernel_rfl) (by kernel_rfl) (laidW_met os _)) ?_
  intro W base args ds gs before hval hW _ _ hL _
  exact contractW (spec := Rows.fnExactEntryMakeSpec) Tryz.func3 rfl rfl rfl (fun _ _ => rfl) (fun m a hm => (yes_xem m a 42 hm).elim fun Γ h => ⟨Γ, 100, h⟩) H enc W base args ds gs before hval hW (laid_tab hL)

set_option maxRecDepth 100000 in
theorem xem_f1 : Rows.fnExactEntryMakeRow.wf (OpenSpec.ofChange Rows.fnExactEntryMakeSpec) = true := by kernel_rfl
set_option maxRecDepth 100000 in
theorem xem_f2 : (Rows.fnExactEntryMakeRow.inPlace == Tryz.prog.inPlace 3) = true := by kernel_rfl
set_option maxRecDepth 100000 in
theorem xem_f3 : (Rows.fnExactEntryMakeRow.unfollowed == Tryz.prog.unfollowed 3) = true := by kernel_rfl
set_option maxRecDepth 100000 in
theorem xem_f4 : (Rows.fnExactEntryMakeRow.recurses == Tryz.prog.recurses 3) = true := by kernel_rfl
set_option maxRecDepth 100000 in
theorem xem_f5 : (Rows.fnExactEntryMakeRow.named == Tryz.prog.varsNamed 3) = true := by kernel_rfl
set_option maxRecDepth 100000 in
theorem xem_f6 : Tryz.prog.funcNamed Rows.fnExactEntryMakeRow.func = some 3 := by kernel_rfl
theorem xem_f7 : (Rows.fnExactEntryMakeRow.lifted == Tryz.prog.liftsFinal) = true := jfG
theorem xem_f8 : (Tryz.prog.make == some Rows.fnExactEntryMakeRow.make) = true := jfH
theorem xem_f9 : (Rows.fnExactEntryMakeRow.plainKeys == Tryz.prog.plainKeys) = true := jfI
set_option maxRecDepth 100000 in
theorem xem_joined : joinedFacts Tryz.prog 3 Tryz.f3 Rows.fnExactEntryMakeSpec Rows.fnExactEntryMakeRow = true := by
  unfold joinedFacts
  rw [jfA, jfB, jfC, jfD, jfE, jfF, xem_f1, xem_f2, xem_f3, xem_f4, xem_f5, xem_f7, xem_f8, xem_f9]
  kernel_rfl

theorem xem_said : Rows.FnExactEntryMakeSaid :=
  OpenClaim.holds_of_wide 3 Tryz.f3 rfl rfl rfl rfl rfl rfl rfl ⟨rfl, rfl, rfl, rfl, rfl⟩ rfl rfl rfl rfl rfl xem_f6 Tryz.func3 xem_joined
    (of_decide_eq_true (by kernel_rfl)) (by unfold Func.isWrapper; first | (rw [if_pos (by decide +kernel)]; kernel_rfl) | (rw [if_neg (by decide +kernel)]; exact ⟨rfl, rfl⟩))
    (fun os started H enc _ => xem_lifted os started H enc)

theorem xem_holds : Rows.FnExactEntryMakeCardSaid :=
  Claim7.holds_tied_plain_at .later [] [.data, .data, .data] true (true, "e73747533fece7393adf32ae3c585f38cf3487f4a4a723cf3cb9b9b2666e8962") false
    xem_said (fun _ h => by cases h) (by kernel_rfl) (fun _ h => by cases h) fnExactEntryMake_row_tie rfl ⟨rfl, rfl⟩ (by kernel_rfl) rfl
    (fun f fn hf hfn => by
      obtain rfl : f = 3 := (Option.some.inj (xem_f6.symm.trans hf)).symm
      obtain rfl : fn = Tryz.f3 := (Option.some.inj (Tryz.func3.symm.trans hfn)).symm
      exact ⟨by kernel_rfl, fun j t ht => by
        rw [Tryz.params3] at ht
        have h3 : t = 22 := by
          rcases j with _ | j
          · simpa using ht.symm
          · simp at ht
        subst h3
        exact (show Tryz.prog.wantsStandIn 22 = false by kernel_rfl)⟩)
    (by kernel_rfl)
#print axioms xem_holds

end Go.Proofs.YtekffadnmmhpiaaGreatDoor
