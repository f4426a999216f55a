/- Plain algebra: exact points over the 24th roots as eight integers, their products, mirrors, real and imaginary parts, and signs of surds, all in wrapped 64-bit integers. No program, no conditions. -/
import Derived.Test.YtddhmidegldhdaaGreatDoorZD0
import Derived.Test.YtddhmidegldhdaaGreatDoorZD1
import Derived.RangeFuncNested
import Derived.RangeFuncBound
import Derived.RangeFuncCalls
import Derived.RangeFuncLeaves
import Derived.LoopNIn
import Derived.OrdersIn
import Derived.TacticsIn
import Derived.RowKit
import Derived.Laws.BitsLemmas
/- The abstract machine, 17: the same, in a frame of a round of a loop over a function. No conditions. -/
namespace Go.Proofs.YtddhmidegldhdaaGreatDoor
open Go.RowKit

end Go.Proofs.YtddhmidegldhdaaGreatDoor

/- The abstract machine, 18: code, in a frame of a round of a loop over a function. Conditions: those of the table of callees. -/
namespace Go.Proofs.YtddhmidegldhdaaGreatDoor
open Go.RowKit

end Go.Proofs.YtddhmidegldhdaaGreatDoor

/- The abstract machine, 19: a loop over a function: the rounds, on the loop's own frame. Conditions: the word of the function that yields. -/
namespace Go.Proofs.YtddhmidegldhdaaGreatDoor
open Go.RowKit

def keepR (w : World) (M : Nat → Prop) (W W' : World) : Prop := W.heap.size ≤ W'.heap.size ∧ ∀ (k : Nat) (o : Obj), k < w.heap.size → ¬ M k → W.heap[k]? = some o → W'.heap[k]? = some o

theorem keepR.trans {w : World} {M : Nat → Prop} {A B C : World} (h : keepR w M A B) (k : keepR w M B C) : keepR w M A C := ⟨Nat.le_trans h.1 k.1, fun i o hi hm ho => k.2 i o hi hm (h.2 i o hi hm ho)⟩

theorem keepR.fr {w : World} {M M' : Nat → Prop} {W W' : World} (hs : w.heap.size ≤ W.heap.size) (hsub : ∀ k, k < w.heap.size → M' k → M k) (h : Fr M' W W') : keepR w M W W' :=
  ⟨h.size, fun k _ hk hm ho => (h.block k (by omega) fun hm' => hm (hsub k hk hm')).trans ho⟩

theorem keepR.put {w : World} {M : Nat → Prop} {W : World} {l : Nat} {o : Obj} (hl : w.heap.size ≤ l) : keepR w M W (W.putObj l o) :=
  ⟨by simp [World.putObj], fun k o' hk _ ho => (World.putObj_heap_other (by omega)).trans ho⟩

end Go.Proofs.YtddhmidegldhdaaGreatDoor

/- The abstract machine, 20: a region that draws its order, up to an operation behind which all is in line. Conditions: those of the table of callees. -/
namespace Go.Proofs.YtddhmidegldhdaaGreatDoor
open Go.RowKit

theorem zip_take : ∀ (l : List Oper) (es : List Ent), List.zipWith Item.mk (l.take es.length) es = List.zipWith Item.mk l es
  | [], es => by simp
  | o :: l, [] => by simp
  | o :: l, e :: es => by simp [zip_take l es]

end Go.Proofs.YtddhmidegldhdaaGreatDoor

/- The abstract machine: a region that draws its order, of which one operation dies. Conditions: those of the table of callees. -/
namespace Go.Proofs.YtddhmidegldhdaaGreatDoor
open Go.RowKit

def dieOk (k : Nat) (all : List Oper) : Bool := (List.range all.length).all fun i => Nat.ble i k || ((befL all []).getD i 0).testBit k

theorem any_die {P : Program} {Γ : Gam} (hΓ : GamOk P Γ) {k : Nat} {all : List Oper} {es : List Ent} {M : Nat → Prop} {w0 : World} {ν0 : Nu} (hM : ∀ k, w0.heap.size ≤ k → M k) {T : List AV} {H : List AB} {T' : List AV} {H' : List AB} (r : RunOk P Γ all (all.take k) es T H T' H') (hkl : k < all.length) (hB : drawOk all es = true) (hC : dieOk k all = true)
    {a : Act} {w : World} {ν : Nu} {Q : Exit → Act → World → Prop} (h : SR M w0 ν0 T H a w ν)
    (hD : ∀ S a' w' ν', Stage M w0 ν0 T.length H.length (fun t => T.getD t .dead) (fun b => H.getD b .gone) (items all es) S a' w' ν' → a'.defers = a.defers → (∀ q, ((befL all []).getD k 0).testBit q = true → S q = true) → ∀ K, wpOp P all.toArray Q k K a' w') :
    wpAny P .any all.toArray Q all.length (Array.replicate all.length false) a w := by
  have rl : es.length = k := by rw [run_len r]; simp; omega
  have hitems : items (all.take k) es = items all es := by
    simp only [items]
    rw [← rl]
    exact zip_take all es
  have ra : RunAt P Γ all all es T H T' H' := by
    have r0 := run_at r
    have := r0.at_
    exact ⟨by omega, r0.lenT, r0.lenH, by rw [← hitems]; exact r0.at_, by rw [← hitems]; exact r0.endT, by rw [← hitems]; exact r0.endH, by rw [← hitems]; exact r0.base, by rw [← hitems]; exact r0.apart, by rw [← hitems]; exact r0.lt⟩
  have hlen : (items all es).length = k := by simp [items, rl]; omega
  simp only [drawOk, Bool.and_eq_true] at hB
  obtain ⟨hB1, hB2⟩ := hB
  have edges : ∀ (i : Nat) o, all[i]? = some o → ∀ e ∈ o.after, Region.binds .any e = true → e.on < i := fun i o ho e he hb => by simpa using edgesOk_spec hB1 i o ho e he hb
  have races : ∀ (i j : Nat) x y, i < j → (items all es)[i]? = some x → (items all es)[j]? = some y → ((befL all []).getD j 0).testBit i = true ∨ apartI all.toArray x y = true := fun i j x y hij hx hy => raceFree_spec hB2 j y hy i x (by simpa using hij) (by simpa using hx)
  have key : ∀ (f : Nat) (listed : Array Bool) (a' : Act) (w' : World) (ν' : Nu), listed.size = all.length → listed.toList.count false = f → Closed all (fun j => listed.getD j false) → (∀ j, k ≤ j → listed.getD j false = false) →
      Stage M w0 ν0 T.length H.length (fun t => T.getD t .dead) (fun b => H.getD b .gone) (items all es) (fun j => listed.getD j false) a' w' ν' → a'.defers = a.defers → wpAny P .any all.toArray Q f listed a' w' := by
    intro f
    induction f with
    | zero =>
      intro listed a' w' ν' hs hcnt hc hno st hd
      exfalso
      have hne : false ∉ listed.toList := List.count_eq_zero.1 hcnt
      have hks : k < listed.size := by omega
      have h1 := hno k (Nat.le_refl _)
      simp only [Array.getD, hks, dif_pos] at h1
      exact hne (by rw [← h1]; simp)
    | succ f ih =>
      intro listed a' w' ν' hs hcnt hc hno st hd
      refine ⟨fun hnil => ?_, fun i hi => ?_⟩
      · exfalso
        have allT : ∀ j, j < all.length → listed.getD j false = true := by
          intro j
          induction j using Nat.strongRecOn with
          | _ j jh =>
            intro hj
            cases hl : listed.getD j false with
            | true => rfl
            | false =>
              have : j ∈ Region.ready .any all.toArray listed := by
                rw [mem_ready]
                refine ⟨by rw [getD_bool (by omega) true false]; exact hl, all[j], by simp [hj], fun e he hb => ?_⟩
                have hlt := edges j all[j] (by simp [hj]) e he hb
                exact jh e.on hlt (by omega)
              rw [hnil] at this
              cases this
        have h1 := allT k hkl
        rw [hno k (Nat.le_refl _)] at h1
        cases h1
      · obtain ⟨h1, o, ho, he⟩ := mem_ready.1 hi
        have hil : i < all.length := by simpa using (Array.getElem?_eq_some_iff.1 ho).1
        have hoa : all[i]? = some o := by simpa using ho
        have hS0 : listed.getD i false = false := by rw [getD_bool (by omega) false true]; exact h1
        have anc0 : ∀ q, ((befL all []).getD i 0).testBit q = true → listed.getD q false = true := befL_spec (S := fun j => listed.getD j false) (r := all) (acc := []) hc rfl (fun j o hj => by simp at hj) i o hoa he
        rcases Nat.lt_trichotomy i k with hik | rfl | hik
        case inr.inr =>
          exfalso
          have := List.all_eq_true.1 hC i (by simpa using hil)
          rcases Bool.or_eq_true_iff.1 this with h' | h'
          · rw [Nat.ble_eq] at h'; omega
          · have := anc0 k h'
            rw [hno k (Nat.le_refl _)] at this
            cases this
        case inr.inl => exact hD _ a' w' ν' st hd anc0 _
        have hix : (items all es)[i]? = some (items all es)[i] := List.getElem?_eq_getElem (by omega)
        generalize hxg : (items all es)[i] = x at hix
        have hxo : x.o = o := by
          simp only [items, List.getElem?_zipWith] at hix
          split at hix
          · rename_i o' e' h1' h2'
            cases hix
            rw [hoa] at h1'
            cases h1'
            rfl
          · cases hix
        -- ancestors of i are listed; those of a listed one are listed
        have anc : ∀ q, ((befL all []).getD i 0).testBit q = true → listed.getD q false = true := befL_spec (S := fun j => listed.getD j false) (r := all) (acc := []) hc rfl (fun j o hj => by simp at hj) i o hoa he
        have anc' : ∀ j, listed.getD j false = true → j < all.length → ∀ q, ((befL all []).getD j 0).testBit q = true → listed.getD q false = true := by
          intro j hj hjl
          have hjx : all[j]? = some all[j] := List.getElem?_eq_getElem hjl
          exact befL_spec (S := fun j => listed.getD j false) (r := all) (acc := []) hc rfl (fun j o hj => by simp at hj) j _ hjx (hc.cl j _ hjx hj)
        have before : ∀ (j : Nat) y, j < i → (items all es)[j]? = some y → apartI all.toArray y x = true ∨ listed.getD j false = true := by
          intro j y hj hy
          rcases races j i y x hj hy hix with h | h
          · exact .inr (anc j h)
          · exact .inl h
        have after' : ∀ (j : Nat) y, i < j → (items all es)[j]? = some y → apartI all.toArray x y = true ∨ listed.getD j false = false := by
          intro j y hj hy
          rcases races i j x y hj hix hy with h | h
          · right
            cases hl : listed.getD j false with
            | false => rfl
            | true =>
              have hjl : j < all.length := by
                have := (List.getElem?_eq_some_iff.1 hy).1
                omega
              have := anc' j hl hjl i h
              rw [hS0] at this
              cases this
          · exact .inl h
        refine stage_step hΓ hM ra hix st hS0 (fun t ht => ?_) (fun b hb => ?_) (fun t ht j y hj hy hdy => ?_) (fun b hb j y hj hy hwy => ?_) fun a'' w'' ν'' st' hd' => ?_
        · refine foldT_congr rfl fun j y hy hdy => ?_
          simp only [Nat.zero_add]
          rcases Nat.lt_trichotomy j i with hj | hj | hj
          · rw [decide_eq_true hj]
            exact (before j y hj hy).resolve_left fun ha => ((apartI_tmps ha).1 t hdy).1 ht
          · subst hj
            rw [hS0]
            simp
          · rw [decide_eq_false (by omega)]
            exact (after' j y hj hy).resolve_left fun ha => (apartI_tmps ha).2 t hdy ht
        · refine foldH_congr rfl fun j y hy hdy => ?_
          simp only [Nat.zero_add]
          rcases Nat.lt_trichotomy j i with hj | hj | hj
          · rw [decide_eq_true hj]
            exact (before j y hj hy).resolve_left fun ha => ((apartI_blocks ha).1 b hdy).1 hb
          · subst hj
            rw [hS0]
            simp
          · rw [decide_eq_false (by omega)]
            exact (after' j y hj hy).resolve_left fun ha => (apartI_blocks ha).2 b hdy hb
        · rcases after' j y hj hy with h | h
          · exact absurd hdy ((apartI_tmps h).1 t ht).2
          · exact h
        · rcases after' j y hj hy with h | h
          · exact absurd hwy ((apartI_blocks h).1 b hb).2
          · exact h
        · have hset : (fun j => (listed.setIfInBounds i true).getD j false) = also (fun j => listed.getD j false) i := by
            funext j
            simp only [also]
            by_cases e : i = j
            · subst e
              simp [Array.getD, show i < listed.size by omega]
            · rw [getD_set_ne false e]
              have : (j == i) = false := by simp; exact fun h => e h.symm
              rw [this, Bool.or_false]
          refine ih (listed.setIfInBounds i true) a'' w'' ν'' (by simpa using hs) ?_ ⟨fun j o' ho' hj e he' hb => ?_⟩ (fun j hj => by rw [getD_set_ne false (by omega)]; exact hno j hj) (by rw [hset]; exact st') (hd'.trans hd)
          · have hi' : i < listed.toList.length := by simp; omega
            have hval : listed.toList[i] = false := by
              have : i < listed.size := by omega
              simp [Array.getD, this] at hS0
              simpa using hS0
            simp only [Array.toList_setIfInBounds]
            rw [List.count_set hi']
            simp [hval, hcnt]
          · have hset' : ∀ j, (listed.setIfInBounds i true).getD j false = also (fun j => listed.getD j false) i j := congrFun hset
            rw [hset'] at hj ⊢
            simp only [also, Bool.or_eq_true, beq_iff_eq] at hj ⊢
            rcases hj with hj | rfl
            · exact .inl (hc.cl j o' ho' hj e he' hb)
            · rw [hoa] at ho'
              cases ho'
              exact .inl (he e he' hb)
  have rep : ∀ j, (Array.replicate all.length false).getD j false = false := by
    intro j
    rw [Array.getD_eq_getD_getElem?, Array.getElem?_replicate]
    split <;> rfl
  refine key all.length _ a w ν (by simp) (by simp) ⟨fun j o ho hj => ?_⟩ (fun j _ => rep j) (stage_start h _ fun j => rep j) rfl
  rw [rep j] at hj
  cases hj

def argsB (k : Nat) (all : List Oper) (args : List Operand) : Bool := args.all fun
  | .tmp t => (List.range k).all fun j => match all[j]? with
    | some o => (match o.dst with | some d => !(Nat.beq d t) | none => true) || ((befL all []).getD k 0).testBit j
    | none => true
  | _ => true
def lateB (k : Nat) (all : List Oper) : Bool := (List.range k).all fun j => ((befL all []).getD k 0).testBit j
theorem run_call {P : Program} {o : Oper} {g : FuncId} {args : Array Operand} {ts : Array TypeId} {a : Act} {w : World} (h : o.op = .call ⟨.value (.func g), args, ts⟩) (eg : ∀ args w, (callFunc g args).run P w = .ok (.enter g args) w) : (execOp a.eval o).run P w = .ok (.enter g (args.toList.map a.eval).toArray) w := by
  have e : (args.map a.eval) = (args.toList.map a.eval).toArray := by
    apply Array.ext'
    simp
  have e2 : (args.toList.map a.eval).toArray ++ #[] = (args.toList.map a.eval).toArray := by
    apply Array.ext'
    simp
  simp [execOp, h, resolve, Deferred.ofValue, invoke, Act.eval, eg] <;> first | exact e | (apply Array.ext'; simp)
theorem region_dies {P : Program} {Γ : Gam} (hΓ : GamOk P Γ) (hmix : P.follows .mixedOrders = true) {k id : Nat} {ops : Array Oper} {M : Nat → Prop} {w0 : World} {ν0 : Nu} (hM : ∀ k, w0.heap.size ≤ k → M k) {T : List AV} {H : List AB} {QQ : Ex → List AV → List AB → Prop}
    (hrun : (execOps P Γ ops.toList (ops.toList.take k) T H [] fun T' H' tr => cond (drawOk ops.toList tr.reverse && dieOk k ops.toList) (.out .normal T' H') .err).ok QQ)
    {o : Oper} {g : FuncId} {args : Array Operand} {ts : Array TypeId} (ho : ops.toList[k]? = some o) (hg : o.guard = none) (hop : o.op = .call ⟨.value (.func g), args, ts⟩) (eg : ∀ args w, (callFunc g args).run P w = .ok (.enter g args) w) (hargs : argsB k ops.toList args.toList = true)
    {a : Act} {w : World} {ν : Nu} {Q : Exit → Act → World → Prop} (h : SR M w0 ν0 T H a w ν)
    (hend : ∀ T' H', QQ .normal T' H' → ∀ a' w' ν' (vals : List Value), VRs ν' (args.toList.map (evA T')) vals → (lateB k ops.toList = true → SR M w0 ν0 T' H' a' w' ν') → Fr M w0 w' → TabOk M w' → a'.defers = a.defers → Calls P g vals.toArray w' fun e w'' => ∃ chain, e = .panicked chain ∧ Q (.panic chain) a' w'') :
    (Code.region id ops true).wp P Q a w := by
  obtain ⟨es, T', H', r, h2⟩ := execOps_run hrun
  rcases (cond_ok h2).symm with ⟨_, h2⟩ | ⟨hc, h2⟩
  · exact h2.elim
  rw [Bool.and_eq_true] at hc
  obtain ⟨hdr, hdie⟩ := hc
  have hdr : drawOk ops.toList es = true := by simpa using hdr
  have hkl : k < ops.toList.length := (List.getElem?_eq_some_iff.1 ho).1
  have rl : es.length = k := by rw [run_len r]; simp at hkl ⊢; omega
  have ra := run_at r
  have hitems : items (ops.toList.take k) es = items ops.toList es := by
    simp only [items]
    rw [← rl]
    exact zip_take ops.toList es
  rw [← Array.toArray_toList (xs := ops)]
  have hS' : SR M w0 ν0 T H a { w with drawn := w.drawn + 1 } ν := ⟨h.tmps, ⟨fun i => (h.heap.br i).of_block fun _ _ _ => rfl, h.heap.sep, h.heap.own, h.heap.lt, h.heap.tab⟩, h.fr.drew, h.dom, h.len, h.le⟩
  refine wp_region_any hmix ?_
  have := any_die (Q := Q) hΓ hM r hkl hdr hdie hS' fun S a' w' ν' st hd hanc K => ?_
  · simpa using this
  unfold wpOp
  simp only [List.getElem?_toArray, ho]
  rw [if_pos (by simp [Region.wanted, hg])]
  refine .inl ?_
  unfold Oper.wp
  rw [run_call hop eg]
  simp only [Oper.upon]
  have xdst : ∀ (j : Nat) x, (items ops.toList es)[j]? = some x → j < k ∧ ops.toList[j]? = some x.o := by
    intro j x hx
    simp only [items, List.getElem?_zipWith] at hx
    split at hx
    · rename_i o' e' h1 h2
      cases hx
      exact ⟨by have := (List.getElem?_eq_some_iff.1 h2).1; omega, h1⟩
    · cases hx
  have hvals : VRs ν' (args.toList.map (evA T')) (args.toList.map a'.eval) := VRs_map fun z hz => evA_sound fun t ht => by
    subst ht
    have e : T'.getD t .dead = foldT S 0 (items ops.toList es) (fun t => T.getD t .dead) t := by
      rw [ra.endT t, hitems]
      refine foldT_congr rfl fun j x hx hdx => ?_
      obtain ⟨hjk, hjo⟩ := xdst j x hx
      have := List.all_eq_true.1 (List.all_eq_true.1 hargs _ hz) j (List.mem_range.2 hjk)
      rw [hjo] at this
      simp only [hdx, Nat.beq_refl, Bool.not_true, Bool.false_or] at this
      rw [Nat.zero_add, hanc j this]
    rw [e]
    exact st.tmps t
  refine (hend T' H' h2 a' w' ν' _ hvals (fun hl => ?_) st.fr st.heap.tab hd).mono ?_
  · have ra2 : RunAt P Γ ops.toList ops.toList es T H T' H' := by
      have r0 := run_at r
      exact ⟨by omega, r0.lenT, r0.lenH, by rw [← hitems]; exact r0.at_, by rw [← hitems]; exact r0.endT, by rw [← hitems]; exact r0.endH, by rw [← hitems]; exact r0.base, by rw [← hitems]; exact r0.apart, by rw [← hitems]; exact r0.lt⟩
    exact stage_end ra2 st fun j hj => hanc j (List.all_eq_true.1 hl j (List.mem_range.2 (by omega)))
  · rintro e w'' ⟨chain, rfl, hq⟩
    exact hq
end Go.Proofs.YtddhmidegldhdaaGreatDoor

/- Plain algebra: exact points over the 24th roots as eight integers, their products, mirrors, real and imaginary parts, and signs of surds, all in wrapped 64-bit integers. No program, no conditions. -/
namespace Go.Proofs.YtddhmidegldhdaaGreatDoor
open Go.RowKit

def W (n : Int) : Int := IntKind.i64.wrap n

theorem W_eq (x : Int) : W x = (x + 9223372036854775808) % 18446744073709551616 - 9223372036854775808 := by
  exact IntKind.wrap_i64 x
theorem w64_ex (x : Int) : ∃ q, W x = x + 18446744073709551616 * q := by
  refine ⟨-((x + 9223372036854775808) / 18446744073709551616), ?_⟩
  simp only [W_eq]
  omega

theorem w64_add_mul (x q : Int) : W (x + 18446744073709551616 * q) = W x := by
  simp only [W_eq]
  omega

theorem w64_add_l (x y : Int) : W (W x + y) = W (x + y) := by
  obtain ⟨q, h⟩ := w64_ex x
  rw [h, show x + 18446744073709551616 * q + y = x + y + 18446744073709551616 * q from by omega, w64_add_mul]

theorem w64_add_r (x y : Int) : W (x + W y) = W (x + y) := by
  rw [Int.add_comm, w64_add_l, Int.add_comm]

theorem w64_sub_l (x y : Int) : W (W x - y) = W (x - y) := by
  obtain ⟨q, h⟩ := w64_ex x
  rw [h, show x + 18446744073709551616 * q - y = x - y + 18446744073709551616 * q from by omega, w64_add_mul]

theorem w64_sub_r (x y : Int) : W (x - W y) = W (x - y) := by
  obtain ⟨q, h⟩ := w64_ex y
  rw [h, show x - (y + 18446744073709551616 * q) = x - y + 18446744073709551616 * (-q) from by omega, w64_add_mul]

theorem w64_neg (x : Int) : W (-W x) = W (-x) := by
  have := w64_sub_r 0 x
  simpa using this

theorem w64_w64 (x : Int) : W (W x) = W x := by
  have := w64_add_l x 0
  simpa using this

theorem w64_in {x : Int} (h1 : -9223372036854775808 ≤ x) (h2 : x ≤ 9223372036854775807) : W x = x := by
  simp only [W_eq]
  omega

theorem w64_range (x : Int) : -9223372036854775808 ≤ W x ∧ W x ≤ 9223372036854775807 := by
  simp only [W_eq]
  omega

def plusF (a b : Nat → Int) : Nat → Int := fun k => W (a k + b k)
def sumF (a : Nat → Int) (n : Int) (b : Nat → Int) : Nat → Int := fun k => W (a k + n * b k)

def convF (a b : Nat → Int) : Nat → Int
  | 0 => a 0 * b 0
  | 1 => a 0 * b 1 + a 1 * b 0
  | 2 => a 0 * b 2 + a 1 * b 1 + a 2 * b 0
  | 3 => a 0 * b 3 + a 1 * b 2 + a 2 * b 1 + a 3 * b 0
  | 4 => a 0 * b 4 + a 1 * b 3 + a 2 * b 2 + a 3 * b 1 + a 4 * b 0
  | 5 => a 0 * b 5 + a 1 * b 4 + a 2 * b 3 + a 3 * b 2 + a 4 * b 1 + a 5 * b 0
  | 6 => a 0 * b 6 + a 1 * b 5 + a 2 * b 4 + a 3 * b 3 + a 4 * b 2 + a 5 * b 1 + a 6 * b 0
  | 7 => a 0 * b 7 + a 1 * b 6 + a 2 * b 5 + a 3 * b 4 + a 4 * b 3 + a 5 * b 2 + a 6 * b 1 + a 7 * b 0
  | 8 => a 1 * b 7 + a 2 * b 6 + a 3 * b 5 + a 4 * b 4 + a 5 * b 3 + a 6 * b 2 + a 7 * b 1
  | 9 => a 2 * b 7 + a 3 * b 6 + a 4 * b 5 + a 5 * b 4 + a 6 * b 3 + a 7 * b 2
  | 10 => a 3 * b 7 + a 4 * b 6 + a 5 * b 5 + a 6 * b 4 + a 7 * b 3
  | 11 => a 4 * b 7 + a 5 * b 6 + a 6 * b 5 + a 7 * b 4
  | 12 => a 5 * b 7 + a 6 * b 6 + a 7 * b 5
  | 13 => a 6 * b 7 + a 7 * b 6
  | 14 => a 7 * b 7
  | _ => 0

def mulZ (a b : Nat → Int) : Nat → Int
  | 0 => convF a b 0 - convF a b 8 - convF a b 12
  | 1 => convF a b 1 - convF a b 9 - convF a b 13
  | 2 => convF a b 2 - convF a b 10 - convF a b 14
  | 3 => convF a b 3 - convF a b 11
  | 4 => convF a b 4 + convF a b 8
  | 5 => convF a b 5 + convF a b 9
  | 6 => convF a b 6 + convF a b 10
  | 7 => convF a b 7 + convF a b 11
  | _ => 0

def mulF (a b : Nat → Int) : Nat → Int := fun k => W (mulZ a b k)

def mirZ (a : Nat → Int) : Nat → Int
  | 0 => a 0 + a 4
  | 1 => a 3
  | 2 => a 2
  | 3 => a 1
  | 4 => -a 4
  | 5 => -a 3 - a 7
  | 6 => -a 2 - a 6
  | 7 => -a 1 - a 5
  | _ => 0

def mirF (a : Nat → Int) : Nat → Int := fun k => W (mirZ a k)

def stepF (a : Nat → Int) : Nat → Int
  | 0 => W (0 - a 7)
  | 4 => W (a 3 + a 7)
  | k + 1 => a k

def turnedF (a : Nat → Int) : Nat → Nat → Int
  | 0 => a
  | n + 1 => stepF (turnedF a n)

@[reducible] def zeroF : Nat → Int := fun _ => 0
def oneF : Nat → Int
  | 0 => 1
  | _ + 1 => 0
def rootF (t : Nat) : Nat → Int := turnedF oneF t

theorem forall8 {p : Nat → Prop} (h0 : p 0) (h1 : p 1) (h2 : p 2) (h3 : p 3) (h4 : p 4) (h5 : p 5) (h6 : p 6) (h7 : p 7) : ∀ k, k < 8 → p k := by
  intro k hk
  match k, hk with
  | 0, _ => exact h0
  | 1, _ => exact h1
  | 2, _ => exact h2
  | 3, _ => exact h3
  | 4, _ => exact h4
  | 5, _ => exact h5
  | 6, _ => exact h6
  | 7, _ => exact h7

theorem forall_succ {p : Nat → Prop} {n : Nat} (h : ∀ j, j < n → p j) (hn : p n) : ∀ j, j < n + 1 → p j := by
  intro j hj
  rcases Nat.lt_succ_iff_lt_or_eq.1 hj with h1 | h1
  · exact h j h1
  · subst h1; exact hn

theorem forall_zero {p : Nat → Prop} : ∀ j, j < 0 → p j := fun j hj => absurd hj (Nat.not_lt_zero j)

def inR (n lo hi : Int) : Bool := decide (lo ≤ n) && decide (n ≤ hi)

theorem inR_iff {n lo hi : Int} : inR n lo hi = true ↔ lo ≤ n ∧ n ≤ hi := by simp [inR]

def smallF (a : Nat → Int) (lo hi : Int) : Bool :=
  bif !inR (a 0) lo hi then false else bif !inR (a 1) lo hi then false else bif !inR (a 2) lo hi then false else bif !inR (a 3) lo hi then false else
  bif !inR (a 4) lo hi then false else bif !inR (a 5) lo hi then false else bif !inR (a 6) lo hi then false else bif !inR (a 7) lo hi then false else true

theorem smallF_iff {a : Nat → Int} {lo hi : Int} : smallF a lo hi = true ↔ ∀ k, k < 8 → lo ≤ a k ∧ a k ≤ hi := by
  constructor
  · intro h
    have key : ∀ (b : Bool) (c : Bool), (bif !b then false else c) = true → b = true ∧ c = true := by intro b c; cases b <;> simp
    unfold smallF at h
    obtain ⟨h0, h⟩ := key _ _ h
    obtain ⟨h1, h⟩ := key _ _ h
    obtain ⟨h2, h⟩ := key _ _ h
    obtain ⟨h3, h⟩ := key _ _ h
    obtain ⟨h4, h⟩ := key _ _ h
    obtain ⟨h5, h⟩ := key _ _ h
    obtain ⟨h6, h⟩ := key _ _ h
    obtain ⟨h7, h⟩ := key _ _ h
    exact forall8 (inR_iff.1 h0) (inR_iff.1 h1) (inR_iff.1 h2) (inR_iff.1 h3) (inR_iff.1 h4) (inR_iff.1 h5) (inR_iff.1 h6) (inR_iff.1 h7)
  · intro h
    simp [smallF, inR_iff.2 (h 0 (by decide)), inR_iff.2 (h 1 (by decide)), inR_iff.2 (h 2 (by decide)), inR_iff.2 (h 3 (by decide)), inR_iff.2 (h 4 (by decide)), inR_iff.2 (h 5 (by decide)), inR_iff.2 (h 6 (by decide)), inR_iff.2 (h 7 (by decide))]

theorem emod_tmod {n : Int} (h0 : -9223372036854775808 ≤ n) (h1 : n ≤ 9223372036854775807) : (W (n.tmod 24 + 24)).tmod 24 = n % 24 := by
  have h : n.tmod 24 = n % 24 ∨ n.tmod 24 = n % 24 - 24 := by
    rcases Int.le_total 0 n with h | h
    · left; exact Int.tmod_eq_emod_of_nonneg h
    · have e1 : n.tmod 24 = -((-n) % 24) := by
        rw [← Int.neg_neg n, Int.neg_tmod, Int.tmod_eq_emod_of_nonneg (by omega)]
        simp
      omega
  rw [w64_in (by omega) (by omega), Int.tmod_eq_emod_of_nonneg (by omega)]
  omega
theorem modZ_eq {n : Int} : (bif decide (n.tmod 24 < 0) then W (n.tmod 24 + 24) else n.tmod 24) = n % 24 := by
  have h : (n.tmod 24 = n % 24 ∧ 0 ≤ n) ∨ (n.tmod 24 = -((-n) % 24) ∧ n ≤ 0) := by
    rcases Int.le_total 0 n with h | h
    · left; exact ⟨Int.tmod_eq_emod_of_nonneg h, h⟩
    · right
      refine ⟨?_, h⟩
      rw [← Int.neg_neg n, Int.neg_tmod, Int.tmod_eq_emod_of_nonneg (by omega)]
      simp
  by_cases hn : n.tmod 24 < 0
  · rw [decide_eq_true hn, cond_true, w64_in (by omega) (by omega)]
    omega
  · rw [decide_eq_false hn, cond_false]
    omega

def v8 (a0 a1 a2 a3 a4 a5 a6 a7 : Int) : Nat → Int
  | 0 => a0
  | 1 => a1
  | 2 => a2
  | 3 => a3
  | 4 => a4
  | 5 => a5
  | 6 => a6
  | 7 => a7
  | _ => 0
abbrev w8 (f : Nat → Int) : Nat → Int := v8 (f 0) (f 1) (f 2) (f 3) (f 4) (f 5) (f 6) (f 7)
def v4 (a0 a1 a2 a3 : Int) : Nat → Int
  | 0 => a0
  | 1 => a1
  | 2 => a2
  | 3 => a3
  | _ => 0

end Go.Proofs.YtddhmidegldhdaaGreatDoor
