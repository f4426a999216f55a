/- The abstract machine, 20: a region that draws its order, up to an operation behind which all is in line. Conditions: those of the table of callees. -/
import Derived.Test.YtkbdppnlojlcdaaV19
namespace Go.Proofs.Ytkbdppnlojlcdaa
open Go.RowKit

/-- From k on each operation stands behind all of the first k. -/
def tailOk (k : Nat) (all : List Oper) : Bool := (List.range all.length).all fun i => Nat.blt i k || (List.range k).all fun j => ((befL all []).getD i 0).testBit j
def cutL (k n : Nat) : Array Bool := ((List.range n).map fun j => decide (j < k)).toArray

theorem cut_count : ∀ {k n : Nat}, k ≤ n → (((List.range n).map fun j => decide (j < k)).toArray.toList).count false = n - k := by
  intro k n
  induction n with
  | zero => intro h; simp
  | succ n ih =>
    intro h
    simp only [List.range_succ, List.map_append, List.map_cons, List.map_nil, List.count_append] at ih ⊢
    by_cases hk : k ≤ n
    · rw [ih hk, decide_eq_false (by omega)]
      simp
      omega
    · have : k = n + 1 := by omega
      subst this
      have h0 : ((List.range n).map fun j => decide (j < n + 1)).count false = 0 := by
        rw [List.count_eq_zero]
        intro hm
        obtain ⟨j, hj, e⟩ := List.mem_map.1 hm
        have := List.mem_range.1 hj
        simp at e
        omega
      rw [h0, decide_eq_true (by omega)]
      simp

theorem zip_take : ∀ (l : List Oper) (es : List Ent), List.zipWith Item.mk (l.take es.length) es = List.zipWith Item.mk l es
  | [], es => by simp
  | o :: l, [] => by simp
  | o :: l, e :: es => by simp [zip_take l es]

theorem any_cut {P : Program} {Γ : Gam} (hΓ : GamOk P Γ) {nn k : Nat} {all : List Oper} {es : List Ent} {M : Nat → Prop} {w0 : World} {ν0 : Nu} (hM : ∀ k, w0.heap.size ≤ k → M k) {T : List AV} {H : List AB} {T' : List AV} {H' : List AB} (r : RunOk P Γ all (all.take k) es T H T' H') (hkl : k ≤ all.length) (hnd : noDef all.toArray = true) (hB : drawOk all es = true) (hC : tailOk k all = true)
    {a : Act} {w : World} {ν : Nu} {Q : Exit → Act → World → Prop} (hQo : ¬ LetsOut Q) (h : SR M w0 ν0 T H a w ν) (hQ : ∀ a' w' ν', SR M w0 ν0 T' H' a' w' ν' → a'.defers = a.defers → wpAnyIn (wideR none) nn P .any all.toArray Q (all.length - k) (cutL k all.length) a' w') : wpAnyIn (wideR none) nn P .any all.toArray Q all.length (Array.replicate all.length false) a w := by
  have rl : es.length = k := by rw [run_len r]; simp; omega
  have hitems : items (all.take k) es = items all es := by
    simp only [items]
    rw [← rl]
    exact zip_take all es
  have ra : RunAt P Γ all all es T H T' H' := by
    have r0 := run_at r
    have := r0.at_
    exact ⟨by omega, r0.lenT, r0.lenH, by rw [← hitems]; exact r0.at_, by rw [← hitems]; exact r0.endT, by rw [← hitems]; exact r0.endH, by rw [← hitems]; exact r0.base, by rw [← hitems]; exact r0.apart, by rw [← hitems]; exact r0.lt⟩
  have hlen : (items all es).length = k := by simp [items, rl]; omega
  simp only [drawOk, Bool.and_eq_true] at hB
  obtain ⟨hB1, hB2⟩ := hB
  have edges : ∀ (i : Nat) o, all[i]? = some o → ∀ e ∈ o.after, Region.binds .any e = true → e.on < i := fun i o ho e he hb => by simpa using edgesOk_spec hB1 i o ho e he hb
  have races : ∀ (i j : Nat) x y, i < j → (items all es)[i]? = some x → (items all es)[j]? = some y → ((befL all []).getD j 0).testBit i = true ∨ apartI all.toArray x y = true := fun i j x y hij hx hy => raceFree_spec hB2 j y hy i x (by simpa using hij) (by simpa using hx)
  have key : ∀ (f : Nat) (listed : Array Bool) (a' : Act) (w' : World) (ν' : Nu), listed.size = all.length → listed.toList.count false = f → Closed all (fun j => listed.getD j false) → (∀ j, k ≤ j → listed.getD j false = false) →
      Stage M w0 ν0 T.length H.length (fun t => T.getD t .dead) (fun b => H.getD b .gone) (items all es) (fun j => listed.getD j false) a' w' ν' → a'.defers = a.defers → wpAnyIn (wideR none) nn P .any all.toArray Q f listed a' w' := by
    intro f
    have fin : ∀ (f : Nat) (listed : Array Bool) (a' : Act) (w' : World) (ν' : Nu), listed.size = all.length → listed.toList.count false = f → (∀ j, k ≤ j → listed.getD j false = false) →
        Stage M w0 ν0 T.length H.length (fun t => T.getD t .dead) (fun b => H.getD b .gone) (items all es) (fun j => listed.getD j false) a' w' ν' → a'.defers = a.defers → (∀ j, j < k → listed.getD j false = true) → wpAnyIn (wideR none) nn P .any all.toArray Q f listed a' w' := by
      intro f listed a' w' ν' hs hcnt hno st hd allT
      have e1 : listed = cutL k all.length := by
        apply Array.ext
        · simp [cutL, hs]
        · intro j hj1 hj2
          simp only [cutL, List.getElem_toArray, List.getElem_map, List.getElem_range]
          have h1 : listed.getD j false = listed[j] := by simp [Array.getD, hj1]
          rw [← h1]
          by_cases hjk : j < k
          · rw [allT j hjk, decide_eq_true hjk]
          · rw [hno j (by omega), decide_eq_false hjk]
      have e2 : f = all.length - k := by
        rw [← hcnt, e1]
        simp only [cutL]
        exact cut_count hkl
      rw [e2, e1]
      exact hQ a' w' ν' (stage_end ra st fun j hj => allT j (by omega)) hd
    induction f with
    | zero =>
      intro listed a' w' ν' hs hcnt hc hno st hd
      refine fin 0 listed a' w' ν' hs hcnt hno st hd fun j hj => ?_
      have hjs : j < listed.size := by omega
      have hne : false ∉ listed.toList := List.count_eq_zero.1 hcnt
      have : listed[j] ≠ false := fun e => hne (by rw [← e]; simp)
      simp [Array.getD, hjs]
      simpa using this
    | succ f ih =>
      intro listed a' w' ν' hs hcnt hc hno st hd
      by_cases hall : ∀ j, j < k → listed.getD j false = true
      · exact fin (f + 1) listed a' w' ν' hs hcnt hno st hd hall
      refine ⟨fun hnil => (hall fun j hj => ?_).elim, fun i hi => wpOp_in hnd hQo ?_⟩
      · induction j using Nat.strongRecOn with
        | _ j jh =>
          cases hl : listed.getD j false with
          | true => rfl
          | false =>
            have : j ∈ Region.ready .any all.toArray listed := by
              rw [mem_ready]
              refine ⟨by rw [getD_bool (by omega) true false]; exact hl, all[j], by simp [show j < all.length by omega], fun e he hb => ?_⟩
              have hlt := edges j all[j] (by simp [show j < all.length by omega]) e he hb
              exact jh e.on hlt (by omega)
            rw [hnil] at this
            cases this
      · obtain ⟨h1, o, ho, he⟩ := mem_ready.1 hi
        have hil : i < all.length := by simpa using (Array.getElem?_eq_some_iff.1 ho).1
        have hoa : all[i]? = some o := by simpa using ho
        have hS0 : listed.getD i false = false := by rw [getD_bool (by omega) false true]; exact h1
        have hik : i < k := by
          rcases Nat.lt_or_ge i k with h | h
          · exact h
          · exfalso
            have anc0 : ∀ q, ((befL all []).getD i 0).testBit q = true → listed.getD q false = true := befL_spec (S := fun j => listed.getD j false) (r := all) (acc := []) hc rfl (fun j o hj => by simp at hj) i o hoa he
            have := List.all_eq_true.1 hC i (by simpa using hil)
            rcases Bool.or_eq_true_iff.1 this with h' | h'
            · rw [Nat.blt_eq] at h'; omega
            · exact hall fun j hj => anc0 j (List.all_eq_true.1 h' j (by simpa using hj))
        have hix : (items all es)[i]? = some (items all es)[i] := List.getElem?_eq_getElem (by omega)
        generalize hxg : (items all es)[i] = x at hix
        have hxo : x.o = o := by
          simp only [items, List.getElem?_zipWith] at hix
          split at hix
          · rename_i o' e' h1' h2'
            cases hix
            rw [hoa] at h1'
            cases h1'
            rfl
          · cases hix
        -- ancestors of i are listed; those of a listed one are listed
        have anc : ∀ q, ((befL all []).getD i 0).testBit q = true → listed.getD q false = true := befL_spec (S := fun j => listed.getD j false) (r := all) (acc := []) hc rfl (fun j o hj => by simp at hj) i o hoa he
        have anc' : ∀ j, listed.getD j false = true → j < all.length → ∀ q, ((befL all []).getD j 0).testBit q = true → listed.getD q false = true := by
          intro j hj hjl
          have hjx : all[j]? = some all[j] := List.getElem?_eq_getElem hjl
          exact befL_spec (S := fun j => listed.getD j false) (r := all) (acc := []) hc rfl (fun j o hj => by simp at hj) j _ hjx (hc.cl j _ hjx hj)
        have before : ∀ (j : Nat) y, j < i → (items all es)[j]? = some y → apartI all.toArray y x = true ∨ listed.getD j false = true := by
          intro j y hj hy
          rcases races j i y x hj hy hix with h | h
          · exact .inr (anc j h)
          · exact .inl h
        have after' : ∀ (j : Nat) y, i < j → (items all es)[j]? = some y → apartI all.toArray x y = true ∨ listed.getD j false = false := by
          intro j y hj hy
          rcases races i j x y hj hix hy with h | h
          · right
            cases hl : listed.getD j false with
            | false => rfl
            | true =>
              have hjl : j < all.length := by
                have := (List.getElem?_eq_some_iff.1 hy).1
                omega
              have := anc' j hl hjl i h
              rw [hS0] at this
              cases this
          · exact .inl h
        refine stage_step hΓ hM ra hix st hS0 (fun t ht => ?_) (fun b hb => ?_) (fun t ht j y hj hy hdy => ?_) (fun b hb j y hj hy hwy => ?_) fun a'' w'' ν'' st' hd' => ?_
        · refine foldT_congr rfl fun j y hy hdy => ?_
          simp only [Nat.zero_add]
          rcases Nat.lt_trichotomy j i with hj | hj | hj
          · rw [decide_eq_true hj]
            exact (before j y hj hy).resolve_left fun ha => ((apartI_tmps ha).1 t hdy).1 ht
          · subst hj
            rw [hS0]
            simp
          · rw [decide_eq_false (by omega)]
            exact (after' j y hj hy).resolve_left fun ha => (apartI_tmps ha).2 t hdy ht
        · refine foldH_congr rfl fun j y hy hdy => ?_
          simp only [Nat.zero_add]
          rcases Nat.lt_trichotomy j i with hj | hj | hj
          · rw [decide_eq_true hj]
            exact (before j y hj hy).resolve_left fun ha => ((apartI_blocks ha).1 b hdy).1 hb
          · subst hj
            rw [hS0]
            simp
          · rw [decide_eq_false (by omega)]
            exact (after' j y hj hy).resolve_left fun ha => (apartI_blocks ha).2 b hdy hb
        · rcases after' j y hj hy with h | h
          · exact absurd hdy ((apartI_tmps h).1 t ht).2
          · exact h
        · rcases after' j y hj hy with h | h
          · exact absurd hwy ((apartI_blocks h).1 b hb).2
          · exact h
        · have hset : (fun j => (listed.setIfInBounds i true).getD j false) = also (fun j => listed.getD j false) i := by
            funext j
            simp only [also]
            by_cases e : i = j
            · subst e
              simp [Array.getD, show i < listed.size by omega]
            · rw [getD_set_ne false e]
              have : (j == i) = false := by simp; exact fun h => e h.symm
              rw [this, Bool.or_false]
          refine ih (listed.setIfInBounds i true) a'' w'' ν'' (by simpa using hs) ?_ ⟨fun j o' ho' hj e he' hb => ?_⟩ (fun j hj => by rw [getD_set_ne false (by omega)]; exact hno j hj) (by rw [hset]; exact st') (hd'.trans hd)
          · have hi' : i < listed.toList.length := by simp; omega
            have hval : listed.toList[i] = false := by
              have : i < listed.size := by omega
              simp [Array.getD, this] at hS0
              simpa using hS0
            simp only [Array.toList_setIfInBounds]
            rw [List.count_set hi']
            simp [hval, hcnt]
          · have hset' : ∀ j, (listed.setIfInBounds i true).getD j false = also (fun j => listed.getD j false) i j := congrFun hset
            rw [hset'] at hj ⊢
            simp only [also, Bool.or_eq_true, beq_iff_eq] at hj ⊢
            rcases hj with hj | rfl
            · exact .inl (hc.cl j o' ho' hj e he' hb)
            · rw [hoa] at ho'
              cases ho'
              exact .inl (he e he' hb)
  have rep : ∀ j, (Array.replicate all.length false).getD j false = false := by
    intro j
    rw [Array.getD_eq_getD_getElem?, Array.getElem?_replicate]
    split <;> rfl
  refine key all.length _ a w ν (by simp) (by simp) ⟨fun j o ho hj => ?_⟩ (fun j _ => rep j) (stage_start h _ fun j => rep j) rfl
  rw [rep j] at hj
  cases hj

end Go.Proofs.Ytkbdppnlojlcdaa
