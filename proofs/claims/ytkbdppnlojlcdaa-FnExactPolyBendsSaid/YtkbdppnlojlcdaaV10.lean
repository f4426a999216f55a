/- The abstract machine, 10: a region in any order that its edges allow. Conditions: those of the table of callees. -/
import Derived.Test.YtkbdppnlojlcdaaV9
namespace Go.Proofs.Ytkbdppnlojlcdaa
open Go.RowKit

theorem getD_bool {a : Array Bool} {i : Nat} (h : i < a.size) (x y : Bool) : a.getD i x = a.getD i y := by simp [Array.getD, h]

structure Closed (ops : List Oper) (S : Nat → Bool) : Prop where
  cl : ∀ (j : Nat) o, ops[j]? = some o → S j = true → ∀ e ∈ o.after, Region.binds .any e = true → S e.on = true

theorem mask_bits {f : List Nat} {S : Nat → Bool} {l : List Edge} {s0 i : Nat} (hl : ∀ e ∈ l, Region.binds .any e = true → S e.on = true ∧ ∀ q, (f.getD e.on 0).testBit q = true → S q = true) (h0 : ∀ q, s0.testBit q = true → S q = true)
    (h : (l.foldl (fun s e => cond (Region.binds .any e) (s ||| 2 ^ e.on ||| f.getD e.on 0) s) s0).testBit i = true) : S i = true := by
  induction l generalizing s0 with
  | nil => exact h0 i h
  | cons e l ih =>
    simp only [List.foldl_cons] at h
    refine ih (s0 := cond (Region.binds .any e) (s0 ||| 2 ^ e.on ||| f.getD e.on 0) s0) (fun e' he' => hl e' (List.mem_cons_of_mem _ he')) ?_ h
    intro q hq
    cases hb : Region.binds .any e with
    | false => rw [hb] at hq; exact h0 q hq
    | true =>
      rw [hb] at hq
      simp only [cond_true, Nat.testBit_or, Bool.or_eq_true, Nat.testBit_two_pow, decide_eq_true_eq] at hq
      obtain ⟨a1, a2⟩ := hl e List.mem_cons_self hb
      rcases hq with (hq | hq) | hq
      · exact h0 q hq
      · rw [← hq]; exact a1
      · exact a2 q hq

/-- What the masks say: all of an operation's own ancestors are listed, once those that it names are. -/
theorem befL_spec {ops : List Oper} {S : Nat → Bool} (hc : Closed ops S) : ∀ {r : List Oper} {acc : List Nat}, ops.drop acc.length = r →
    (∀ (j : Nat) o, j < acc.length → ops[j]? = some o → (∀ e ∈ o.after, Region.binds .any e = true → S e.on = true) → ∀ q, (acc.getD j 0).testBit q = true → S q = true) →
    ∀ (j : Nat) o, ops[j]? = some o → (∀ e ∈ o.after, Region.binds .any e = true → S e.on = true) → ∀ q, ((befL r acc).getD j 0).testBit q = true → S q = true
  | [], acc, hd, h, j, o, ho, he, q, hq => by
    have hj : j < acc.length := by
      have : ops.length ≤ acc.length := by simpa using hd
      have := (List.getElem?_eq_some_iff.1 ho).1
      omega
    exact h j o hj ho he q hq
  | o0 :: r, acc, hd, h, j, o, ho, he, q, hq => by
    simp only [befL] at hq
    refine befL_spec hc ?_ ?_ j o ho he q hq
    · simp only [List.length_append, List.length_singleton]
      rw [← List.drop_drop, hd]
      rfl
    · intro j' o' hj' ho' he' q' hq'
      by_cases hlt : j' < acc.length
      · rw [List.getD_eq_getElem?_getD, List.getElem?_append_left hlt, ← List.getD_eq_getElem?_getD] at hq'
        exact h j' o' hlt ho' he' q' hq'
      · have hj : j' = acc.length := by
          simp at hj'; omega
        subst hj
        have : ops[acc.length]? = some o0 := by
          have := congrArg (·[0]?) hd
          simpa using this
        rw [ho'] at this
        cases this
        rw [List.getD_eq_getElem?_getD, List.getElem?_append_right (Nat.le_refl _)] at hq'
        simp only [Nat.sub_self, List.getElem?_cons_zero, Option.getD_some] at hq'
        refine mask_bits (S := S) (fun e hem hb => ?_) (by simp) hq'
        have hem' : e ∈ o0.after := by simpa using hem
        have hS := he' e hem' hb
        refine ⟨hS, fun q2 hq2 => ?_⟩
        by_cases hon : e.on < acc.length
        · have hlo : e.on < ops.length := by
            have := (List.getElem?_eq_some_iff.1 ho').1
            omega
          have hx : ops[e.on]? = some ops[e.on] := List.getElem?_eq_getElem hlo
          exact h e.on _ hon hx (fun e2 he2 hb2 => hc.cl e.on _ hx hS e2 he2 hb2) q2 hq2
        · rw [List.getD_eq_getElem?_getD, List.getElem?_eq_none (by omega)] at hq2
          simp at hq2

theorem earlierOk_spec {ops : Array Oper} {y : Item} {m : Nat} : ∀ {l : List Item} {k : Nat}, earlierOk ops y m k l = true → ∀ (i : Nat) x, l[i]? = some x → m.testBit (k + i) = true ∨ apartI ops x y = true
  | [], _, _, i, x, hx => by simp at hx
  | z :: l, k, h, i, x, hx => by
    simp only [earlierOk, Bool.and_eq_true, Bool.or_eq_true] at h
    cases i with
    | zero => simp at hx; subst hx; exact h.1
    | succ i =>
      have := earlierOk_spec h.2 i x (by simpa using hx)
      rwa [show k + 1 + i = k + (i + 1) by omega] at this

theorem raceFree_spec {ops : Array Oper} : ∀ {r done : List Item} {ms : List Nat}, raceFree ops done r ms = true → ∀ (j : Nat) y, r[j]? = some y → ∀ (i : Nat) x, i < done.length + j → (done ++ r)[i]? = some x → (ms.getD j 0).testBit i = true ∨ apartI ops x y = true
  | [], _, _, _, j, y, hy, _, _, _, _ => by simp at hy
  | z :: r, done, [], h, _, _, _, _, _, _, _ => by simp [raceFree] at h
  | z :: r, done, m :: ms, h, j, y, hy, i, x, hi, hx => by
    simp only [raceFree, Bool.and_eq_true] at h
    cases j with
    | zero =>
      simp at hy
      subst hy
      have := earlierOk_spec h.1 i x (by rwa [List.getElem?_append_left (by simpa using hi)] at hx)
      simpa using this
    | succ j =>
      have := raceFree_spec h.2 j y (by simpa using hy) i x (by simp; omega) (by simpa using hx)
      simpa using this

theorem apartI_tmps {ops : Array Oper} {x y : Item} (h : apartI ops x y = true) : (∀ d, x.o.dst = some d → d ∉ y.o.looksAt ops ∧ y.o.dst ≠ some d) ∧ (∀ d, y.o.dst = some d → d ∉ x.o.looksAt ops) := by
  simp only [apartI, Bool.and_eq_true] at h
  obtain ⟨h1, h2, h3⟩ := Oper.apart_spec h.1.1
  exact ⟨fun d hd => ⟨h1 d hd, h2 d hd⟩, h3⟩

theorem wrH_mem {x : Item} {b : Nat} (h : wrH x b) : b ∈ wrL x.e := by
  unfold wrH at h
  unfold wrL
  cases hd : x.e.d with
  | none => rw [hd] at h; exact h.elim
  | some δ =>
    rw [hd] at h
    simp only [List.mem_append, List.mem_map, List.mem_range']
    rcases h with h | h
    · right; exact ⟨b - x.e.base, by omega, by omega⟩
    · left
      obtain ⟨c, hc⟩ := Option.isSome_iff_exists.1 h
      exact ⟨_, lookB_mem hc, rfl⟩

theorem readsB_mem {x : Item} {b : Nat} (h : readsB x b) : b ∈ rdL x.e := by
  unfold readsB at h
  unfold rdL
  cases hd : x.e.d with
  | none => rw [hd] at h; exact h.elim
  | some δ =>
    rw [hd] at h
    simp only [List.mem_append, List.mem_map]
    rcases h with h | ⟨p, hp, rfl⟩
    · exact .inl h
    · exact .inr ⟨p, hp, rfl⟩

theorem apartI_blocks {ops : Array Oper} {x y : Item} (h : apartI ops x y = true) : (∀ b, wrH x b → ¬ readsB y b ∧ ¬ wrH y b) ∧ (∀ b, wrH y b → ¬ readsB x b) := by
  simp only [apartI, Bool.and_eq_true, Bool.not_eq_true'] at h
  obtain ⟨⟨_, h1⟩, h2⟩ := h
  refine ⟨fun b hb => ?_, fun b hb hr => ?_⟩
  · have := List.any_eq_false.1 h1 b (wrH_mem hb)
    simp only [Bool.or_eq_true, not_or] at this
    exact ⟨fun hr => this.1 (by simpa using readsB_mem hr), fun hw => this.2 (by simpa using wrH_mem hw)⟩
  · have := List.any_eq_false.1 h2 b (readsB_mem hr)
    exact this (by simpa using wrH_mem hb)

theorem edgesOk_spec : ∀ {ops : List Oper} {k : Nat}, edgesOk k ops = true → ∀ (i : Nat) o, ops[i]? = some o → ∀ e ∈ o.after, Region.binds .any e = true → e.on < k + i
  | [], _, _, i, o, ho => by simp at ho
  | z :: l, k, h, i, o, ho => by
    simp only [edgesOk, Bool.and_eq_true] at h
    cases i with
    | zero =>
      simp at ho
      subst ho
      intro e he hb
      have := List.all_eq_true.1 h.1 e (by simpa using he)
      rw [hb] at this
      simpa [Nat.blt_eq] using this
    | succ i =>
      have := edgesOk_spec h.2 i o (by simpa using ho)
      intro e he hb
      have := this e he hb
      omega

/-- The whole check, for the kernel. -/
def drawOk (ops : List Oper) (es : List Ent) : Bool := edgesOk 0 ops && raceFree ops.toArray [] (items ops es) (befL ops [])

theorem any_sound {P : Program} {Γ : Gam} (hΓ : GamOk P Γ) {all : List Oper} {es : List Ent} {M : Nat → Prop} {w0 : World} {ν0 : Nu} (hM : ∀ k, w0.heap.size ≤ k → M k) {T : List AV} {H : List AB} {T' : List AV} {H' : List AB} (r : RunOk P Γ all all es T H T' H') (hB : drawOk all es = true)
    {a : Act} {w : World} {ν : Nu} {Q : Exit → Act → World → Prop} (h : SR M w0 ν0 T H a w ν) (hQ : ∀ a' w' ν', SR M w0 ν0 T' H' a' w' ν' → a'.defers = a.defers → Q .normal a' w') : wpAny P .any all.toArray Q all.length (Array.replicate all.length false) a w := by
  have ra := run_at r
  have rl := run_len r
  have hlen : (items all es).length = all.length := by simp [items, rl]
  simp only [drawOk, Bool.and_eq_true] at hB
  obtain ⟨hB1, hB2⟩ := hB
  have edges : ∀ (i : Nat) o, all[i]? = some o → ∀ e ∈ o.after, Region.binds .any e = true → e.on < i := fun i o ho e he hb => by simpa using edgesOk_spec hB1 i o ho e he hb
  have races : ∀ (i j : Nat) x y, i < j → (items all es)[i]? = some x → (items all es)[j]? = some y → ((befL all []).getD j 0).testBit i = true ∨ apartI all.toArray x y = true := fun i j x y hij hx hy => raceFree_spec hB2 j y hy i x (by simpa using hij) (by simpa using hx)
  have key : ∀ (f : Nat) (listed : Array Bool) (a' : Act) (w' : World) (ν' : Nu), listed.size = all.length → listed.toList.count false = f → Closed all (fun j => listed.getD j false) →
      Stage M w0 ν0 T.length H.length (fun t => T.getD t .dead) (fun b => H.getD b .gone) (items all es) (fun j => listed.getD j false) a' w' ν' → a'.defers = a.defers → wpAny P .any all.toArray Q f listed a' w' := by
    intro f
    induction f with
    | zero =>
      intro listed a' w' ν' hs hcnt hc st hd
      have allT : ∀ j, j < all.length → listed.getD j false = true := by
        intro j hj
        have hjs : j < listed.size := by omega
        have hne : false ∉ listed.toList := List.count_eq_zero.1 hcnt
        have : listed[j] ≠ false := fun e => hne (by rw [← e]; simp)
        simp [Array.getD, hjs]
        simpa using this
      refine ⟨?_, hQ a' w' ν' (stage_end ra st fun j hj => allT j (by omega)) hd⟩
      rw [List.eq_nil_iff_forall_not_mem]
      intro j hj
      obtain ⟨h1, o, ho, _⟩ := mem_ready.1 hj
      have hjl : j < all.length := by simpa using (Array.getElem?_eq_some_iff.1 ho).1
      have := allT j hjl
      rw [getD_bool (by omega) false true, h1] at this
      cases this
    | succ f ih =>
      intro listed a' w' ν' hs hcnt hc st hd
      refine ⟨fun hnil => ?_, fun i hi => ?_⟩
      · have allT : ∀ j, j < all.length → listed.getD j false = true := by
          intro j
          induction j using Nat.strongRecOn with
          | _ j jh =>
            intro hj
            cases hl : listed.getD j false with
            | true => rfl
            | false =>
              have : j ∈ Region.ready .any all.toArray listed := by
                rw [mem_ready]
                refine ⟨by rw [getD_bool (by omega) true false]; exact hl, all[j], by simp [hj], fun e he hb => ?_⟩
                have hlt := edges j all[j] (by simp [hj]) e he hb
                exact jh e.on hlt (by omega)
              rw [hnil] at this
              cases this
        exact hQ a' w' ν' (stage_end ra st fun j hj => allT j (by omega)) hd
      · obtain ⟨h1, o, ho, he⟩ := mem_ready.1 hi
        have hil : i < all.length := by simpa using (Array.getElem?_eq_some_iff.1 ho).1
        have hoa : all[i]? = some o := by simpa using ho
        have hS0 : listed.getD i false = false := by rw [getD_bool (by omega) false true]; exact h1
        have hix : (items all es)[i]? = some (items all es)[i] := List.getElem?_eq_getElem (by omega)
        generalize hxg : (items all es)[i] = x at hix
        have hxo : x.o = o := by
          simp only [items, List.getElem?_zipWith] at hix
          split at hix
          · rename_i o' e' h1' h2'
            cases hix
            rw [hoa] at h1'
            cases h1'
            rfl
          · cases hix
        -- ancestors of i are listed; those of a listed one are listed
        have anc : ∀ q, ((befL all []).getD i 0).testBit q = true → listed.getD q false = true := befL_spec (S := fun j => listed.getD j false) (r := all) (acc := []) hc rfl (fun j o hj => by simp at hj) i o hoa he
        have anc' : ∀ j, listed.getD j false = true → j < all.length → ∀ q, ((befL all []).getD j 0).testBit q = true → listed.getD q false = true := by
          intro j hj hjl
          have hjx : all[j]? = some all[j] := List.getElem?_eq_getElem hjl
          exact befL_spec (S := fun j => listed.getD j false) (r := all) (acc := []) hc rfl (fun j o hj => by simp at hj) j _ hjx (hc.cl j _ hjx hj)
        have before : ∀ (j : Nat) y, j < i → (items all es)[j]? = some y → apartI all.toArray y x = true ∨ listed.getD j false = true := by
          intro j y hj hy
          rcases races j i y x hj hy hix with h | h
          · exact .inr (anc j h)
          · exact .inl h
        have after' : ∀ (j : Nat) y, i < j → (items all es)[j]? = some y → apartI all.toArray x y = true ∨ listed.getD j false = false := by
          intro j y hj hy
          rcases races i j x y hj hix hy with h | h
          · right
            cases hl : listed.getD j false with
            | false => rfl
            | true =>
              have hjl : j < all.length := by
                have := (List.getElem?_eq_some_iff.1 hy).1
                omega
              have := anc' j hl hjl i h
              rw [hS0] at this
              cases this
          · exact .inl h
        refine stage_step hΓ hM ra hix st hS0 (fun t ht => ?_) (fun b hb => ?_) (fun t ht j y hj hy hdy => ?_) (fun b hb j y hj hy hwy => ?_) fun a'' w'' ν'' st' hd' => ?_
        · refine foldT_congr rfl fun j y hy hdy => ?_
          simp only [Nat.zero_add]
          rcases Nat.lt_trichotomy j i with hj | hj | hj
          · rw [decide_eq_true hj]
            exact (before j y hj hy).resolve_left fun ha => ((apartI_tmps ha).1 t hdy).1 ht
          · subst hj
            rw [hS0]
            simp
          · rw [decide_eq_false (by omega)]
            exact (after' j y hj hy).resolve_left fun ha => (apartI_tmps ha).2 t hdy ht
        · refine foldH_congr rfl fun j y hy hdy => ?_
          simp only [Nat.zero_add]
          rcases Nat.lt_trichotomy j i with hj | hj | hj
          · rw [decide_eq_true hj]
            exact (before j y hj hy).resolve_left fun ha => ((apartI_blocks ha).1 b hdy).1 hb
          · subst hj
            rw [hS0]
            simp
          · rw [decide_eq_false (by omega)]
            exact (after' j y hj hy).resolve_left fun ha => (apartI_blocks ha).2 b hdy hb
        · rcases after' j y hj hy with h | h
          · exact absurd hdy ((apartI_tmps h).1 t ht).2
          · exact h
        · rcases after' j y hj hy with h | h
          · exact absurd hwy ((apartI_blocks h).1 b hb).2
          · exact h
        · have hset : (fun j => (listed.setIfInBounds i true).getD j false) = also (fun j => listed.getD j false) i := by
            funext j
            simp only [also]
            by_cases e : i = j
            · subst e
              simp [Array.getD, show i < listed.size by omega]
            · rw [getD_set_ne false e]
              have : (j == i) = false := by simp; exact fun h => e h.symm
              rw [this, Bool.or_false]
          refine ih (listed.setIfInBounds i true) a'' w'' ν'' (by simpa using hs) ?_ ⟨fun j o' ho' hj e he' hb => ?_⟩ (by rw [hset]; exact st') (hd'.trans hd)
          · have hi' : i < listed.toList.length := by simp; omega
            have hval : listed.toList[i] = false := by
              have : i < listed.size := by omega
              simp [Array.getD, this] at hS0
              simpa using hS0
            simp only [Array.toList_setIfInBounds]
            rw [List.count_set hi']
            simp [hval, hcnt]
          · have hset' : ∀ j, (listed.setIfInBounds i true).getD j false = also (fun j => listed.getD j false) i j := congrFun hset
            rw [hset'] at hj ⊢
            simp only [also, Bool.or_eq_true, beq_iff_eq] at hj ⊢
            rcases hj with hj | rfl
            · exact .inl (hc.cl j o' ho' hj e he' hb)
            · rw [hoa] at ho'
              cases ho'
              exact .inl (he e he' hb)
  have rep : ∀ j, (Array.replicate all.length false).getD j false = false := by
    intro j
    rw [Array.getD_eq_getD_getElem?, Array.getElem?_replicate]
    split <;> rfl
  refine key all.length _ a w ν (by simp) (by simp) ⟨fun j o ho hj => ?_⟩ (stage_start h _ fun j => rep j) rfl
  rw [rep j] at hj
  cases hj

end Go.Proofs.Ytkbdppnlojlcdaa
