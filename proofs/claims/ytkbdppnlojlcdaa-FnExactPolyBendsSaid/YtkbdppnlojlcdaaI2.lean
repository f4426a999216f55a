/- The function that yields the sides of a polygon: its word. Conditions: the list holds points. -/
import Derived.Test.YtkbdppnlojlcdaaI1
namespace Go.Proofs.Ytkbdppnlojlcdaa
open Go.RowKit
set_option maxRecDepth 100000

abbrev MI (W : World) (bB : Nat) : Nat → Prop := fun k => W.heap.size ≤ k ∨ k = bB

theorem box_val {ν : Nu} {a : Nat → Nat → Int} {m c bB cB : Nat} {bL : Bk} {tB tr : TypeId} {X : World} (h : BR ν 0 ((hpI a m c tB tr).getD 0 .gone) X) (h0 : ν 0 = some ⟨bB, 0, cB⟩) (h1 : ν 1 = some bL) (hm : 0 < m) :
    X.heap[bB]? = some (.cells #[.slice (some ⟨bL.n, bL.o, none⟩) m c] tB (0, 0)) := by
  simp only [hpI, List.getD_cons_zero] at h
  obtain ⟨b, l, e1, e2, e3, e4⟩ := h
  rw [h0] at e1
  cases e1
  rw [e3]
  cases l with
  | nil => simp only [VRs] at e4
  | cons y ys =>
    cases ys with
    | cons => simp only [VRs] at e4; exact e4.2.elim
    | nil =>
      simp only [VRs, VR, and_true] at e4
      obtain ⟨p, cc, rfl, h2, h3, h4⟩ := e4
      have := h2 c rfl
      subst this
      obtain ⟨b', h5, h6⟩ := h4 (by omega)
      rw [h1] at h5
      cases h5
      rw [h6]
      simp

theorem sides_stops {nn : Nat} {w : World} {νI : Nu} {bB cB : Nat} {bL : Bk} {a : Nat → Nat → Int} {m c : Nat} {tB tr : TypeId} {M : Nat → Prop}
    (hH : RH (fun k => w.heap.size ≤ k ∨ k = bB) νI (fun b => (hpI a m c tB tr).getD b .gone) w) (h0 : νI 0 = some ⟨bB, 0, cB⟩) (h1 : νI 1 = some bL) (hdom : ∀ i b, νI i = some b → i < 2) (hm0 : 0 < m) (hm : m ≤ 2 ^ 40) (hMb : ¬ M bB) (hML : ¬ M bL.n) :
    SeqStopsK (wideR none) nn Try.prog 101 #[.pointer (some ⟨bB, 0, none⟩)] (fun x : Fin m => [pairV (a x) (a ((x + 1) % m))].toArray) (keepR w M) (fun xs => xs = List.finRange m) (fun _ => True) m w := by
  intro l J Jx W hW hJ hJx hY hJ0
  have ltB : bB < w.heap.size := hH.lt 0 _ h0
  have ltL : bL.n < w.heap.size := hH.lt 1 _ h1
  have keepH : ∀ X : World, w.heap.size ≤ X.heap.size → X.heap[bB]? = w.heap[bB]? → X.heap[bL.n]? = w.heap[bL.n]? → RH (MI X bB) νI (fun b => (hpI a m c tB tr).getD b .gone) X := by
    intro X hs e1 e2
    refine ⟨fun i => (hH.br i).of_block fun k hk _ => ?_, hH.sep, fun i b hw hb => ?_, fun i b hb => Nat.lt_of_lt_of_le (hH.lt i b hb) hs⟩
    · have := hdom i k hk
      rcases (by omega : i = 0 ∨ i = 1) with rfl | rfl
      · rw [h0] at hk; cases hk; exact e1
      · rw [h1] at hk; cases hk; exact e2
    · have := hdom i b hb
      rcases (by omega : i = 0 ∨ i = 1) with rfl | rfl
      · rw [h0] at hb; cases hb; exact .inr rfl
      · simp [AB.wr] at hw
  have nuEq : ∀ ν', Le νI ν' → (∀ i b, ν' i = some b → i < 2) → ν' = νI := by
    intro ν' hle hd
    funext i
    rcases (by omega : i = 0 ∨ i = 1 ∨ 2 ≤ i) with rfl | rfl | hi
    · rw [h0, hle _ _ h0]
    · rw [h1, hle _ _ h1]
    · cases e : ν' i with
      | none =>
        cases e' : νI i with
        | none => rfl
        | some b => have := hdom i b e'; omega
      | some b => have := hd i b e; omega
  have boxW := box_val (hH.br 0) h0 h1 hm0
  -- own steps: new blocks alone
  have grown : ∀ {X X' : World} {T : List AV} {A : Act}, X.heap[bB]? = w.heap[bB]? → SR (MI X bB) X νI T (hpI a m c tB tr) A X' νI → X.grownBy X' none := by
    intro X X' T A hX hS
    refine ⟨hS.fr.os, hS.fr.tape, hS.fr.output, hS.fr.size, fun k hk _ => ?_⟩
    by_cases e : k = bB
    · subst e
      rw [box_val (hS.heap.br 0) h0 h1 hm0, hX, boxW]
    · exact hS.fr.block k hk fun h => by
        rcases h with h | h
        · omega
        · exact e h
  have hpos : ∀ T (A : Act) X X' ν', SR (MI X bB) X νI T (hpI a m c tB tr) A X' ν' → ν' = νI := fun T A X X' ν' h => nuEq ν' h.le fun i b hb => by simpa [hpI] using h.dom i b hb
  -- at the loop's head
  let HD : Nat → Act → World → Prop := fun i A X => A.defers = [] ∧ SR (MI X bB) X νI (stI l m c i) (hpI a m c tB tr) A X νI ∧ J ((List.finRange m).take i) X ∧ X.heap[bB]? = w.heap[bB]? ∧ X.heap[bL.n]? = w.heap[bL.n]? ∧ W.heap.size ≤ X.heap.size
  have hWsz := hW.size
  have e1W : W.heap[bB]? = w.heap[bB]? := hW.block bB ltB
  have e2W : W.heap[bL.n]? = w.heap[bL.n]? := hW.block bL.n ltL
  -- what an own piece of code leaves
  have own : ∀ {X X' : World} {T T' : List AV} {A A' : Act} {ν' : Nu} {i : Nat}, W.heap.size ≤ X.heap.size → X.heap[bB]? = w.heap[bB]? → X.heap[bL.n]? = w.heap[bL.n]? → J ((List.finRange m).take i) X → SR (MI X bB) X νI T (hpI a m c tB tr) A X' ν' →
      J ((List.finRange m).take i) X' ∧ X'.heap[bB]? = w.heap[bB]? ∧ X'.heap[bL.n]? = w.heap[bL.n]? ∧ W.heap.size ≤ X'.heap.size ∧ SR (MI X' bB) X' νI T (hpI a m c tB tr) A X' νI := by
    intro X X' T T' A A' ν' i hs g1 g2 hj hS
    have := hpos _ _ _ _ _ hS
    subst this
    have hg := grown g1 hS
    have k1 := (hg.block bB (by omega) (by simp)).trans g1
    have k2 := (hg.block bL.n (by omega) (by simp)).trans g2
    exact ⟨hJ _ _ _ none hj hg (fun r e => by cases e), k1, k2, Nat.le_trans hs hg.size, ⟨hS.tmps, keepH X' (by have := hg.size; omega) k1 k2, Fr.refl _ _, hS.dom, hS.len, Le.refl _⟩⟩
  refine callsIn_of_wp Try.func101 bodyI trivial ?_
  have hvr : VRs νI [.v (yv l), .ptr 0 1 0 0] [yv l, .pointer (some ⟨bB, 0, none⟩)] := by
    simp only [VRs, VR, and_true, true_and]
    exact ⟨_, h0, by simp⟩
  have hst := start_sr (M := MI W bB) (fn := Try.f101) hvr (keepH W hWsz e1W e2W) (fun i b hb => by simpa [hpI] using hdom i b hb)
  have fin : ∀ (A : Act) (X : World), A.defers = [] → ((J (List.finRange m) X) ∨ ∃ pre, Jx pre X) → bodyPost Try.prog Try.f101 (fun e W' => (∃ v, e = .returned v) ∧ ((∃ xs, xs = List.finRange m ∧ J xs W') ∨ (∃ pre, True ∧ Jx pre W'))) .ret A X := by
    intro A X hd hx
    refine ⟨hd, _, results_none rfl _ _ _, ⟨_, rfl⟩, ?_⟩
    rcases hx with hx | ⟨pre, hx⟩
    · exact .inl ⟨_, rfl, hx⟩
    · exact .inr ⟨pre, trivial, hx⟩
  refine wpIn_seq (wpIn_mono (execC_in (nn := nn) g0_ok mixed enters none [] 100 regI0 (by kernel_rfl) (MI W bB) W νI (fun k hk => .inl hk) _ _ _ (fun e T' H' => e = .normal ∧ T' = stI l m c 0 ∧ H' = hpI a m c tB tr) _ W νI (by rw [show [AV.v (yv l), .ptr 0 1 0 0] ++ List.replicate ((Try.f101).ntmps - [AV.v (yv l), .ptr 0 1 0 0].length) (AV.v undef) = [.v (yv l), .ptr 0 1 0 0] ++ List.replicate 24 (.v undef) from rfl, runI0]; exact ⟨rfl, rfl, rfl⟩) hst rfl) ?_)
  intro e A X hp
  obtain ⟨e', T', H', ν', rfl, ⟨rfl, rfl, rfl⟩, hS, hd⟩ := leaf_post hp hdom
  obtain ⟨j1, k1, k2, k3, hS1⟩ := own (T' := []) (A' := A) (i := 0) (Nat.le_refl _) e1W e2W (by simpa using hJ0) hS
  show (Code.block 0 (.loop loopI)).wpIn (wideR none) nn Try.prog _ A X
  refine wpIn_block (wpIn_loop (fun A X => ∃ i, i ≤ m ∧ HD i A X) (fun A _ => m - (intOf (A.tmps.getD 7 undef)).toNat) ⟨0, Nat.zero_le _, hd, hS1, j1, k1, k2, k3⟩ ?_)
  clear hS hd hS1 j1 k1 k2 k3 hp hst hvr
  rintro A X ⟨i, him, hd, hS, hj, g1, g2, g3⟩
  have mu : ∀ {i : Nat} {A : Act} {X X0 : World}, SR (MI X0 bB) X0 νI (stI l m c i) (hpI a m c tB tr) A X νI → (intOf (A.tmps.getD 7 undef)).toNat = i := by
    intro i A X X0 h
    have := h.tmps 7
    rw [show (stI l m c i).getD 7 .dead = .v (i64 i) from by kernel_rfl] at this
    simp only [VR] at this
    rw [this]
    simp [intOf]
  have hmu := mu hS
  rw [loopI_eq]
  refine wpIn_seq (wpIn_mono (execC_in (nn := nn) g0_ok mixed enters none [] 100 regI1 (by kernel_rfl) (MI X bB) X νI (fun k hk => .inl hk) _ _ _ (fun e T' H' => e = .normal ∧ T' = (stI l m c i).set 8 (.v (.bool (decide ((i : Int) < m)))) ∧ H' = hpI a m c tB tr) _ X νI (by rw [runI1]; exact ⟨rfl, rfl, rfl⟩) hS hd) ?_)
  rintro e A1 X1 ⟨e', T', H', ν', rfl, ⟨rfl, rfl, rfl⟩, hS1, hd1⟩
  obtain ⟨hj1, g11, g12, g13, hS1⟩ := own (T' := []) (A' := A) g3 g1 g2 hj hS1
  have hc8 : A1.eval (.tmp 8) = .bool (decide ((i : Int) < m)) := by
    have := hS1.tmps 8
    rw [show ((stI l m c i).set 8 (.v (.bool (decide ((i : Int) < m))))).getD 8 .dead = .v (.bool (decide ((i : Int) < m))) from by kernel_rfl] at this
    simp only [VR] at this
    exact this
  show (Code.seq (.cond (.tmp 8) .skip (.exit 0)) _).wpIn (wideR none) nn Try.prog _ A1 X1
  refine wpIn_seq (wpIn_cond hc8 ?_)
  rcases (Nat.lt_or_ge i m).symm with hge | hlt
  · -- the end
    rw [if_neg (by simp; omega)]
    refine wpIn_exit ?_
    have : i = m := by omega
    subst this
    simp only [Exit.then, Exit.inBlock, if_true]
    refine fin A1 X1 hd1 (.inl ?_)
    rw [List.take_of_length_le (by simp)] at hj1
    exact hj1
  · rw [if_pos (by simp; omega)]
    refine wpIn_skip ?_
    show (Code.seq (.block 1 _) _).wpIn (wideR none) nn Try.prog _ A1 X1
    refine wpIn_seq (wpIn_block (wpIn_seq ?_))
    -- region 2, and the head of region 3
    have hW1 : Go.Proofs.Ytkbdppnlojlcdaa.W (i + 1) = ((i + 1 : Nat) : Int) := by rw [w64_in (by omega) (by omega)]; omega
    have hnx : (Go.Proofs.Ytkbdppnlojlcdaa.W (i + 1)).tmod m = (((i + 1) % m : Nat) : Int) := by rw [hW1]; exact (Int.ofNat_tmod _ _).symm
    have hml : (i + 1) % m < m := Nat.mod_lt _ hm0
    have hr2 := runI2 l m c i (decide ((i : Int) < m)) a tB tr
    rw [hnx] at hr2
    have hr2 : (runR ((stI l m c i).set 8 (.v (.bool (decide ((i : Int) < m))))) (hpI a m c tB tr)).ok (fun e T' H' => e = .normal ∧ T' = ((stI l m c i).set 12 (.v (yv l))).set 22 (.v (pairV (a i) (a ((i + 1) % m)))) ∧ H' = hpI a m c tB tr) := by
      rw [hr2]
      have ok : obls [decide ((i : Int) < m), decide (0 + i < m), !decide ((m : Int) = 0), decide ((0 : Int) ≤ (((i + 1) % m : Nat) : Int)), decide ((((i + 1) % m : Nat) : Int) < m), decide (0 + (((i + 1) % m : Nat) : Int).toNat < m)] = true := by
        simp only [ob_cons, ob_nil, and_true, decide_eq_true_eq, Bool.not_eq_true', decide_eq_false_iff_not, Int.toNat_natCast]
        refine ⟨by omega, by omega, by omega, by omega, by omega, by omega⟩
      refine (good_needs ok ⟨?_⟩).out
      simp only [Int.toNat_natCast, Nat.zero_add]
      exact ⟨rfl, rfl, rfl⟩
    refine wpIn_mono (execC_in (nn := nn) g0_ok mixed enters none [] 100 regI2 (by kernel_rfl) (MI X1 bB) X1 νI (fun k hk => .inl hk) _ _ _ _ _ X1 νI hr2 hS1 hd1) ?_
    rintro e A2 X2 ⟨e', T2, H2, ν2, rfl, hk2, hS2, hd2⟩
    cases e' with
    | exit id => exact hk2.elim
    | ret => exact hk2.elim
    | normal =>
      obtain ⟨es, T3, H3, hrun, hk3⟩ := execOps_run hk2
      rcases (cond_ok hk3).symm with ⟨_, hk3⟩ | ⟨hdr, hk3⟩
      · exact hk3.elim
      show (Code.seq (.region 3 opsI3 true) _).wpIn (wideR none) nn Try.prog _ A2 X2
      refine wpIn_seq (wpIn_region_any mixed ?_)
      rw [show opsI3 = opsL.toArray by simp [opsL]]
      have hS2' : SR (MI X1 bB) X1 νI T2 H2 A2 { X2 with drawn := X2.drawn + 1 } ν2 := ⟨hS2.tmps, ⟨fun i => (hS2.heap.br i).of_block fun _ _ _ => rfl, hS2.heap.sep, hS2.heap.own, hS2.heap.lt⟩, hS2.fr.drew, hS2.dom, hS2.len, hS2.le⟩
      rw [show opsL.toArray.size = opsL.length by simp]
      refine any_cut (k := 11) g0_ok (fun k hk => .inl hk) hrun (by rw [len_ops]; decide) def_ops (by simpa using hdr) tail_ops ?_ hS2' ?_
      · rintro ⟨A9, X9, ⟨v, hv⟩, _⟩
        cases hv
      · intro A3 X3 ν3 hS3 hd3
        unfold leafK at hk3
        split at hk3
        · rename_i p hwk
          obtain ⟨_, hp1, hp2⟩ := hk3
          have hS4 := weak_sound hwk hS3 hdom
          rw [hp1, hp2] at hS4
          obtain ⟨hj3, g31, g32, g33, hS5⟩ := own (T' := []) (A' := A) g13 g11 g12 hj1 hS4
          have hx12 : A3.eval (.tmp 12) = yv l := by
            have := hS5.tmps 12
            rw [show (((stI l m c i).set 12 (.v (yv l))).set 22 (.v (pairV (a i) (a ((i + 1) % m))))).getD 12 .dead = .v (yv l) from by kernel_rfl] at this
            simp only [VR] at this
            exact this
          have hx22 : A3.eval (.tmp 22) = pairV (a i) (a ((i + 1) % m)) := by
            have := hS5.tmps 22
            rw [show (((stI l m c i).set 12 (.v (yv l))).set 22 (.v (pairV (a i) (a ((i + 1) % m))))).getD 22 .dead = .v (pairV (a i) (a ((i + 1) % m))) from by kernel_rfl] at this
            simp only [VR] at this
            exact this
          have hyl := hY ((List.finRange m).take i) ⟨i, hlt⟩ X3 hj3 (by simp; omega)
          have htake : (List.finRange m).take (i + 1) = (List.finRange m).take i ++ [⟨i, hlt⟩] := by
            rw [List.take_add_one]
            simp [hlt]
          have hsz3 : 24 < A3.tmps.size := by
            have := hS5.len
            have e : (((stI l m c i).set 12 (.v (yv l))).set 22 (.v (pairV (a i) (a ((i + 1) % m))))).length = 26 := by kernel_rfl
            omega
          rw [len_ops]
          refine wpAnyIn_all (fuel := 1) rdy11 (by simp) fun q hq => ?_
          obtain rfl : q = 11 := by simpa using hq
          refine yield_op opY_at opY_op opY_g hx12 hx22 hyl ?_
          rintro e X4 (⟨rfl, hj4, hk4⟩ | ⟨rfl, hjx⟩)
          · refine ⟨.bool true, rfl, wpAnyIn_all (fuel := 0) rdy12 (by simp) fun q hq => ?_⟩
            obtain rfl : q = 12 := by simpa using hq
            rw [opY_d]
            have hx23 : (A3.put (some 23) (.bool true)).eval (.tmp 23) = .bool true := by
              show (A3.put (some 23) (.bool true)).tmps.getD 23 undef = _
              rw [put_getD (fun d e => by cases e; show (23 : Nat) < _; omega)]
              simp
            refine not_op opN_at opN_op opN_g hx23 ⟨rdyN, ?_⟩
            rw [opN_d]
            have hsz4 : w.heap.size ≤ X4.heap.size := by have := hk4.1; omega
            have k1 : X4.heap[bB]? = w.heap[bB]? := by rw [boxW]; exact hk4.2 bB _ ltB hMb (g31.trans boxW)
            have k2 : X4.heap[bL.n]? = w.heap[bL.n]? := by
              cases ho : w.heap[bL.n]? with
              | none => rw [Array.getElem?_eq_none_iff] at ho; omega
              | some o => exact hk4.2 bL.n o ltL hML (g32.trans ho)
            have hS6 : SR (MI X4 bB) X4 νI _ (hpI a m c tB tr) A3 X4 νI := ⟨hS5.tmps, keepH X4 hsz4 k1 k2, Fr.refl _ _, hS5.dom, hS5.len, Le.refl _⟩
            have hS7 := SR.put (dst := some 23) (x := .v (.bool true)) (v := .bool true) hS6 (by kernel_rfl) (Le.refl _) (by simp only [VR]) hS6.heap hS6.fr hS6.dom
            have hS8 := SR.put (dst := some 24) (x := .v (.bool false)) (v := .bool false) hS7 (by kernel_rfl) (Le.refl _) (by simp only [VR]) hS7.heap hS7.fr hS7.dom
            have hx24 : ((A3.put (some 23) (.bool true)).put (some 24) (.bool (!true))).eval (.tmp 24) = .bool false := by
              show ((A3.put (some 23) (.bool true)).put (some 24) (.bool (!true))).tmps.getD 24 undef = _
              rw [put_getD (fun d e => by cases e; rw [put_size']; exact hsz3)]
              simp
            show (Code.cond (.tmp 24) .ret .skip).wpIn (wideR none) nn Try.prog _ _ X4
            refine wpIn_cond_false hx24 (wpIn_skip ?_)
            show regI4.wpIn (wideR none) nn Try.prog _ _ X4
            have hd8 : ((A3.put (some 23) (.bool true)).put (some 24) (.bool (!true))).defers = [] := by rw [put_defers', put_defers']; exact hd3.trans hd2
            refine wpIn_mono (execC_in (nn := nn) g0_ok mixed enters none [] 100 regI4 (by kernel_rfl) (MI X4 bB) X4 νI (fun k hk => .inl hk) _ _ _ (fun e T' H' => e = .normal ∧ T' = stI l m c (i + 1) ∧ H' = hpI a m c tB tr) _ X4 νI (by
              have := runI4 l m c i false (pairV (a i) (a ((i + 1) % m))) a tB tr
              rw [hW1] at this
              show (execC Try.prog g0 100 noLam regI4 (((((stI l m c i).set 12 (.v (yv l))).set 22 (.v (pairV (a i) (a ((i + 1) % m))))).set 23 (.v (.bool true))).set 24 (.v (.bool false))) (hpI a m c tB tr) (leafK (lv3 [0, 1, 5, 6, 7] [] []) 2)).ok _
              rw [this]
              exact ⟨rfl, rfl, rfl⟩) hS8 hd8) ?_
            intro e A6 X6 hp6
            obtain ⟨e', T', H', ν', rfl, ⟨rfl, rfl, rfl⟩, hS9, hd9⟩ := leaf_post hp6 hdom
            obtain ⟨j9, k91, k92, k93, hS9⟩ := own (T' := []) (A' := A) (i := i + 1) (by have := hk4.1; omega) k1 k2 (by rw [htake]; exact hj4) hS9
            refine ⟨⟨i + 1, by omega, hd9, hS9, j9, k91, k92, k93⟩, ?_⟩
            rw [mu hS9, hmu]
            omega
          · refine ⟨.bool false, rfl, wpAnyIn_all (fuel := 0) rdy12 (by simp) fun q hq => ?_⟩
            obtain rfl : q = 12 := by simpa using hq
            rw [opY_d]
            have hx23 : (A3.put (some 23) (.bool false)).eval (.tmp 23) = .bool false := by
              show (A3.put (some 23) (.bool false)).tmps.getD 23 undef = _
              rw [put_getD (fun d e => by cases e; show (23 : Nat) < _; omega)]
              simp
            refine not_op opN_at opN_op opN_g hx23 ⟨rdyN, ?_⟩
            rw [opN_d]
            have hx24 : ((A3.put (some 23) (.bool false)).put (some 24) (.bool (!false))).eval (.tmp 24) = .bool true := by
              show ((A3.put (some 23) (.bool false)).put (some 24) (.bool (!false))).tmps.getD 24 undef = _
              rw [put_getD (fun d e => by cases e; rw [put_size']; exact hsz3)]
              simp
            have hd8 : ((A3.put (some 23) (.bool false)).put (some 24) (.bool (!false))).defers = [] := by rw [put_defers', put_defers']; exact hd3.trans hd2
            show (Code.cond (.tmp 24) .ret .skip).wpIn (wideR none) nn Try.prog _ _ X4
            exact wpIn_cond_true hx24 (wpIn_ret (fin _ X4 hd8 (.inr ⟨_, hjx⟩)))
        · exact hk3.elim

end Go.Proofs.Ytkbdppnlojlcdaa
