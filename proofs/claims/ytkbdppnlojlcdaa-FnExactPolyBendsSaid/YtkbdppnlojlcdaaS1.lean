/- steps: the steps of a polygon. Conditions: a list of points, not empty. -/
import Derived.Test.YtkbdppnlojlcdaaV21
import Derived.Test.YtkbdppnlojlcdaaI2
import Derived.Test.YtkbdppnlojlcdaaP1
namespace Go.Proofs.Ytkbdppnlojlcdaa
open Go.RowKit
set_option maxRecDepth 100000

/-- Rows of points. -/
def isC : List Value → Bool
  | [.int .i64 _, .int .i64 _, .int .i64 _, .int .i64 _, .int .i64 _, .int .i64 _, .int .i64 _, .int .i64 _] => true
  | _ => false
def itC (g : Nat → List Value) : Nat → Nat → Int := fun j k => intOf ((g j).getD k undef)
def allC (m : Nat) (g : Nat → List Value) : Bool := (List.range m).all fun j => isC (g j)
theorem allC_get {m : Nat} {g : Nat → List Value} (h : allC m g = true) (j : Nat) (hj : j < m) : g j = rowC (itC g) j := by
  have := List.all_eq_true.1 h j (by simpa using hj)
  simp only [rowC, itC, i64]
  unfold isC at this
  split at this
  · rename_i e; rw [e]; rfl
  · cases this
theorem allC_of {m : Nat} {a : Nat → Nat → Int} {g : Nat → List Value} (h : ∀ j, j < m → g j = rowC a j) : allC m g = true := List.all_eq_true.2 fun j hj => by
  rw [h j (by simpa using hj)]; rfl

noncomputable def fSt : Func := Try.f55
noncomputable def bSt : Code := (Try.f55).body.getD .skip
noncomputable def stR0 : Code := sqA bSt
noncomputable def stR1 : Code := sqA (sqB bSt)
noncomputable def stP2 : Code := sqA (sqA (sqB (sqB bSt)))
noncomputable def stRest : Code := sqB (sqB (sqB bSt))
def rfA : Code → Code | .rangeFunc _ _ a _ => a | c => c
def rfB : Code → Code | .rangeFunc _ _ _ b => b | c => c
noncomputable def stAs : Code := rfA (blB (sqB (sqA (sqB (sqB bSt)))))
noncomputable def stBd : Code := rfB (blB (sqB (sqA (sqB (sqB bSt)))))
theorem bSt_eq : (Try.f55).body = some (nestL [stR0, stR1] (.seq (.seq stP2 (.block 0 (.rangeFunc (.tmp 9) #[10] stAs stBd))) stRest)) := by kernel_rfl

abbrev zC : Nat → List Value := fun _ => [i64 0, i64 0, i64 0, i64 0, i64 0, i64 0, i64 0, i64 0]
abbrev hhSt (a : Nat → Nat → Int) (m : Nat) (t : TypeId) : List AB := [.row false m 8 (rowC a) t, .cells [.own 3 0] 27, .cells [.sl 0 8 0 0 m none] 27, .row true 0 8 zC 46]
abbrev ttSt : List AV := mkT 0 20 [(3, .ptr 1 0 0 0), (9, .fn 101 [.ptr 2 0 0 0])]

theorem preSt (a : Nat → Nat → Int) (m : Nat) (t : TypeId) : execL Try.prog gm_l3Sum 100 ([stR0, stR1] ++ [stP2]) ([.sl 0 8 0 0 m none] ++ List.replicate ((Try.f55).ntmps - 1) (.v undef)) [.row false m 8 (rowC a) t] (leafK (lv3 [3, 9] [] []) 1)
    = needs [decide ((m : Int) ≤ 1099511627776)] (.out .normal ttSt (hhSt a m t)) := by kernel_rfl


/-- One more element. -/
def snocR (G : Nat → List Value) (n w : Nat) (r : List Value) : Nat → List Value := fun k => bif Nat.blt k n then G k else (r.drop ((k - n) * w)).take w
theorem snocR_lt {G : Nat → List Value} {n w k : Nat} {r : List Value} (h : k < n) : snocR G n w r k = G k := by
  have : Nat.blt k n = true := by rw [Nat.blt_eq]; exact h
  simp [snocR, this]
theorem snocR_eq {G : Nat → List Value} {n w : Nat} {r : List Value} (h : r.length = w) : snocR G n w r n = r := by
  have : Nat.blt n n = false := by
    cases hb : Nat.blt n n with
    | false => rfl
    | true => rw [Nat.blt_eq] at hb; omega
  simp only [snocR, this, cond_false, Nat.sub_self, Nat.zero_mul, List.drop_zero]
  rw [← h]
  exact List.take_length

def stepsF (a : Nat → Nat → Int) (m : Nat) : Nat → Nat → Int := fun j => plusF (a ((j + 1) % m)) (scaledF (a j) (-1))
def rowX {m : Nat} (f : Nat → Nat → Int) (xs : List (Fin m)) : Nat → List Value := fun j => match xs[j]? with | some x => rowC f x | none => []
theorem rowX_snoc {m : Nat} {f : Nat → Nat → Int} {xs : List (Fin m)} {x : Fin m} {j : Nat} (hj : j < xs.length + 1) : snocR (rowX f xs) xs.length 8 (rowC f x) j = rowX f (xs ++ [x]) j := by
  rcases Nat.lt_or_ge j xs.length with h | h
  · rw [snocR_lt h]
    simp only [rowX]
    rw [List.getElem?_append_left h]
  · have : j = xs.length := by omega
    subst this
    rw [snocR_eq (w := 8) (by simp)]
    simp [rowX]
theorem rowX_all {m : Nat} {f : Nat → Nat → Int} {j : Nat} (hj : j < m) : rowX f (List.finRange m) j = rowC f j := by
  simp [rowX, hj]

noncomputable abbrev blkSt (a : Nat → Nat → Int) (m : Nat) (t : TypeId) (n : Nat) (G : Nat → List Value) : List AB := [.row false m 8 (rowC a) t, .cells [.own 4 n] 27, .gone, .gone, .row true n 8 G 46]
noncomputable def hpSt (a : Nat → Nat → Int) {m : Nat} (t : TypeId) (xs : List (Fin m)) : List AB := match xs with
  | [] => [.row false m 8 (rowC a) t, .cells [.own 3 0] 27, .gone, .row true 0 8 zC 46]
  | x :: ys => blkSt a m t (x :: ys).length (rowX (stepsF a m) (x :: ys))
theorem hpSt_snoc (a : Nat → Nat → Int) {m : Nat} (t : TypeId) (xs : List (Fin m)) (x : Fin m) : hpSt a t (xs ++ [x]) = blkSt a m t (xs.length + 1) (rowX (stepsF a m) (xs ++ [x])) := by
  cases xs with
  | nil => rfl
  | cons y ys => simp [hpSt]

abbrev ttL : List AV := mkT 0 20 [(3, .ptr 1 0 0 0)]
abbrev deadL (n : Nat) : List AV := mkT 0 n []

theorem rndSt (a : Nat → Nat → Int) (m : Nat) (t : TypeId) (j n : Nat) (G : Nat → List Value) : execC Try.prog gm_l3Sum 100 noLam stAs (parT [10] [pairV (a j) (a ((j + 1) % m))] ttL) (blkSt a m t n G) (andK Try.prog gm_l3Sum 100 stBd 4) = needs [Nat.ble n n, Nat.ble (n + 1) 549755813888] (.out .normal (deadL 20) (blkSt a m t (n + 1) (snocR G n 8 (rowC (stepsF a m) j)))) := by kernel_rfl
theorem rndSt0 (a : Nat → Nat → Int) (m : Nat) (t : TypeId) (j : Nat) : execC Try.prog gm_l3Sum 100 noLam stAs (parT [10] [pairV (a j) (a ((j + 1) % m))] ttL) [.row false m 8 (rowC a) t, .cells [.own 3 0] 27, .gone, .row true 0 8 zC 46] (andK Try.prog gm_l3Sum 100 stBd 4) = .out .normal (deadL 20) (blkSt a m t 1 (snocR zC 0 8 (rowC (stepsF a m) j))) := by kernel_rfl
theorem endSt (a : Nat → Nat → Int) (m : Nat) (t : TypeId) (n : Nat) (G : Nat → List Value) : behind Try.prog gm_l3Sum 100 Try.f55 0 stRest (packK 1) .normal ttL (blkSt a m t n G)
    = .out .ret [.own 1 n] [.row false m 8 (rowC a) t, .row true n 8 G 46] := by kernel_rfl

/-- Where the list of sides lies: from what holds at the loop. -/
theorem sides_at {nn : Nat} {W : World} {ν1 : Nu} {TT : List AV} {HH H' : List AB} {a1 : Act} {lb : List Value} {a : Nat → Nat → Int} {m ib il : Nat} {tB tr : TypeId} (hS : SR (ownM W ν1 HH) W ν1 TT HH a1 W ν1) (hlb : VRs ν1 [.ptr ib 0 0 0] lb)
    (hib : HH.getD ib .gone = .cells [.sl il 8 0 0 m none] tB) (hil : HH.getD il .gone = .row false m 8 (rowC a) tr) (hne : ib ≠ il) (hm0 : 0 < m) (hm : m ≤ 2 ^ 40) (hH : ∀ i, (H'.getD i .gone).wr = true → (HH.getD i .gone).wr = true ∧ i ≠ ib) :
    SeqStopsK (wideR none) nn Try.prog 101 lb.toArray (fun x : Fin m => [pairV (a x) (a ((x + 1) % m))].toArray) (keepR W (ownM W ν1 H')) (fun xs => xs = List.finRange m) (fun _ => True) m W := by
  cases lb with
  | nil => simp only [VRs] at hlb
  | cons y ys =>
    cases ys with
    | cons => simp only [VRs] at hlb; exact hlb.2.elim
    | nil =>
      simp only [VRs, VR, and_true] at hlb
      obtain ⟨b, hb, rfl⟩ := hlb
      have hbr := hS.heap.br ib
      simp only [hib] at hbr
      obtain ⟨b', l, e1, e2, e3, e4⟩ := hbr
      rw [hb] at e1
      cases e1
      cases l with
      | nil => simp only [VRs] at e4
      | cons z zs =>
        cases zs with
        | cons => simp only [VRs] at e4; exact e4.2.elim
        | nil =>
          simp only [VRs, VR, and_true] at e4
          obtain ⟨p, c, rfl, _, h3, h4⟩ := e4
          obtain ⟨bL, h5, h6⟩ := h4 (by omega)
          let νI : Nu := fun i => match i with | 0 => some b | 1 => some bL | _ => none
          have hH1 : RH (fun k => W.heap.size ≤ k ∨ k = b.n) νI (fun i => (hpI a m c tB tr).getD i .gone) W := by
            have hbl := hS.heap.br il
            simp only [hil] at hbl
            have hsep := hS.heap.sep ib il b bL hne (by rw [hib]; rfl) (by rw [hil]; rfl) hb h5
            refine ⟨fun i => ?_, fun i j b1 b2 hij hw hl h1 h2 => ?_, fun i b1 hw h1 => ?_, fun i b1 h1 => ?_⟩
            · match i with
              | 0 =>
                refine ⟨b, _, rfl, e2, e3, ?_⟩
                simp only [VRs, VR, and_true]
                exact ⟨p, c, rfl, fun c' h => by cases h; rfl, h3, fun _ => ⟨bL, rfl, h6⟩⟩
              | 1 =>
                rcases hbl with ⟨_, h0, _⟩ | ⟨bb, l, t', fz, g1, g2⟩
                · omega
                · rw [h5] at g1
                  cases g1
                  exact .inr ⟨bL, l, t', fz, rfl, g2⟩
              | n + 2 => trivial
            · match i, j with
              | 0, 1 => cases h1; cases h2; exact hsep
              | 1, _ => simp [AB.wr] at hw
              | 0, 0 => exact (hij rfl).elim
              | 0, n + 2 => cases h2
              | n + 2, _ => cases h1
            · match i with
              | 0 => cases h1; exact .inr rfl
              | 1 => simp [AB.wr] at hw
              | n + 2 => cases h1
            · match i with
              | 0 => cases h1; exact hS.heap.lt ib b hb
              | 1 => cases h1; exact hS.heap.lt il bL h5
              | n + 2 => cases h1
          have ltB := hS.heap.lt ib b hb
          have ltL := hS.heap.lt il bL h5
          have key := sides_stops (nn := nn) (M := ownM W ν1 H') (bB := b.n) (cB := b.c) (bL := bL) (a := a) (c := c) (tB := tB) (tr := tr) hH1 (by show some b = _; rw [show b = ⟨b.n, 0, b.c⟩ by rw [← e2]]) rfl (fun i b1 h1 => by
            match i with
            | 0 => omega
            | 1 => omega
            | n + 2 => cases h1) hm0 hm ?_ ?_
          · rw [e2] 
            exact key
          · rintro (hk | ⟨i, b1, hw, hb1, e⟩)
            · omega
            · obtain ⟨hw1, hne1⟩ := hH i hw
              exact hS.heap.sep i ib b1 b hne1 hw1 (by rw [hib]; rfl) hb1 hb e
          · rintro (hk | ⟨i, b1, hw, hb1, e⟩)
            · omega
            · obtain ⟨hw1, hne1⟩ := hH i hw
              refine hS.heap.sep i il b1 bL (fun e => ?_) hw1 (by rw [hil]; rfl) hb1 h5 e
              subst e
              rw [hil] at hw1
              simp [AB.wr] at hw1

theorem enters_of' {f : FuncId} {fn : Func} (hf : Try.prog.funcs[f]? = some fn) (hb : fn.body.isSome = true) : ∀ args w, (callFunc f args).run Try.prog w = .ok (.enter f args) w := fun args w => enters f fn hf hb args w

def md_steps : List Md := [.rd 8 46]
def F_steps : List SA → Option FR
  | [.row m g] => some { val := .own 0 m, new := [.row true m 8 (rowC (stepsF (itC g) m)) 46], obl := [allC m g, decide (0 < m), decide (m ≤ 2 ^ 38)] }
  | _ => none

theorem finRange_cons {m : Nat} (h : 0 < m) : ∃ x xs, List.finRange m = x :: xs := by
  cases hl : List.finRange m with
  | nil => have := congrArg List.length hl; simp at this; omega
  | cons x xs => exact ⟨x, xs, rfl⟩

theorem ok_steps : SpecOk Try.prog 55 (specR md_steps F_steps) := by
  refine specR_calls enters Try.func55 rfl fun sas fr hF ho => ?_
  unfold F_steps at hF
  split at hF
  · rename_i m g
    cases hF
    simp only [ob_cons, decide_eq_true_eq] at ho
    obtain ⟨h1, hm0, hm, _⟩ := ho
    refine ⟨[.row false m 8 (rowC (itC g)) 46], .cons (ABeq.row fun j hj => allC_get h1 j hj) .nil, ?_⟩
    refine calls_range (α := Fin m) (n := 100) (nn := 0) gm_l3Sum_ok mixed enters Try.func55 bSt_eq (by kernel_rfl) (by kernel_rfl) (by kernel_rfl) (by kernel_rfl) (by kernel_rfl) (lvp := lv3 [3, 9] [] []) (TT := ttSt) (HH := hhSt (itC g) m 46)
      (encs := fun x => [pairV (itC g x) (itC g ((x + 1) % m))]) (S := fun xs => xs = List.finRange m) (Sp := fun _ => True) (N := m) ?_ (gf := 101) (cs := [.ptr 2 0 0 0]) (by kernel_rfl) ttL (by kernel_rfl) (mask_less (live := [3]) (by kernel_rfl)) (fun _ => false) (hpSt (itC g) 46) (fun _ _ => []) rfl (fun i => ?_)
      (enters_of' Try.func101 rfl) (fun W ν1 a1 lb hS hv => ?_) (fun _ => rfl) (by decide) (fun pre x hlen => ?_) (fun xs hxs => ?_) (fun e pre _ h => by cases h)
    · show (execL Try.prog gm_l3Sum 100 ([stR0, stR1] ++ [stP2]) ([.sl 0 8 0 0 m none] ++ List.replicate ((Try.f55).ntmps - 1) (.v undef)) [.row false m 8 (rowC (itC g)) 46] (leafK (lv3 [3, 9] [] []) 1)).ok _
      rw [preSt]
      exact (good_needs (Q := fun e T' H' => e = .normal ∧ T' = ttSt ∧ H' = hhSt (itC g) m 46) (r := .out .normal ttSt (hhSt (itC g) m 46)) (by simp only [ob_cons, ob_nil, decide_eq_true_eq, and_true]; omega) ⟨⟨rfl, rfl, rfl⟩⟩).out
    · rcases (by omega : i = 0 ∨ i = 1 ∨ i = 2 ∨ i = 3 ∨ 4 ≤ i) with rfl | rfl | rfl | rfl | h
      · exact .inl rfl
      · exact .inl rfl
      · exact .inr rfl
      · exact .inl rfl
      · right
        simp [hpSt, List.getD_eq_getElem?_getD, List.getElem?_eq_none, h]
    · refine sides_at hS hv (ib := 2) (il := 0) rfl rfl (by decide) hm0 (by omega) fun i hw => ?_
      rcases (by omega : i = 0 ∨ i = 1 ∨ i = 2 ∨ i = 3 ∨ 4 ≤ i) with rfl | rfl | rfl | rfl | h
      · simp [hpSt, AB.wr] at hw
      · exact ⟨rfl, by decide⟩
      · simp [hpSt, AB.wr] at hw
      · exact ⟨rfl, by decide⟩
      · simp [hpSt, List.getD_eq_getElem?_getD, List.getElem?_eq_none, h, AB.wr] at hw
    · cases pre with
      | nil =>
        show (execC Try.prog gm_l3Sum 100 noLam stAs (parT [10] [pairV (itC g x) (itC g ((x + 1) % m))] ttL) [.row false m 8 (rowC (itC g)) 46, .cells [.own 3 0] 27, .gone, .row true 0 8 zC 46] (andK Try.prog gm_l3Sum 100 stBd 4)).ok _
        rw [rndSt0 (itC g) m 46 x]
        show Hsim _ (hpSt (itC g) 46 ([] ++ [x]))
        rw [hpSt_snoc]
        refine .cons (ABeq.refl _) (.cons (ABeq.refl _) (.cons (ABeq.refl _) (.cons (ABeq.refl _) (.cons (ABeq.row fun j hj => ?_) .nil))))
        have : j = 0 := by omega
        subst this
        exact (snocR_eq (G := zC) (n := 0) (w := 8) (r := rowC (stepsF (itC g) m) x) (by simp)).trans (by simp [rowX])
      | cons y ys =>
        show (execC Try.prog gm_l3Sum 100 noLam stAs (parT [10] [pairV (itC g x) (itC g ((x + 1) % m))] ttL) (blkSt (itC g) m 46 (y :: ys).length (rowX (stepsF (itC g) m) (y :: ys))) (andK Try.prog gm_l3Sum 100 stBd 4)).ok _
        rw [rndSt (itC g) m 46 x]
        refine (good_needs (by simp only [ob_cons, ob_nil, and_true, Nat.ble_eq]; omega) ⟨?_⟩).out
        show Hsim _ (hpSt (itC g) 46 ((y :: ys) ++ [x]))
        rw [hpSt_snoc]
        exact .cons (ABeq.refl _) (.cons (ABeq.refl _) (.cons (ABeq.refl _) (.cons (ABeq.refl _) (.cons (ABeq.row fun j hj => rowX_snoc hj) .nil))))
    · obtain ⟨x, ys, hl⟩ := finRange_cons hm0
      subst hxs
      have hlen : (x :: ys).length = m := by rw [← hl]; simp
      have hrow : ∀ j, j < m → rowX (stepsF (itC g) m) (x :: ys) j = rowC (stepsF (itC g) m) j := fun j hj => by rw [← hl]; exact rowX_all hj
      rw [hl]
      show (behind Try.prog gm_l3Sum 100 Try.f55 0 stRest (packK 1) .normal ttL (blkSt (itC g) m 46 (x :: ys).length (rowX (stepsF (itC g) m) (x :: ys)))).ok _
      rw [endSt, hlen]
      exact ⟨_, rfl, rfl, .cons (ABeq.row fun j hj => (allC_get h1 j hj).symm) (.cons (ABeq.row hrow) .nil)⟩
  · cases hF

end Go.Proofs.Ytkbdppnlojlcdaa
