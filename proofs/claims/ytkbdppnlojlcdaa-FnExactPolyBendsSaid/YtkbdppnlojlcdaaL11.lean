/- markCycS. Conditions: those that the word names. -/
import Derived.Test.YtkbdppnlojlcdaaL10
namespace Go.Proofs.Ytkbdppnlojlcdaa
open Go.RowKit
set_option maxRecDepth 100000

abbrev wr1 (k : Int) : Int := IntKind.i64.wrap (k + 1)
abbrev lvN : Ex → List Nat := lv3 [0, 1, 5] [1] []
/-- Eight marks from k on. -/
abbrev marks (k : Int) : List Value := [i64 k, i64 (wr1 k), i64 (wr1 (wr1 k)), i64 (wr1 (wr1 (wr1 k))), i64 (wr1 (wr1 (wr1 (wr1 k)))), i64 (wr1 (wr1 (wr1 (wr1 (wr1 k))))), i64 (wr1 (wr1 (wr1 (wr1 (wr1 (wr1 k)))))), i64 (wr1 (wr1 (wr1 (wr1 (wr1 (wr1 (wr1 k)))))))]
def upd1 (G : Nat → List Value) (i q : Nat) (v : Value) : Nat → List Value := fun j => bif Nat.beq j i then splice (G i) q [v] else G j
theorem rndN (m : Nat) (k : Int) (G : Nat → List Value) (t : TypeId) (i : Nat) : execC Try.prog g0 100 noLam (loopAt 0 Try.f19) (mkT 0 27 [(0, .own 0 m), (1, .v (i64 k)), (5, .v (i64 i))]) [.row true m 8 G t] (leafK lvN 1)
    = cond (decide ((i : Int) < m)) (needs ((List.range 8).flatMap fun _ => [decide ((i : Int) < m), decide (i < m)])
        (.out .normal (mkT 0 27 [(0, .own 0 m), (1, .v (i64 (wr1 (wr1 (wr1 (wr1 (wr1 (wr1 (wr1 (wr1 k)))))))))), (5, .v (i64 (wr1 i)))]) [.row true m 8
          (upd1 (upd1 (upd1 (upd1 (upd1 (upd1 (upd1 (upd1 G i 0 (i64 k)) i 1 (i64 (wr1 k))) i 2 (i64 (wr1 (wr1 k)))) i 3 (i64 (wr1 (wr1 (wr1 k))))) i 4 (i64 (wr1 (wr1 (wr1 (wr1 k)))))) i 5 (i64 (wr1 (wr1 (wr1 (wr1 (wr1 k))))))) i 6 (i64 (wr1 (wr1 (wr1 (wr1 (wr1 (wr1 k)))))))) i 7 (i64 (wr1 (wr1 (wr1 (wr1 (wr1 (wr1 (wr1 k))))))))) t]))
      (.out (.exit 0) (mkT 0 27 [(1, .v (i64 k))]) [.row true m 8 G t]) := by kernel_rfl

theorem wr1_in {k : Int} (h0 : 0 ≤ k) (h1 : k ≤ 2 ^ 60) : wr1 k = k + 1 := by
  rw [show wr1 k = W (k + 1) from rfl, w64_in (by omega) (by omega)]
abbrev mark8 (k : Int) : List Value := [i64 k, i64 (k + 1), i64 (k + 2), i64 (k + 3), i64 (k + 4), i64 (k + 5), i64 (k + 6), i64 (k + 7)]
structure MKC where
  m : Nat
  n : Nat
  k : Int
  g : Nat → List Value
  t : TypeId
def decN : List AV → List AB → Option MKC
  | [.own 0 m, .v (.int .i64 k), .v (.int .i64 0)], [.row true n 8 g t] => some ⟨m, n, k, g, t⟩
  | _, _ => none
def mkN (s : MKC) (i : Nat) : Nat → List Value := fun j => bif Nat.blt j i then mark8 (s.k + 8 * j) else rowC (itC s.g) j
def stN (s : MKC) (i : Nat) : List (Nat × AV) := [(0, .own 0 s.m), (1, .v (i64 (bif Nat.beq i 0 then s.k else s.k + 8 * i))), (5, .v (i64 i))]
def hpN (s : MKC) (i : Nat) : List AB := [.row true s.m 8 (mkN s i) s.t]
def preN (s : MKC) : List Bool := [Nat.beq s.n s.m, allC s.m s.g, decide (0 ≤ s.k), decide (s.k ≤ 2 ^ 40), decide (s.m ≤ 2 ^ 40)]
def outN (s : MKC) (K : Kont) : Res := K .normal (mkT 0 27 [(1, .v (i64 (s.k + 8 * s.m)))]) [.row true s.m 8 (fun j => mark8 (s.k + 8 * j)) s.t]

theorem upd8 (G : Nat → List Value) (i : Nat) (v0 v1 v2 v3 v4 v5 v6 v7 : Value) (h : ∃ a : Nat → Int, G i = [i64 (a 0), i64 (a 1), i64 (a 2), i64 (a 3), i64 (a 4), i64 (a 5), i64 (a 6), i64 (a 7)]) (j : Nat) :
    (upd1 (upd1 (upd1 (upd1 (upd1 (upd1 (upd1 (upd1 G i 0 v0) i 1 v1) i 2 v2) i 3 v3) i 4 v4) i 5 v5) i 6 v6) i 7 v7) j = if j = i then [v0, v1, v2, v3, v4, v5, v6, v7] else G j := by
  obtain ⟨a, ha⟩ := h
  have b1 : Nat.beq i i = true := Nat.beq_refl i
  by_cases e : j = i
  · subst e
    simp only [upd1, b1, cond_true, ha, if_pos]
    rfl
  · have b2 : Nat.beq j i = false := by
      cases hb : Nat.beq j i with
      | false => rfl
      | true => exact (e (Nat.eq_of_beq_eq_true hb)).elim
    simp only [upd1, b2, cond_false, if_neg e]

theorem sumN : SumOk Try.prog 1 (.block 0 (.loop (loopAt 0 Try.f19))) (loopS 27 [0, 1, 5] decN preN outN) := by
  refine mkFor g0_ok (n := 100) (m := 1) (lv := lvN) (Λ := noLam) stN hpN (fun _ _ => True) (fun s => s.m) rfl (noLam_ok _ _ _) (Nat.le_refl _) ?_ ?_
  · intro avs H s hd ho
    unfold decN at hd
    split at hd
    · rename_i m k n g t
      cases hd
      simp only [preN, ob_cons, decide_eq_true_eq] at ho
      obtain ⟨h0, h1, _⟩ := ho
      have h0 := Nat.eq_of_beq_eq_true h0
      subst h0
      exact ⟨[.row true _ 8 g t], by kernel_rfl, .cons (ABeq.row fun j hj => allC_get h1 j hj) .nil, trivial⟩
    · cases hd
  · intro s K Q ho hk i _ him
    simp only [preN, ob_cons, decide_eq_true_eq] at ho
    obtain ⟨_, h1, h2, h3, h4, _⟩ := ho
    have hkv : (bif Nat.beq i 0 then s.k else s.k + 8 * i) = s.k + 8 * i := by
      cases i with
      | zero => simp
      | succ i => rfl
    show GoodQ (execC Try.prog g0 100 noLam (loopAt 0 Try.f19) (mkT 0 27 [(0, .own 0 s.m), (1, .v (i64 (bif Nat.beq i 0 then s.k else s.k + 8 * i))), (5, .v (i64 i))]) [.row true s.m 8 (mkN s i) s.t] (leafK lvN 1)) _
    rw [rndN, hkv]
    refine good_cond (fun hc => ?_) fun hc => ?_
    · have hc := of_decide_eq_true hc
      have hc' : i < s.m := by omega
      have e1 : wr1 (s.k + 8 * i) = s.k + 8 * i + 1 := wr1_in (by omega) (by omega)
      have e2 : wr1 (s.k + 8 * i + 1) = s.k + 8 * i + 2 := by rw [wr1_in (by omega) (by omega)]; omega
      have e3 : wr1 (s.k + 8 * i + 2) = s.k + 8 * i + 3 := by rw [wr1_in (by omega) (by omega)]; omega
      have e4 : wr1 (s.k + 8 * i + 3) = s.k + 8 * i + 4 := by rw [wr1_in (by omega) (by omega)]; omega
      have e5 : wr1 (s.k + 8 * i + 4) = s.k + 8 * i + 5 := by rw [wr1_in (by omega) (by omega)]; omega
      have e6 : wr1 (s.k + 8 * i + 5) = s.k + 8 * i + 6 := by rw [wr1_in (by omega) (by omega)]; omega
      have e7 : wr1 (s.k + 8 * i + 6) = s.k + 8 * i + 7 := by rw [wr1_in (by omega) (by omega)]; omega
      have e8 : wr1 (s.k + 8 * i + 7) = s.k + 8 * ((i + 1 : Nat) : Int) := by rw [wr1_in (by omega) (by omega)]; omega
      have e9 : wr1 (i : Int) = ((i + 1 : Nat) : Int) := by rw [wr1_in (by omega) (by omega)]; omega
      rw [e1, e2, e3, e4, e5, e6, e7, e8, e9]
      refine good_needs (by simp [obls, List.all_flatMap, hc']) (good_out ⟨hc', rfl, ?_, trivial⟩)
      refine .cons (ABeq.row fun j hj => ?_) .nil
      rw [upd8 _ _ _ _ _ _ _ _ _ _ ⟨itC s.g i, by simp only [mkN, blt_self, cond_false]⟩]
      by_cases e : j = i
      · subst e
        have b3 : Nat.blt j (j + 1) = true := by rw [Nat.blt_eq]; omega
        rw [if_pos rfl]
        simp only [mkN, b3, cond_true]
      · have b2 : Nat.blt j (i + 1) = Nat.blt j i := by
          rw [Bool.eq_iff_iff, Nat.blt_eq, Nat.blt_eq]
          omega
        rw [if_neg e]
        simp only [mkN, b2]
    · have hc := of_decide_eq_false hc
      have : i = s.m := by omega
      subst this
      refine good_out ⟨[.row true s.m 8 (fun j => mark8 (s.k + 8 * j)) s.t], .cons (ABeq.row fun j hj => ?_) .nil, ?_⟩
      · have b3 : Nat.blt j s.m = true := by rw [Nat.blt_eq]; exact hj
        simp only [mkN, b3, cond_true]
      · rw [if_pos rfl]
        exact hk

def F_markCycS : List SA → Option FR
  | [.own m n g, .v (.int .i64 k)] => some { val := .v (i64 (k + 8 * m)), put := [fun j => mark8 (k + 8 * j)], obl := [Nat.beq n m, allC m g, decide (0 ≤ k), decide (k ≤ 2 ^ 40), decide (m ≤ 2 ^ 40)] }
  | _ => none
def md_markCycS : List Md := [.wr 8 46, .val]
theorem ok_markCycS : SpecOk Try.prog 19 (specR md_markCycS F_markCycS) := by
  refine mkR (n := 100) (Λ := oneL 0 (loopS 27 [0, 1, 5] decN preN outN)) g0_ok Try.func19 rfl fun sas fr hF ho => ?_
  unfold F_markCycS at hF
  split at hF
  · rename_i m n g k
    cases hF
    simp only [ob_cons] at ho
    obtain ⟨h0, h1, h2, h3, h4, _⟩ := ho
    have h0 := Nat.eq_of_beq_eq_true h0
    subst h0
    refine ⟨[.row true n 8 (rowC (itC g)) 46], .cons (ABeq.row fun j hj => allC_get h1 j hj) .nil, lam1 (by kernel_rfl) sumN, ?_⟩
    have e : execF Try.prog g0 (oneL 0 (loopS 27 [0, 1, 5] decN preN outN)) 100 Try.f19 (avC 0 md_markCycS [.own n n g, .v (.int .i64 k)]) [.row true n 8 (rowC (itC g)) 46] (packK 1)
      = needs [Nat.beq n n, allC n (rowC (itC g)), decide (0 ≤ k), decide (k ≤ 2 ^ 40), decide (n ≤ 2 ^ 40)] (.out .ret [.v (i64 (k + 8 * n))] [.row true n 8 (fun j => mark8 (k + 8 * j)) 46]) := by kernel_rfl
    rw [show ([AB.row true n 8 (rowC (itC g)) 46]).length = 1 from rfl, e]
    refine good_needs (by simp only [ob_cons, ob_nil, allC_of (m := n) (a := itC g) fun j _ => rfl, h2, h3, h4, beq_me, and_self]) (good_out ⟨_, rfl, rfl, .cons (ABeq.row fun j hj => ?_) .nil⟩)
    have b3 : Nat.blt j n = true := by rw [Nat.blt_eq]; exact hj
    simp only [b3, cond_true]
  · cases hF

end Go.Proofs.Ytkbdppnlojlcdaa
