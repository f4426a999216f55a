/- markIntS. Conditions: those that the word names. -/
import Derived.Test.YtkbdppnlojlcdaaL7
namespace Go.Proofs.Ytkbdppnlojlcdaa
open Go.RowKit
set_option maxRecDepth 100000

structure MKI where
  m : Nat
  n : Nat
  k : Int
  g : Nat → List Value
  t : TypeId
abbrev lvM : Ex → List Nat := lv3 [0, 1, 5] [1] []
def decM : List AV → List AB → Option MKI
  | [.own 0 m, .v (.int .i64 k), .v (.int .i64 0)], [.row true n 1 g t] => some ⟨m, n, k, g, t⟩
  | _, _ => none
/-- Marked up to i. -/
def mkG (s : MKI) (i : Nat) : Nat → List Value := fun j => bif Nat.blt j i then [i64 (s.k + j)] else rowI (itI s.g) j
def stM (s : MKI) (i : Nat) : List (Nat × AV) := [(0, .own 0 s.m), (1, .v (i64 (bif Nat.beq i 0 then s.k else s.k + i))), (5, .v (i64 i))]
def hpM (s : MKI) (i : Nat) : List AB := [.row true s.m 1 (mkG s i) s.t]
def preM (s : MKI) : List Bool := [Nat.beq s.n s.m, allI s.m s.g, decide (0 ≤ s.k), decide (s.k ≤ 2 ^ 40), decide (s.m ≤ 2 ^ 40)]
def outM (s : MKI) (K : Kont) : Res := K .normal (mkT 0 19 [(1, .v (i64 (s.k + s.m)))]) [.row true s.m 1 (fun j => [i64 (s.k + j)]) s.t]
theorem rndM (m : Nat) (kv : Int) (G : Nat → List Value) (t : TypeId) (i : Nat) : execC Try.prog g0 100 noLam (loopAt 0 Try.f20) (mkT 0 19 [(0, .own 0 m), (1, .v (i64 kv)), (5, .v (i64 i))]) [.row true m 1 G t] (leafK lvM 1)
    = cond (decide ((i : Int) < m)) (needs [decide ((i : Int) < m), decide (i < m)]
        (.out .normal (mkT 0 19 [(0, .own 0 m), (1, .v (i64 (IntKind.i64.wrap (kv + 1)))), (5, .v (i64 (IntKind.i64.wrap ((i : Int) + 1))))]) [.row true m 1 (fun q => bif Nat.beq q i then splice (G i) 0 [i64 kv] else G q) t]))
      (.out (.exit 0) (mkT 0 19 [(1, .v (i64 kv))]) [.row true m 1 G t]) := by kernel_rfl

theorem sumM : SumOk Try.prog 1 (.block 0 (.loop (loopAt 0 Try.f20))) (loopS 19 [0, 1, 5] decM preM outM) := by
  refine mkFor g0_ok (n := 100) (m := 1) (lv := lvM) (Λ := noLam) stM hpM (fun _ _ => True) (fun s => s.m) rfl (noLam_ok _ _ _) (Nat.le_refl _) ?_ ?_
  · intro avs H s hd ho
    unfold decM at hd
    split at hd
    · rename_i m k n g t
      cases hd
      simp only [preM, ob_cons, decide_eq_true_eq] at ho
      obtain ⟨h0, h1, _⟩ := ho
      have h0 := Nat.eq_of_beq_eq_true h0
      subst h0
      exact ⟨[.row true _ 1 g t], by kernel_rfl, .cons (ABeq.row fun j hj => allI_get h1 j hj) .nil, trivial⟩
    · cases hd
  · intro s K Q ho hk i _ him
    simp only [preM, ob_cons, decide_eq_true_eq] at ho
    obtain ⟨_, h1, h2, h3, h4, _⟩ := ho
    have hkv : (bif Nat.beq i 0 then s.k else s.k + i) = s.k + i := by
      cases i with
      | zero => simp
      | succ i => rfl
    show GoodQ (execC Try.prog g0 100 noLam (loopAt 0 Try.f20) (mkT 0 19 [(0, .own 0 s.m), (1, .v (i64 (bif Nat.beq i 0 then s.k else s.k + i))), (5, .v (i64 i))]) [.row true s.m 1 (mkG s i) s.t] (leafK lvM 1)) _
    rw [rndM, hkv]
    refine good_cond (fun hc => ?_) fun hc => ?_
    · have hc := of_decide_eq_true hc
      have hc' : i < s.m := by omega
      refine good_needs (by simp only [ob_cons, ob_nil, and_true, decide_eq_true_eq]; omega) (good_out ⟨hc', ?_, ?_, trivial⟩)
      · rw [show IntKind.i64.wrap ((i : Int) + 1) = W ((i : Int) + 1) from rfl, w64_in (x := (i : Int) + 1) (by omega) (by omega), show IntKind.i64.wrap (s.k + i + 1) = W (s.k + i + 1) from rfl, w64_in (x := s.k + i + 1) (by omega) (by omega), Int.add_assoc]
        rfl
      · refine .cons (ABeq.row fun j hj => ?_) .nil
        by_cases e : j = i
        · subst e
          have b1 : Nat.beq j j = true := Nat.beq_refl j
          have b2 : Nat.blt j j = false := by
            cases hb : Nat.blt j j with
            | false => rfl
            | true => rw [Nat.blt_eq] at hb; omega
          have b3 : Nat.blt j (j + 1) = true := by rw [Nat.blt_eq]; omega
          simp only [mkG, b1, b2, b3, cond_true, cond_false]
          rfl
        · have b1 : Nat.beq j i = false := by
            cases hb : Nat.beq j i with
            | false => rfl
            | true => exact (e (Nat.eq_of_beq_eq_true hb)).elim
          have b2 : Nat.blt j (i + 1) = Nat.blt j i := by
            rw [Bool.eq_iff_iff, Nat.blt_eq, Nat.blt_eq]
            omega
          simp only [mkG, b1, b2, cond_false]
    · have hc := of_decide_eq_false hc
      have : i = s.m := by omega
      subst this
      refine good_out ⟨[.row true s.m 1 (fun j => [i64 (s.k + j)]) s.t], .cons (ABeq.row fun j hj => ?_) .nil, ?_⟩
      · have b3 : Nat.blt j s.m = true := by rw [Nat.blt_eq]; exact hj
        simp only [mkG, b3, cond_true]
      · rw [if_pos rfl]
        exact hk

def F_markIntS : List SA → Option FR
  | [.own m n g, .v (.int .i64 k)] => some { val := .v (i64 (k + m)), put := [fun j => [i64 (k + j)]], obl := [Nat.beq n m, allI m g, decide (0 ≤ k), decide (k ≤ 2 ^ 40), decide (m ≤ 2 ^ 40)] }
  | _ => none
def md_markIntS : List Md := [.wr 1 3, .val]
theorem ok_markIntS : SpecOk Try.prog 20 (specR md_markIntS F_markIntS) := by
  refine mkR (n := 100) (Λ := oneL 0 (loopS 19 [0, 1, 5] decM preM outM)) g0_ok Try.func20 rfl fun sas fr hF ho => ?_
  unfold F_markIntS at hF
  split at hF
  · rename_i m n g k
    cases hF
    simp only [ob_cons] at ho
    obtain ⟨h0, h1, h2, h3, h4, _⟩ := ho
    have h0 := Nat.eq_of_beq_eq_true h0
    subst h0
    refine ⟨[.row true n 1 (rowI (itI g)) 3], .cons (ABeq.row fun j hj => allI_get h1 j hj) .nil, lam1 (by kernel_rfl) sumM, ?_⟩
    have e : execF Try.prog g0 (oneL 0 (loopS 19 [0, 1, 5] decM preM outM)) 100 Try.f20 (avC 0 md_markIntS [.own n n g, .v (.int .i64 k)]) [.row true n 1 (rowI (itI g)) 3] (packK 1)
      = needs [Nat.beq n n, allI n (rowI (itI g)), decide (0 ≤ k), decide (k ≤ 2 ^ 40), decide (n ≤ 2 ^ 40)] (.out .ret [.v (i64 (k + n))] [.row true n 1 (fun j => [i64 (k + j)]) 3]) := by kernel_rfl
    rw [show ([AB.row true n 1 (rowI (itI g)) 3]).length = 1 from rfl, e]
    refine good_needs (by simp only [ob_cons, ob_nil, allI_of (m := n) (a := itI g) fun j _ => rfl, h2, h3, h4, beq_me, and_self]) (good_out ⟨_, rfl, rfl, .cons (ABeq.row fun j hj => ?_) .nil⟩)
    have b3 : Nat.blt j n = true := by rw [Nat.blt_eq]; exact hj
    simp only [b3, cond_true]
  · cases hF

end Go.Proofs.Ytkbdppnlojlcdaa
