/- Loops over slices: heldIntS as the pattern. -/
import Derived.Test.YtkbdppnlojlcdaaP1
import Derived.Test.YtkbdppnlojlcdaaV16
namespace Go.Proofs.Ytkbdppnlojlcdaa
open Go.RowKit
set_option maxRecDepth 100000

/-- The first n elements are k, k+1, .. -/
def upB (a : Nat → Int) (k : Int) (n : Nat) : Bool := (List.range n).all fun j => decide (a j = k + j)

structure HI where
  m : Nat
  n : Nat
  k : Int
  kv : Int
  i : Nat
  g : Nat → List Value
  t : TypeId
abbrev lvHI : Ex → List Nat := lv3 [0, 1, 5] [0, 1] [4]
def decHI : List AV → List AB → Option HI
  | [.sl 0 1 0 0 m none, .v (.int .i64 k), .v (.int .i64 0)], [.row false n 1 g t] => some ⟨m, n, k, k, 0, g, t⟩
  | _, _ => none
def stHI (s : HI) : List (Nat × AV) := [(0, .sl 0 1 0 0 s.m none), (1, .v (i64 s.kv)), (5, .v (i64 s.i))]
def hpHI (s : HI) : List AB := [.row false s.m 1 (rowI (itI s.g)) s.t]
def preHI (s : HI) : List Bool := [Nat.beq s.n s.m, allI s.m s.g, decide (0 ≤ s.k), decide (s.k ≤ 2 ^ 40), decide (s.m ≤ 2 ^ 40)]
def outHI (s : HI) (K : Kont) : Res := cond (upB (itI s.g) s.k s.m) (K .normal (mkT 0 21 [(0, .sl 0 1 0 0 s.m none), (1, .v (i64 (s.k + s.m)))]) (hpHI s)) (K .ret (mkT 0 21 [(4, .v (i64 (-1)))]) (hpHI s))
theorem upB_get {a : Nat → Int} {k : Int} {n : Nat} (h : upB a k n = true) {j : Nat} (hj : j < n) : a j = k + j := by
  simpa using List.all_eq_true.1 h j (by simpa using hj)
theorem upB_succ {a : Nat → Int} {k : Int} {n : Nat} (h : upB a k n = true) (h1 : a n = k + n) : upB a k (n + 1) = true := by
  unfold upB
  rw [List.range_succ, List.all_append]
  simp only [List.all_cons, List.all_nil, Bool.and_true, Bool.and_eq_true]
  exact ⟨h, by simpa using h1⟩
theorem upB_no {a : Nat → Int} {k : Int} {n j : Nat} (hj : j < n) (h1 : a j ≠ k + j) : upB a k n = false := by
  cases h : upB a k n with
  | false => rfl
  | true => exact (h1 (upB_get h hj)).elim

theorem roundHI (s : HI) : execC Try.prog g0 100 noLam (loopAt 0 Try.f21) (mkT 0 21 (stHI s)) (hpHI s) (leafK lvHI 1)
    = cond (decide ((s.i : Int) < s.m)) (cond (decide ((s.i : Int) < s.m)) (cond (decide (0 + s.i < s.m)) (cond (!decide (itI s.g (0 + s.i) = s.kv)) (.out .ret (mkT 0 21 [(4, .v (i64 (-1)))]) (hpHI s))
      (.out .normal (mkT 0 21 [(0, .sl 0 1 0 0 s.m none), (1, .v (i64 (W (s.kv + 1)))), (5, .v (i64 (W (s.i + 1))))]) (hpHI s))) .err) .err) (.out (.exit 0) (mkT 0 21 [(0, .sl 0 1 0 0 s.m none), (1, .v (i64 s.kv))]) (hpHI s)) := by kernel_rfl

theorem sumHI : SumOk Try.prog 1 (.block 0 (.loop (loopAt 0 Try.f21))) (loopS 21 [0, 1, 5] decHI preHI outHI) := by
  refine mkLoop g0_ok (n := 100) (m := 1) (lv := lvHI) (Λ := noLam) stHI hpHI (fun s0 s => s = { s0 with i := s.i, kv := s0.k + s.i } ∧ s.i ≤ s.m ∧ upB (itI s.g) s.k s.i = true ∧ 0 ≤ s.k ∧ s.k ≤ 2 ^ 40 ∧ s.m ≤ 2 ^ 40 ∧ s.kv = s.k + s.i) (fun s => s.m - s.i) rfl (noLam_ok _ _ _) (Nat.le_refl _) ?_ ?_
  · intro avs H s hd ho
    unfold decHI at hd
    split at hd
    · rename_i m n k g t
      cases hd
      simp only [preHI, ob_cons, decide_eq_true_eq] at ho
      obtain ⟨h1, h2, h3, h4, h5, _⟩ := ho
      cases Nat.eq_of_beq_eq_true h1
      exact ⟨[.row false m 1 g t], by kernel_rfl, .cons (ABeq.row fun j hj => allI_get h2 j hj) .nil, by simp, Nat.zero_le _, rfl, h3, h4, h5, by simp⟩
    · cases hd
  · intro s0 K Q ho hk s hi
    rw [roundHI]
    obtain ⟨hs, him, hup, hk0, hk1, hm, hkv⟩ := hi
    refine good_cond (fun h1 => ?_) fun h1 => ?_
    · have h1 := of_decide_eq_true h1
      have h1' : s.i < s.m := by omega
      refine good_true (decide_eq_true h1) (good_true (decide_eq_true (by omega)) (good_cond (fun h2 => ?_) fun h2 => ?_))
      · rw [Nat.zero_add] at h2
        refine good_out ⟨_, Hsim.refl _, ?_⟩
        have h2 : itI s.g s.i ≠ s.k + s.i := by rw [← hkv]; simpa using h2
        have := upB_no h1' h2
        rw [hs] at this ⊢
        rw [outHI, this] at hk
        exact hk
      · rw [Nat.zero_add] at h2
        have h2 : itI s.g s.i = s.k + s.i := by rw [← hkv]; simpa using h2
        refine good_out ⟨{ s with i := s.i + 1, kv := s.kv + 1 }, ⟨?_, h1', upB_succ hup h2, hk0, hk1, hm, by simp only [hkv]; omega⟩, ?_, Hsim.refl _, by simp only; omega⟩
        · rw [hs]
          simp only [HI.mk.injEq, true_and, and_true]
          omega
        · rw [w64_in (x := s.kv + 1) (by omega) (by omega), w64_in (x := (s.i : Int) + 1) (by omega) (by omega)]
          rfl
    · have h1 := of_decide_eq_false h1
      have h1' : s.i = s.m := by omega
      refine good_out ⟨_, Hsim.refl _, ?_⟩
      rw [if_pos rfl, hkv, h1']
      rw [h1'] at hup
      rw [hs] at hup ⊢
      rw [outHI, hup] at hk
      exact hk

def F_heldIntS : List SA → Option FR
  | [.row m g, .v (.int .i64 k)] => some { val := .v (i64 (cond (upB (itI g) k m) (k + m) (-1))), obl := [allI m g, decide (0 ≤ k), decide (k ≤ 2 ^ 40), decide (m ≤ 2 ^ 40)] }
  | _ => none
def md_heldIntS : List Md := [.rd 1 3, .val]

theorem ok_heldIntS : SpecOk Try.prog 21 (specR md_heldIntS F_heldIntS) := by
  refine mkR (n := 100) (Λ := oneL 0 (loopS 21 [0, 1, 5] decHI preHI outHI)) g0_ok Try.func21 rfl fun sas fr hF ho => ?_
  unfold F_heldIntS at hF
  split at hF
  · rename_i m g k
    cases hF
    simp only [ob_cons] at ho
    obtain ⟨h1, h2, h3, h4, _⟩ := ho
    refine ⟨[.row false m 1 (rowI (itI g)) 3], .cons (ABeq.row fun j hj => allI_get h1 j hj) .nil, lam1 (by kernel_rfl) sumHI, ?_⟩
    have e : execF Try.prog g0 (oneL 0 (loopS 21 [0, 1, 5] decHI preHI outHI)) 100 Try.f21 (avC 0 md_heldIntS [.row m g, .v (.int .i64 k)]) [.row false m 1 (rowI (itI g)) 3] (packK 1)
      = needs [Nat.beq m m, allI m (rowI (itI g)), decide (0 ≤ k), decide (k ≤ 2 ^ 40), decide (m ≤ 2 ^ 40)] (cond (upB (itI g) k m) (.out .ret [.v (i64 (k + m))] [.row false m 1 (rowI (itI g)) 3]) (.out .ret [.v (i64 (-1))] [.row false m 1 (rowI (itI g)) 3])) := by kernel_rfl
    rw [show ([AB.row false m 1 (rowI (itI g)) 3]).length = 1 from rfl, e]
    refine good_needs (by simp only [ob_cons, ob_nil, allI_of (m := m) (a := itI g) fun j _ => rfl, h2, h3, h4, beq_me, and_self]) (good_cond (fun hb => ?_) fun hb => ?_)
    · rw [hb]
      exact good_out ⟨_, rfl, rfl, .cons (ABeq.row fun j hj => (allI_get h1 j hj).symm) .nil⟩
    · rw [hb]
      exact good_out ⟨_, rfl, rfl, .cons (ABeq.row fun j hj => (allI_get h1 j hj).symm) .nil⟩
  · cases hF

end Go.Proofs.Ytkbdppnlojlcdaa
