/- PolyConvex of the program and of the reference return the same, for whatever list: FnExactPolyConvex returns true, and its argument reads as before. No conditions. -/
import Derived.Test.YtkbdppnlojlcdaaZC30
import Derived.Test.YtkbdppnlojlcdaaZC31
import Derived.Test.YtkbdppnlojlcdaaZC32
import Derived.Test.YtkbdppnlojlcdaaZC33
import Derived.Test.YtkbdppnlojlcdaaZC34
/- markIntS. Conditions: those that the word names. -/
namespace Go.Proofs.Ytkbdppnlojlcdaa
open Go.RowKit
set_option maxRecDepth 100000

structure MKI where
  m : Nat
  n : Nat
  k : Int
  g : Nat → List Value
  t : TypeId
abbrev lvM : Ex → List Nat := lv3 [0, 1, 5] [1] []
def decM : List AV → List AB → Option MKI
  | [.own 0 m, .v (.int .i64 k), .v (.int .i64 0)], [.row true n 1 g t] => some ⟨m, n, k, g, t⟩
  | _, _ => none
/-- Marked up to i. -/
def mkG (s : MKI) (i : Nat) : Nat → List Value := fun j => bif Nat.blt j i then [i64 (s.k + j)] else rowI (itI s.g) j
def stM (s : MKI) (i : Nat) : List (Nat × AV) := [(0, .own 0 s.m), (1, .v (i64 (bif Nat.beq i 0 then s.k else s.k + i))), (5, .v (i64 i))]
def hpM (s : MKI) (i : Nat) : List AB := [.row true s.m 1 (mkG s i) s.t]
def preM (s : MKI) : List Bool := [Nat.beq s.n s.m, allI s.m s.g, decide (0 ≤ s.k), decide (s.k ≤ 2 ^ 40), decide (s.m ≤ 2 ^ 40)]
def outM (s : MKI) (K : Kont) : Res := K .normal (mkT 0 19 [(1, .v (i64 (s.k + s.m)))]) [.row true s.m 1 (fun j => [i64 (s.k + j)]) s.t]
theorem rndM (m : Nat) (kv : Int) (G : Nat → List Value) (t : TypeId) (i : Nat) : execC Try.prog g0 100 noLam (loopAt 0 Try.f20) (mkT 0 19 [(0, .own 0 m), (1, .v (i64 kv)), (5, .v (i64 i))]) [.row true m 1 G t] (leafK lvM 1)
    = cond (decide ((i : Int) < m)) (needs [decide ((i : Int) < m), decide (i < m)]
        (.out .normal (mkT 0 19 [(0, .own 0 m), (1, .v (i64 (IntKind.i64.wrap (kv + 1)))), (5, .v (i64 (IntKind.i64.wrap ((i : Int) + 1))))]) [.row true m 1 (fun q => bif Nat.beq q i then splice (G i) 0 [i64 kv] else G q) t]))
      (.out (.exit 0) (mkT 0 19 [(1, .v (i64 kv))]) [.row true m 1 G t]) := by kernel_rfl

theorem sumM : SumOk Try.prog 1 (.block 0 (.loop (loopAt 0 Try.f20))) (loopS 19 [0, 1, 5] decM preM outM) := by
  refine mkFor g0_ok (n := 100) (m := 1) (lv := lvM) (Λ := noLam) stM hpM (fun _ _ => True) (fun s => s.m) rfl (noLam_ok _ _ _) (Nat.le_refl _) ?_ ?_
  · intro avs H s hd ho
    unfold decM at hd
    split at hd
    · rename_i m k n g t
      cases hd
      simp only [preM, ob_cons, decide_eq_true_eq] at ho
      obtain ⟨h0, h1, _⟩ := ho
      have h0 := Nat.eq_of_beq_eq_true h0
      subst h0
      exact ⟨[.row true _ 1 g t], by kernel_rfl, .cons (ABeq.row fun j hj => allI_get h1 j hj) .nil, trivial⟩
    · cases hd
  · intro s K Q ho hk i _ him
    simp only [preM, ob_cons, decide_eq_true_eq] at ho
    obtain ⟨_, h1, h2, h3, h4, _⟩ := ho
    have hkv : (bif Nat.beq i 0 then s.k else s.k + i) = s.k + i := by
      cases i with
      | zero => simp
      | succ i => rfl
    show GoodQ (execC Try.prog g0 100 noLam (loopAt 0 Try.f20) (mkT 0 19 [(0, .own 0 s.m), (1, .v (i64 (bif Nat.beq i 0 then s.k else s.k + i))), (5, .v (i64 i))]) [.row true s.m 1 (mkG s i) s.t] (leafK lvM 1)) _
    rw [rndM, hkv]
    refine good_cond (fun hc => ?_) fun hc => ?_
    · have hc := of_decide_eq_true hc
      have hc' : i < s.m := by omega
      refine good_needs (by simp only [ob_cons, ob_nil, and_true, decide_eq_true_eq]; omega) (good_out ⟨hc', ?_, ?_, trivial⟩)
      · rw [show IntKind.i64.wrap ((i : Int) + 1) = W ((i : Int) + 1) from rfl, w64_in (x := (i : Int) + 1) (by omega) (by omega), show IntKind.i64.wrap (s.k + i + 1) = W (s.k + i + 1) from rfl, w64_in (x := s.k + i + 1) (by omega) (by omega), Int.add_assoc]
        rfl
      · refine .cons (ABeq.row fun j hj => ?_) .nil
        by_cases e : j = i
        · subst e
          have b1 : Nat.beq j j = true := Nat.beq_refl j
          have b2 : Nat.blt j j = false := by
            cases hb : Nat.blt j j with
            | false => rfl
            | true => rw [Nat.blt_eq] at hb; omega
          have b3 : Nat.blt j (j + 1) = true := by rw [Nat.blt_eq]; omega
          simp only [mkG, b1, b2, b3, cond_true, cond_false]
          rfl
        · have b1 : Nat.beq j i = false := by
            cases hb : Nat.beq j i with
            | false => rfl
            | true => exact (e (Nat.eq_of_beq_eq_true hb)).elim
          have b2 : Nat.blt j (i + 1) = Nat.blt j i := by
            rw [Bool.eq_iff_iff, Nat.blt_eq, Nat.blt_eq]
            omega
          simp only [mkG, b1, b2, cond_false]
    · have hc := of_decide_eq_false hc
      have : i = s.m := by omega
      subst this
      refine good_out ⟨[.row true s.m 1 (fun j => [i64 (s.k + j)]) s.t], .cons (ABeq.row fun j hj => ?_) .nil, ?_⟩
      · have b3 : Nat.blt j s.m = true := by rw [Nat.blt_eq]; exact hj
        simp only [mkG, b3, cond_true]
      · rw [if_pos rfl]
        exact hk

def F_markIntS : List SA → Option FR
  | [.own m n g, .v (.int .i64 k)] => some { val := .v (i64 (k + m)), put := [fun j => [i64 (k + j)]], obl := [Nat.beq n m, allI m g, decide (0 ≤ k), decide (k ≤ 2 ^ 40), decide (m ≤ 2 ^ 40)] }
  | _ => none
def md_markIntS : List Md := [.wr 1 3, .val]
theorem ok_markIntS : SpecOk Try.prog 20 (specR md_markIntS F_markIntS) := by
  refine mkR (n := 100) (Λ := oneL 0 (loopS 19 [0, 1, 5] decM preM outM)) g0_ok Try.func20 rfl fun sas fr hF ho => ?_
  unfold F_markIntS at hF
  split at hF
  · rename_i m n g k
    cases hF
    simp only [ob_cons] at ho
    obtain ⟨h0, h1, h2, h3, h4, _⟩ := ho
    have h0 := Nat.eq_of_beq_eq_true h0
    subst h0
    refine ⟨[.row true n 1 (rowI (itI g)) 3], .cons (ABeq.row fun j hj => allI_get h1 j hj) .nil, lam1 (by kernel_rfl) sumM, ?_⟩
    have e : execF Try.prog g0 (oneL 0 (loopS 19 [0, 1, 5] decM preM outM)) 100 Try.f20 (avC 0 md_markIntS [.own n n g, .v (.int .i64 k)]) [.row true n 1 (rowI (itI g)) 3] (packK 1)
      = needs [Nat.beq n n, allI n (rowI (itI g)), decide (0 ≤ k), decide (k ≤ 2 ^ 40), decide (n ≤ 2 ^ 40)] (.out .ret [.v (i64 (k + n))] [.row true n 1 (fun j => [i64 (k + j)]) 3]) := by kernel_rfl
    rw [show ([AB.row true n 1 (rowI (itI g)) 3]).length = 1 from rfl, e]
    refine good_needs (by simp only [ob_cons, ob_nil, allI_of (m := n) (a := itI g) fun j _ => rfl, h2, h3, h4, beq_me, and_self]) (good_out ⟨_, rfl, rfl, .cons (ABeq.row fun j hj => ?_) .nil⟩)
    have b3 : Nat.blt j n = true := by rw [Nat.blt_eq]; exact hj
    simp only [b3, cond_true]
  · cases hF

end Go.Proofs.Ytkbdppnlojlcdaa

/- toCycS: a new list of points. Conditions: a list of points. -/
namespace Go.Proofs.Ytkbdppnlojlcdaa
open Go.RowKit
set_option maxRecDepth 100000

abbrev lvC : Ex → List Nat := lv3 [0, 3, 4] [3] []
structure TC where
  m : Nat
  n : Nat
  g : Nat → List Value
  t : TypeId
  m1 : Nat
  n1 : Nat
  G : Nat → List Value
def decC : List AV → List AB → Option TC
  | [.sl 0 8 0 0 m none, .own 1 m1, .v (.int .i64 0)], [.row false n 8 g t, .row true n1 8 G 46] => some ⟨m, n, g, t, m1, n1, G⟩
  | _, _ => none
def toG (a : Nat → Nat → Int) (G : Nat → List Value) (i : Nat) : Nat → List Value := fun j => bif Nat.blt j i then rowC a j else G j
theorem blt_self (j : Nat) : Nat.blt j j = false := by
  cases hb : Nat.blt j j with
  | false => rfl
  | true => rw [Nat.blt_eq] at hb; omega
theorem rndC (m : Nat) (a : Nat → Nat → Int) (t : TypeId) (G : Nat → List Value) (i : Nat) : execC Try.prog g0 100 noLam (loopAt 0 Try.f15) (mkT 0 23 [(0, slP m), (3, .own 1 m), (4, .v (i64 i))]) [.row false m 8 (rowC a) t, .row true m 8 G 46] (leafK lvC 1)
    = cond (decide ((i : Int) < m)) (needs [decide ((i : Int) < m), decide (0 + i < m), decide ((i : Int) < m), decide (i < m)]
        (.out .normal (mkT 0 23 [(0, slP m), (3, .own 1 m), (4, .v (i64 (IntKind.i64.wrap ((i : Int) + 1))))]) [.row false m 8 (rowC a) t, .row true m 8 (fun q => bif Nat.beq q i then splice (G i) 0 (rowC a (0 + i)) else G q) 46]))
      (.out (.exit 0) (mkT 0 23 [(3, .own 1 m)]) [.row false m 8 (rowC a) t, .row true m 8 G 46]) := by kernel_rfl

def stC (s : TC) (i : Nat) : List (Nat × AV) := [(0, slP s.m), (3, .own 1 s.m), (4, .v (i64 i))]
def hpC (s : TC) (i : Nat) : List AB := [.row false s.m 8 (rowC (itC s.g)) s.t, .row true s.m 8 (toG (itC s.g) s.G i) 46]
def preC (s : TC) : List Bool := [Nat.beq s.n s.m, Nat.beq s.m1 s.m, Nat.beq s.n1 s.m, allC s.m s.g, allC s.m s.G, decide (s.m ≤ 2 ^ 40)]
def outC (s : TC) (K : Kont) : Res := K .normal (mkT 0 23 [(3, .own 1 s.m)]) [.row false s.m 8 (rowC (itC s.g)) s.t, .row true s.m 8 (rowC (itC s.g)) 46]
theorem sumC : SumOk Try.prog 1 (.block 0 (.loop (loopAt 0 Try.f15))) (loopS 23 [0, 3, 4] decC preC outC) := by
  refine mkFor g0_ok (n := 100) (m := 1) (lv := lvC) (Λ := noLam) stC hpC (fun _ _ => True) (fun s => s.m) rfl (noLam_ok _ _ _) (Nat.le_refl _) ?_ ?_
  · intro avs H s hd ho
    unfold decC at hd
    split at hd
    · rename_i m m1 n g t n1 G
      cases hd
      simp only [preC, ob_cons, decide_eq_true_eq] at ho
      obtain ⟨h0, h1, h2, h3, _⟩ := ho
      have h0 := Nat.eq_of_beq_eq_true h0
      have h1 := Nat.eq_of_beq_eq_true h1
      have h2 := Nat.eq_of_beq_eq_true h2
      subst h0 h1 h2
      exact ⟨[.row false _ 8 g t, .row true _ 8 G 46], by kernel_rfl, .cons (ABeq.row fun j hj => allC_get h3 j hj) (.cons (ABeq.row fun j hj => rfl) .nil), trivial⟩
    · cases hd
  · intro s K Q ho hk i _ him
    simp only [preC, ob_cons, decide_eq_true_eq] at ho
    obtain ⟨_, _, _, _, h4, h5, _⟩ := ho
    show GoodQ (execC Try.prog g0 100 noLam (loopAt 0 Try.f15) (mkT 0 23 [(0, slP s.m), (3, .own 1 s.m), (4, .v (i64 i))]) [.row false s.m 8 (rowC (itC s.g)) s.t, .row true s.m 8 (toG (itC s.g) s.G i) 46] (leafK lvC 1)) _
    rw [rndC, Nat.zero_add]
    refine good_cond (fun hc => ?_) fun hc => ?_
    · have hc := of_decide_eq_true hc
      have hc' : i < s.m := by omega
      refine good_needs (by simp only [ob_cons, ob_nil, and_true, decide_eq_true_eq]; omega) (good_out ⟨hc', ?_, .cons (ABeq.refl _) (.cons (ABeq.row fun j hj => ?_) .nil), trivial⟩)
      · rw [show IntKind.i64.wrap ((i : Int) + 1) = W ((i : Int) + 1) from rfl, w64_in (x := (i : Int) + 1) (by omega) (by omega)]
        rfl
      · by_cases e : j = i
        · subst e
          have b1 : Nat.beq j j = true := Nat.beq_refl j
          have b3 : Nat.blt j (j + 1) = true := by rw [Nat.blt_eq]; omega
          simp only [toG, b1, blt_self, b3, cond_true, cond_false]
          rw [allC_get h4 j hc']
          rfl
        · have b1 : Nat.beq j i = false := by
            cases hb : Nat.beq j i with
            | false => rfl
            | true => exact (e (Nat.eq_of_beq_eq_true hb)).elim
          have b2 : Nat.blt j (i + 1) = Nat.blt j i := by
            rw [Bool.eq_iff_iff, Nat.blt_eq, Nat.blt_eq]
            omega
          simp only [toG, b1, b2, cond_false]
    · have hc := of_decide_eq_false hc
      have : i = s.m := by omega
      subst this
      refine good_out ⟨[.row false s.m 8 (rowC (itC s.g)) s.t, .row true s.m 8 (rowC (itC s.g)) 46], .cons (ABeq.refl _) (.cons (ABeq.row fun j hj => ?_) .nil), ?_⟩
      · have b3 : Nat.blt j s.m = true := by rw [Nat.blt_eq]; exact hj
        simp only [toG, b3, cond_true]
      · rw [if_pos rfl]
        exact hk

def F_toCycS : List SA → Option FR
  | [.row m g] => some { val := .own 0 m, new := [.row true m 8 (rowC (itC g)) 46], obl := [allC m g, decide (m ≤ 2 ^ 40)] }
  | _ => none
def md_toCycS : List Md := [.rd 8 58]
theorem ok_toCycS : SpecOk Try.prog 15 (specR md_toCycS F_toCycS) := by
  refine mkR (n := 100) (Λ := oneL 0 (loopS 23 [0, 3, 4] decC preC outC)) g0_ok Try.func15 rfl fun sas fr hF ho => ?_
  unfold F_toCycS at hF
  split at hF
  · rename_i m g
    cases hF
    simp only [ob_cons] at ho
    obtain ⟨h1, h2, _⟩ := ho
    have h2' := of_decide_eq_true h2
    refine ⟨[.row false m 8 (rowC (itC g)) 58], .cons (ABeq.row fun j hj => allC_get h1 j hj) .nil, lam1 (by kernel_rfl) sumC, ?_⟩
    have e : execF Try.prog g0 (oneL 0 (loopS 23 [0, 3, 4] decC preC outC)) 100 Try.f15 (avC 0 md_toCycS [.row m g]) [.row false m 8 (rowC (itC g)) 58] (packK 1)
      = needs [decide ((m : Int) ≤ m), decide ((m : Int) ≤ 1099511627776), Nat.beq m m, Nat.beq m m, Nat.beq m m, allC m (rowC (itC g)), allC m zC, decide (m ≤ 2 ^ 40)] (.out .ret [.own 1 m] [.row false m 8 (rowC (itC g)) 58, .row true m 8 (rowC (itC (rowC (itC g)))) 46]) := by kernel_rfl
    rw [show ([AB.row false m 8 (rowC (itC g)) 58]).length = 1 from rfl, e]
    refine good_needs ?_ (good_out ⟨_, rfl, rfl, .cons (ABeq.row fun j hj => (allC_get h1 j hj).symm) (.cons (ABeq.row fun j hj => rfl) .nil)⟩)
    simp only [ob_cons, ob_nil, allC_of (m := m) (a := itC g) fun j _ => rfl, allC_of (m := m) (a := fun _ _ => 0) (g := zC) fun j _ => rfl, h2, beq_me, and_self, and_true, true_and, decide_eq_true_eq]
    omega
  · cases hF

end Go.Proofs.Ytkbdppnlojlcdaa

/- eqCyc, eqCycS, where the points are equal. -/
namespace Go.Proofs.Ytkbdppnlojlcdaa
open Go.RowKit
set_option maxRecDepth 100000

def sameC (a b : Nat → Int) : Bool := decide (a 0 = b 0) && decide (a 1 = b 1) && decide (a 2 = b 2) && decide (a 3 = b 3) && decide (a 4 = b 4) && decide (a 5 = b 5) && decide (a 6 = b 6) && decide (a 7 = b 7)
def f_eqCyc : List Value → Option (Value × List Bool)
  | [.agg ⟨[.int .i64 a0, .int .i64 a1, .int .i64 a2, .int .i64 a3, .int .i64 a4, .int .i64 a5, .int .i64 a6, .int .i64 a7]⟩, .agg ⟨[.int .i64 b0, .int .i64 b1, .int .i64 b2, .int .i64 b3, .int .i64 b4, .int .i64 b5, .int .i64 b6, .int .i64 b7]⟩] => some (.bool true, [sameC (v8 a0 a1 a2 a3 a4 a5 a6 a7) (v8 b0 b1 b2 b3 b4 b5 b6 b7)])
  | _ => none
theorem treeE (a b : Nat → Int) : execF Try.prog g0 noLam 100 Try.f50 ([cyv a, cyv b].map .v) [] valK
    = cond (a 0 != b 0) (rv (.bool false)) (cond (a 1 != b 1) (rv (.bool false)) (cond (a 2 != b 2) (rv (.bool false)) (cond (a 3 != b 3) (rv (.bool false)) (cond (a 4 != b 4) (rv (.bool false)) (cond (a 5 != b 5) (rv (.bool false)) (cond (a 6 != b 6) (rv (.bool false)) (cond (a 7 != b 7) (rv (.bool false)) (rv (.bool true))))))))) := by kernel_rfl
theorem ok_eqCyc : SpecOk Try.prog 50 (specV f_eqCyc) := by
  refine mkV (n := 100) g0_ok Try.func50 rfl fun vs v ob hF ho => ?_
  unfold f_eqCyc at hF
  split at hF
  · rename_i a0 a1 a2 a3 a4 a5 a6 a7 b0 b1 b2 b3 b4 b5 b6 b7
    cases hF
    show Good (execF Try.prog g0 noLam 100 Try.f50 ([cyv (v8 a0 a1 a2 a3 a4 a5 a6 a7), cyv (v8 b0 b1 b2 b3 b4 b5 b6 b7)].map .v) [] valK) _
    rw [treeE]
    generalize v8 a0 a1 a2 a3 a4 a5 a6 a7 = a at *
    generalize v8 b0 b1 b2 b3 b4 b5 b6 b7 = b at *
    have ho : sameC a b = true := by simpa [obls] using ho
    simp only [sameC, Bool.and_eq_true, decide_eq_true_eq] at ho
    obtain ⟨⟨⟨⟨⟨⟨⟨h0, h1⟩, h2⟩, h3⟩, h4⟩, h5⟩, h6⟩, h7⟩ := ho
    rw [h0, h1, h2, h3, h4, h5, h6, h7]
    refine gives_of ?_
    simp [outV_cond, outV_rv]
  · cases hF

def gm_e : Gam := ext g0 50 (specV f_eqCyc)
theorem gm_e_ok : GamOk Try.prog gm_e := ext_ok g0_ok ok_eqCyc
def sameL (m : Nat) (a b : Nat → Nat → Int) : Bool := (List.range m).all fun j => sameC (w8 (a j)) (w8 (b j))
theorem sameL_get {m : Nat} {a b : Nat → Nat → Int} (h : sameL m a b = true) {j : Nat} (hj : j < m) : sameC (w8 (a j)) (w8 (b j)) = true := List.all_eq_true.1 h j (by simpa using hj)

structure EC where
  m : Nat
  n : Nat
  m2 : Nat
  n2 : Nat
  g : Nat → List Value
  g2 : Nat → List Value
  t : TypeId
  t2 : TypeId
abbrev lvQ : Ex → List Nat := lv3 [0, 1, 5] [] [4]
def decQ : List AV → List AB → Option EC
  | [.sl 0 8 0 0 m none, .sl 1 8 0 0 m2 none, .v (.int .i64 0)], [.row false n 8 g t, .row false n2 8 g2 t2] => some ⟨m, n, m2, n2, g, g2, t, t2⟩
  | _, _ => none
def stQ (s : EC) (i : Nat) : List (Nat × AV) := [(0, .sl 0 8 0 0 s.m none), (1, .sl 1 8 0 0 s.m none), (5, .v (i64 i))]
def hpQ (s : EC) : List AB := [.row false s.m 8 (rowC (itC s.g)) s.t, .row false s.m 8 (rowC (itC s.g2)) s.t2]
def preQ (s : EC) : List Bool := [Nat.beq s.n s.m, Nat.beq s.m2 s.m, Nat.beq s.n2 s.m, allC s.m s.g, allC s.m s.g2, sameL s.m (itC s.g) (itC s.g2), decide (s.m ≤ 2 ^ 40)]
def outQ (s : EC) (K : Kont) : Res := K .normal (mkT 0 27 []) (hpQ s)
theorem rndQ (s : EC) (i : Nat) : execC Try.prog gm_e 100 noLam (loopAt 0 Try.f18) (mkT 0 27 (stQ s i)) (hpQ s) (leafK lvQ 2)
    = cond (decide ((i : Int) < s.m)) (needs [decide ((i : Int) < s.m), decide (0 + i < s.m), decide ((i : Int) < s.m), decide (0 + i < s.m)]
        (needs [sameC (w8 (itC s.g (0 + i))) (w8 (itC s.g2 (0 + i)))] (.out .normal (mkT 0 27 [(0, .sl 0 8 0 0 s.m none), (1, .sl 1 8 0 0 s.m none), (5, .v (i64 (IntKind.i64.wrap ((i : Int) + 1))))]) (hpQ s))))
      (.out (.exit 0) (mkT 0 27 []) (hpQ s)) := by kernel_rfl

theorem sumQ : SumOk Try.prog 2 (.block 0 (.loop (loopAt 0 Try.f18))) (loopS 27 [0, 1, 5] decQ preQ outQ) := by
  refine mkFor gm_e_ok (n := 100) (m := 2) (lv := lvQ) (Λ := noLam) stQ (fun s _ => hpQ s) (fun _ _ => True) (fun s => s.m) rfl (noLam_ok _ _ _) (Nat.le_refl _) ?_ ?_
  · intro avs H s hd ho
    unfold decQ at hd
    split at hd
    · rename_i m m2 n g t n2 g2 t2
      cases hd
      simp only [preQ, ob_cons, decide_eq_true_eq] at ho
      obtain ⟨h0, h1, h2, h3, h4, h5, h6, _⟩ := ho
      have h0 := Nat.eq_of_beq_eq_true h0
      have h1 := Nat.eq_of_beq_eq_true h1
      have h2 := Nat.eq_of_beq_eq_true h2
      subst h0 h1 h2
      exact ⟨[.row false _ 8 g t, .row false _ 8 g2 t2], by kernel_rfl, .cons (ABeq.row fun j hj => allC_get h3 j hj) (.cons (ABeq.row fun j hj => allC_get h4 j hj) .nil), trivial⟩
    · cases hd
  · intro s K Q ho hk i _ him
    simp only [preQ, ob_cons, decide_eq_true_eq] at ho
    obtain ⟨_, _, _, _, _, h5, h6, _⟩ := ho
    have h6 : s.m ≤ 2 ^ 40 := h6
    show GoodQ (execC Try.prog gm_e 100 noLam (loopAt 0 Try.f18) (mkT 0 27 (stQ s i)) (hpQ s) (leafK lvQ 2)) _
    rw [rndQ, Nat.zero_add]
    refine good_cond (fun h1 => ?_) fun h1 => ?_
    · have h1 := of_decide_eq_true h1
      have h1' : i < s.m := by omega
      refine good_needs (by simp only [ob_cons, ob_nil, and_true, decide_eq_true_eq]; omega) (good_needs (by simp only [ob_cons, ob_nil, and_true]; exact sameL_get h5 h1') (good_out ⟨h1', ?_, Hsim.refl _, trivial⟩))
      rw [show IntKind.i64.wrap ((i : Int) + 1) = W ((i : Int) + 1) from rfl, w64_in (x := (i : Int) + 1) (by omega) (by omega)]
      rfl
    · refine good_out ⟨_, Hsim.refl _, ?_⟩
      rw [if_pos rfl]
      exact hk

/-- Two slices that are equal. -/
def F_eqCycS : List SA → Option FR
  | [.row m g, .row m2 g2] => some { val := .v (.bool true), obl := [Nat.beq m2 m, allC m g, allC m g2, sameL m (itC g) (itC g2), decide (m ≤ 2 ^ 40)] }
  | _ => none
def md_eqCycS : List Md := [.rd 8 46, .rd 8 46]
theorem ok_eqCycS : SpecOk Try.prog 18 (specR md_eqCycS F_eqCycS) := by
  refine mkR (n := 100) (Λ := oneL 0 (loopS 27 [0, 1, 5] decQ preQ outQ)) gm_e_ok Try.func18 rfl fun sas fr hF ho => ?_
  unfold F_eqCycS at hF
  split at hF
  · rename_i m g m2 g2
    cases hF
    simp only [ob_cons] at ho
    obtain ⟨h0, h1, h2, h3, h4, _⟩ := ho
    have h0 := Nat.eq_of_beq_eq_true h0
    subst h0
    refine ⟨[.row false m2 8 (rowC (itC g)) 46, .row false m2 8 (rowC (itC g2)) 46], .cons (ABeq.row fun j hj => allC_get h1 j hj) (.cons (ABeq.row fun j hj => allC_get h2 j hj) .nil), lam1 (by kernel_rfl) sumQ, ?_⟩
    have e : execF Try.prog gm_e (oneL 0 (loopS 27 [0, 1, 5] decQ preQ outQ)) 100 Try.f18 (avC 0 md_eqCycS [.row m2 g, .row m2 g2]) [.row false m2 8 (rowC (itC g)) 46, .row false m2 8 (rowC (itC g2)) 46] (packK 2)
      = cond ((m2 : Int) != m2) (.out .ret [.v (.bool false)] [.row false m2 8 (rowC (itC g)) 46, .row false m2 8 (rowC (itC g2)) 46])
        (needs [Nat.beq m2 m2, Nat.beq m2 m2, Nat.beq m2 m2, allC m2 (rowC (itC g)), allC m2 (rowC (itC g2)), sameL m2 (itC g) (itC g2), decide (m2 ≤ 2 ^ 40)] (.out .ret [.v (.bool true)] [.row false m2 8 (rowC (itC g)) 46, .row false m2 8 (rowC (itC g2)) 46])) := by kernel_rfl
    rw [show ([AB.row false m2 8 (rowC (itC g)) 46, AB.row false m2 8 (rowC (itC g2)) 46]).length = 2 from rfl, e]
    refine good_false (by simp) (good_needs (by simp only [ob_cons, ob_nil, allC_of (m := m2) (a := itC g) fun j _ => rfl, allC_of (m := m2) (a := itC g2) fun j _ => rfl, h3, h4, beq_me, and_self]) (good_out ⟨_, rfl, rfl, .cons (ABeq.row fun j hj => (allC_get h1 j hj).symm) (.cons (ABeq.row fun j hj => (allC_get h2 j hj).symm) .nil)⟩))
  · cases hF

end Go.Proofs.Ytkbdppnlojlcdaa

/- markCycS. Conditions: those that the word names. -/
namespace Go.Proofs.Ytkbdppnlojlcdaa
open Go.RowKit
set_option maxRecDepth 100000

abbrev wr1 (k : Int) : Int := IntKind.i64.wrap (k + 1)
abbrev lvN : Ex → List Nat := lv3 [0, 1, 5] [1] []
/-- Eight marks from k on. -/
abbrev marks (k : Int) : List Value := [i64 k, i64 (wr1 k), i64 (wr1 (wr1 k)), i64 (wr1 (wr1 (wr1 k))), i64 (wr1 (wr1 (wr1 (wr1 k)))), i64 (wr1 (wr1 (wr1 (wr1 (wr1 k))))), i64 (wr1 (wr1 (wr1 (wr1 (wr1 (wr1 k)))))), i64 (wr1 (wr1 (wr1 (wr1 (wr1 (wr1 (wr1 k)))))))]
def upd1 (G : Nat → List Value) (i q : Nat) (v : Value) : Nat → List Value := fun j => bif Nat.beq j i then splice (G i) q [v] else G j
theorem rndN (m : Nat) (k : Int) (G : Nat → List Value) (t : TypeId) (i : Nat) : execC Try.prog g0 100 noLam (loopAt 0 Try.f19) (mkT 0 27 [(0, .own 0 m), (1, .v (i64 k)), (5, .v (i64 i))]) [.row true m 8 G t] (leafK lvN 1)
    = cond (decide ((i : Int) < m)) (needs ((List.range 8).flatMap fun _ => [decide ((i : Int) < m), decide (i < m)])
        (.out .normal (mkT 0 27 [(0, .own 0 m), (1, .v (i64 (wr1 (wr1 (wr1 (wr1 (wr1 (wr1 (wr1 (wr1 k)))))))))), (5, .v (i64 (wr1 i)))]) [.row true m 8
          (upd1 (upd1 (upd1 (upd1 (upd1 (upd1 (upd1 (upd1 G i 0 (i64 k)) i 1 (i64 (wr1 k))) i 2 (i64 (wr1 (wr1 k)))) i 3 (i64 (wr1 (wr1 (wr1 k))))) i 4 (i64 (wr1 (wr1 (wr1 (wr1 k)))))) i 5 (i64 (wr1 (wr1 (wr1 (wr1 (wr1 k))))))) i 6 (i64 (wr1 (wr1 (wr1 (wr1 (wr1 (wr1 k)))))))) i 7 (i64 (wr1 (wr1 (wr1 (wr1 (wr1 (wr1 (wr1 k))))))))) t]))
      (.out (.exit 0) (mkT 0 27 [(1, .v (i64 k))]) [.row true m 8 G t]) := by kernel_rfl

theorem wr1_in {k : Int} (h0 : 0 ≤ k) (h1 : k ≤ 2 ^ 60) : wr1 k = k + 1 := by
  rw [show wr1 k = W (k + 1) from rfl, w64_in (by omega) (by omega)]
abbrev mark8 (k : Int) : List Value := [i64 k, i64 (k + 1), i64 (k + 2), i64 (k + 3), i64 (k + 4), i64 (k + 5), i64 (k + 6), i64 (k + 7)]
structure MKC where
  m : Nat
  n : Nat
  k : Int
  g : Nat → List Value
  t : TypeId
def decN : List AV → List AB → Option MKC
  | [.own 0 m, .v (.int .i64 k), .v (.int .i64 0)], [.row true n 8 g t] => some ⟨m, n, k, g, t⟩
  | _, _ => none
def mkN (s : MKC) (i : Nat) : Nat → List Value := fun j => bif Nat.blt j i then mark8 (s.k + 8 * j) else rowC (itC s.g) j
def stN (s : MKC) (i : Nat) : List (Nat × AV) := [(0, .own 0 s.m), (1, .v (i64 (bif Nat.beq i 0 then s.k else s.k + 8 * i))), (5, .v (i64 i))]
def hpN (s : MKC) (i : Nat) : List AB := [.row true s.m 8 (mkN s i) s.t]
def preN (s : MKC) : List Bool := [Nat.beq s.n s.m, allC s.m s.g, decide (0 ≤ s.k), decide (s.k ≤ 2 ^ 40), decide (s.m ≤ 2 ^ 40)]
def outN (s : MKC) (K : Kont) : Res := K .normal (mkT 0 27 [(1, .v (i64 (s.k + 8 * s.m)))]) [.row true s.m 8 (fun j => mark8 (s.k + 8 * j)) s.t]

theorem upd8 (G : Nat → List Value) (i : Nat) (v0 v1 v2 v3 v4 v5 v6 v7 : Value) (h : ∃ a : Nat → Int, G i = [i64 (a 0), i64 (a 1), i64 (a 2), i64 (a 3), i64 (a 4), i64 (a 5), i64 (a 6), i64 (a 7)]) (j : Nat) :
    (upd1 (upd1 (upd1 (upd1 (upd1 (upd1 (upd1 (upd1 G i 0 v0) i 1 v1) i 2 v2) i 3 v3) i 4 v4) i 5 v5) i 6 v6) i 7 v7) j = if j = i then [v0, v1, v2, v3, v4, v5, v6, v7] else G j := by
  obtain ⟨a, ha⟩ := h
  have b1 : Nat.beq i i = true := Nat.beq_refl i
  by_cases e : j = i
  · subst e
    simp only [upd1, b1, cond_true, ha, if_pos]
    rfl
  · have b2 : Nat.beq j i = false := by
      cases hb : Nat.beq j i with
      | false => rfl
      | true => exact (e (Nat.eq_of_beq_eq_true hb)).elim
    simp only [upd1, b2, cond_false, if_neg e]

theorem sumN : SumOk Try.prog 1 (.block 0 (.loop (loopAt 0 Try.f19))) (loopS 27 [0, 1, 5] decN preN outN) := by
  refine mkFor g0_ok (n := 100) (m := 1) (lv := lvN) (Λ := noLam) stN hpN (fun _ _ => True) (fun s => s.m) rfl (noLam_ok _ _ _) (Nat.le_refl _) ?_ ?_
  · intro avs H s hd ho
    unfold decN at hd
    split at hd
    · rename_i m k n g t
      cases hd
      simp only [preN, ob_cons, decide_eq_true_eq] at ho
      obtain ⟨h0, h1, _⟩ := ho
      have h0 := Nat.eq_of_beq_eq_true h0
      subst h0
      exact ⟨[.row true _ 8 g t], by kernel_rfl, .cons (ABeq.row fun j hj => allC_get h1 j hj) .nil, trivial⟩
    · cases hd
  · intro s K Q ho hk i _ him
    simp only [preN, ob_cons, decide_eq_true_eq] at ho
    obtain ⟨_, h1, h2, h3, h4, _⟩ := ho
    have hkv : (bif Nat.beq i 0 then s.k else s.k + 8 * i) = s.k + 8 * i := by
      cases i with
      | zero => simp
      | succ i => rfl
    show GoodQ (execC Try.prog g0 100 noLam (loopAt 0 Try.f19) (mkT 0 27 [(0, .own 0 s.m), (1, .v (i64 (bif Nat.beq i 0 then s.k else s.k + 8 * i))), (5, .v (i64 i))]) [.row true s.m 8 (mkN s i) s.t] (leafK lvN 1)) _
    rw [rndN, hkv]
    refine good_cond (fun hc => ?_) fun hc => ?_
    · have hc := of_decide_eq_true hc
      have hc' : i < s.m := by omega
      have e1 : wr1 (s.k + 8 * i) = s.k + 8 * i + 1 := wr1_in (by omega) (by omega)
      have e2 : wr1 (s.k + 8 * i + 1) = s.k + 8 * i + 2 := by rw [wr1_in (by omega) (by omega)]; omega
      have e3 : wr1 (s.k + 8 * i + 2) = s.k + 8 * i + 3 := by rw [wr1_in (by omega) (by omega)]; omega
      have e4 : wr1 (s.k + 8 * i + 3) = s.k + 8 * i + 4 := by rw [wr1_in (by omega) (by omega)]; omega
      have e5 : wr1 (s.k + 8 * i + 4) = s.k + 8 * i + 5 := by rw [wr1_in (by omega) (by omega)]; omega
      have e6 : wr1 (s.k + 8 * i + 5) = s.k + 8 * i + 6 := by rw [wr1_in (by omega) (by omega)]; omega
      have e7 : wr1 (s.k + 8 * i + 6) = s.k + 8 * i + 7 := by rw [wr1_in (by omega) (by omega)]; omega
      have e8 : wr1 (s.k + 8 * i + 7) = s.k + 8 * ((i + 1 : Nat) : Int) := by rw [wr1_in (by omega) (by omega)]; omega
      have e9 : wr1 (i : Int) = ((i + 1 : Nat) : Int) := by rw [wr1_in (by omega) (by omega)]; omega
      rw [e1, e2, e3, e4, e5, e6, e7, e8, e9]
      refine good_needs (by simp [obls, List.all_flatMap, hc']) (good_out ⟨hc', rfl, ?_, trivial⟩)
      refine .cons (ABeq.row fun j hj => ?_) .nil
      rw [upd8 _ _ _ _ _ _ _ _ _ _ ⟨itC s.g i, by simp only [mkN, blt_self, cond_false]⟩]
      by_cases e : j = i
      · subst e
        have b3 : Nat.blt j (j + 1) = true := by rw [Nat.blt_eq]; omega
        rw [if_pos rfl]
        simp only [mkN, b3, cond_true]
      · have b2 : Nat.blt j (i + 1) = Nat.blt j i := by
          rw [Bool.eq_iff_iff, Nat.blt_eq, Nat.blt_eq]
          omega
        rw [if_neg e]
        simp only [mkN, b2]
    · have hc := of_decide_eq_false hc
      have : i = s.m := by omega
      subst this
      refine good_out ⟨[.row true s.m 8 (fun j => mark8 (s.k + 8 * j)) s.t], .cons (ABeq.row fun j hj => ?_) .nil, ?_⟩
      · have b3 : Nat.blt j s.m = true := by rw [Nat.blt_eq]; exact hj
        simp only [mkN, b3, cond_true]
      · rw [if_pos rfl]
        exact hk

def F_markCycS : List SA → Option FR
  | [.own m n g, .v (.int .i64 k)] => some { val := .v (i64 (k + 8 * m)), put := [fun j => mark8 (k + 8 * j)], obl := [Nat.beq n m, allC m g, decide (0 ≤ k), decide (k ≤ 2 ^ 40), decide (m ≤ 2 ^ 40)] }
  | _ => none
def md_markCycS : List Md := [.wr 8 46, .val]
theorem ok_markCycS : SpecOk Try.prog 19 (specR md_markCycS F_markCycS) := by
  refine mkR (n := 100) (Λ := oneL 0 (loopS 27 [0, 1, 5] decN preN outN)) g0_ok Try.func19 rfl fun sas fr hF ho => ?_
  unfold F_markCycS at hF
  split at hF
  · rename_i m n g k
    cases hF
    simp only [ob_cons] at ho
    obtain ⟨h0, h1, h2, h3, h4, _⟩ := ho
    have h0 := Nat.eq_of_beq_eq_true h0
    subst h0
    refine ⟨[.row true n 8 (rowC (itC g)) 46], .cons (ABeq.row fun j hj => allC_get h1 j hj) .nil, lam1 (by kernel_rfl) sumN, ?_⟩
    have e : execF Try.prog g0 (oneL 0 (loopS 27 [0, 1, 5] decN preN outN)) 100 Try.f19 (avC 0 md_markCycS [.own n n g, .v (.int .i64 k)]) [.row true n 8 (rowC (itC g)) 46] (packK 1)
      = needs [Nat.beq n n, allC n (rowC (itC g)), decide (0 ≤ k), decide (k ≤ 2 ^ 40), decide (n ≤ 2 ^ 40)] (.out .ret [.v (i64 (k + 8 * n))] [.row true n 8 (fun j => mark8 (k + 8 * j)) 46]) := by kernel_rfl
    rw [show ([AB.row true n 8 (rowC (itC g)) 46]).length = 1 from rfl, e]
    refine good_needs (by simp only [ob_cons, ob_nil, allC_of (m := n) (a := itC g) fun j _ => rfl, h2, h3, h4, beq_me, and_self]) (good_out ⟨_, rfl, rfl, .cons (ABeq.row fun j hj => ?_) .nil⟩)
    have b3 : Nat.blt j n = true := by rw [Nat.blt_eq]; exact hj
    simp only [b3, cond_true]
  · cases hF

end Go.Proofs.Ytkbdppnlojlcdaa

/- FnExactPolyBends: the whole. -/
namespace Go.Proofs.Ytkbdppnlojlcdaa
open Go.RowKit
set_option maxRecDepth 100000

def gm_h : Gam := ext (ext (ext (ext (ext (ext g0 17 (specR md_eqIntS F_eqIntS)) 18 (specR md_eqCycS F_eqCycS)) 19 (specR md_markCycS F_markCycS)) 20 (specR md_markIntS F_markIntS)) 21 (specR md_heldIntS F_heldIntS)) 15 (specR md_toCycS F_toCycS)
theorem gm_h_ok : GamOk Try.prog gm_h := ext_ok (ext_ok (ext_ok (ext_ok (ext_ok (ext_ok g0_ok ok_eqIntS) ok_eqCycS) ok_markCycS) ok_markIntS) ok_heldIntS) ok_toCycS
def gm_Y : Gam := ext (ext gm_h 14 (specR md_list F_bendsY)) 16 (specR md_list F_bendsY)
theorem gm_Y_ok : GamOk Try.prog gm_Y := ext_ok (ext_ok gm_h_ok ok_bendsSY) ok_bendsY
def gm_N : Gam := ext (ext gm_h 14 (specR md_list F_bendsSN)) 16 (specR md_list F_bendsN)
theorem gm_N_ok : GamOk Try.prog gm_N := ext_ok (ext_ok gm_h_ok ok_bendsSN) ok_bendsN

theorem treeBendsY (m : Nat) (a : Nat → Nat → Int) (t : TypeId) : execF Try.prog gm_Y noLam 100 Try.f3 [.sl 0 8 0 0 m none] [.row false m 8 (rowC a) t] (packK 1)
    = bif decide (IntKind.wrap IntKind.i64 ((1048576 : Int) - (↑m : Int)) < (0 : Int)) then Res.out Ex.ret [AV.v (Value.bool true)] [AB.row false m (8 : Nat) (rowC a) t] else bif decide (IntKind.wrap IntKind.i64 ((1048576 : Int) - (↑m : Int)) < (0 : Int)) then Res.out Ex.ret [AV.v (Value.bool true)] [AB.row false m (8 : Nat) (rowC a) t] else needs [Nat.ble ((0 : Nat) + m) m, allC m fun q ↦ rowC a ((0 : Nat) + q), decide (m ≤ (1099511627776 : Nat)), Nat.ble m m, allC m (rowC (itC fun q ↦ rowC a ((0 : Nat) + q))), decide (m ≤ (274877906944 : Nat)), f_valid (itC (rowC (itC fun q ↦ rowC a ((0 : Nat) + q)))) m == true, Nat.ble ((0 : Nat) + m) m, allC m fun q ↦ rowC a ((0 : Nat) + q), decide (m ≤ (1099511627776 : Nat)), Nat.ble m m, allC m (rowC (itC fun q ↦ rowC a ((0 : Nat) + q))), decide (m ≤ (274877906944 : Nat)), f_valid (itC (rowC (itC fun q ↦ rowC a ((0 : Nat) + q)))) m == true, Nat.ble m m, Nat.ble m m, Nat.beq m m, allI m (rowI (bendsF (stepsF (itC (rowC (itC fun q ↦ rowC a ((0 : Nat) + q)))) m) m)), allI m (rowI (bendsF (stepsF (itC (rowC (itC fun q ↦ rowC a ((0 : Nat) + q)))) m) m)), sameI m (itI (rowI (bendsF (stepsF (itC (rowC (itC fun q ↦ rowC a ((0 : Nat) + q)))) m) m))) (itI (rowI (bendsF (stepsF (itC (rowC (itC fun q ↦ rowC a ((0 : Nat) + q)))) m) m))), decide (m ≤ (1099511627776 : Nat)), Nat.ble ((0 : Nat) + m) m, allC m fun q ↦ rowC a ((0 : Nat) + q), decide (m ≤ (1099511627776 : Nat)), Nat.ble m m, Nat.ble m m, Nat.beq m m, allC m (rowC (itC fun q ↦ rowC a ((0 : Nat) + q))), allC m (rowC (itC fun q ↦ rowC a ((0 : Nat) + q))), sameL m (itC (rowC (itC fun q ↦ rowC a ((0 : Nat) + q)))) (itC (rowC (itC fun q ↦ rowC a ((0 : Nat) + q)))), decide (m ≤ (1099511627776 : Nat)), Nat.ble m m, Nat.beq m m, allC m (rowC (itC fun q ↦ rowC a ((0 : Nat) + q))), decide (m ≤ (1099511627776 : Nat)), Nat.ble m m, Nat.ble m m, Nat.beq m m, allI m (rowI (bendsF (stepsF (itC (rowC (itC fun q ↦ rowC a ((0 : Nat) + q)))) m) m)), allI m (rowI (bendsF (stepsF (itC (rowC (itC fun q ↦ rowC a ((0 : Nat) + q)))) m) m)), sameI m (itI (rowI (bendsF (stepsF (itC (rowC (itC fun q ↦ rowC a ((0 : Nat) + q)))) m) m))) (itI (rowI (bendsF (stepsF (itC (rowC (itC fun q ↦ rowC a ((0 : Nat) + q)))) m) m))), decide (m ≤ (1099511627776 : Nat)), Nat.ble m m, Nat.beq m m, allI m (rowI (bendsF (stepsF (itC (rowC (itC fun q ↦ rowC a ((0 : Nat) + q)))) m) m)), decide (m ≤ (1099511627776 : Nat)), Nat.ble m m, allI m fun j ↦ bif Nat.blt j m then [Value.int IntKind.i64 ((1 : Int) + (↑j : Int))] else rowI (bendsF (stepsF (itC (rowC (itC fun q ↦ rowC a ((0 : Nat) + q)))) m) m) j, decide (m ≤ (1099511627776 : Nat))] (bif decide ((bif upB (itI fun j ↦ bif Nat.blt j m then [Value.int IntKind.i64 ((1 : Int) + (↑j : Int))] else rowI (bendsF (stepsF (itC (rowC (itC fun q ↦ rowC a ((0 : Nat) + q)))) m) m) j) (1 : Int) m then (1 : Int) + (↑m : Int) else (-1 : Int)) < (0 : Int)) then Res.out Ex.ret [AV.v (Value.bool false)] [AB.row false m (8 : Nat) (rowC a) t] else bif (bif upB (itI fun j ↦ bif Nat.blt j m then [Value.int IntKind.i64 ((1 : Int) + (↑j : Int))] else rowI (bendsF (stepsF (itC (rowC (itC fun q ↦ rowC a ((0 : Nat) + q)))) m) m) j) (1 : Int) m then (1 : Int) + (↑m : Int) else (-1 : Int)) != (1 : Int) + (↑m : Int) then Res.out Ex.ret [AV.v (Value.bool false)] [AB.row false m (8 : Nat) (rowC a) t] else needs [Nat.ble ((0 : Nat) + m) m, allC m fun q ↦ rowC a ((0 : Nat) + q), decide (m ≤ (1099511627776 : Nat)), Nat.ble m m, allC m (rowC (itC fun q ↦ rowC a ((0 : Nat) + q))), decide (m ≤ (274877906944 : Nat)), f_valid (itC (rowC (itC fun q ↦ rowC a ((0 : Nat) + q)))) m == true, Nat.ble m m, Nat.ble m m, Nat.beq m m, allI m (rowI (bendsF (stepsF (itC (rowC (itC fun q ↦ rowC a ((0 : Nat) + q)))) m) m)), allI m (rowI (bendsF (stepsF (itC (rowC (itC fun q ↦ rowC a ((0 : Nat) + q)))) m) m)), sameI m (itI (rowI (bendsF (stepsF (itC (rowC (itC fun q ↦ rowC a ((0 : Nat) + q)))) m) m))) (itI (rowI (bendsF (stepsF (itC (rowC (itC fun q ↦ rowC a ((0 : Nat) + q)))) m) m))), decide (m ≤ (1099511627776 : Nat)), Nat.ble m m, allI m fun j ↦ bif Nat.blt j m then [Value.int IntKind.i64 ((1 : Int) + (↑j : Int))] else rowI (bendsF (stepsF (itC (rowC (itC fun q ↦ rowC a ((0 : Nat) + q)))) m) m) j, decide (m ≤ (1099511627776 : Nat))] (bif decide ((bif upB (itI fun j ↦ bif Nat.blt j m then [Value.int IntKind.i64 ((1 : Int) + (↑j : Int))] else rowI (bendsF (stepsF (itC (rowC (itC fun q ↦ rowC a ((0 : Nat) + q)))) m) m) j) (1 : Int) m then (1 : Int) + (↑m : Int) else (-1 : Int)) < (0 : Int)) then Res.out Ex.ret [AV.v (Value.bool false)] [AB.row false m (8 : Nat) (rowC a) t] else bif (bif upB (itI fun j ↦ bif Nat.blt j m then [Value.int IntKind.i64 ((1 : Int) + (↑j : Int))] else rowI (bendsF (stepsF (itC (rowC (itC fun q ↦ rowC a ((0 : Nat) + q)))) m) m) j) (1 : Int) m then (1 : Int) + (↑m : Int) else (-1 : Int)) != (1 : Int) + (↑m : Int) then Res.out Ex.ret [AV.v (Value.bool false)] [AB.row false m (8 : Nat) (rowC a) t] else Res.out Ex.ret [AV.v (Value.bool true)] [AB.row false m (8 : Nat) (rowC a) t])) := by kernel_rfl

theorem treeBendsN (m : Nat) (a : Nat → Nat → Int) (t : TypeId) : execF Try.prog gm_N noLam 100 Try.f3 [.sl 0 8 0 0 m none] [.row false m 8 (rowC a) t] (packK 1)
    = bif decide (IntKind.wrap IntKind.i64 ((1048576 : Int) - (↑m : Int)) < (0 : Int)) then Res.out Ex.ret [AV.v (Value.bool true)] [AB.row false m (8 : Nat) (rowC a) t] else bif decide (IntKind.wrap IntKind.i64 ((1048576 : Int) - (↑m : Int)) < (0 : Int)) then Res.out Ex.ret [AV.v (Value.bool true)] [AB.row false m (8 : Nat) (rowC a) t] else needs [Nat.ble ((0 : Nat) + m) m, allC m fun q ↦ rowC a ((0 : Nat) + q), decide (m ≤ (1099511627776 : Nat)), Nat.ble m m, allC m (rowC (itC fun q ↦ rowC a ((0 : Nat) + q))), decide (m ≤ (274877906944 : Nat)), f_valid (itC (rowC (itC fun q ↦ rowC a ((0 : Nat) + q)))) m == false, Nat.ble ((0 : Nat) + m) m, allC m fun q ↦ rowC a ((0 : Nat) + q), decide (m ≤ (1099511627776 : Nat)), Nat.ble m m, allC m (rowC (itC fun q ↦ rowC a ((0 : Nat) + q))), decide (m ≤ (274877906944 : Nat)), f_valid (itC (rowC (itC fun q ↦ rowC a ((0 : Nat) + q)))) m == false, Nat.ble ((0 : Nat) + m) m, allC m fun q ↦ rowC a ((0 : Nat) + q), decide (m ≤ (1099511627776 : Nat)), Nat.ble m m, Nat.ble m m, Nat.beq m m, allC m (rowC (itC fun q ↦ rowC a ((0 : Nat) + q))), allC m (rowC (itC fun q ↦ rowC a ((0 : Nat) + q))), sameL m (itC (rowC (itC fun q ↦ rowC a ((0 : Nat) + q)))) (itC (rowC (itC fun q ↦ rowC a ((0 : Nat) + q)))), decide (m ≤ (1099511627776 : Nat)), Nat.ble m m, Nat.beq m m, allC m (rowC (itC fun q ↦ rowC a ((0 : Nat) + q))), decide (m ≤ (1099511627776 : Nat)), Nat.ble ((0 : Nat) + m) m, allC m fun q ↦ rowC a ((0 : Nat) + q), decide (m ≤ (1099511627776 : Nat)), Nat.ble m m, allC m (rowC (itC fun q ↦ rowC a ((0 : Nat) + q))), decide (m ≤ (274877906944 : Nat)), f_valid (itC (rowC (itC fun q ↦ rowC a ((0 : Nat) + q)))) m == false] (Res.out Ex.ret [AV.v (Value.bool true)] [AB.row false m (8 : Nat) (rowC a) t]) := by kernel_rfl

theorem rowC_itC (x : Nat → Nat → Int) : rowC (itC (rowC x)) = rowC x := rfl
theorem valid_itC (a : Nat → Nat → Int) (m : Nat) : f_valid (itC (rowC a)) m = f_valid a m := by kernel_rfl
theorem sameI_self (m : Nat) (a : Nat → Int) : sameI m a a = true := by simp [sameI]
theorem sameL_self (m : Nat) (a : Nat → Nat → Int) : sameL m a a = true := by simp [sameL, sameC]
theorem allC_row (m : Nat) (a : Nat → Nat → Int) : allC m (rowC a) = true := allC_of (a := a) fun j _ => rfl
theorem allI_row (m : Nat) (a : Nat → Int) : allI m (rowI a) = true := allI_of (a := a) fun j _ => rfl
theorem blt_of {j m : Nat} (h : j < m) : Nat.blt j m = true := by rw [Nat.blt_eq]; exact h
theorem marked_all (m : Nat) (k : Int) (G : Nat → List Value) : allI m (fun j => bif Nat.blt j m then [Value.int .i64 (k + (j : Int))] else G j) = true :=
  allI_of (a := fun j => k + (j : Int)) fun j hj => by rw [blt_of hj]; rfl
theorem marked_up (m : Nat) (k : Int) (G : Nat → List Value) : upB (itI fun j => bif Nat.blt j m then [Value.int .i64 (k + (j : Int))] else G j) k m = true := by
  simp only [upB, List.all_eq_true, List.mem_range, decide_eq_true_eq]
  intro j hj
  simp only [itI, blt_of hj, cond_true]
  rfl
theorem ble_me (n : Nat) : Nat.ble n n = true := by simp
theorem needs_nil (r : Res) : needs [] r = r := rfl
theorem needs_t (l : List Bool) (r : Res) : needs (true :: l) r = needs l r := rfl
theorem le_b {m n : Nat} (h : m ≤ n) : decide (m ≤ n) = true := decide_eq_true h


theorem yes_bends (m : Nat) (a : Nat → Nat → Int) (t : TypeId) (hm : m ≤ 9223372036854775807) : ∃ Γ, GamOk Try.prog Γ ∧ GoodQ (execF Try.prog Γ noLam 100 Try.f3 [.sl 0 8 0 0 m none] [.row false m 8 (rowC a) t] (packK 1)) SaysYes := by
  have e1 : IntKind.wrap IntKind.i64 ((1048576 : Int) - (m : Int)) = 1048576 - m := by
    rw [show IntKind.wrap IntKind.i64 ((1048576 : Int) - (m : Int)) = W ((1048576 : Int) - (m : Int)) from rfl, w64_in (by omega) (by omega)]
  by_cases hb : m ≤ 1048576
  · have c1 : decide ((1048576 : Int) - m < 0) = false := decide_eq_false (by omega)
    have b40 : decide (m ≤ 1099511627776) = true := decide_eq_true (by omega)
    have b38 : decide (m ≤ 274877906944) = true := decide_eq_true (by omega)
    have c2 : decide ((1 : Int) + m < 0) = false := decide_eq_false (by omega)
    cases hv : f_valid a m with
    | true =>
      refine ⟨gm_Y, gm_Y_ok, ?_⟩
      rw [treeBendsY]
      simp only [zero_row, rowC_itC, valid_itC, hv, e1, c1, c2, b40, b38, allC_row, allI_row, sameI_self, sameL_self, marked_all, marked_up, ble_me, beq_me, needs_t, needs_nil, cond_true, cond_false, Nat.zero_add, bne_self_eq_false, beq_self_eq_true]
      exact good_out rfl
    | false =>
      refine ⟨gm_N, gm_N_ok, ?_⟩
      rw [treeBendsN]
      simp only [zero_row, rowC_itC, valid_itC, hv, e1, c1, c2, b40, b38, allC_row, allI_row, sameI_self, sameL_self, marked_all, marked_up, ble_me, beq_me, needs_t, needs_nil, cond_true, cond_false, Nat.zero_add, bne_self_eq_false, beq_self_eq_true]
      exact good_out rfl
  · refine ⟨gm_N, gm_N_ok, ?_⟩
    rw [treeBendsN, e1, show decide ((1048576 : Int) - m < 0) = true from decide_eq_true (by omega)]
    exact good_out rfl

end Go.Proofs.Ytkbdppnlojlcdaa

/- The abstract machine, 23: loops by what is known at their head: only the slots that live are told. Conditions: those of the table of callees. -/
namespace Go.Proofs.Ytkbdppnlojlcdaa
open Go.RowKit

/-- A thing that is so (nothing opens it by itself). -/
noncomputable def chk (p : Prop) : Bool := @decide p (Classical.propDecidable p)
theorem chk_of {p : Prop} (h : p) : chk p = true := by
  unfold chk
  exact @decide_eq_true p (Classical.propDecidable p) h
theorem of_chk {p : Prop} (h : chk p = true) : p := by
  unfold chk at h
  exact @of_decide_eq_true p (Classical.propDecidable p) h

/-- 'weak', the slots that live alone. -/
def weakL (live : List Nat) (m : Nat) (T : List AV) (H : List AB) : Option (List AV × List AB) :=
  match weak live m T H with
  | some p => some (live.map fun i => p.1.getD i .dead, p.2)
  | none => none
theorem weakL_some {live : List Nat} {m : Nat} {T : List AV} {H : List AB} {p : List AV × List AB} (h : weakL live m T H = some p) (hr : risB live = true) :
    weak live m T H = some (mkT 0 T.length (live.zip p.1), p.2) := by
  unfold weakL at h
  split at h
  · rename_i q hq
    cases h
    rw [hq]
    obtain ⟨T', H'⟩ := q
    simp only [Option.some.injEq, Prod.mk.injEq, and_true]
    unfold weak at hq
    split at hq
    · rename_i T1 H1 h1 h2
      cases hn : (nodupB (keepOf m (maskT live 0 T) H) && (keepOf m (maskT live 0 T) H).take m == upN 0 m) with
      | false => rw [hn] at hq; cases hq
      | true =>
        rw [hn] at hq
        simp only [cond_true, Option.some.injEq, Prod.mk.injEq] at hq
        obtain ⟨rfl, rfl⟩ := hq
        have hl : T1.length = T.length := by rw [renAs_length h1, maskT_length]
        have hd : ∀ t, live.elem t = false → T1.getD t .dead = .dead := by
          intro t ht
          have := renAs_get h1 t
          rw [maskT_get, Nat.zero_add, ht] at this
          simp only [Bool.false_eq_true, if_false, renA, Option.some.injEq] at this
          exact this.symm
        have hm : maskT live 0 T1 = T1 := by
          apply List.ext_getElem?
          intro t
          by_cases ht : t < T1.length
          · have e1 := maskT_get live T1 0 t
            rw [Nat.zero_add] at e1
            have e2 : (maskT live 0 T1).getD t .dead = T1.getD t .dead := by
              rw [e1]
              split
              · rfl
              · rename_i hne
                exact (hd t (by simpa using hne)).symm
            have ht' : t < (maskT live 0 T1).length := by rw [maskT_length]; exact ht
            simp only [List.getD_eq_getElem?_getD, List.getElem?_eq_getElem ht, List.getElem?_eq_getElem ht', Option.getD_some] at e2
            rw [List.getElem?_eq_getElem ht, List.getElem?_eq_getElem ht', e2]
          · rw [List.getElem?_eq_none (by rw [maskT_length]; omega), List.getElem?_eq_none (by omega)]
        have := mask_mk T1 0 live hr fun _ _ => Nat.zero_le _
        rw [hm, hl] at this
        simp only [Nat.sub_zero] at this
        rw [zip_self]
        exact this
    · cases hq
  · cases h

/-- Where a round ends: the slots that live, the blocks that are reached. -/
def leafV (N : Nat) (lv : Ex → List Nat) (m : Nat) : Kont := fun e T H => cond (Nat.beq T.length N) (match weakL (lv e) m T H with
  | some p => .out e p.1 p.2
  | none => .err) .err

/-- The word of a loop that is met in just this state. -/
noncomputable def atS (N : Nat) (live : List Nat) (m : Nat) (vals : List AV) (H0 : List AB) (out : Kont → Res) : Sum := fun T H K =>
  cond (Nat.beq T.length N) (match weakL live m T H with
    | some p => cond (chk (p.1 = vals ∧ Hsim p.2 H0)) (out K) .err
    | none => .err) .err

/-- How a round may end. -/
def RoundV {σ : Type} (N id : Nat) (lv : Ex → List Nat) (st : σ → List AV) (hp : σ → List AB) (nxt : σ → Prop) (K : Kont) (Q : Ex → List AV → List AB → Prop) : Ex → List AV → List AB → Prop := fun e vs H' => match e with
  | .normal => ∃ s', nxt s' ∧ vs = st s' ∧ Hsim H' (hp s')
  | .exit j => ∃ H'', Hsim H' H'' ∧ if j = id then (K .normal (mkT 0 N ((lv (.exit j)).zip vs)) H'').ok Q else (K (.exit j) (mkT 0 N ((lv (.exit j)).zip vs)) H'').ok Q
  | .ret => ∃ H'', Hsim H' H'' ∧ (K .ret (mkT 0 N ((lv .ret).zip vs)) H'').ok Q

theorem loop_at {Γ : Gam} (hΓ : GamOk Try.prog Γ) {id n m m0 N : Nat} {c : Code} {lv : Ex → List Nat} {out : Kont → Res} {σ : Type} (st : σ → List AV) (hp : σ → List AB) (Inv : σ → Prop) (μ : σ → Nat) (s0 : σ) (Λ : σ → Nat → Option Sum)
    (hr : ∀ e, risB (lv e) = true) (hm : m0 ≤ m) (h0 : Inv s0)
    (h : ∀ K Q, (out K).ok Q → ∀ s, Inv s → LamOk Try.prog m0 (Λ s) c ∧ GoodQ (execC Try.prog Γ n (Λ s) c (mkT 0 N ((lv .normal).zip (st s))) (hp s) (leafV N lv m)) (RoundV N id lv st hp (fun s' => Inv s' ∧ μ s' < μ s) K Q)) :
    SumOk Try.prog m0 (.block id (.loop c)) (atS N (lv .normal) m (st s0) (hp s0) out) := by
  intro M w0 ν0 hM hm0 T H K Q a w ν hS hR hd
  unfold atS at hS
  cases hN : Nat.beq T.length N with
  | false => rw [hN] at hS; exact hS.elim
  | true =>
    rw [hN, cond_true] at hS
    have hN := Nat.eq_of_beq_eq_true hN
    split at hS
    · rename_i p hw
      rcases cond_ok hS with ⟨hc, hk⟩ | ⟨_, hk⟩
      · obtain ⟨hv, hsim⟩ := of_chk hc
        have hw' := weakL_some hw (hr .normal)
        rw [hN, hv] at hw'
        have hν : ∀ i b, ν0 i = some b → i < m := fun i b hb => Nat.lt_of_lt_of_le (hm0 i b hb) hm
        have key : ∀ (r : Nat) (s : σ) (a : Act) (w : World) (ν : Nu), Inv s → μ s < r → SR M w0 ν0 (mkT 0 N ((lv .normal).zip (st s))) (hp s) a w ν → a.defers = [] → Code.rounds Try.prog c (Exit.inBlock id (post M w0 ν0 K Q)) r a w := by
          intro r
          induction r with
          | zero => intro s a w ν _ hlt; omega
          | succ r ih =>
            intro s a w ν hi hlt hR hd
            rw [rounds_succ]
            obtain ⟨hL, hG⟩ := h K Q hk s hi
            refine wp_mono (execC_sound hΓ mixed enters n m0 (Λ s) c hL M w0 ν0 hM hm0 _ _ _ _ a w ν hG.out hR hd) fun e a' w' hpp => ?_
            obtain ⟨e', T', H', ν', rfl, hk', hS', hd'⟩ := hpp
            unfold leafV at hk'
            cases hN' : Nat.beq T'.length N with
            | false => rw [hN'] at hk'; exact hk'.elim
            | true =>
              rw [hN', cond_true] at hk'
              have hN' := Nat.eq_of_beq_eq_true hN'
              split at hk'
              · rename_i q hwk
                have hwk' := weakL_some hwk (hr e')
                rw [hN'] at hwk'
                have hR' := weak_sound hwk' hS' hν
                cases e' with
                | normal =>
                  obtain ⟨s', ⟨i', hmu⟩, he, hs'⟩ := hk'
                  rw [he] at hR'
                  exact ih s' a' w' _ i' (by omega) (hR'.sim hs') hd'
                | exit j =>
                  simp only [Ex.to, Exit.then, Exit.inBlock]
                  obtain ⟨H'', hs', hkk⟩ := hk'
                  split
                  · rename_i hj
                    rw [if_pos hj] at hkk
                    exact ⟨.normal, _, _, _, rfl, hkk, hR'.sim hs', hd'⟩
                  · rename_i hj
                    rw [if_neg hj] at hkk
                    exact ⟨.exit j, _, _, _, rfl, hkk, hR'.sim hs', hd'⟩
                | ret =>
                  obtain ⟨H'', hs', hkk⟩ := hk'
                  exact ⟨.ret, _, _, _, rfl, hkk, hR'.sim hs', hd'⟩
              · exact hk'.elim
        have hR0 := (weak_sound hw' hR hν).sim hsim
        exact wp_block (wp_loop_rounds (μ s0 + 1) (key _ s0 a w _ h0 (Nat.lt_succ_self _) hR0 hd))
      · exact hk.elim
    · exact hS.elim

/-- A loop that counts. -/
theorem for_at {Γ : Gam} (hΓ : GamOk Try.prog Γ) {id n m m0 N : Nat} {c : Code} {lv : Ex → List Nat} {out : Kont → Res} (st : Nat → List AV) (hp : Nat → List AB) (okI : Nat → Prop) (len : Nat) (Λ : Nat → Nat → Option Sum)
    (hr : ∀ e, risB (lv e) = true) (hm : m0 ≤ m) (h0 : okI 0)
    (h : ∀ K Q, (out K).ok Q → ∀ i, okI i → i ≤ len → LamOk Try.prog m0 (Λ i) c ∧ GoodQ (execC Try.prog Γ n (Λ i) c (mkT 0 N ((lv .normal).zip (st i))) (hp i) (leafV N lv m)) (RoundV N id lv st hp (fun s' => s' = i + 1 ∧ i < len ∧ okI (i + 1)) K Q)) :
    SumOk Try.prog m0 (.block id (.loop c)) (atS N (lv .normal) m (st 0) (hp 0) out) := by
  refine loop_at hΓ (n := n) st hp (fun i => okI i ∧ i ≤ len) (fun i => len - i) 0 Λ hr hm ⟨h0, Nat.zero_le _⟩ fun K Q hk i hi => ?_
  obtain ⟨h1, h2⟩ := h K Q hk i hi.1 hi.2
  refine ⟨h1, ⟨res_mono (fun e vs H' hq => ?_) h2.out⟩⟩
  cases e with
  | normal =>
    obtain ⟨s', ⟨rfl, hlt, hok⟩, h3, h4⟩ := hq
    exact ⟨_, ⟨⟨hok, hlt⟩, by omega⟩, h3, h4⟩
  | exit j => exact hq
  | ret => exact hq

theorem lv3_ris {a b c : List Nat} (h1 : risB a = true) (h2 : risB b = true) (h3 : risB c = true) : ∀ e, risB (lv3 a b c e) = true
  | .normal => h1
  | .exit _ => h2
  | .ret => h3

/-- A contract with slices; the words for the loops go by the arguments. -/
theorem specR_hr {Γ : Gam} (hΓ : GamOk Try.prog Γ) {f : FuncId} {fn : Func} {mds : List Md} {F : List SA → Option FR} (hf : Try.prog.funcs[f]? = some fn) (hb : fn.body.isSome = true)
    (h : ∀ sas fr, F sas = some fr → obls fr.obl = true → ∃ (H0 : List AB) (Λ : Nat → Option Sum) (n : Nat), Hsim (abC mds sas) H0 ∧ (∀ c, fn.body = some c → LamOk Try.prog H0.length Λ c) ∧ GoodQ (execF Try.prog Γ Λ n fn (avC 0 mds sas) H0 (packK H0.length)) (GivR (abP mds sas fr.put) fr)) : SpecOk Try.prog f (specR mds F) :=
  specR_calls enters hf hb fun sas fr hF ho => by
    obtain ⟨H0, Λ, n, h1, h2, h3⟩ := h sas fr hF ho
    exact ⟨H0, h1, fun M vals w ν hM hv hH hdom => calls_pack hΓ mixed enters hf h2 hM h3.out hv hH hdom⟩

end Go.Proofs.Ytkbdppnlojlcdaa

/- PolyTurns: its rounds. Conditions: what the callees return is left open. -/
namespace Go.Proofs.Ytkbdppnlojlcdaa
open Go.RowKit
set_option maxRecDepth 100000

def fUp (up : (Nat → Int) → Bool) : List Value → Option (Value × List Bool)
  | [.agg ⟨[.int .i64 a0, .int .i64 a1, .int .i64 a2, .int .i64 a3, .int .i64 a4, .int .i64 a5, .int .i64 a6, .int .i64 a7]⟩] => some (.bool (up (v8 a0 a1 a2 a3 a4 a5 a6 a7)), [])
  | _ => none
def fAl (al : (Nat → Int) → (Nat → Int) → Nat → Int) : List Value → Option (Value × List Bool)
  | [.agg ⟨[.int .i64 a0, .int .i64 a1, .int .i64 a2, .int .i64 a3, .int .i64 a4, .int .i64 a5, .int .i64 a6, .int .i64 a7]⟩, .agg ⟨[.int .i64 b0, .int .i64 b1, .int .i64 b2, .int .i64 b3, .int .i64 b4, .int .i64 b5, .int .i64 b6, .int .i64 b7]⟩] => some (sdv (al (v8 a0 a1 a2 a3 a4 a5 a6 a7) (v8 b0 b1 b2 b3 b4 b5 b6 b7)), [])
  | _ => none
def fMi (mi : (Nat → Int) → Nat → Int) : List Value → Option (Value × List Bool)
  | [.agg ⟨[.int .i64 a0, .int .i64 a1, .int .i64 a2, .int .i64 a3, .int .i64 a4, .int .i64 a5, .int .i64 a6, .int .i64 a7]⟩] => some (cyv (mi (v8 a0 a1 a2 a3 a4 a5 a6 a7)), [])
  | _ => none
def fTi (ti : (Nat → Int) → (Nat → Int) → Nat → Int) : List Value → Option (Value × List Bool)
  | [.agg ⟨[.int .i64 a0, .int .i64 a1, .int .i64 a2, .int .i64 a3, .int .i64 a4, .int .i64 a5, .int .i64 a6, .int .i64 a7]⟩, .agg ⟨[.int .i64 b0, .int .i64 b1, .int .i64 b2, .int .i64 b3, .int .i64 b4, .int .i64 b5, .int .i64 b6, .int .i64 b7]⟩] => some (cyv (ti (v8 a0 a1 a2 a3 a4 a5 a6 a7) (v8 b0 b1 b2 b3 b4 b5 b6 b7)), [])
  | _ => none
def fRe (re : (Nat → Int) → Nat → Int) : List Value → Option (Value × List Bool)
  | [.agg ⟨[.int .i64 a0, .int .i64 a1, .int .i64 a2, .int .i64 a3, .int .i64 a4, .int .i64 a5, .int .i64 a6, .int .i64 a7]⟩] => some (sdv (re (v8 a0 a1 a2 a3 a4 a5 a6 a7)), [])
  | _ => none
def fSn (sg : (Nat → Int) → Int) (ob : Int → Bool) : List Value → Option (Value × List Bool)
  | [.agg ⟨[.int .i64 s0, .int .i64 s1, .int .i64 s2, .int .i64 s3]⟩] => some (.int .i64 (sg (v4 s0 s1 s2 s3)), [ob s0, ob s1, ob s2, ob s3])
  | _ => none

def gmTI (up : (Nat → Int) → Bool) (al : (Nat → Int) → (Nat → Int) → Nat → Int) (sg : (Nat → Int) → Int) (ob : Int → Bool) : Gam := ext (ext (ext g0 58 (specV (fUp up))) 56 (specV (fAl al))) 57 (specV (fSn sg ob))
def gmTS (up : (Nat → Int) → Bool) (cr : (Nat → Int) → (Nat → Int) → Nat → Int) (mi re : (Nat → Int) → Nat → Int) (ti : (Nat → Int) → (Nat → Int) → Nat → Int) (sg : (Nat → Int) → Int) (ob : Int → Bool) : Gam :=
  ext (ext (ext (ext (ext (ext g0 54 (specV (fUp up))) 47 (specV (fAl cr))) 53 (specV (fMi mi))) 52 (specV (fTi ti))) 51 (specV (fRe re))) 46 (specV (fSn sg ob))

abbrev lvTI : Ex → List Nat := lv3 [4, 5, 16, 17, 18] [5] [2, 3]
abbrev lvTS : Ex → List Nat := lv3 [4, 5, 6, 7] [6] [2, 3]
theorem rndTI (up : (Nat → Int) → Bool) (al : (Nat → Int) → (Nat → Int) → Nat → Int) (sg : (Nat → Int) → Int) (ob : Int → Bool) (n : Nat) (g : Nat → List Value) (t : TypeId) (m : Nat) (b : Nat → Nat → Int) (bf : Nat → Int) (i : Nat) (sm : Int) : execC Try.prog (gmTI up al sg ob) 100 noLam (loopAt 0 Try.f23) (mkT 0 82 ((lvTI .normal).zip [.own 1 m, .v (i64 sm), .own 2 m, .v (i64 m), .v (i64 i)])) [.row false n 8 g t, .row true m 8 (rowC b) 46, .row true m 1 (rowI bf) 3] (leafV 82 lvTI 1)
    = bif decide ((↑i : Int) < (↑m : Int)) then needs [decide ((↑i : Int) < (↑m : Int)), decide (Int.toNat (↑i : Int) < m), !decide ((↑m : Int) = (0 : Int)), decide ((0 : Int) ≤ Int.tmod (IntKind.wrap IntKind.i64 (IntKind.wrap IntKind.i64 ((↑i : Int) + (↑m : Int)) - (1 : Int))) (↑m : Int)), decide (Int.tmod (IntKind.wrap IntKind.i64 (IntKind.wrap IntKind.i64 ((↑i : Int) + (↑m : Int)) - (1 : Int))) (↑m : Int) < (↑m : Int)), decide (Int.toNat (Int.tmod (IntKind.wrap IntKind.i64 (IntKind.wrap IntKind.i64 ((↑i : Int) + (↑m : Int)) - (1 : Int))) (↑m : Int)) < m), decide ((↑i : Int) < (↑m : Int)), decide (Int.toNat (↑i : Int) < m)] (bif b (Int.toNat (↑i : Int)) (0 : Nat) == (0 : Int) && (b (Int.toNat (↑i : Int)) (1 : Nat) == (0 : Int) && (b (Int.toNat (↑i : Int)) (2 : Nat) == (0 : Int) && (b (Int.toNat (↑i : Int)) (3 : Nat) == (0 : Int) && (b (Int.toNat (↑i : Int)) (4 : Nat) == (0 : Int) && (b (Int.toNat (↑i : Int)) (5 : Nat) == (0 : Int) && (b (Int.toNat (↑i : Int)) (6 : Nat) == (0 : Int) && (b (Int.toNat (↑i : Int)) (7 : Nat) == (0 : Int) && true))))))) && true then Res.out Ex.ret [AV.v (Value.int IntKind.i64 (0 : Int)), AV.v (Value.bool false)] [AB.row false n (8 : Nat) g t] else bif bf (Int.toNat (↑i : Int)) == (0 : Int) then needs [ob (al (w8 (b (Int.toNat (Int.tmod (IntKind.wrap IntKind.i64 (IntKind.wrap IntKind.i64 ((↑i : Int) + (↑m : Int)) - (1 : Int))) (↑m : Int))))) (w8 (b (Int.toNat (↑i : Int)))) (0 : Nat)), ob (al (w8 (b (Int.toNat (Int.tmod (IntKind.wrap IntKind.i64 (IntKind.wrap IntKind.i64 ((↑i : Int) + (↑m : Int)) - (1 : Int))) (↑m : Int))))) (w8 (b (Int.toNat (↑i : Int)))) (1 : Nat)), ob (al (w8 (b (Int.toNat (Int.tmod (IntKind.wrap IntKind.i64 (IntKind.wrap IntKind.i64 ((↑i : Int) + (↑m : Int)) - (1 : Int))) (↑m : Int))))) (w8 (b (Int.toNat (↑i : Int)))) (2 : Nat)), ob (al (w8 (b (Int.toNat (Int.tmod (IntKind.wrap IntKind.i64 (IntKind.wrap IntKind.i64 ((↑i : Int) + (↑m : Int)) - (1 : Int))) (↑m : Int))))) (w8 (b (Int.toNat (↑i : Int)))) (3 : Nat))] (bif decide (sg (w4 (al (w8 (b (Int.toNat (Int.tmod (IntKind.wrap IntKind.i64 (IntKind.wrap IntKind.i64 ((↑i : Int) + (↑m : Int)) - (1 : Int))) (↑m : Int))))) (w8 (b (Int.toNat (↑i : Int)))))) < (0 : Int)) then Res.out Ex.ret [AV.v (Value.int IntKind.i64 (0 : Int)), AV.v (Value.bool false)] [AB.row false n (8 : Nat) g t] else bif bf (Int.toNat (↑i : Int)) == (1 : Int) then bif !up (w8 (b (Int.toNat (Int.tmod (IntKind.wrap IntKind.i64 (IntKind.wrap IntKind.i64 ((↑i : Int) + (↑m : Int)) - (1 : Int))) (↑m : Int))))) then bif up (w8 (b (Int.toNat (↑i : Int)))) then Res.out Ex.normal [AV.own (1 : Nat) m, AV.v (Value.int IntKind.i64 (IntKind.wrap IntKind.i64 (sm + (1 : Int)))), AV.own (2 : Nat) m, AV.v (Value.int IntKind.i64 (↑m : Int)), AV.v (Value.int IntKind.i64 (IntKind.wrap IntKind.i64 ((↑i : Int) + (1 : Int))))] [AB.row false n (8 : Nat) g t, AB.row true m (8 : Nat) (rowC b) (46 : TypeId), AB.row true m (1 : Nat) (rowI bf) (3 : TypeId)] else bif bf (Int.toNat (↑i : Int)) == (-1 : Int) then bif up (w8 (b (Int.toNat (Int.tmod (IntKind.wrap IntKind.i64 (IntKind.wrap IntKind.i64 ((↑i : Int) + (↑m : Int)) - (1 : Int))) (↑m : Int))))) then bif !up (w8 (b (Int.toNat (↑i : Int)))) then Res.out Ex.normal [AV.own (1 : Nat) m, AV.v (Value.int IntKind.i64 (IntKind.wrap IntKind.i64 (sm - (1 : Int)))), AV.own (2 : Nat) m, AV.v (Value.int IntKind.i64 (↑m : Int)), AV.v (Value.int IntKind.i64 (IntKind.wrap IntKind.i64 ((↑i : Int) + (1 : Int))))] [AB.row false n (8 : Nat) g t, AB.row true m (8 : Nat) (rowC b) (46 : TypeId), AB.row true m (1 : Nat) (rowI bf) (3 : TypeId)] else Res.out Ex.normal [AV.own (1 : Nat) m, AV.v (Value.int IntKind.i64 sm), AV.own (2 : Nat) m, AV.v (Value.int IntKind.i64 (↑m : Int)), AV.v (Value.int IntKind.i64 (IntKind.wrap IntKind.i64 ((↑i : Int) + (1 : Int))))] [AB.row false n (8 : Nat) g t, AB.row true m (8 : Nat) (rowC b) (46 : TypeId), AB.row true m (1 : Nat) (rowI bf) (3 : TypeId)] else Res.out Ex.normal [AV.own (1 : Nat) m, AV.v (Value.int IntKind.i64 sm), AV.own (2 : Nat) m, AV.v (Value.int IntKind.i64 (↑m : Int)), AV.v (Value.int IntKind.i64 (IntKind.wrap IntKind.i64 ((↑i : Int) + (1 : Int))))] [AB.row false n (8 : Nat) g t, AB.row true m (8 : Nat) (rowC b) (46 : TypeId), AB.row true m (1 : Nat) (rowI bf) (3 : TypeId)] else Res.out Ex.normal [AV.own (1 : Nat) m, AV.v (Value.int IntKind.i64 sm), AV.own (2 : Nat) m, AV.v (Value.int IntKind.i64 (↑m : Int)), AV.v (Value.int IntKind.i64 (IntKind.wrap IntKind.i64 ((↑i : Int) + (1 : Int))))] [AB.row false n (8 : Nat) g t, AB.row true m (8 : Nat) (rowC b) (46 : TypeId), AB.row true m (1 : Nat) (rowI bf) (3 : TypeId)] else bif bf (Int.toNat (↑i : Int)) == (-1 : Int) then bif up (w8 (b (Int.toNat (Int.tmod (IntKind.wrap IntKind.i64 (IntKind.wrap IntKind.i64 ((↑i : Int) + (↑m : Int)) - (1 : Int))) (↑m : Int))))) then bif !up (w8 (b (Int.toNat (↑i : Int)))) then Res.out Ex.normal [AV.own (1 : Nat) m, AV.v (Value.int IntKind.i64 (IntKind.wrap IntKind.i64 (sm - (1 : Int)))), AV.own (2 : Nat) m, AV.v (Value.int IntKind.i64 (↑m : Int)), AV.v (Value.int IntKind.i64 (IntKind.wrap IntKind.i64 ((↑i : Int) + (1 : Int))))] [AB.row false n (8 : Nat) g t, AB.row true m (8 : Nat) (rowC b) (46 : TypeId), AB.row true m (1 : Nat) (rowI bf) (3 : TypeId)] else Res.out Ex.normal [AV.own (1 : Nat) m, AV.v (Value.int IntKind.i64 sm), AV.own (2 : Nat) m, AV.v (Value.int IntKind.i64 (↑m : Int)), AV.v (Value.int IntKind.i64 (IntKind.wrap IntKind.i64 ((↑i : Int) + (1 : Int))))] [AB.row false n (8 : Nat) g t, AB.row true m (8 : Nat) (rowC b) (46 : TypeId), AB.row true m (1 : Nat) (rowI bf) (3 : TypeId)] else Res.out Ex.normal [AV.own (1 : Nat) m, AV.v (Value.int IntKind.i64 sm), AV.own (2 : Nat) m, AV.v (Value.int IntKind.i64 (↑m : Int)), AV.v (Value.int IntKind.i64 (IntKind.wrap IntKind.i64 ((↑i : Int) + (1 : Int))))] [AB.row false n (8 : Nat) g t, AB.row true m (8 : Nat) (rowC b) (46 : TypeId), AB.row true m (1 : Nat) (rowI bf) (3 : TypeId)] else Res.out Ex.normal [AV.own (1 : Nat) m, AV.v (Value.int IntKind.i64 sm), AV.own (2 : Nat) m, AV.v (Value.int IntKind.i64 (↑m : Int)), AV.v (Value.int IntKind.i64 (IntKind.wrap IntKind.i64 ((↑i : Int) + (1 : Int))))] [AB.row false n (8 : Nat) g t, AB.row true m (8 : Nat) (rowC b) (46 : TypeId), AB.row true m (1 : Nat) (rowI bf) (3 : TypeId)] else bif bf (Int.toNat (↑i : Int)) == (-1 : Int) then bif up (w8 (b (Int.toNat (Int.tmod (IntKind.wrap IntKind.i64 (IntKind.wrap IntKind.i64 ((↑i : Int) + (↑m : Int)) - (1 : Int))) (↑m : Int))))) then bif !up (w8 (b (Int.toNat (↑i : Int)))) then Res.out Ex.normal [AV.own (1 : Nat) m, AV.v (Value.int IntKind.i64 (IntKind.wrap IntKind.i64 (sm - (1 : Int)))), AV.own (2 : Nat) m, AV.v (Value.int IntKind.i64 (↑m : Int)), AV.v (Value.int IntKind.i64 (IntKind.wrap IntKind.i64 ((↑i : Int) + (1 : Int))))] [AB.row false n (8 : Nat) g t, AB.row true m (8 : Nat) (rowC b) (46 : TypeId), AB.row true m (1 : Nat) (rowI bf) (3 : TypeId)] else Res.out Ex.normal [AV.own (1 : Nat) m, AV.v (Value.int IntKind.i64 sm), AV.own (2 : Nat) m, AV.v (Value.int IntKind.i64 (↑m : Int)), AV.v (Value.int IntKind.i64 (IntKind.wrap IntKind.i64 ((↑i : Int) + (1 : Int))))] [AB.row false n (8 : Nat) g t, AB.row true m (8 : Nat) (rowC b) (46 : TypeId), AB.row true m (1 : Nat) (rowI bf) (3 : TypeId)] else Res.out Ex.normal [AV.own (1 : Nat) m, AV.v (Value.int IntKind.i64 sm), AV.own (2 : Nat) m, AV.v (Value.int IntKind.i64 (↑m : Int)), AV.v (Value.int IntKind.i64 (IntKind.wrap IntKind.i64 ((↑i : Int) + (1 : Int))))] [AB.row false n (8 : Nat) g t, AB.row true m (8 : Nat) (rowC b) (46 : TypeId), AB.row true m (1 : Nat) (rowI bf) (3 : TypeId)] else Res.out Ex.normal [AV.own (1 : Nat) m, AV.v (Value.int IntKind.i64 sm), AV.own (2 : Nat) m, AV.v (Value.int IntKind.i64 (↑m : Int)), AV.v (Value.int IntKind.i64 (IntKind.wrap IntKind.i64 ((↑i : Int) + (1 : Int))))] [AB.row false n (8 : Nat) g t, AB.row true m (8 : Nat) (rowC b) (46 : TypeId), AB.row true m (1 : Nat) (rowI bf) (3 : TypeId)]) else bif bf (Int.toNat (↑i : Int)) == (1 : Int) then bif !up (w8 (b (Int.toNat (Int.tmod (IntKind.wrap IntKind.i64 (IntKind.wrap IntKind.i64 ((↑i : Int) + (↑m : Int)) - (1 : Int))) (↑m : Int))))) then bif up (w8 (b (Int.toNat (↑i : Int)))) then Res.out Ex.normal [AV.own (1 : Nat) m, AV.v (Value.int IntKind.i64 (IntKind.wrap IntKind.i64 (sm + (1 : Int)))), AV.own (2 : Nat) m, AV.v (Value.int IntKind.i64 (↑m : Int)), AV.v (Value.int IntKind.i64 (IntKind.wrap IntKind.i64 ((↑i : Int) + (1 : Int))))] [AB.row false n (8 : Nat) g t, AB.row true m (8 : Nat) (rowC b) (46 : TypeId), AB.row true m (1 : Nat) (rowI bf) (3 : TypeId)] else bif bf (Int.toNat (↑i : Int)) == (-1 : Int) then bif up (w8 (b (Int.toNat (Int.tmod (IntKind.wrap IntKind.i64 (IntKind.wrap IntKind.i64 ((↑i : Int) + (↑m : Int)) - (1 : Int))) (↑m : Int))))) then bif !up (w8 (b (Int.toNat (↑i : Int)))) then Res.out Ex.normal [AV.own (1 : Nat) m, AV.v (Value.int IntKind.i64 (IntKind.wrap IntKind.i64 (sm - (1 : Int)))), AV.own (2 : Nat) m, AV.v (Value.int IntKind.i64 (↑m : Int)), AV.v (Value.int IntKind.i64 (IntKind.wrap IntKind.i64 ((↑i : Int) + (1 : Int))))] [AB.row false n (8 : Nat) g t, AB.row true m (8 : Nat) (rowC b) (46 : TypeId), AB.row true m (1 : Nat) (rowI bf) (3 : TypeId)] else Res.out Ex.normal [AV.own (1 : Nat) m, AV.v (Value.int IntKind.i64 sm), AV.own (2 : Nat) m, AV.v (Value.int IntKind.i64 (↑m : Int)), AV.v (Value.int IntKind.i64 (IntKind.wrap IntKind.i64 ((↑i : Int) + (1 : Int))))] [AB.row false n (8 : Nat) g t, AB.row true m (8 : Nat) (rowC b) (46 : TypeId), AB.row true m (1 : Nat) (rowI bf) (3 : TypeId)] else Res.out Ex.normal [AV.own (1 : Nat) m, AV.v (Value.int IntKind.i64 sm), AV.own (2 : Nat) m, AV.v (Value.int IntKind.i64 (↑m : Int)), AV.v (Value.int IntKind.i64 (IntKind.wrap IntKind.i64 ((↑i : Int) + (1 : Int))))] [AB.row false n (8 : Nat) g t, AB.row true m (8 : Nat) (rowC b) (46 : TypeId), AB.row true m (1 : Nat) (rowI bf) (3 : TypeId)] else Res.out Ex.normal [AV.own (1 : Nat) m, AV.v (Value.int IntKind.i64 sm), AV.own (2 : Nat) m, AV.v (Value.int IntKind.i64 (↑m : Int)), AV.v (Value.int IntKind.i64 (IntKind.wrap IntKind.i64 ((↑i : Int) + (1 : Int))))] [AB.row false n (8 : Nat) g t, AB.row true m (8 : Nat) (rowC b) (46 : TypeId), AB.row true m (1 : Nat) (rowI bf) (3 : TypeId)] else bif bf (Int.toNat (↑i : Int)) == (-1 : Int) then bif up (w8 (b (Int.toNat (Int.tmod (IntKind.wrap IntKind.i64 (IntKind.wrap IntKind.i64 ((↑i : Int) + (↑m : Int)) - (1 : Int))) (↑m : Int))))) then bif !up (w8 (b (Int.toNat (↑i : Int)))) then Res.out Ex.normal [AV.own (1 : Nat) m, AV.v (Value.int IntKind.i64 (IntKind.wrap IntKind.i64 (sm - (1 : Int)))), AV.own (2 : Nat) m, AV.v (Value.int IntKind.i64 (↑m : Int)), AV.v (Value.int IntKind.i64 (IntKind.wrap IntKind.i64 ((↑i : Int) + (1 : Int))))] [AB.row false n (8 : Nat) g t, AB.row true m (8 : Nat) (rowC b) (46 : TypeId), AB.row true m (1 : Nat) (rowI bf) (3 : TypeId)] else Res.out Ex.normal [AV.own (1 : Nat) m, AV.v (Value.int IntKind.i64 sm), AV.own (2 : Nat) m, AV.v (Value.int IntKind.i64 (↑m : Int)), AV.v (Value.int IntKind.i64 (IntKind.wrap IntKind.i64 ((↑i : Int) + (1 : Int))))] [AB.row false n (8 : Nat) g t, AB.row true m (8 : Nat) (rowC b) (46 : TypeId), AB.row true m (1 : Nat) (rowI bf) (3 : TypeId)] else Res.out Ex.normal [AV.own (1 : Nat) m, AV.v (Value.int IntKind.i64 sm), AV.own (2 : Nat) m, AV.v (Value.int IntKind.i64 (↑m : Int)), AV.v (Value.int IntKind.i64 (IntKind.wrap IntKind.i64 ((↑i : Int) + (1 : Int))))] [AB.row false n (8 : Nat) g t, AB.row true m (8 : Nat) (rowC b) (46 : TypeId), AB.row true m (1 : Nat) (rowI bf) (3 : TypeId)] else Res.out Ex.normal [AV.own (1 : Nat) m, AV.v (Value.int IntKind.i64 sm), AV.own (2 : Nat) m, AV.v (Value.int IntKind.i64 (↑m : Int)), AV.v (Value.int IntKind.i64 (IntKind.wrap IntKind.i64 ((↑i : Int) + (1 : Int))))] [AB.row false n (8 : Nat) g t, AB.row true m (8 : Nat) (rowC b) (46 : TypeId), AB.row true m (1 : Nat) (rowI bf) (3 : TypeId)] else bif bf (Int.toNat (↑i : Int)) == (-1 : Int) then bif up (w8 (b (Int.toNat (Int.tmod (IntKind.wrap IntKind.i64 (IntKind.wrap IntKind.i64 ((↑i : Int) + (↑m : Int)) - (1 : Int))) (↑m : Int))))) then bif !up (w8 (b (Int.toNat (↑i : Int)))) then Res.out Ex.normal [AV.own (1 : Nat) m, AV.v (Value.int IntKind.i64 (IntKind.wrap IntKind.i64 (sm - (1 : Int)))), AV.own (2 : Nat) m, AV.v (Value.int IntKind.i64 (↑m : Int)), AV.v (Value.int IntKind.i64 (IntKind.wrap IntKind.i64 ((↑i : Int) + (1 : Int))))] [AB.row false n (8 : Nat) g t, AB.row true m (8 : Nat) (rowC b) (46 : TypeId), AB.row true m (1 : Nat) (rowI bf) (3 : TypeId)] else Res.out Ex.normal [AV.own (1 : Nat) m, AV.v (Value.int IntKind.i64 sm), AV.own (2 : Nat) m, AV.v (Value.int IntKind.i64 (↑m : Int)), AV.v (Value.int IntKind.i64 (IntKind.wrap IntKind.i64 ((↑i : Int) + (1 : Int))))] [AB.row false n (8 : Nat) g t, AB.row true m (8 : Nat) (rowC b) (46 : TypeId), AB.row true m (1 : Nat) (rowI bf) (3 : TypeId)] else Res.out Ex.normal [AV.own (1 : Nat) m, AV.v (Value.int IntKind.i64 sm), AV.own (2 : Nat) m, AV.v (Value.int IntKind.i64 (↑m : Int)), AV.v (Value.int IntKind.i64 (IntKind.wrap IntKind.i64 ((↑i : Int) + (1 : Int))))] [AB.row false n (8 : Nat) g t, AB.row true m (8 : Nat) (rowC b) (46 : TypeId), AB.row true m (1 : Nat) (rowI bf) (3 : TypeId)] else Res.out Ex.normal [AV.own (1 : Nat) m, AV.v (Value.int IntKind.i64 sm), AV.own (2 : Nat) m, AV.v (Value.int IntKind.i64 (↑m : Int)), AV.v (Value.int IntKind.i64 (IntKind.wrap IntKind.i64 ((↑i : Int) + (1 : Int))))] [AB.row false n (8 : Nat) g t, AB.row true m (8 : Nat) (rowC b) (46 : TypeId), AB.row true m (1 : Nat) (rowI bf) (3 : TypeId)]) else Res.out (Ex.exit (0 : Nat)) [AV.v (Value.int IntKind.i64 sm)] [AB.row false n (8 : Nat) g t] := by kernel_rfl

theorem rndTS (up : (Nat → Int) → Bool) (cr : (Nat → Int) → (Nat → Int) → Nat → Int) (mi re : (Nat → Int) → Nat → Int) (ti : (Nat → Int) → (Nat → Int) → Nat → Int) (sg : (Nat → Int) → Int) (ob : Int → Bool) (n : Nat) (g : Nat → List Value) (t : TypeId) (m : Nat) (b : Nat → Nat → Int) (i : Nat) (sm : Int) : execC Try.prog (gmTS up cr mi re ti sg ob) 100 noLam (loopAt 0 Try.f22) (mkT 0 82 ((lvTS .normal).zip [.own 1 m, .v (i64 m), .v (i64 sm), .v (i64 i)])) [.row false n 8 g t, .row true m 8 (rowC b) 46] (leafV 82 lvTS 1)
    = bif decide ((↑i : Int) < (↑m : Int)) then needs [!decide ((↑m : Int) = (0 : Int)), decide ((0 : Int) ≤ Int.tmod (IntKind.wrap IntKind.i64 (IntKind.wrap IntKind.i64 ((↑i : Int) + (↑m : Int)) - (1 : Int))) (↑m : Int)), decide (Int.tmod (IntKind.wrap IntKind.i64 (IntKind.wrap IntKind.i64 ((↑i : Int) + (↑m : Int)) - (1 : Int))) (↑m : Int) < (↑m : Int)), decide (Int.toNat (Int.tmod (IntKind.wrap IntKind.i64 (IntKind.wrap IntKind.i64 ((↑i : Int) + (↑m : Int)) - (1 : Int))) (↑m : Int)) < m), decide ((↑i : Int) < (↑m : Int)), decide (Int.toNat (↑i : Int) < m), ob (cr (w8 (b (Int.toNat (Int.tmod (IntKind.wrap IntKind.i64 (IntKind.wrap IntKind.i64 ((↑i : Int) + (↑m : Int)) - (1 : Int))) (↑m : Int))))) (w8 (b (Int.toNat (↑i : Int)))) (0 : Nat)), ob (cr (w8 (b (Int.toNat (Int.tmod (IntKind.wrap IntKind.i64 (IntKind.wrap IntKind.i64 ((↑i : Int) + (↑m : Int)) - (1 : Int))) (↑m : Int))))) (w8 (b (Int.toNat (↑i : Int)))) (1 : Nat)), ob (cr (w8 (b (Int.toNat (Int.tmod (IntKind.wrap IntKind.i64 (IntKind.wrap IntKind.i64 ((↑i : Int) + (↑m : Int)) - (1 : Int))) (↑m : Int))))) (w8 (b (Int.toNat (↑i : Int)))) (2 : Nat)), ob (cr (w8 (b (Int.toNat (Int.tmod (IntKind.wrap IntKind.i64 (IntKind.wrap IntKind.i64 ((↑i : Int) + (↑m : Int)) - (1 : Int))) (↑m : Int))))) (w8 (b (Int.toNat (↑i : Int)))) (3 : Nat)), ob (re (w8 (ti (w8 (mi (w8 (b (Int.toNat (Int.tmod (IntKind.wrap IntKind.i64 (IntKind.wrap IntKind.i64 ((↑i : Int) + (↑m : Int)) - (1 : Int))) (↑m : Int))))))) (w8 (b (Int.toNat (↑i : Int)))))) (0 : Nat)), ob (re (w8 (ti (w8 (mi (w8 (b (Int.toNat (Int.tmod (IntKind.wrap IntKind.i64 (IntKind.wrap IntKind.i64 ((↑i : Int) + (↑m : Int)) - (1 : Int))) (↑m : Int))))))) (w8 (b (Int.toNat (↑i : Int)))))) (1 : Nat)), ob (re (w8 (ti (w8 (mi (w8 (b (Int.toNat (Int.tmod (IntKind.wrap IntKind.i64 (IntKind.wrap IntKind.i64 ((↑i : Int) + (↑m : Int)) - (1 : Int))) (↑m : Int))))))) (w8 (b (Int.toNat (↑i : Int)))))) (2 : Nat)), ob (re (w8 (ti (w8 (mi (w8 (b (Int.toNat (Int.tmod (IntKind.wrap IntKind.i64 (IntKind.wrap IntKind.i64 ((↑i : Int) + (↑m : Int)) - (1 : Int))) (↑m : Int))))))) (w8 (b (Int.toNat (↑i : Int)))))) (3 : Nat))] (bif sg (w4 (cr (w8 (b (Int.toNat (Int.tmod (IntKind.wrap IntKind.i64 (IntKind.wrap IntKind.i64 ((↑i : Int) + (↑m : Int)) - (1 : Int))) (↑m : Int))))) (w8 (b (Int.toNat (↑i : Int)))))) == (0 : Int) then bif decide (sg (w4 (re (w8 (ti (w8 (mi (w8 (b (Int.toNat (Int.tmod (IntKind.wrap IntKind.i64 (IntKind.wrap IntKind.i64 ((↑i : Int) + (↑m : Int)) - (1 : Int))) (↑m : Int))))))) (w8 (b (Int.toNat (↑i : Int)))))))) ≤ (0 : Int)) then Res.out Ex.ret [AV.v (Value.int IntKind.i64 (0 : Int)), AV.v (Value.bool false)] [AB.row false n (8 : Nat) g t] else bif decide (sg (w4 (cr (w8 (b (Int.toNat (Int.tmod (IntKind.wrap IntKind.i64 (IntKind.wrap IntKind.i64 ((↑i : Int) + (↑m : Int)) - (1 : Int))) (↑m : Int))))) (w8 (b (Int.toNat (↑i : Int)))))) > (0 : Int)) then bif !up (w8 (b (Int.toNat (Int.tmod (IntKind.wrap IntKind.i64 (IntKind.wrap IntKind.i64 ((↑i : Int) + (↑m : Int)) - (1 : Int))) (↑m : Int))))) then bif up (w8 (b (Int.toNat (↑i : Int)))) then Res.out Ex.normal [AV.own (1 : Nat) m, AV.v (Value.int IntKind.i64 (↑m : Int)), AV.v (Value.int IntKind.i64 (IntKind.wrap IntKind.i64 (sm + (1 : Int)))), AV.v (Value.int IntKind.i64 (IntKind.wrap IntKind.i64 ((↑i : Int) + (1 : Int))))] [AB.row false n (8 : Nat) g t, AB.row true m (8 : Nat) (rowC b) (46 : TypeId)] else bif decide (sg (w4 (cr (w8 (b (Int.toNat (Int.tmod (IntKind.wrap IntKind.i64 (IntKind.wrap IntKind.i64 ((↑i : Int) + (↑m : Int)) - (1 : Int))) (↑m : Int))))) (w8 (b (Int.toNat (↑i : Int)))))) < (0 : Int)) then bif up (w8 (b (Int.toNat (Int.tmod (IntKind.wrap IntKind.i64 (IntKind.wrap IntKind.i64 ((↑i : Int) + (↑m : Int)) - (1 : Int))) (↑m : Int))))) then bif !up (w8 (b (Int.toNat (↑i : Int)))) then Res.out Ex.normal [AV.own (1 : Nat) m, AV.v (Value.int IntKind.i64 (↑m : Int)), AV.v (Value.int IntKind.i64 (IntKind.wrap IntKind.i64 (sm - (1 : Int)))), AV.v (Value.int IntKind.i64 (IntKind.wrap IntKind.i64 ((↑i : Int) + (1 : Int))))] [AB.row false n (8 : Nat) g t, AB.row true m (8 : Nat) (rowC b) (46 : TypeId)] else Res.out Ex.normal [AV.own (1 : Nat) m, AV.v (Value.int IntKind.i64 (↑m : Int)), AV.v (Value.int IntKind.i64 sm), AV.v (Value.int IntKind.i64 (IntKind.wrap IntKind.i64 ((↑i : Int) + (1 : Int))))] [AB.row false n (8 : Nat) g t, AB.row true m (8 : Nat) (rowC b) (46 : TypeId)] else Res.out Ex.normal [AV.own (1 : Nat) m, AV.v (Value.int IntKind.i64 (↑m : Int)), AV.v (Value.int IntKind.i64 sm), AV.v (Value.int IntKind.i64 (IntKind.wrap IntKind.i64 ((↑i : Int) + (1 : Int))))] [AB.row false n (8 : Nat) g t, AB.row true m (8 : Nat) (rowC b) (46 : TypeId)] else Res.out Ex.normal [AV.own (1 : Nat) m, AV.v (Value.int IntKind.i64 (↑m : Int)), AV.v (Value.int IntKind.i64 sm), AV.v (Value.int IntKind.i64 (IntKind.wrap IntKind.i64 ((↑i : Int) + (1 : Int))))] [AB.row false n (8 : Nat) g t, AB.row true m (8 : Nat) (rowC b) (46 : TypeId)] else bif decide (sg (w4 (cr (w8 (b (Int.toNat (Int.tmod (IntKind.wrap IntKind.i64 (IntKind.wrap IntKind.i64 ((↑i : Int) + (↑m : Int)) - (1 : Int))) (↑m : Int))))) (w8 (b (Int.toNat (↑i : Int)))))) < (0 : Int)) then bif up (w8 (b (Int.toNat (Int.tmod (IntKind.wrap IntKind.i64 (IntKind.wrap IntKind.i64 ((↑i : Int) + (↑m : Int)) - (1 : Int))) (↑m : Int))))) then bif !up (w8 (b (Int.toNat (↑i : Int)))) then Res.out Ex.normal [AV.own (1 : Nat) m, AV.v (Value.int IntKind.i64 (↑m : Int)), AV.v (Value.int IntKind.i64 (IntKind.wrap IntKind.i64 (sm - (1 : Int)))), AV.v (Value.int IntKind.i64 (IntKind.wrap IntKind.i64 ((↑i : Int) + (1 : Int))))] [AB.row false n (8 : Nat) g t, AB.row true m (8 : Nat) (rowC b) (46 : TypeId)] else Res.out Ex.normal [AV.own (1 : Nat) m, AV.v (Value.int IntKind.i64 (↑m : Int)), AV.v (Value.int IntKind.i64 sm), AV.v (Value.int IntKind.i64 (IntKind.wrap IntKind.i64 ((↑i : Int) + (1 : Int))))] [AB.row false n (8 : Nat) g t, AB.row true m (8 : Nat) (rowC b) (46 : TypeId)] else Res.out Ex.normal [AV.own (1 : Nat) m, AV.v (Value.int IntKind.i64 (↑m : Int)), AV.v (Value.int IntKind.i64 sm), AV.v (Value.int IntKind.i64 (IntKind.wrap IntKind.i64 ((↑i : Int) + (1 : Int))))] [AB.row false n (8 : Nat) g t, AB.row true m (8 : Nat) (rowC b) (46 : TypeId)] else Res.out Ex.normal [AV.own (1 : Nat) m, AV.v (Value.int IntKind.i64 (↑m : Int)), AV.v (Value.int IntKind.i64 sm), AV.v (Value.int IntKind.i64 (IntKind.wrap IntKind.i64 ((↑i : Int) + (1 : Int))))] [AB.row false n (8 : Nat) g t, AB.row true m (8 : Nat) (rowC b) (46 : TypeId)] else bif decide (sg (w4 (cr (w8 (b (Int.toNat (Int.tmod (IntKind.wrap IntKind.i64 (IntKind.wrap IntKind.i64 ((↑i : Int) + (↑m : Int)) - (1 : Int))) (↑m : Int))))) (w8 (b (Int.toNat (↑i : Int)))))) < (0 : Int)) then bif up (w8 (b (Int.toNat (Int.tmod (IntKind.wrap IntKind.i64 (IntKind.wrap IntKind.i64 ((↑i : Int) + (↑m : Int)) - (1 : Int))) (↑m : Int))))) then bif !up (w8 (b (Int.toNat (↑i : Int)))) then Res.out Ex.normal [AV.own (1 : Nat) m, AV.v (Value.int IntKind.i64 (↑m : Int)), AV.v (Value.int IntKind.i64 (IntKind.wrap IntKind.i64 (sm - (1 : Int)))), AV.v (Value.int IntKind.i64 (IntKind.wrap IntKind.i64 ((↑i : Int) + (1 : Int))))] [AB.row false n (8 : Nat) g t, AB.row true m (8 : Nat) (rowC b) (46 : TypeId)] else Res.out Ex.normal [AV.own (1 : Nat) m, AV.v (Value.int IntKind.i64 (↑m : Int)), AV.v (Value.int IntKind.i64 sm), AV.v (Value.int IntKind.i64 (IntKind.wrap IntKind.i64 ((↑i : Int) + (1 : Int))))] [AB.row false n (8 : Nat) g t, AB.row true m (8 : Nat) (rowC b) (46 : TypeId)] else Res.out Ex.normal [AV.own (1 : Nat) m, AV.v (Value.int IntKind.i64 (↑m : Int)), AV.v (Value.int IntKind.i64 sm), AV.v (Value.int IntKind.i64 (IntKind.wrap IntKind.i64 ((↑i : Int) + (1 : Int))))] [AB.row false n (8 : Nat) g t, AB.row true m (8 : Nat) (rowC b) (46 : TypeId)] else Res.out Ex.normal [AV.own (1 : Nat) m, AV.v (Value.int IntKind.i64 (↑m : Int)), AV.v (Value.int IntKind.i64 sm), AV.v (Value.int IntKind.i64 (IntKind.wrap IntKind.i64 ((↑i : Int) + (1 : Int))))] [AB.row false n (8 : Nat) g t, AB.row true m (8 : Nat) (rowC b) (46 : TypeId)] else bif decide (sg (w4 (cr (w8 (b (Int.toNat (Int.tmod (IntKind.wrap IntKind.i64 (IntKind.wrap IntKind.i64 ((↑i : Int) + (↑m : Int)) - (1 : Int))) (↑m : Int))))) (w8 (b (Int.toNat (↑i : Int)))))) > (0 : Int)) then bif !up (w8 (b (Int.toNat (Int.tmod (IntKind.wrap IntKind.i64 (IntKind.wrap IntKind.i64 ((↑i : Int) + (↑m : Int)) - (1 : Int))) (↑m : Int))))) then bif up (w8 (b (Int.toNat (↑i : Int)))) then Res.out Ex.normal [AV.own (1 : Nat) m, AV.v (Value.int IntKind.i64 (↑m : Int)), AV.v (Value.int IntKind.i64 (IntKind.wrap IntKind.i64 (sm + (1 : Int)))), AV.v (Value.int IntKind.i64 (IntKind.wrap IntKind.i64 ((↑i : Int) + (1 : Int))))] [AB.row false n (8 : Nat) g t, AB.row true m (8 : Nat) (rowC b) (46 : TypeId)] else bif decide (sg (w4 (cr (w8 (b (Int.toNat (Int.tmod (IntKind.wrap IntKind.i64 (IntKind.wrap IntKind.i64 ((↑i : Int) + (↑m : Int)) - (1 : Int))) (↑m : Int))))) (w8 (b (Int.toNat (↑i : Int)))))) < (0 : Int)) then bif up (w8 (b (Int.toNat (Int.tmod (IntKind.wrap IntKind.i64 (IntKind.wrap IntKind.i64 ((↑i : Int) + (↑m : Int)) - (1 : Int))) (↑m : Int))))) then bif !up (w8 (b (Int.toNat (↑i : Int)))) then Res.out Ex.normal [AV.own (1 : Nat) m, AV.v (Value.int IntKind.i64 (↑m : Int)), AV.v (Value.int IntKind.i64 (IntKind.wrap IntKind.i64 (sm - (1 : Int)))), AV.v (Value.int IntKind.i64 (IntKind.wrap IntKind.i64 ((↑i : Int) + (1 : Int))))] [AB.row false n (8 : Nat) g t, AB.row true m (8 : Nat) (rowC b) (46 : TypeId)] else Res.out Ex.normal [AV.own (1 : Nat) m, AV.v (Value.int IntKind.i64 (↑m : Int)), AV.v (Value.int IntKind.i64 sm), AV.v (Value.int IntKind.i64 (IntKind.wrap IntKind.i64 ((↑i : Int) + (1 : Int))))] [AB.row false n (8 : Nat) g t, AB.row true m (8 : Nat) (rowC b) (46 : TypeId)] else Res.out Ex.normal [AV.own (1 : Nat) m, AV.v (Value.int IntKind.i64 (↑m : Int)), AV.v (Value.int IntKind.i64 sm), AV.v (Value.int IntKind.i64 (IntKind.wrap IntKind.i64 ((↑i : Int) + (1 : Int))))] [AB.row false n (8 : Nat) g t, AB.row true m (8 : Nat) (rowC b) (46 : TypeId)] else Res.out Ex.normal [AV.own (1 : Nat) m, AV.v (Value.int IntKind.i64 (↑m : Int)), AV.v (Value.int IntKind.i64 sm), AV.v (Value.int IntKind.i64 (IntKind.wrap IntKind.i64 ((↑i : Int) + (1 : Int))))] [AB.row false n (8 : Nat) g t, AB.row true m (8 : Nat) (rowC b) (46 : TypeId)] else bif decide (sg (w4 (cr (w8 (b (Int.toNat (Int.tmod (IntKind.wrap IntKind.i64 (IntKind.wrap IntKind.i64 ((↑i : Int) + (↑m : Int)) - (1 : Int))) (↑m : Int))))) (w8 (b (Int.toNat (↑i : Int)))))) < (0 : Int)) then bif up (w8 (b (Int.toNat (Int.tmod (IntKind.wrap IntKind.i64 (IntKind.wrap IntKind.i64 ((↑i : Int) + (↑m : Int)) - (1 : Int))) (↑m : Int))))) then bif !up (w8 (b (Int.toNat (↑i : Int)))) then Res.out Ex.normal [AV.own (1 : Nat) m, AV.v (Value.int IntKind.i64 (↑m : Int)), AV.v (Value.int IntKind.i64 (IntKind.wrap IntKind.i64 (sm - (1 : Int)))), AV.v (Value.int IntKind.i64 (IntKind.wrap IntKind.i64 ((↑i : Int) + (1 : Int))))] [AB.row false n (8 : Nat) g t, AB.row true m (8 : Nat) (rowC b) (46 : TypeId)] else Res.out Ex.normal [AV.own (1 : Nat) m, AV.v (Value.int IntKind.i64 (↑m : Int)), AV.v (Value.int IntKind.i64 sm), AV.v (Value.int IntKind.i64 (IntKind.wrap IntKind.i64 ((↑i : Int) + (1 : Int))))] [AB.row false n (8 : Nat) g t, AB.row true m (8 : Nat) (rowC b) (46 : TypeId)] else Res.out Ex.normal [AV.own (1 : Nat) m, AV.v (Value.int IntKind.i64 (↑m : Int)), AV.v (Value.int IntKind.i64 sm), AV.v (Value.int IntKind.i64 (IntKind.wrap IntKind.i64 ((↑i : Int) + (1 : Int))))] [AB.row false n (8 : Nat) g t, AB.row true m (8 : Nat) (rowC b) (46 : TypeId)] else Res.out Ex.normal [AV.own (1 : Nat) m, AV.v (Value.int IntKind.i64 (↑m : Int)), AV.v (Value.int IntKind.i64 sm), AV.v (Value.int IntKind.i64 (IntKind.wrap IntKind.i64 ((↑i : Int) + (1 : Int))))] [AB.row false n (8 : Nat) g t, AB.row true m (8 : Nat) (rowC b) (46 : TypeId)] else bif decide (sg (w4 (cr (w8 (b (Int.toNat (Int.tmod (IntKind.wrap IntKind.i64 (IntKind.wrap IntKind.i64 ((↑i : Int) + (↑m : Int)) - (1 : Int))) (↑m : Int))))) (w8 (b (Int.toNat (↑i : Int)))))) < (0 : Int)) then bif up (w8 (b (Int.toNat (Int.tmod (IntKind.wrap IntKind.i64 (IntKind.wrap IntKind.i64 ((↑i : Int) + (↑m : Int)) - (1 : Int))) (↑m : Int))))) then bif !up (w8 (b (Int.toNat (↑i : Int)))) then Res.out Ex.normal [AV.own (1 : Nat) m, AV.v (Value.int IntKind.i64 (↑m : Int)), AV.v (Value.int IntKind.i64 (IntKind.wrap IntKind.i64 (sm - (1 : Int)))), AV.v (Value.int IntKind.i64 (IntKind.wrap IntKind.i64 ((↑i : Int) + (1 : Int))))] [AB.row false n (8 : Nat) g t, AB.row true m (8 : Nat) (rowC b) (46 : TypeId)] else Res.out Ex.normal [AV.own (1 : Nat) m, AV.v (Value.int IntKind.i64 (↑m : Int)), AV.v (Value.int IntKind.i64 sm), AV.v (Value.int IntKind.i64 (IntKind.wrap IntKind.i64 ((↑i : Int) + (1 : Int))))] [AB.row false n (8 : Nat) g t, AB.row true m (8 : Nat) (rowC b) (46 : TypeId)] else Res.out Ex.normal [AV.own (1 : Nat) m, AV.v (Value.int IntKind.i64 (↑m : Int)), AV.v (Value.int IntKind.i64 sm), AV.v (Value.int IntKind.i64 (IntKind.wrap IntKind.i64 ((↑i : Int) + (1 : Int))))] [AB.row false n (8 : Nat) g t, AB.row true m (8 : Nat) (rowC b) (46 : TypeId)] else Res.out Ex.normal [AV.own (1 : Nat) m, AV.v (Value.int IntKind.i64 (↑m : Int)), AV.v (Value.int IntKind.i64 sm), AV.v (Value.int IntKind.i64 (IntKind.wrap IntKind.i64 ((↑i : Int) + (1 : Int))))] [AB.row false n (8 : Nat) g t, AB.row true m (8 : Nat) (rowC b) (46 : TypeId)]) else Res.out (Ex.exit (0 : Nat)) [AV.v (Value.int IntKind.i64 sm)] [AB.row false n (8 : Nat) g t] := by kernel_rfl

end Go.Proofs.Ytkbdppnlojlcdaa

/- PolyTurns: its loops. Conditions: what the callees return is left open. -/
namespace Go.Proofs.Ytkbdppnlojlcdaa
open Go.RowKit
set_option maxRecDepth 100000

def noneTo (bad : Nat → Bool) (n : Nat) : Bool := (List.range n).all fun j => !bad j
theorem noneTo_succ {bad : Nat → Bool} {n : Nat} (h : noneTo bad n = true) (h1 : bad n = false) : noneTo bad (n + 1) = true := by
  unfold noneTo at *
  rw [List.range_succ, List.all_append, h]
  simp [h1]
theorem noneTo_get {bad : Nat → Bool} {n j : Nat} (h : noneTo bad n = true) (hj : j < n) : bad j = false := by
  have := List.all_eq_true.1 h j (by simpa using hj)
  simpa using this
theorem noneTo_no {bad : Nat → Bool} {n j : Nat} (hj : j < n) (h1 : bad j = true) : noneTo bad n = false := by
  cases h : noneTo bad n with
  | false => rfl
  | true => rw [noneTo_get h hj] at h1; cases h1
def sumTo (con : Nat → Int) : Nat → Int
  | 0 => 0
  | n + 1 => sumTo con n + con n

def conT (e1 em u v : Bool) : Int := bif e1 && (!u && v) then 1 else bif em && (u && !v) then -1 else 0
theorem conT_range (e1 em u v : Bool) : conT e1 em u v = 1 ∨ conT e1 em u v = 0 ∨ conT e1 em u v = -1 := by
  cases e1 <;> cases em <;> cases u <;> cases v <;> decide
theorem sumTo_range {con : Nat → Int} (h : ∀ j, con j = 1 ∨ con j = 0 ∨ con j = -1) : ∀ n : Nat, -(n : Int) ≤ sumTo con n ∧ sumTo con n ≤ n
  | 0 => by simp [sumTo]
  | n + 1 => by
    have := sumTo_range h n
    have := h n
    simp only [sumTo]
    omega
def pvI (i m : Nat) : Nat := (i + m - 1) % m
abbrev isZ (f : Nat → Int) : Bool := (f 0 == 0 && (f 1 == 0 && (f 2 == 0 && (f 3 == 0 && (f 4 == 0 && (f 5 == 0 && (f 6 == 0 && (f 7 == 0 && true)))))))) && true

section
variable (up : (Nat → Int) → Bool) (al cr : (Nat → Int) → (Nat → Int) → Nat → Int) (sg : (Nat → Int) → Int) (b : Nat → Nat → Int) (bf : Nat → Int) (m : Nat)
def badI (i : Nat) : Bool := isZ (b i) || (bf i == 0 && decide (sg (w4 (al (w8 (b (pvI i m))) (w8 (b i)))) < 0))
def conI (i : Nat) : Int := conT (bf i == 1) (bf i == -1) (up (w8 (b (pvI i m)))) (up (w8 (b i)))
def badS (i : Nat) : Bool := sg (w4 (cr (w8 (b (pvI i m))) (w8 (b i)))) == 0 && decide (sg (w4 (al (w8 (b (pvI i m))) (w8 (b i)))) ≤ 0)
def conS (i : Nat) : Int := conT (decide (sg (w4 (cr (w8 (b (pvI i m))) (w8 (b i)))) > 0)) (decide (sg (w4 (cr (w8 (b (pvI i m))) (w8 (b i)))) < 0)) (up (w8 (b (pvI i m)))) (up (w8 (b i)))
end
def outT (slot : Nat) (bad : Nat → Bool) (con : Nat → Int) (m : Nat) (H : List AB) (K : Kont) : Res := cond (noneTo bad m) (K .normal (mkT 0 82 [(slot, .v (i64 (sumTo con m)))]) H) (K .ret (mkT 0 82 [(2, .v (i64 0)), (3, .v (.bool false))]) H)
theorem outT_no {slot : Nat} {bad : Nat → Bool} {con : Nat → Int} {m : Nat} {H : List AB} {K : Kont} {Q : Ex → List AV → List AB → Prop} (h : (outT slot bad con m H K).ok Q) {i : Nat} (hi : i < m) (hb : bad i = true) : (K .ret (mkT 0 82 [(2, .v (i64 0)), (3, .v (.bool false))]) H).ok Q := by
  rw [outT, noneTo_no hi hb] at h
  exact h
theorem outT_yes {slot : Nat} {bad : Nat → Bool} {con : Nat → Int} {m : Nat} {H : List AB} {K : Kont} {Q : Ex → List AV → List AB → Prop} (h : (outT slot bad con m H K).ok Q) (hb : noneTo bad m = true) : (K .normal (mkT 0 82 [(slot, .v (i64 (sumTo con m)))]) H).ok Q := by
  rw [outT, hb] at h
  exact h
theorem wr_in {x : Int} (h : -9223372036854775808 ≤ x ∧ x ≤ 9223372036854775807) : IntKind.wrap IntKind.i64 x = x := w64_in h.1 h.2

theorem sumTI {up : (Nat → Int) → Bool} {al : (Nat → Int) → (Nat → Int) → Nat → Int} {sg : (Nat → Int) → Int} {ob : Int → Bool} (hΓ : GamOk Try.prog (gmTI up al sg ob)) (hob : ∀ p q k, ob (al p q k) = true) (n : Nat) (g : Nat → List Value) (t : TypeId) (m : Nat) (b : Nat → Nat → Int) (bf : Nat → Int) (hm : m ≤ 2 ^ 38) :
    SumOk Try.prog 1 (.block 0 (.loop (loopAt 0 Try.f23))) (atS 82 (lvTI .normal) 1 [.own 1 m, .v (i64 (sumTo (conI up b bf m) 0)), .own 2 m, .v (i64 m), .v (i64 (0 : Nat))] [.row false n 8 g t, .row true m 8 (rowC b) 46, .row true m 1 (rowI bf) 3] (outT 5 (badI al sg b bf m) (conI up b bf m) m [.row false n 8 g t])) := by
  refine for_at hΓ (n := 100) (m := 1) (lv := lvTI) (fun i => [.own 1 m, .v (i64 (sumTo (conI up b bf m) i)), .own 2 m, .v (i64 m), .v (i64 i)]) (fun _ => [.row false n 8 g t, .row true m 8 (rowC b) 46, .row true m 1 (rowI bf) 3]) (fun i => noneTo (badI al sg b bf m) i = true) m (fun _ => noLam) (lv3_ris rfl rfl rfl) (Nat.le_refl _) rfl fun K Q hk i hi him => ⟨noLam_ok _ _ _, ?_⟩
  rw [rndTI]
  have hr := sumTo_range (con := conI up b bf m) (fun j => conT_range _ _ _ _) i
  refine good_cond (fun h1 => ?_) fun h1 => ?_
  · have h1 := of_decide_eq_true h1
    have h1' : i < m := by omega
    have hml : (i + m - 1) % m < m := Nat.mod_lt _ (by omega)
    have hsm : ∀ c, conI up b bf m i = c → sumTo (conI up b bf m) (i + 1) = sumTo (conI up b bf m) i + c := fun c h => by rw [← h]; rfl
    have fin : ∀ c, badI al sg b bf m i = false → conI up b bf m i = c → GoodQ (.out .normal [.own 1 m, .v (.int .i64 (sumTo (conI up b bf m) i + c)), .own 2 m, .v (.int .i64 (m : Int)), .v (.int .i64 ((i : Int) + 1))] [.row false n 8 g t, .row true m 8 (rowC b) 46, .row true m 1 (rowI bf) 3]) (RoundV 82 0 lvTI (fun i => [.own 1 m, .v (i64 (sumTo (conI up b bf m) i)), .own 2 m, .v (i64 m), .v (i64 i)]) (fun _ => [.row false n 8 g t, .row true m 8 (rowC b) 46, .row true m 1 (rowI bf) 3]) (fun s' => s' = i + 1 ∧ i < m ∧ noneTo (badI al sg b bf m) (i + 1) = true) K Q) := by
      intro c h2 h3
      refine good_out ⟨i + 1, ⟨rfl, h1', noneTo_succ hi h2⟩, ?_, Hsim.refl _⟩
      simp only [hsm c h3]
      rfl
    have bad : badI al sg b bf m i = true → GoodQ (.out .ret [.v (.int .i64 0), .v (.bool false)] [.row false n 8 g t]) (RoundV 82 0 lvTI (fun i => [.own 1 m, .v (i64 (sumTo (conI up b bf m) i)), .own 2 m, .v (i64 m), .v (i64 i)]) (fun _ => [.row false n 8 g t, .row true m 8 (rowC b) 46, .row true m 1 (rowI bf) 3]) (fun s' => s' = i + 1 ∧ i < m ∧ noneTo (badI al sg b bf m) (i + 1) = true) K Q) :=
      fun h2 => good_out ⟨_, Hsim.refl _, outT_no hk h1' h2⟩
    rw [prev_at h1' hm, Int.toNat_natCast, Int.toNat_natCast]
    rw [wr_in (x := (i : Int) + 1) (by omega), wr_in (x := sumTo (conI up b bf m) i + 1) (by omega), wr_in (x := sumTo (conI up b bf m) i - 1) (by omega)]
    have hbd : badI al sg b bf m i = (((b i 0 == 0 && (b i 1 == 0 && (b i 2 == 0 && (b i 3 == 0 && (b i 4 == 0 && (b i 5 == 0 && (b i 6 == 0 && (b i 7 == 0 && true)))))))) && true) || (bf i == 0 && decide (sg (w4 (al (w8 (b ((i + m - 1) % m))) (w8 (b i)))) < 0))) := rfl
    have hcn : conI up b bf m i = conT (bf i == 1) (bf i == -1) (up (w8 (b ((i + m - 1) % m)))) (up (w8 (b i))) := rfl
    rw [Int.sub_eq_add_neg (a := sumTo (conI up b bf m) i) (b := 1)]
    have fin0 := fin 0
    rw [Int.add_zero] at fin0
    have finp := fin 1
    have finm := fin (-1)
    clear fin
    rw [hbd] at bad
    rw [hbd, hcn] at fin0 finp finm
    clear hbd hcn hsm
    refine good_needs (by simp only [ob_cons, ob_nil, and_true, decide_eq_true_eq, Bool.not_eq_true', decide_eq_false_iff_not]; omega) ?_
    generalize hz : ((b i 0 == 0 && (b i 1 == 0 && (b i 2 == 0 && (b i 3 == 0 && (b i 4 == 0 && (b i 5 == 0 && (b i 6 == 0 && (b i 7 == 0 && true)))))))) && true) = z at *
    generalize decide (sg (w4 (al (w8 (b ((i + m - 1) % m))) (w8 (b i)))) < 0) = ng at *
    generalize up (w8 (b ((i + m - 1) % m))) = u at *
    generalize up (w8 (b i)) = v at *
    generalize (bf i == 0) = e0 at *
    generalize (bf i == 1) = e1 at *
    generalize (bf i == -1) = em at *
    clear hz
    cases z <;> cases e0 <;> cases ng <;> cases e1 <;> cases em <;> cases u <;> cases v <;>
      first
      | exact bad rfl
      | exact fin0 rfl rfl
      | exact finp rfl rfl
      | exact finm rfl rfl
      | exact good_needs (by simp only [hob, ob_cons, ob_nil, and_self]) (bad rfl)
      | exact good_needs (by simp only [hob, ob_cons, ob_nil, and_self]) (fin0 rfl rfl)
      | exact good_needs (by simp only [hob, ob_cons, ob_nil, and_self]) (finp rfl rfl)
      | exact good_needs (by simp only [hob, ob_cons, ob_nil, and_self]) (finm rfl rfl)
  · have h1 := of_decide_eq_false h1
    have : i = m := by omega
    subst this
    refine good_out ⟨_, Hsim.refl _, ?_⟩
    rw [if_pos rfl]
    exact outT_yes hk hi

theorem sumTS {up : (Nat → Int) → Bool} {cr : (Nat → Int) → (Nat → Int) → Nat → Int} {mi re : (Nat → Int) → Nat → Int} {ti : (Nat → Int) → (Nat → Int) → Nat → Int} {sg : (Nat → Int) → Int} {ob : Int → Bool} (hΓ : GamOk Try.prog (gmTS up cr mi re ti sg ob)) (hob : ∀ p q k, ob (cr p q k) = true) (hob2 : ∀ p k, ob (re p k) = true) (n : Nat) (g : Nat → List Value) (t : TypeId) (m : Nat) (b : Nat → Nat → Int) (hm : m ≤ 2 ^ 38) :
    SumOk Try.prog 1 (.block 0 (.loop (loopAt 0 Try.f22))) (atS 82 (lvTS .normal) 1 [.own 1 m, .v (i64 m), .v (i64 (sumTo (conS up cr sg b m) 0)), .v (i64 (0 : Nat))] [.row false n 8 g t, .row true m 8 (rowC b) 46] (outT 6 (badS (fun p q => re (w8 (ti (w8 (mi p)) q))) cr sg b m) (conS up cr sg b m) m [.row false n 8 g t])) := by
  refine for_at hΓ (n := 100) (m := 1) (lv := lvTS) (fun i => [.own 1 m, .v (i64 m), .v (i64 (sumTo (conS up cr sg b m) i)), .v (i64 i)]) (fun _ => [.row false n 8 g t, .row true m 8 (rowC b) 46]) (fun i => noneTo (badS (fun p q => re (w8 (ti (w8 (mi p)) q))) cr sg b m) i = true) m (fun _ => noLam) (lv3_ris rfl rfl rfl) (Nat.le_refl _) rfl fun K Q hk i hi him => ⟨noLam_ok _ _ _, ?_⟩
  rw [rndTS]
  have hr := sumTo_range (con := conS up cr sg b m) (fun j => conT_range _ _ _ _) i
  refine good_cond (fun h1 => ?_) fun h1 => ?_
  · have h1 := of_decide_eq_true h1
    have h1' : i < m := by omega
    have hml : (i + m - 1) % m < m := Nat.mod_lt _ (by omega)
    have hsm : ∀ c, conS up cr sg b m i = c → sumTo (conS up cr sg b m) (i + 1) = sumTo (conS up cr sg b m) i + c := fun c h => by rw [← h]; rfl
    have fin : ∀ c, badS (fun p q => re (w8 (ti (w8 (mi p)) q))) cr sg b m i = false → conS up cr sg b m i = c → GoodQ (.out .normal [.own 1 m, .v (.int .i64 (m : Int)), .v (.int .i64 (sumTo (conS up cr sg b m) i + c)), .v (.int .i64 ((i : Int) + 1))] [.row false n 8 g t, .row true m 8 (rowC b) 46]) (RoundV 82 0 lvTS (fun i => [.own 1 m, .v (i64 m), .v (i64 (sumTo (conS up cr sg b m) i)), .v (i64 i)]) (fun _ => [.row false n 8 g t, .row true m 8 (rowC b) 46]) (fun s' => s' = i + 1 ∧ i < m ∧ noneTo (badS (fun p q => re (w8 (ti (w8 (mi p)) q))) cr sg b m) (i + 1) = true) K Q) := by
      intro c h2 h3
      refine good_out ⟨i + 1, ⟨rfl, h1', noneTo_succ hi h2⟩, ?_, Hsim.refl _⟩
      simp only [hsm c h3]
      rfl
    have bad : badS (fun p q => re (w8 (ti (w8 (mi p)) q))) cr sg b m i = true → GoodQ (.out .ret [.v (.int .i64 0), .v (.bool false)] [.row false n 8 g t]) (RoundV 82 0 lvTS (fun i => [.own 1 m, .v (i64 m), .v (i64 (sumTo (conS up cr sg b m) i)), .v (i64 i)]) (fun _ => [.row false n 8 g t, .row true m 8 (rowC b) 46]) (fun s' => s' = i + 1 ∧ i < m ∧ noneTo (badS (fun p q => re (w8 (ti (w8 (mi p)) q))) cr sg b m) (i + 1) = true) K Q) :=
      fun h2 => good_out ⟨_, Hsim.refl _, outT_no hk h1' h2⟩
    rw [prev_at h1' hm, Int.toNat_natCast, Int.toNat_natCast]
    rw [wr_in (x := (i : Int) + 1) (by omega), wr_in (x := sumTo (conS up cr sg b m) i + 1) (by omega), wr_in (x := sumTo (conS up cr sg b m) i - 1) (by omega)]
    have hbd : badS (fun p q => re (w8 (ti (w8 (mi p)) q))) cr sg b m i = (sg (w4 (cr (w8 (b ((i + m - 1) % m))) (w8 (b i)))) == 0 && decide (sg (w4 (re (w8 (ti (w8 (mi (w8 (b ((i + m - 1) % m))))) (w8 (b i)))))) ≤ 0)) := rfl
    have hcn : conS up cr sg b m i = conT (decide (sg (w4 (cr (w8 (b ((i + m - 1) % m))) (w8 (b i)))) > 0)) (decide (sg (w4 (cr (w8 (b ((i + m - 1) % m))) (w8 (b i)))) < 0)) (up (w8 (b ((i + m - 1) % m)))) (up (w8 (b i))) := rfl
    rw [Int.sub_eq_add_neg (a := sumTo (conS up cr sg b m) i) (b := 1)]
    have fin0 := fin 0
    rw [Int.add_zero] at fin0
    have finp := fin 1
    have finm := fin (-1)
    clear fin
    rw [hbd] at bad
    rw [hbd, hcn] at fin0 finp finm
    clear hbd hcn hsm
    refine good_needs (by simp only [ob_cons, ob_nil, hob, hob2, and_true, true_and, decide_eq_true_eq, Bool.not_eq_true', decide_eq_false_iff_not]; omega) ?_
    generalize decide (sg (w4 (re (w8 (ti (w8 (mi (w8 (b ((i + m - 1) % m))))) (w8 (b i)))))) ≤ 0) = ng at *
    generalize up (w8 (b ((i + m - 1) % m))) = u at *
    generalize up (w8 (b i)) = v at *
    generalize (sg (w4 (cr (w8 (b ((i + m - 1) % m))) (w8 (b i)))) == 0) = e0 at *
    generalize decide (sg (w4 (cr (w8 (b ((i + m - 1) % m))) (w8 (b i)))) > 0) = e1 at *
    generalize decide (sg (w4 (cr (w8 (b ((i + m - 1) % m))) (w8 (b i)))) < 0) = em at *
    cases e0 <;> cases ng <;> cases e1 <;> cases em <;> cases u <;> cases v <;>
      first
      | exact bad rfl
      | exact fin0 rfl rfl
      | exact finp rfl rfl
      | exact finm rfl rfl
  · have h1 := of_decide_eq_false h1
    have : i = m := by omega
    subst this
    refine good_out ⟨_, Hsim.refl _, ?_⟩
    rw [if_pos rfl]
    exact outT_yes hk hi


end Go.Proofs.Ytkbdppnlojlcdaa

/- Plain algebra: surds make a ring without zero divisors; what is no product of points. No program, no conditions. -/
namespace Go.Proofs.Ytkbdppnlojlcdaa
open Go.RowKit

theorem sq2_zero : ∀ (n : Nat) (x y : Int), x.natAbs ≤ n → x * x = 2 * (y * y) → x = 0 ∧ y = 0 := by
  have zero : ∀ y : Int, 0 = 2 * (y * y) → y = 0 := fun y h => by
    have : y * y = 0 := by omega
    rcases Int.mul_eq_zero.1 this with h | h <;> exact h
  intro n
  induction n with
  | zero =>
    intro x y hx h
    have : x = 0 := by omega
    subst this
    exact ⟨rfl, zero y (by simpa using h)⟩
  | succ n ih =>
    intro x y hx h
    rcases (by omega : x % 2 = 0 ∨ x % 2 = 1) with h1 | h1
    · have hx2 : x = 2 * (x / 2) := by omega
      generalize x / 2 = k at hx2
      subst hx2
      have h2 : y * y = 2 * (k * k) := by grind
      rcases (by omega : y % 2 = 0 ∨ y % 2 = 1) with h3 | h3
      · have hy2 : y = 2 * (y / 2) := by omega
        generalize y / 2 = l at hy2
        subst hy2
        have h4 : k * k = 2 * (l * l) := by grind
        by_cases hk : k = 0
        · subst hk
          have := zero l (by simpa using h4)
          subst this
          exact ⟨rfl, rfl⟩
        · have := ih k l (by omega) h4
          omega
      · exfalso
        have hy : y = 2 * (y / 2) + 1 := by omega
        generalize y / 2 = l at hy
        subst hy
        have : (2 * l + 1) * (2 * l + 1) = 2 * (2 * (l * l) + 2 * l) + 1 := by grind
        omega
    · exfalso
      have hx2 : x = 2 * (x / 2) + 1 := by omega
      generalize x / 2 = k at hx2
      subst hx2
      have : (2 * k + 1) * (2 * k + 1) = 2 * (2 * (k * k) + 2 * k) + 1 := by grind
      omega
theorem root2 {x y : Int} (h : x * x = 2 * (y * y)) : x = 0 ∧ y = 0 := sq2_zero _ x y (Nat.le_refl _) h
theorem l_dom {x y u v : Int} (h1 : x * u + 2 * (y * v) = 0) (h2 : x * v + y * u = 0) : (x = 0 ∧ y = 0) ∨ (u = 0 ∧ v = 0) := by
  have e1 : (x * x - 2 * (y * y)) * u = 0 := by
    have : (x * x - 2 * (y * y)) * u = x * (x * u + 2 * (y * v)) - 2 * y * (x * v + y * u) := by grind
    rw [this, h1, h2]; simp
  have e2 : (x * x - 2 * (y * y)) * v = 0 := by
    have : (x * x - 2 * (y * y)) * v = x * (x * v + y * u) - y * (x * u + 2 * (y * v)) := by grind
    rw [this, h1, h2]; simp
  by_cases hz : x * x - 2 * (y * y) = 0
  · exact .inl (root2 (by omega))
  · rcases Int.mul_eq_zero.1 e1 with h | h
    · exact (hz h).elim
    · rcases Int.mul_eq_zero.1 e2 with h' | h'
      · exact (hz h').elim
      · exact .inr ⟨h, h'⟩
theorem mod3 (x : Int) : x % 3 = 0 ∧ (x * x) % 3 = 0 ∨ x % 3 ≠ 0 ∧ (x * x) % 3 = 1 := by
  rcases (by omega : x % 3 = 0 ∨ x % 3 = 1 ∨ x % 3 = 2) with h | h | h
  · left
    have e : x = 3 * (x / 3) := by omega
    generalize x / 3 = k at e
    subst e
    refine ⟨h, ?_⟩
    have : 3 * k * (3 * k) = 3 * (3 * (k * k)) := by grind
    omega
  · right
    have e : x = 3 * (x / 3) + 1 := by omega
    generalize x / 3 = k at e
    subst e
    refine ⟨by omega, ?_⟩
    have : (3 * k + 1) * (3 * k + 1) = 3 * (3 * (k * k) + 2 * k) + 1 := by grind
    omega
  · right
    have e : x = 3 * (x / 3) + 2 := by omega
    generalize x / 3 = k at e
    subst e
    refine ⟨by omega, ?_⟩
    have : (3 * k + 2) * (3 * k + 2) = 3 * (3 * (k * k) + 4 * k + 1) + 1 := by grind
    omega
theorem prime3 {x y z : Int} (h : x * y = 3 * z) : x % 3 = 0 ∨ y % 3 = 0 := by
  rcases (by omega : x % 3 = 0 ∨ x % 3 = 1 ∨ x % 3 = 2) with h1 | h1 | h1
  · exact .inl h1
  all_goals rcases (by omega : y % 3 = 0 ∨ y % 3 = 1 ∨ y % 3 = 2) with h2 | h2 | h2
  · exact .inr h2
  · exfalso
    have e : x = 3 * (x / 3) + 1 := by omega
    have f : y = 3 * (y / 3) + 1 := by omega
    generalize x / 3 = k at e; generalize y / 3 = l at f
    subst e f
    have : (3 * k + 1) * (3 * l + 1) = 3 * (3 * (k * l) + k + l) + 1 := by grind
    omega
  · exfalso
    have e : x = 3 * (x / 3) + 1 := by omega
    have f : y = 3 * (y / 3) + 2 := by omega
    generalize x / 3 = k at e; generalize y / 3 = l at f
    subst e f
    have : (3 * k + 1) * (3 * l + 2) = 3 * (3 * (k * l) + 2 * k + l) + 2 := by grind
    omega
  · exact .inr h2
  · exfalso
    have e : x = 3 * (x / 3) + 2 := by omega
    have f : y = 3 * (y / 3) + 1 := by omega
    generalize x / 3 = k at e; generalize y / 3 = l at f
    subst e f
    have : (3 * k + 2) * (3 * l + 1) = 3 * (3 * (k * l) + k + 2 * l) + 2 := by grind
    omega
  · exfalso
    have e : x = 3 * (x / 3) + 2 := by omega
    have f : y = 3 * (y / 3) + 2 := by omega
    generalize x / 3 = k at e; generalize y / 3 = l at f
    subst e f
    have : (3 * k + 2) * (3 * l + 2) = 3 * (3 * (k * l) + 2 * k + 2 * l + 1) + 1 := by grind
    omega
theorem k_step {a b c d : Int} (h1 : a * a + 2 * (b * b) = 3 * (c * c + 2 * (d * d))) (h2 : a * b = 3 * (c * d)) : a % 3 = 0 ∧ b % 3 = 0 := by
  have ha := mod3 a
  have hb := mod3 b
  have hp := prime3 h2
  omega
theorem sq_neg (x : Int) : 0 ≤ x * x := by
  rcases Int.le_total 0 x with h | h
  · exact Int.mul_nonneg h h
  · have := Int.mul_nonneg (a := -x) (b := -x) (by omega) (by omega)
    grind
theorem sq_zero {x : Int} (h : x * x = 0) : x = 0 := by rcases Int.mul_eq_zero.1 h with h | h <;> exact h
theorem k_zero : ∀ (n : Nat) (a b c d : Int), a.natAbs + b.natAbs ≤ n → a * a + 2 * (b * b) = 3 * (c * c + 2 * (d * d)) → a * b = 3 * (c * d) → a = 0 ∧ b = 0 ∧ c = 0 ∧ d = 0 := by
  intro n
  have fin : ∀ c d : Int, (0 : Int) = 3 * (c * c + 2 * (d * d)) → c = 0 ∧ d = 0 := fun c d h => by
    have h1 := sq_neg c
    have h2 := sq_neg d
    exact ⟨sq_zero (by omega), sq_zero (by omega)⟩
  induction n with
  | zero =>
    intro a b c d hn h1 h2
    have : a = 0 := by omega
    have : b = 0 := by omega
    subst a b
    have := fin c d (by simpa using h1)
    exact ⟨rfl, rfl, this.1, this.2⟩
  | succ n ih =>
    intro a b c d hn h1 h2
    by_cases hz : a = 0 ∧ b = 0
    · obtain ⟨rfl, rfl⟩ := hz
      have := fin c d (by simpa using h1)
      exact ⟨rfl, rfl, this.1, this.2⟩
    · obtain ⟨ha, hb⟩ := k_step h1 h2
      have ea : a = 3 * (a / 3) := by omega
      have eb : b = 3 * (b / 3) := by omega
      generalize a / 3 = a' at ea
      generalize b / 3 = b' at eb
      subst ea eb
      have g1 : c * c + 2 * (d * d) = 3 * (a' * a' + 2 * (b' * b')) := by grind
      have g2 : c * d = 3 * (a' * b') := by grind
      obtain ⟨hc, hd⟩ := k_step g1 g2
      have ec : c = 3 * (c / 3) := by omega
      have ed : d = 3 * (d / 3) := by omega
      generalize c / 3 = c' at ec
      generalize d / 3 = d' at ed
      subst ec ed
      have := ih a' b' c' d' (by omega) (by grind) (by grind)
      omega
theorem root3 {a b c d : Int} (h1 : a * a + 2 * (b * b) - 3 * (c * c) - 6 * (d * d) = 0) (h2 : 2 * (a * b) - 6 * (c * d) = 0) : a = 0 ∧ b = 0 ∧ c = 0 ∧ d = 0 :=
  k_zero _ a b c d (Nat.le_refl _) (by omega) (by omega)
/-- Surds: a + b r2 + c r3 + d r6. -/
structure Sd where
  a : Int
  b : Int
  c : Int
  d : Int
namespace Sd
theorem ext {x y : Sd} (h0 : x.a = y.a) (h1 : x.b = y.b) (h2 : x.c = y.c) (h3 : x.d = y.d) : x = y := by cases x; cases y; simp_all
instance : Add Sd := ⟨fun s t => ⟨s.a + t.a, s.b + t.b, s.c + t.c, s.d + t.d⟩⟩
instance : Sub Sd := ⟨fun s t => ⟨s.a - t.a, s.b - t.b, s.c - t.c, s.d - t.d⟩⟩
instance : Neg Sd := ⟨fun s => ⟨-s.a, -s.b, -s.c, -s.d⟩⟩
instance : Mul Sd := ⟨fun s t => ⟨s.a * t.a + 2 * (s.b * t.b) + 3 * (s.c * t.c) + 6 * (s.d * t.d), s.a * t.b + s.b * t.a + 3 * (s.c * t.d + s.d * t.c), s.a * t.c + s.c * t.a + 2 * (s.b * t.d + s.d * t.b), s.a * t.d + s.d * t.a + s.b * t.c + s.c * t.b⟩⟩
instance instNC : NatCast Sd := ⟨fun n => ⟨n, 0, 0, 0⟩⟩
instance instOf (n : Nat) : OfNat Sd n := ⟨⟨n, 0, 0, 0⟩⟩
instance : IntCast Sd := ⟨fun n => ⟨n, 0, 0, 0⟩⟩
def pw (s : Sd) : Nat → Sd
  | 0 => 1
  | n + 1 => pw s n * s
instance : HPow Sd Nat Sd := ⟨pw⟩
instance instNS : SMul Nat Sd := ⟨fun n s => (n : Sd) * s⟩
instance instZS : SMul Int Sd := ⟨fun n s => (n : Sd) * s⟩
@[simp] theorem add_a (s t : Sd) : (s + t).a = s.a + t.a := rfl
@[simp] theorem add_b (s t : Sd) : (s + t).b = s.b + t.b := rfl
@[simp] theorem add_c (s t : Sd) : (s + t).c = s.c + t.c := rfl
@[simp] theorem add_d (s t : Sd) : (s + t).d = s.d + t.d := rfl
@[simp] theorem sub_a (s t : Sd) : (s - t).a = s.a - t.a := rfl
@[simp] theorem sub_b (s t : Sd) : (s - t).b = s.b - t.b := rfl
@[simp] theorem sub_c (s t : Sd) : (s - t).c = s.c - t.c := rfl
@[simp] theorem sub_d (s t : Sd) : (s - t).d = s.d - t.d := rfl
@[simp] theorem neg_a (s : Sd) : (-s).a = -s.a := rfl
@[simp] theorem neg_b (s : Sd) : (-s).b = -s.b := rfl
@[simp] theorem neg_c (s : Sd) : (-s).c = -s.c := rfl
@[simp] theorem neg_d (s : Sd) : (-s).d = -s.d := rfl
@[simp] theorem mul_a (s t : Sd) : (s * t).a = s.a * t.a + 2 * (s.b * t.b) + 3 * (s.c * t.c) + 6 * (s.d * t.d) := rfl
@[simp] theorem mul_b (s t : Sd) : (s * t).b = s.a * t.b + s.b * t.a + 3 * (s.c * t.d + s.d * t.c) := rfl
@[simp] theorem mul_c (s t : Sd) : (s * t).c = s.a * t.c + s.c * t.a + 2 * (s.b * t.d + s.d * t.b) := rfl
@[simp] theorem mul_d (s t : Sd) : (s * t).d = s.a * t.d + s.d * t.a + s.b * t.c + s.c * t.b := rfl
@[simp] theorem of_a (n : Nat) : (OfNat.ofNat n : Sd).a = n := rfl
@[simp] theorem of_b (n : Nat) : (OfNat.ofNat n : Sd).b = 0 := rfl
@[simp] theorem of_c (n : Nat) : (OfNat.ofNat n : Sd).c = 0 := rfl
@[simp] theorem of_d (n : Nat) : (OfNat.ofNat n : Sd).d = 0 := rfl
@[simp] theorem z_a : (0 : Sd).a = 0 := rfl
@[simp] theorem z_b : (0 : Sd).b = 0 := rfl
@[simp] theorem z_c : (0 : Sd).c = 0 := rfl
@[simp] theorem z_d : (0 : Sd).d = 0 := rfl
@[simp] theorem o_a : (1 : Sd).a = 1 := rfl
@[simp] theorem o_b : (1 : Sd).b = 0 := rfl
@[simp] theorem o_c : (1 : Sd).c = 0 := rfl
@[simp] theorem o_d : (1 : Sd).d = 0 := rfl
@[simp] theorem f_a : (4 : Sd).a = 4 := rfl
@[simp] theorem f_b : (4 : Sd).b = 0 := rfl
@[simp] theorem f_c : (4 : Sd).c = 0 := rfl
@[simp] theorem f_d : (4 : Sd).d = 0 := rfl
@[simp] theorem nc_a (n : Nat) : (n : Sd).a = n := rfl
@[simp] theorem nc_b (n : Nat) : (n : Sd).b = 0 := rfl
@[simp] theorem nc_c (n : Nat) : (n : Sd).c = 0 := rfl
@[simp] theorem nc_d (n : Nat) : (n : Sd).d = 0 := rfl
@[simp] theorem ic_a (n : Int) : (n : Sd).a = n := rfl
@[simp] theorem ic_b (n : Int) : (n : Sd).b = 0 := rfl
@[simp] theorem ic_c (n : Int) : (n : Sd).c = 0 := rfl
@[simp] theorem ic_d (n : Int) : (n : Sd).d = 0 := rfl
theorem zs (i : Int) (s : Sd) : i • s = (i : Sd) * s := rfl
/-- The class of a ring that is there, at another type. -/
abbrev ringAt {c : Type → Type} (_ : c Dyadic) (α : Type) : Type := c α
instance : ringAt Dyadic.instCommRing Sd where
  natCast := instNC
  ofNat := instOf
  nsmul := instNS
  zsmul := instZS
  npow := inferInstance
  add_zero s := by apply ext <;> simp
  add_comm s t := by apply ext <;> simp <;> grind
  add_assoc s t u := by apply ext <;> simp <;> grind
  mul_assoc s t u := by apply ext <;> simp <;> grind
  mul_one s := by apply ext <;> simp
  one_mul s := by apply ext <;> simp
  left_distrib s t u := by apply ext <;> simp <;> grind
  right_distrib s t u := by apply ext <;> simp <;> grind
  zero_mul s := by apply ext <;> simp
  mul_zero s := by apply ext <;> simp
  pow_zero s := rfl
  pow_succ s n := rfl
  ofNat_succ n := by apply ext <;> simp
  neg_add_cancel s := by apply ext <;> simp <;> grind
  sub_eq_add_neg s t := by apply ext <;> simp <;> grind
  neg_zsmul i s := by simp only [zs]; apply ext <;> simp <;> grind
  zsmul_natCast_eq_nsmul n s := by apply ext <;> rfl
  intCast_neg i := by apply ext <;> simp
  mul_comm s t := by apply ext <;> simp <;> grind
theorem dom {s t : Sd} (h : s * t = 0) : s = 0 ∨ t = 0 := by
  have h1 : (s * t).a = 0 := by rw [h]; rfl
  have h2 : (s * t).b = 0 := by rw [h]; rfl
  have h3 : (s * t).c = 0 := by rw [h]; rfl
  have h4 : (s * t).d = 0 := by rw [h]; rfl
  obtain ⟨A, B, C, D⟩ := s
  obtain ⟨E, F, G, H⟩ := t
  simp at h1 h2 h3 h4
  have e1 : (A * A + 2 * (B * B) - 3 * (C * C) - 6 * (D * D)) * E + 2 * ((2 * (A * B) - 6 * (C * D)) * F) = 0 := by grind
  have e2 : (A * A + 2 * (B * B) - 3 * (C * C) - 6 * (D * D)) * F + (2 * (A * B) - 6 * (C * D)) * E = 0 := by grind
  have e3 : (A * A + 2 * (B * B) - 3 * (C * C) - 6 * (D * D)) * G + 2 * ((2 * (A * B) - 6 * (C * D)) * H) = 0 := by grind
  have e4 : (A * A + 2 * (B * B) - 3 * (C * C) - 6 * (D * D)) * H + (2 * (A * B) - 6 * (C * D)) * G = 0 := by grind
  rcases l_dom e1 e2 with ⟨g1, g2⟩ | ⟨rfl, rfl⟩
  · obtain ⟨rfl, rfl, rfl, rfl⟩ := root3 g1 g2
    exact .inl rfl
  · rcases l_dom e3 e4 with ⟨g1, g2⟩ | ⟨rfl, rfl⟩
    · obtain ⟨rfl, rfl, rfl, rfl⟩ := root3 g1 g2
      exact .inl rfl
    · exact .inr rfl
theorem squares {u v : Sd} (h : u * u + v * v = 0) : u = 0 ∧ v = 0 := by
  have h1 : (u * u + v * v).a = 0 := by rw [h]; rfl
  obtain ⟨A, B, C, D⟩ := u
  obtain ⟨E, F, G, H⟩ := v
  simp at h1
  have := sq_neg A; have := sq_neg B; have := sq_neg C; have := sq_neg D
  have := sq_neg E; have := sq_neg F; have := sq_neg G; have := sq_neg H
  have a1 : A = 0 := sq_zero (by omega)
  have a2 : B = 0 := sq_zero (by omega)
  have a3 : C = 0 := sq_zero (by omega)
  have a4 : D = 0 := sq_zero (by omega)
  have a5 : E = 0 := sq_zero (by omega)
  have a6 : F = 0 := sq_zero (by omega)
  have a7 : G = 0 := sq_zero (by omega)
  have a8 : H = 0 := sq_zero (by omega)
  subst a1 a2 a3 a4 a5 a6 a7 a8
  exact ⟨rfl, rfl⟩
theorem plane {s t u v : Sd} (h1 : s * u + t * v = 0) (h2 : s * v - t * u = 0) : (u = 0 ∧ v = 0) ∨ (s = 0 ∧ t = 0) := by
  have e1 : s * (u * u + v * v) = 0 := by grind
  have e2 : t * (u * u + v * v) = 0 := by grind
  rcases dom e1 with h | h
  · rcases dom e2 with h' | h'
    · exact .inr ⟨h, h'⟩
    · exact .inl (squares h')
  · exact .inl (squares h)
end Sd

def RE (a : Nat → Int) : Sd := ⟨reZ a 0, reZ a 1, reZ a 2, reZ a 3⟩
def IM (a : Nat → Int) : Sd := ⟨imZ a 0, imZ a 1, imZ a 2, imZ a 3⟩
theorem re_cross (a b : Nat → Int) : RE a * RE b + IM a * IM b = 4 * RE (mulZ (mirZ a) b) := by
  apply Sd.ext <;> simp [RE, IM] <;> simp only [reZ, imZ, mulZ, mirZ, convF] <;> grind
theorem im_cross (a b : Nat → Int) : RE a * IM b - IM a * RE b = 4 * IM (mulZ (mirZ a) b) := by
  apply Sd.ext <;> simp [RE, IM] <;> simp only [reZ, imZ, mulZ, mirZ, convF] <;> grind
theorem im_anti (a b : Nat → Int) : IM (mulZ (mirZ b) a) = - IM (mulZ (mirZ a) b) := by
  apply Sd.ext <;> simp [RE, IM] <;> simp only [reZ, imZ, mulZ, mirZ, convF] <;> grind
theorem pt_zero {a : Nat → Int} (h : RE a = 0) (h' : IM a = 0) : ∀ k, k < 8 → a k = 0 := by
  have e0 : (RE a).a = 0 := by rw [h]; rfl
  have e1 : (RE a).b = 0 := by rw [h]; rfl
  have e2 : (RE a).c = 0 := by rw [h]; rfl
  have e3 : (RE a).d = 0 := by rw [h]; rfl
  have f0 : (IM a).a = 0 := by rw [h']; rfl
  have f1 : (IM a).b = 0 := by rw [h']; rfl
  have f2 : (IM a).c = 0 := by rw [h']; rfl
  have f3 : (IM a).d = 0 := by rw [h']; rfl
  simp only [RE, IM, reZ, imZ] at e0 e1 e2 e3 f0 f1 f2 f3
  intro k hk
  rcases (by omega : k = 0 ∨ k = 1 ∨ k = 2 ∨ k = 3 ∨ k = 4 ∨ k = 5 ∨ k = 6 ∨ k = 7) with rfl | rfl | rfl | rfl | rfl | rfl | rfl | rfl <;> omega
theorem cross_zero {a b : Nat → Int} (h1 : RE (mulZ (mirZ a) b) = 0) (h2 : IM (mulZ (mirZ a) b) = 0) : (∀ k, k < 8 → b k = 0) ∨ (∀ k, k < 8 → a k = 0) := by
  have g1 := re_cross a b
  have g2 := im_cross a b
  rw [h1] at g1
  rw [h2] at g2
  have z : (4 * 0 : Sd) = 0 := by grind
  rw [z] at g1 g2
  rcases Sd.plane g1 g2 with ⟨x, y⟩ | ⟨x, y⟩
  · exact .inl (pt_zero x y)
  · exact .inr (pt_zero x y)

end Go.Proofs.Ytkbdppnlojlcdaa

/- Plain algebra: crosses of small steps are exact; when they are nothing. No program, no conditions. -/
namespace Go.Proofs.Ytkbdppnlojlcdaa
open Go.RowKit

theorem mul_bd {x y A B : Int} (h1 : -A ≤ x) (h2 : x ≤ A) (h3 : -B ≤ y) (h4 : y ≤ B) : -(A * B) ≤ x * y ∧ x * y ≤ A * B := by
  have hA : 0 ≤ A := by omega
  have hB : 0 ≤ B := by omega
  have e1 : 0 ≤ (A - x) * (B - y) := Int.mul_nonneg (by omega) (by omega)
  have e2 : 0 ≤ (A + x) * (B + y) := Int.mul_nonneg (by omega) (by omega)
  have e3 : 0 ≤ (A - x) * (B + y) := Int.mul_nonneg (by omega) (by omega)
  have e4 : 0 ≤ (A + x) * (B - y) := Int.mul_nonneg (by omega) (by omega)
  have g1 : (A - x) * (B - y) = A * B - A * y - x * B + x * y := by grind
  have g2 : (A + x) * (B + y) = A * B + A * y + x * B + x * y := by grind
  have g3 : (A - x) * (B + y) = A * B + A * y - x * B - x * y := by grind
  have g4 : (A + x) * (B - y) = A * B - A * y + x * B - x * y := by grind
  omega
/-- All eight lie between -B and B. -/
def bd8 (B : Int) (f : Nat → Int) : Prop := ∀ k, k < 8 → -B ≤ f k ∧ f k ≤ B
def bd4 (B : Int) (f : Nat → Int) : Prop := ∀ k, k < 4 → -B ≤ f k ∧ f k ≤ B

theorem conv_bd0 {a b : Nat → Int} {A B : Int} (ha : bd8 A a) (hb : bd8 B b) : -(8 * (A * B)) ≤ convF a b 0 ∧ convF a b 0 ≤ 8 * (A * B) := by
  have h0 : 0 ≤ A * B := by
    have := ha 0 (by omega); have := hb 0 (by omega)
    exact Int.mul_nonneg (by omega) (by omega)
  have p0 := mul_bd (ha 0 (by omega)).1 (ha 0 (by omega)).2 (hb 0 (by omega)).1 (hb 0 (by omega)).2
  simp only [convF]
  omega
theorem conv_bd1 {a b : Nat → Int} {A B : Int} (ha : bd8 A a) (hb : bd8 B b) : -(8 * (A * B)) ≤ convF a b 1 ∧ convF a b 1 ≤ 8 * (A * B) := by
  have h0 : 0 ≤ A * B := by
    have := ha 0 (by omega); have := hb 0 (by omega)
    exact Int.mul_nonneg (by omega) (by omega)
  have p0 := mul_bd (ha 0 (by omega)).1 (ha 0 (by omega)).2 (hb 1 (by omega)).1 (hb 1 (by omega)).2
  have p1 := mul_bd (ha 1 (by omega)).1 (ha 1 (by omega)).2 (hb 0 (by omega)).1 (hb 0 (by omega)).2
  simp only [convF]
  omega
theorem conv_bd2 {a b : Nat → Int} {A B : Int} (ha : bd8 A a) (hb : bd8 B b) : -(8 * (A * B)) ≤ convF a b 2 ∧ convF a b 2 ≤ 8 * (A * B) := by
  have h0 : 0 ≤ A * B := by
    have := ha 0 (by omega); have := hb 0 (by omega)
    exact Int.mul_nonneg (by omega) (by omega)
  have p0 := mul_bd (ha 0 (by omega)).1 (ha 0 (by omega)).2 (hb 2 (by omega)).1 (hb 2 (by omega)).2
  have p1 := mul_bd (ha 1 (by omega)).1 (ha 1 (by omega)).2 (hb 1 (by omega)).1 (hb 1 (by omega)).2
  have p2 := mul_bd (ha 2 (by omega)).1 (ha 2 (by omega)).2 (hb 0 (by omega)).1 (hb 0 (by omega)).2
  simp only [convF]
  omega
theorem conv_bd3 {a b : Nat → Int} {A B : Int} (ha : bd8 A a) (hb : bd8 B b) : -(8 * (A * B)) ≤ convF a b 3 ∧ convF a b 3 ≤ 8 * (A * B) := by
  have h0 : 0 ≤ A * B := by
    have := ha 0 (by omega); have := hb 0 (by omega)
    exact Int.mul_nonneg (by omega) (by omega)
  have p0 := mul_bd (ha 0 (by omega)).1 (ha 0 (by omega)).2 (hb 3 (by omega)).1 (hb 3 (by omega)).2
  have p1 := mul_bd (ha 1 (by omega)).1 (ha 1 (by omega)).2 (hb 2 (by omega)).1 (hb 2 (by omega)).2
  have p2 := mul_bd (ha 2 (by omega)).1 (ha 2 (by omega)).2 (hb 1 (by omega)).1 (hb 1 (by omega)).2
  have p3 := mul_bd (ha 3 (by omega)).1 (ha 3 (by omega)).2 (hb 0 (by omega)).1 (hb 0 (by omega)).2
  simp only [convF]
  omega
theorem conv_bd4 {a b : Nat → Int} {A B : Int} (ha : bd8 A a) (hb : bd8 B b) : -(8 * (A * B)) ≤ convF a b 4 ∧ convF a b 4 ≤ 8 * (A * B) := by
  have h0 : 0 ≤ A * B := by
    have := ha 0 (by omega); have := hb 0 (by omega)
    exact Int.mul_nonneg (by omega) (by omega)
  have p0 := mul_bd (ha 0 (by omega)).1 (ha 0 (by omega)).2 (hb 4 (by omega)).1 (hb 4 (by omega)).2
  have p1 := mul_bd (ha 1 (by omega)).1 (ha 1 (by omega)).2 (hb 3 (by omega)).1 (hb 3 (by omega)).2
  have p2 := mul_bd (ha 2 (by omega)).1 (ha 2 (by omega)).2 (hb 2 (by omega)).1 (hb 2 (by omega)).2
  have p3 := mul_bd (ha 3 (by omega)).1 (ha 3 (by omega)).2 (hb 1 (by omega)).1 (hb 1 (by omega)).2
  have p4 := mul_bd (ha 4 (by omega)).1 (ha 4 (by omega)).2 (hb 0 (by omega)).1 (hb 0 (by omega)).2
  simp only [convF]
  omega
theorem conv_bd5 {a b : Nat → Int} {A B : Int} (ha : bd8 A a) (hb : bd8 B b) : -(8 * (A * B)) ≤ convF a b 5 ∧ convF a b 5 ≤ 8 * (A * B) := by
  have h0 : 0 ≤ A * B := by
    have := ha 0 (by omega); have := hb 0 (by omega)
    exact Int.mul_nonneg (by omega) (by omega)
  have p0 := mul_bd (ha 0 (by omega)).1 (ha 0 (by omega)).2 (hb 5 (by omega)).1 (hb 5 (by omega)).2
  have p1 := mul_bd (ha 1 (by omega)).1 (ha 1 (by omega)).2 (hb 4 (by omega)).1 (hb 4 (by omega)).2
  have p2 := mul_bd (ha 2 (by omega)).1 (ha 2 (by omega)).2 (hb 3 (by omega)).1 (hb 3 (by omega)).2
  have p3 := mul_bd (ha 3 (by omega)).1 (ha 3 (by omega)).2 (hb 2 (by omega)).1 (hb 2 (by omega)).2
  have p4 := mul_bd (ha 4 (by omega)).1 (ha 4 (by omega)).2 (hb 1 (by omega)).1 (hb 1 (by omega)).2
  have p5 := mul_bd (ha 5 (by omega)).1 (ha 5 (by omega)).2 (hb 0 (by omega)).1 (hb 0 (by omega)).2
  simp only [convF]
  omega
theorem conv_bd6 {a b : Nat → Int} {A B : Int} (ha : bd8 A a) (hb : bd8 B b) : -(8 * (A * B)) ≤ convF a b 6 ∧ convF a b 6 ≤ 8 * (A * B) := by
  have h0 : 0 ≤ A * B := by
    have := ha 0 (by omega); have := hb 0 (by omega)
    exact Int.mul_nonneg (by omega) (by omega)
  have p0 := mul_bd (ha 0 (by omega)).1 (ha 0 (by omega)).2 (hb 6 (by omega)).1 (hb 6 (by omega)).2
  have p1 := mul_bd (ha 1 (by omega)).1 (ha 1 (by omega)).2 (hb 5 (by omega)).1 (hb 5 (by omega)).2
  have p2 := mul_bd (ha 2 (by omega)).1 (ha 2 (by omega)).2 (hb 4 (by omega)).1 (hb 4 (by omega)).2
  have p3 := mul_bd (ha 3 (by omega)).1 (ha 3 (by omega)).2 (hb 3 (by omega)).1 (hb 3 (by omega)).2
  have p4 := mul_bd (ha 4 (by omega)).1 (ha 4 (by omega)).2 (hb 2 (by omega)).1 (hb 2 (by omega)).2
  have p5 := mul_bd (ha 5 (by omega)).1 (ha 5 (by omega)).2 (hb 1 (by omega)).1 (hb 1 (by omega)).2
  have p6 := mul_bd (ha 6 (by omega)).1 (ha 6 (by omega)).2 (hb 0 (by omega)).1 (hb 0 (by omega)).2
  simp only [convF]
  omega
theorem conv_bd7 {a b : Nat → Int} {A B : Int} (ha : bd8 A a) (hb : bd8 B b) : -(8 * (A * B)) ≤ convF a b 7 ∧ convF a b 7 ≤ 8 * (A * B) := by
  have h0 : 0 ≤ A * B := by
    have := ha 0 (by omega); have := hb 0 (by omega)
    exact Int.mul_nonneg (by omega) (by omega)
  have p0 := mul_bd (ha 0 (by omega)).1 (ha 0 (by omega)).2 (hb 7 (by omega)).1 (hb 7 (by omega)).2
  have p1 := mul_bd (ha 1 (by omega)).1 (ha 1 (by omega)).2 (hb 6 (by omega)).1 (hb 6 (by omega)).2
  have p2 := mul_bd (ha 2 (by omega)).1 (ha 2 (by omega)).2 (hb 5 (by omega)).1 (hb 5 (by omega)).2
  have p3 := mul_bd (ha 3 (by omega)).1 (ha 3 (by omega)).2 (hb 4 (by omega)).1 (hb 4 (by omega)).2
  have p4 := mul_bd (ha 4 (by omega)).1 (ha 4 (by omega)).2 (hb 3 (by omega)).1 (hb 3 (by omega)).2
  have p5 := mul_bd (ha 5 (by omega)).1 (ha 5 (by omega)).2 (hb 2 (by omega)).1 (hb 2 (by omega)).2
  have p6 := mul_bd (ha 6 (by omega)).1 (ha 6 (by omega)).2 (hb 1 (by omega)).1 (hb 1 (by omega)).2
  have p7 := mul_bd (ha 7 (by omega)).1 (ha 7 (by omega)).2 (hb 0 (by omega)).1 (hb 0 (by omega)).2
  simp only [convF]
  omega
theorem conv_bd8 {a b : Nat → Int} {A B : Int} (ha : bd8 A a) (hb : bd8 B b) : -(8 * (A * B)) ≤ convF a b 8 ∧ convF a b 8 ≤ 8 * (A * B) := by
  have h0 : 0 ≤ A * B := by
    have := ha 0 (by omega); have := hb 0 (by omega)
    exact Int.mul_nonneg (by omega) (by omega)
  have p1 := mul_bd (ha 1 (by omega)).1 (ha 1 (by omega)).2 (hb 7 (by omega)).1 (hb 7 (by omega)).2
  have p2 := mul_bd (ha 2 (by omega)).1 (ha 2 (by omega)).2 (hb 6 (by omega)).1 (hb 6 (by omega)).2
  have p3 := mul_bd (ha 3 (by omega)).1 (ha 3 (by omega)).2 (hb 5 (by omega)).1 (hb 5 (by omega)).2
  have p4 := mul_bd (ha 4 (by omega)).1 (ha 4 (by omega)).2 (hb 4 (by omega)).1 (hb 4 (by omega)).2
  have p5 := mul_bd (ha 5 (by omega)).1 (ha 5 (by omega)).2 (hb 3 (by omega)).1 (hb 3 (by omega)).2
  have p6 := mul_bd (ha 6 (by omega)).1 (ha 6 (by omega)).2 (hb 2 (by omega)).1 (hb 2 (by omega)).2
  have p7 := mul_bd (ha 7 (by omega)).1 (ha 7 (by omega)).2 (hb 1 (by omega)).1 (hb 1 (by omega)).2
  simp only [convF]
  omega
theorem conv_bd9 {a b : Nat → Int} {A B : Int} (ha : bd8 A a) (hb : bd8 B b) : -(8 * (A * B)) ≤ convF a b 9 ∧ convF a b 9 ≤ 8 * (A * B) := by
  have h0 : 0 ≤ A * B := by
    have := ha 0 (by omega); have := hb 0 (by omega)
    exact Int.mul_nonneg (by omega) (by omega)
  have p2 := mul_bd (ha 2 (by omega)).1 (ha 2 (by omega)).2 (hb 7 (by omega)).1 (hb 7 (by omega)).2
  have p3 := mul_bd (ha 3 (by omega)).1 (ha 3 (by omega)).2 (hb 6 (by omega)).1 (hb 6 (by omega)).2
  have p4 := mul_bd (ha 4 (by omega)).1 (ha 4 (by omega)).2 (hb 5 (by omega)).1 (hb 5 (by omega)).2
  have p5 := mul_bd (ha 5 (by omega)).1 (ha 5 (by omega)).2 (hb 4 (by omega)).1 (hb 4 (by omega)).2
  have p6 := mul_bd (ha 6 (by omega)).1 (ha 6 (by omega)).2 (hb 3 (by omega)).1 (hb 3 (by omega)).2
  have p7 := mul_bd (ha 7 (by omega)).1 (ha 7 (by omega)).2 (hb 2 (by omega)).1 (hb 2 (by omega)).2
  simp only [convF]
  omega
theorem conv_bd10 {a b : Nat → Int} {A B : Int} (ha : bd8 A a) (hb : bd8 B b) : -(8 * (A * B)) ≤ convF a b 10 ∧ convF a b 10 ≤ 8 * (A * B) := by
  have h0 : 0 ≤ A * B := by
    have := ha 0 (by omega); have := hb 0 (by omega)
    exact Int.mul_nonneg (by omega) (by omega)
  have p3 := mul_bd (ha 3 (by omega)).1 (ha 3 (by omega)).2 (hb 7 (by omega)).1 (hb 7 (by omega)).2
  have p4 := mul_bd (ha 4 (by omega)).1 (ha 4 (by omega)).2 (hb 6 (by omega)).1 (hb 6 (by omega)).2
  have p5 := mul_bd (ha 5 (by omega)).1 (ha 5 (by omega)).2 (hb 5 (by omega)).1 (hb 5 (by omega)).2
  have p6 := mul_bd (ha 6 (by omega)).1 (ha 6 (by omega)).2 (hb 4 (by omega)).1 (hb 4 (by omega)).2
  have p7 := mul_bd (ha 7 (by omega)).1 (ha 7 (by omega)).2 (hb 3 (by omega)).1 (hb 3 (by omega)).2
  simp only [convF]
  omega
theorem conv_bd11 {a b : Nat → Int} {A B : Int} (ha : bd8 A a) (hb : bd8 B b) : -(8 * (A * B)) ≤ convF a b 11 ∧ convF a b 11 ≤ 8 * (A * B) := by
  have h0 : 0 ≤ A * B := by
    have := ha 0 (by omega); have := hb 0 (by omega)
    exact Int.mul_nonneg (by omega) (by omega)
  have p4 := mul_bd (ha 4 (by omega)).1 (ha 4 (by omega)).2 (hb 7 (by omega)).1 (hb 7 (by omega)).2
  have p5 := mul_bd (ha 5 (by omega)).1 (ha 5 (by omega)).2 (hb 6 (by omega)).1 (hb 6 (by omega)).2
  have p6 := mul_bd (ha 6 (by omega)).1 (ha 6 (by omega)).2 (hb 5 (by omega)).1 (hb 5 (by omega)).2
  have p7 := mul_bd (ha 7 (by omega)).1 (ha 7 (by omega)).2 (hb 4 (by omega)).1 (hb 4 (by omega)).2
  simp only [convF]
  omega
theorem conv_bd12 {a b : Nat → Int} {A B : Int} (ha : bd8 A a) (hb : bd8 B b) : -(8 * (A * B)) ≤ convF a b 12 ∧ convF a b 12 ≤ 8 * (A * B) := by
  have h0 : 0 ≤ A * B := by
    have := ha 0 (by omega); have := hb 0 (by omega)
    exact Int.mul_nonneg (by omega) (by omega)
  have p5 := mul_bd (ha 5 (by omega)).1 (ha 5 (by omega)).2 (hb 7 (by omega)).1 (hb 7 (by omega)).2
  have p6 := mul_bd (ha 6 (by omega)).1 (ha 6 (by omega)).2 (hb 6 (by omega)).1 (hb 6 (by omega)).2
  have p7 := mul_bd (ha 7 (by omega)).1 (ha 7 (by omega)).2 (hb 5 (by omega)).1 (hb 5 (by omega)).2
  simp only [convF]
  omega
theorem conv_bd13 {a b : Nat → Int} {A B : Int} (ha : bd8 A a) (hb : bd8 B b) : -(8 * (A * B)) ≤ convF a b 13 ∧ convF a b 13 ≤ 8 * (A * B) := by
  have h0 : 0 ≤ A * B := by
    have := ha 0 (by omega); have := hb 0 (by omega)
    exact Int.mul_nonneg (by omega) (by omega)
  have p6 := mul_bd (ha 6 (by omega)).1 (ha 6 (by omega)).2 (hb 7 (by omega)).1 (hb 7 (by omega)).2
  have p7 := mul_bd (ha 7 (by omega)).1 (ha 7 (by omega)).2 (hb 6 (by omega)).1 (hb 6 (by omega)).2
  simp only [convF]
  omega
theorem conv_bd14 {a b : Nat → Int} {A B : Int} (ha : bd8 A a) (hb : bd8 B b) : -(8 * (A * B)) ≤ convF a b 14 ∧ convF a b 14 ≤ 8 * (A * B) := by
  have h0 : 0 ≤ A * B := by
    have := ha 0 (by omega); have := hb 0 (by omega)
    exact Int.mul_nonneg (by omega) (by omega)
  have p7 := mul_bd (ha 7 (by omega)).1 (ha 7 (by omega)).2 (hb 7 (by omega)).1 (hb 7 (by omega)).2
  simp only [convF]
  omega
theorem mul_bd8 {a b : Nat → Int} {A B : Int} (ha : bd8 A a) (hb : bd8 B b) : bd8 (24 * (A * B)) (mulZ a b) := by
  intro k hk
  have c0 := conv_bd0 ha hb
  have c1 := conv_bd1 ha hb
  have c2 := conv_bd2 ha hb
  have c3 := conv_bd3 ha hb
  have c4 := conv_bd4 ha hb
  have c5 := conv_bd5 ha hb
  have c6 := conv_bd6 ha hb
  have c7 := conv_bd7 ha hb
  have c8 := conv_bd8 ha hb
  have c9 := conv_bd9 ha hb
  have c10 := conv_bd10 ha hb
  have c11 := conv_bd11 ha hb
  have c12 := conv_bd12 ha hb
  have c13 := conv_bd13 ha hb
  have c14 := conv_bd14 ha hb
  rcases (by omega : k = 0 ∨ k = 1 ∨ k = 2 ∨ k = 3 ∨ k = 4 ∨ k = 5 ∨ k = 6 ∨ k = 7) with rfl | rfl | rfl | rfl | rfl | rfl | rfl | rfl <;> simp only [mulZ] <;> omega
theorem mir_bd {a : Nat → Int} {A : Int} (ha : bd8 A a) : bd8 (2 * A) (mirZ a) := by
  intro k hk
  have h0 := ha 0 (by omega); have h1 := ha 1 (by omega); have h2 := ha 2 (by omega); have h3 := ha 3 (by omega); have h4 := ha 4 (by omega); have h5 := ha 5 (by omega); have h6 := ha 6 (by omega); have h7 := ha 7 (by omega)
  rcases (by omega : k = 0 ∨ k = 1 ∨ k = 2 ∨ k = 3 ∨ k = 4 ∨ k = 5 ∨ k = 6 ∨ k = 7) with rfl | rfl | rfl | rfl | rfl | rfl | rfl | rfl <;> simp only [mirZ] <;> omega
theorem re_bd {a : Nat → Int} {A : Int} (ha : bd8 A a) : bd4 (6 * A) (reZ a) := by
  intro k hk
  have h0 := ha 0 (by omega); have h1 := ha 1 (by omega); have h2 := ha 2 (by omega); have h3 := ha 3 (by omega); have h4 := ha 4 (by omega); have h5 := ha 5 (by omega); have h6 := ha 6 (by omega); have h7 := ha 7 (by omega)
  rcases (by omega : k = 0 ∨ k = 1 ∨ k = 2 ∨ k = 3) with rfl | rfl | rfl | rfl <;> simp only [reZ] <;> omega
theorem im_bd {a : Nat → Int} {A : Int} (ha : bd8 A a) : bd4 (6 * A) (imZ a) := by
  intro k hk
  have h0 := ha 0 (by omega); have h1 := ha 1 (by omega); have h2 := ha 2 (by omega); have h3 := ha 3 (by omega); have h4 := ha 4 (by omega); have h5 := ha 5 (by omega); have h6 := ha 6 (by omega); have h7 := ha 7 (by omega)
  rcases (by omega : k = 0 ∨ k = 1 ∨ k = 2 ∨ k = 3) with rfl | rfl | rfl | rfl <;> simp only [imZ] <;> omega
theorem W8 {f : Nat → Int} {A : Int} (h : bd8 A f) (hA : A ≤ 9223372036854775807) : ∀ k, k < 8 → W (f k) = f k := fun k hk => by
  have := h k hk
  exact w64_in (by omega) (by omega)
theorem W4 {f : Nat → Int} {A : Int} (h : bd4 A f) (hA : A ≤ 9223372036854775807) : ∀ k, k < 4 → W (f k) = f k := fun k hk => by
  have := h k hk
  exact w64_in (by omega) (by omega)
theorem conv_congr {a a' b b' : Nat → Int} (ha : ∀ k, k < 8 → a k = a' k) (hb : ∀ k, k < 8 → b k = b' k) : ∀ k, convF a b k = convF a' b' k := by
  intro k
  have a0 := ha 0 (by omega); have a1 := ha 1 (by omega); have a2 := ha 2 (by omega); have a3 := ha 3 (by omega); have a4 := ha 4 (by omega); have a5 := ha 5 (by omega); have a6 := ha 6 (by omega); have a7 := ha 7 (by omega)
  have b0 := hb 0 (by omega); have b1 := hb 1 (by omega); have b2 := hb 2 (by omega); have b3 := hb 3 (by omega); have b4 := hb 4 (by omega); have b5 := hb 5 (by omega); have b6 := hb 6 (by omega); have b7 := hb 7 (by omega)
  unfold convF
  split <;> simp only [a0, a1, a2, a3, a4, a5, a6, a7, b0, b1, b2, b3, b4, b5, b6, b7]
theorem mul_congr {a a' b b' : Nat → Int} (ha : ∀ k, k < 8 → a k = a' k) (hb : ∀ k, k < 8 → b k = b' k) : ∀ k, mulZ a b k = mulZ a' b' k := by
  intro k
  unfold mulZ
  split <;> simp only [conv_congr ha hb]
theorem mir_congr {a a' : Nat → Int} (ha : ∀ k, k < 8 → a k = a' k) : ∀ k, mirZ a k = mirZ a' k := by
  intro k
  have a0 := ha 0 (by omega); have a1 := ha 1 (by omega); have a2 := ha 2 (by omega); have a3 := ha 3 (by omega); have a4 := ha 4 (by omega); have a5 := ha 5 (by omega); have a6 := ha 6 (by omega); have a7 := ha 7 (by omega)
  unfold mirZ
  split <;> simp only [a0, a1, a2, a3, a4, a5, a6, a7]
theorem re_congr {a a' : Nat → Int} (ha : ∀ k, k < 8 → a k = a' k) : ∀ k, reZ a k = reZ a' k := by
  intro k
  have a0 := ha 0 (by omega); have a1 := ha 1 (by omega); have a2 := ha 2 (by omega); have a3 := ha 3 (by omega); have a4 := ha 4 (by omega); have a5 := ha 5 (by omega); have a6 := ha 6 (by omega); have a7 := ha 7 (by omega)
  unfold reZ
  split <;> simp only [a0, a1, a2, a3, a4, a5, a6, a7]
theorem im_congr {a a' : Nat → Int} (ha : ∀ k, k < 8 → a k = a' k) : ∀ k, imZ a k = imZ a' k := by
  intro k
  have a0 := ha 0 (by omega); have a1 := ha 1 (by omega); have a2 := ha 2 (by omega); have a3 := ha 3 (by omega); have a4 := ha 4 (by omega); have a5 := ha 5 (by omega); have a6 := ha 6 (by omega); have a7 := ha 7 (by omega)
  unfold imZ
  split <;> simp only [a0, a1, a2, a3, a4, a5, a6, a7]
theorem w8_at (f : Nat → Int) : ∀ k, k < 8 → w8 f k = f k := fun k hk => by
  rcases (by omega : k = 0 ∨ k = 1 ∨ k = 2 ∨ k = 3 ∨ k = 4 ∨ k = 5 ∨ k = 6 ∨ k = 7) with rfl | rfl | rfl | rfl | rfl | rfl | rfl | rfl <;> rfl
theorem w4_at (f : Nat → Int) : ∀ k, k < 4 → w4 f k = f k := fun k hk => by
  rcases (by omega : k = 0 ∨ k = 1 ∨ k = 2 ∨ k = 3) with rfl | rfl | rfl | rfl <;> rfl
/-- conj(p) q, for small steps: the machine's product is the true one. -/
theorem prod_exact {p q : Nat → Int} (hp : bd8 200 p) (hq : bd8 200 q) : (∀ k, k < 8 → mulF (mirF (w8 p)) (w8 q) k = mulZ (mirZ p) q k) ∧ bd8 1920000 (mulZ (mirZ p) q) := by
  have h1 : ∀ k, k < 8 → mirF (w8 p) k = mirZ p k := fun k hk => by
    show W (mirZ (w8 p) k) = _
    rw [mir_congr (w8_at p)]
    exact W8 (mir_bd hp) (by omega) k hk
  have hb : bd8 (24 * (2 * 200 * 200)) (mulZ (mirZ p) q) := mul_bd8 (mir_bd hp) hq
  refine ⟨fun k hk => ?_, fun k hk => ?_⟩
  · show W (mulZ (mirF (w8 p)) (w8 q) k) = _
    rw [mul_congr h1 (w8_at q)]
    exact W8 hb (by omega) k hk
  · have := hb k hk
    omega
theorem cross_exact {p q : Nat → Int} (hp : bd8 200 p) (hq : bd8 200 q) : (∀ k, k < 4 → crossW p q k = imZ (mulZ (mirZ p) q) k) ∧ (∀ k, k < 4 → reF (mulF (mirF (w8 p)) (w8 q)) k = reZ (mulZ (mirZ p) q) k) ∧ bd4 11520000 (imZ (mulZ (mirZ p) q)) ∧ bd4 11520000 (reZ (mulZ (mirZ p) q)) := by
  obtain ⟨h1, h2⟩ := prod_exact hp hq
  have hi := im_bd h2
  have hr := re_bd h2
  refine ⟨fun k hk => ?_, fun k hk => ?_, fun k hk => by have := hi k hk; omega, fun k hk => by have := hr k hk; omega⟩
  · show W (imZ (mulF (mirF (w8 p)) (w8 q)) k) = _
    rw [im_congr h1]
    exact W4 hi (by omega) k hk
  · show W (reZ (mulF (mirF (w8 p)) (w8 q)) k) = _
    rw [re_congr h1]
    exact W4 hr (by omega) k hk
theorem sq_le {x B : Int} (h1 : -B ≤ x) (h2 : x ≤ B) : 0 ≤ x * x ∧ x * x ≤ B * B := ⟨sq_neg x, (mul_bd h1 h2 h1 h2).2⟩
/-- No bits are lost. -/
theorem xq_exact {s : Nat → Int} (h : bd4 11520000 s) : xq s = s 0 * s 0 + 2 * (s 1 * s 1) - 3 * (s 2 * s 2) - 6 * (s 3 * s 3) ∧ yq s = 2 * (s 0 * s 1) - 6 * (s 2 * s 3) := by
  have h0 := h 0 (by omega); have h1 := h 1 (by omega); have h2 := h 2 (by omega); have h3 := h 3 (by omega)
  have q0 := sq_le h0.1 h0.2; have q1 := sq_le h1.1 h1.2; have q2 := sq_le h2.1 h2.2; have q3 := sq_le h3.1 h3.2
  have p01 := mul_bd h0.1 h0.2 h1.1 h1.2
  have p23 := mul_bd h2.1 h2.2 h3.1 h3.2
  have e1 : W (2 * s 1) = 2 * s 1 := w64_in (by omega) (by omega)
  have e2 : W (3 * s 2) = 3 * s 2 := w64_in (by omega) (by omega)
  have e3 : W (6 * s 3) = 6 * s 3 := w64_in (by omega) (by omega)
  have e4 : W (2 * s 0) = 2 * s 0 := w64_in (by omega) (by omega)
  have e5 : W (6 * s 2) = 6 * s 2 := w64_in (by omega) (by omega)
  have g1 : 2 * s 1 * s 1 = 2 * (s 1 * s 1) := by grind
  have g2 : 3 * s 2 * s 2 = 3 * (s 2 * s 2) := by grind
  have g3 : 6 * s 3 * s 3 = 6 * (s 3 * s 3) := by grind
  have g4 : 2 * s 0 * s 1 = 2 * (s 0 * s 1) := by grind
  have g5 : 6 * s 2 * s 3 = 6 * (s 2 * s 3) := by grind
  constructor
  · show W (W (W (W (s 0 * s 0) + W (W (2 * s 1) * s 1)) - W (W (3 * s 2) * s 2)) - W (W (6 * s 3) * s 3)) = _
    rw [e1, e2, e3, g1, g2, g3, w64_in (x := s 0 * s 0) (by omega) (by omega), w64_in (x := 2 * (s 1 * s 1)) (by omega) (by omega), w64_in (x := 3 * (s 2 * s 2)) (by omega) (by omega), w64_in (x := 6 * (s 3 * s 3)) (by omega) (by omega),
      w64_in (x := s 0 * s 0 + 2 * (s 1 * s 1)) (by omega) (by omega), w64_in (x := s 0 * s 0 + 2 * (s 1 * s 1) - 3 * (s 2 * s 2)) (by omega) (by omega), w64_in (by omega) (by omega)]
  · show W (W (W (2 * s 0) * s 1) - W (W (6 * s 2) * s 3)) = _
    rw [e4, e5, g4, g5, w64_in (x := 2 * (s 0 * s 1)) (by omega) (by omega), w64_in (x := 6 * (s 2 * s 3)) (by omega) (by omega), w64_in (by omega) (by omega)]
theorem sg2_zero {x y : Int} : sg2 x y = 0 ↔ x = 0 ∧ y = 0 := by
  unfold sg2
  repeat' split
  all_goals omega
/-- A surd of sign 0 is nothing. -/
theorem sgn4_zero {s : Nat → Int} (h : bd4 11520000 s) : sgn4 s = 0 ↔ s 0 = 0 ∧ s 1 = 0 ∧ s 2 = 0 ∧ s 3 = 0 := by
  obtain ⟨ex, ey⟩ := xq_exact h
  have z1 := @sg2_zero (s 0) (s 1)
  have z2 := @sg2_zero (s 2) (s 3)
  have z3 := @sg2_zero (xq s) (yq s)
  have r1 := sg2_range (s 0) (s 1)
  have r2 := sg2_range (s 2) (s 3)
  have r3 := sg2_range (xq s) (yq s)
  constructor
  · intro h0
    unfold sgn4 at h0
    split at h0
    · rename_i hc
      have h1 := z1.1 h0
      have h2 : sg2 (s 2) (s 3) = 0 := by rcases hc with hc | hc <;> omega
      have h2 := z2.1 h2
      exact ⟨h1.1, h1.2, h2.1, h2.2⟩
    · rename_i hc
      split at h0
      · exact (hc (.inr h0)).elim
      · rename_i hc2
        have h3 : sg2 (xq s) (yq s) = 0 := by
          rcases Int.mul_eq_zero.1 h0 with h | h
          · exact (hc2 h).elim
          · exact h
        have h3 := z3.1 h3
        rw [ex, ey] at h3
        exact root3 h3.1 h3.2
  · rintro ⟨h0, h1, h2, h3⟩
    have a1 := z1.2 ⟨h0, h1⟩
    have a2 := z2.2 ⟨h2, h3⟩
    unfold sgn4
    rw [a1, a2]
    rfl
theorem sgn4_w4 (s : Nat → Int) : sgn4 (w4 s) = sgn4 s := rfl
theorem sgn4_congr {s s' : Nat → Int} (h : ∀ k, k < 4 → s k = s' k) : sgn4 s = sgn4 s' := by
  have h0 := h 0 (by omega); have h1 := h 1 (by omega); have h2 := h 2 (by omega); have h3 := h 3 (by omega)
  unfold sgn4
  simp only [xq, yq, h0, h1, h2, h3]
/-- The bend and what is gone along are both nothing: one of the steps is. -/
theorem no_cross {p q : Nat → Int} (hp : bd8 200 p) (hq : bd8 200 q) (h1 : sgn4 (w4 (crossW p q)) = 0) (h2 : sgn4 (w4 (reF (mulF (mirF (w8 p)) (w8 q)))) = 0) : (∀ k, k < 8 → q k = 0) ∨ (∀ k, k < 8 → p k = 0) := by
  obtain ⟨e1, e2, b1, b2⟩ := cross_exact hp hq
  rw [sgn4_w4, sgn4_congr e1, sgn4_zero b1] at h1
  rw [sgn4_w4, sgn4_congr e2, sgn4_zero b2] at h2
  exact cross_zero (Sd.ext h2.1 h2.2.1 h2.2.2.1 h2.2.2.2) (Sd.ext h1.1 h1.2.1 h1.2.2.1 h1.2.2.2)
theorem cross_none {p q : Nat → Int} (hp : bd8 200 p) (hq : bd8 200 q) (h : ∀ k, k < 8 → q k = 0) : sgn4 (w4 (crossW p q)) = 0 ∧ sgn4 (w4 (reF (mulF (mirF (w8 p)) (w8 q)))) = 0 := by
  obtain ⟨e1, e2, b1, b2⟩ := cross_exact hp hq
  have hz : ∀ k, mulZ (mirZ p) q k = mulZ (mirZ p) zeroF k := mul_congr (fun _ _ => rfl) h
  have hz0 : ∀ k, mulZ (mirZ p) zeroF k = 0 := by
    intro k
    unfold mulZ
    split <;> simp [convF, zeroF]
  have hz1 : ∀ k, k < 8 → mulZ (mirZ p) q k = zeroF k := fun k _ => (hz k).trans (hz0 k)
  constructor
  · rw [sgn4_w4, sgn4_congr e1, sgn4_congr (fun k _ => im_congr hz1 k)]
    rfl
  · rw [sgn4_w4, sgn4_congr e2, sgn4_congr (fun k _ => re_congr hz1 k)]
    rfl
end Go.Proofs.Ytkbdppnlojlcdaa

/- PolyTurns of both: what they return. Conditions: a list of points. -/
namespace Go.Proofs.Ytkbdppnlojlcdaa
open Go.RowKit
set_option maxRecDepth 100000

theorem fAl_along : fAl (fun p q => reF (mulF (mirF p) q)) = f_along := by funext vs; unfold fAl f_along; rfl
theorem fAl_cross : fAl (fun p q => imF (mulF (mirF p) q)) = f_l8Cross := by funext vs; unfold fAl f_l8Cross; rfl
theorem fMi_mir : fMi mirF = f_l2Mirror := by funext vs; unfold fMi f_l2Mirror; rfl
theorem fTi_mul : fTi mulF = f_l2Times := by funext vs; unfold fTi f_l2Times; rfl
theorem fRe_re : fRe reF = f_l3Re := by funext vs; unfold fRe f_l3Re; rfl
theorem fRe_re' : fRe reF = f_re := by funext vs; unfold fRe f_re; rfl
theorem fRe_im : fRe imF = f_l3Im := by funext vs; unfold fRe f_l3Im; rfl
theorem fRe_im' : fRe imF = f_im := by funext vs; unfold fRe f_im; rfl
theorem fSn_sgn : fSn sgn4 i64B = f_sgn := by funext vs; unfold fSn f_sgn; rfl

def gmUI (im re : (Nat → Int) → Nat → Int) (sg : (Nat → Int) → Int) (ob : Int → Bool) : Gam := ext (ext (ext g0 82 (specV (fRe im))) 94 (specV (fRe re))) 57 (specV (fSn sg ob))
def gmUS (im re : (Nat → Int) → Nat → Int) (sg : (Nat → Int) → Int) (ob : Int → Bool) : Gam := ext (ext (ext g0 84 (specV (fRe im))) 51 (specV (fRe re))) 46 (specV (fSn sg ob))
theorem gmUI_ok : GamOk Try.prog (gmUI imF reF sgn4 i64B) := ext_ok (ext_ok (ext_ok g0_ok (fRe_im' ▸ ok_im)) (fRe_re' ▸ ok_re)) (fSn_sgn ▸ ok_sign)
theorem gmUS_ok : GamOk Try.prog (gmUS imF reF sgn4 i64B) := ext_ok (ext_ok (ext_ok g0_ok (fRe_im ▸ ok_l3Im)) (fRe_re ▸ ok_l3Re)) (fSn_sgn ▸ ok_l3Sign)

theorem treeUI (im re : (Nat → Int) → Nat → Int) (sg : (Nat → Int) → Int) (ob : Int → Bool) (a : Nat → Int) : execF Try.prog (gmUI im re sg ob) noLam 100 Try.f58 ([cyv a].map .v) [] valK
    = needs [ob (im (w8 a) (0 : Nat)), ob (im (w8 a) (1 : Nat)), ob (im (w8 a) (2 : Nat)), ob (im (w8 a) (3 : Nat))] (bif sg (w4 (im (w8 a))) != (0 : Int) then Res.out Ex.ret [AV.v (Value.bool (decide (sg (w4 (im (w8 a))) > (0 : Int))))] [] else needs [ob (re (w8 a) (0 : Nat)), ob (re (w8 a) (1 : Nat)), ob (re (w8 a) (2 : Nat)), ob (re (w8 a) (3 : Nat))] (Res.out Ex.ret [AV.v (Value.bool (decide (sg (w4 (re (w8 a))) > (0 : Int))))] [])) := by kernel_rfl

theorem treeUS (im re : (Nat → Int) → Nat → Int) (sg : (Nat → Int) → Int) (ob : Int → Bool) (a : Nat → Int) : execF Try.prog (gmUS im re sg ob) noLam 100 Try.f54 ([cyv a].map .v) [] valK
    = needs [ob (im (w8 a) (0 : Nat)), ob (im (w8 a) (1 : Nat)), ob (im (w8 a) (2 : Nat)), ob (im (w8 a) (3 : Nat))] (bif decide (sg (w4 (im (w8 a))) > (0 : Int)) then Res.out Ex.ret [AV.v (Value.bool true)] [] else bif sg (w4 (im (w8 a))) == (0 : Int) then needs [ob (re (w8 a) (0 : Nat)), ob (re (w8 a) (1 : Nat)), ob (re (w8 a) (2 : Nat)), ob (re (w8 a) (3 : Nat))] (Res.out Ex.ret [AV.v (Value.bool (decide (sg (w4 (re (w8 a))) > (0 : Int))))] []) else Res.out Ex.ret [AV.v (Value.bool false)] []) := by kernel_rfl

/-- Above the real line, or along it to the right. -/
def upF (a : Nat → Int) : Bool := bif sgn4 (w4 (imF a)) != 0 then decide (sgn4 (w4 (imF a)) > 0) else decide (sgn4 (w4 (reF a)) > 0)
theorem obW (f : Nat → Int) : obls [i64B (W (f 0)), i64B (W (f 1)), i64B (W (f 2)), i64B (W (f 3))] = true := by simp only [i64B_W, ob_cons, ob_nil, and_self]
theorem ok_upper : SpecOk Try.prog 58 (specV (fUp upF)) := by
  refine mkV (n := 100) gmUI_ok Try.func58 rfl fun vs v ob hF ho => ?_
  unfold fUp at hF
  split at hF
  · rename_i a0 a1 a2 a3 a4 a5 a6 a7
    cases hF
    show Good (execF Try.prog (gmUI imF reF sgn4 i64B) noLam 100 Try.f58 ([cyv (v8 a0 a1 a2 a3 a4 a5 a6 a7)].map .v) [] valK) _
    rw [treeUI, show w8 (v8 a0 a1 a2 a3 a4 a5 a6 a7) = v8 a0 a1 a2 a3 a4 a5 a6 a7 from rfl]
    refine good_needsV (obW _) ?_
    unfold upF
    cases (sgn4 (w4 (imF (v8 a0 a1 a2 a3 a4 a5 a6 a7))) != 0) with
    | true => exact one rfl
    | false => exact good_needsV (obW _) (one rfl)
  · cases hF
theorem ok_l8Upper : SpecOk Try.prog 54 (specV (fUp upF)) := by
  refine mkV (n := 100) gmUS_ok Try.func54 rfl fun vs v ob hF ho => ?_
  unfold fUp at hF
  split at hF
  · rename_i a0 a1 a2 a3 a4 a5 a6 a7
    cases hF
    show Good (execF Try.prog (gmUS imF reF sgn4 i64B) noLam 100 Try.f54 ([cyv (v8 a0 a1 a2 a3 a4 a5 a6 a7)].map .v) [] valK) _
    rw [treeUS, show w8 (v8 a0 a1 a2 a3 a4 a5 a6 a7) = v8 a0 a1 a2 a3 a4 a5 a6 a7 from rfl]
    refine good_needsV (obW _) ?_
    unfold upF
    have hr := sgn4_range (w4 (imF (v8 a0 a1 a2 a3 a4 a5 a6 a7)))
    show Good (bif decide (sgn4 (w4 (imF (v8 a0 a1 a2 a3 a4 a5 a6 a7))) > 0) then _ else bif sgn4 (w4 (imF (v8 a0 a1 a2 a3 a4 a5 a6 a7))) == 0 then _ else _) (.bool (bif sgn4 (w4 (imF (v8 a0 a1 a2 a3 a4 a5 a6 a7))) != 0 then decide (sgn4 (w4 (imF (v8 a0 a1 a2 a3 a4 a5 a6 a7))) > 0) else _))
    generalize sgn4 (w4 (imF (v8 a0 a1 a2 a3 a4 a5 a6 a7))) = s at *
    rcases hr with rfl | rfl | rfl
    · exact one rfl
    · exact good_needsV (obW _) (one rfl)
    · exact one rfl
  · cases hF

abbrev alF (p q : Nat → Int) : Nat → Int := reF (mulF (mirF p) q)
abbrev crF (p q : Nat → Int) : Nat → Int := imF (mulF (mirF p) q)
theorem gmTI_ok : GamOk Try.prog (gmTI upF alF sgn4 i64B) := ext_ok (ext_ok (ext_ok g0_ok ok_upper) (fAl_along ▸ ok_along)) (fSn_sgn ▸ ok_sign)
theorem gmTS_ok : GamOk Try.prog (gmTS upF crF mirF reF mulF sgn4 i64B) := ext_ok (ext_ok (ext_ok (ext_ok (ext_ok (ext_ok g0_ok ok_l8Upper) (fAl_cross ▸ ok_l8Cross)) (fMi_mir ▸ ok_l2Mirror)) (fTi_mul ▸ ok_l2Times)) (fRe_re ▸ ok_l3Re)) (fSn_sgn ▸ ok_l3Sign)

abbrev vTI (m : Nat) : List AV := [.own 1 m, .v (i64 0), .own 2 m, .v (i64 m), .v (i64 (0 : Nat))]
abbrev vTS (m : Nat) : List AV := [.own 1 m, .v (i64 m), .v (i64 0), .v (i64 (0 : Nat))]
noncomputable abbrev lamTI (m : Nat) (a bs : Nat → Nat → Int) (bf : Nat → Int) (bad : Nat → Bool) (con : Nat → Int) : Nat → Option Sum := oneL 0 (atS 82 (lvTI .normal) 1 (vTI m) [.row false m 8 (rowC a) 46, .row true m 8 (rowC bs) 46, .row true m 1 (rowI bf) 3] (outT 5 bad con m [.row false m 8 (rowC a) 46]))
noncomputable abbrev lamTS (m : Nat) (a bs : Nat → Nat → Int) (bad : Nat → Bool) (con : Nat → Int) : Nat → Option Sum := oneL 0 (atS 82 (lvTS .normal) 1 (vTS m) [.row false m 8 (rowC a) 46, .row true m 8 (rowC bs) 46] (outT 6 bad con m [.row false m 8 (rowC a) 46]))

theorem treeFTI (m : Nat) (a bs : Nat → Nat → Int) (bf : Nat → Int) (bad : Nat → Bool) (con : Nat → Int) : execF Try.prog gm_yb (lamTI m a bs bf bad con) 100 Try.f23 [.sl 0 8 0 0 m none] [.row false m 8 (rowC a) 46] (packK 1)
    = needs [Nat.ble ((0 : Nat) + m) m, allC m fun q ↦ rowC a ((0 : Nat) + q), decide (m ≤ (274877906944 : Nat)), f_valid (itC fun q ↦ rowC a ((0 : Nat) + q)) m == true, Nat.ble ((0 : Nat) + m) m, allC m fun q ↦ rowC a ((0 : Nat) + q), decide ((0 : Nat) < m), decide (m ≤ (274877906944 : Nat)), Nat.ble ((0 : Nat) + m) m, allC m fun q ↦ rowC a ((0 : Nat) + q), decide ((0 : Nat) < m), decide (m ≤ (274877906944 : Nat)), chk ([AV.own (1 : Nat) m, AV.v (Value.int IntKind.i64 (0 : Int)), AV.own (2 : Nat) m, AV.v (Value.int IntKind.i64 (↑m : Int)), AV.v (Value.int IntKind.i64 (0 : Int))] = vTI m ∧ Hsim [AB.row false m (8 : Nat) (rowC a) (46 : TypeId), AB.row true m (8 : Nat) (rowC (stepsF (itC fun q ↦ rowC a ((0 : Nat) + q)) m)) (46 : TypeId), AB.row true m (1 : Nat) (rowI (bendsF (stepsF (itC fun q ↦ rowC a ((0 : Nat) + q)) m) m)) (3 : TypeId)] [AB.row false m (8 : Nat) (rowC a) (46 : TypeId), AB.row true m (8 : Nat) (rowC bs) (46 : TypeId), AB.row true m (1 : Nat) (rowI bf) (3 : TypeId)])] (bif noneTo bad m then Res.out Ex.ret [AV.tup [AV.v (Value.int IntKind.i64 (sumTo con m)), AV.v (Value.bool true)]] [AB.row false m (8 : Nat) (rowC a) (46 : TypeId)] else Res.out Ex.ret [AV.tup [AV.v (Value.int IntKind.i64 (0 : Int)), AV.v (Value.bool false)]] [AB.row false m (8 : Nat) (rowC a) (46 : TypeId)]) := by kernel_rfl

theorem treeFTS (m : Nat) (a bs : Nat → Nat → Int) (bad : Nat → Bool) (con : Nat → Int) : execF Try.prog gm_y (lamTS m a bs bad con) 100 Try.f22 [.sl 0 8 0 0 m none] [.row false m 8 (rowC a) 46] (packK 1)
    = needs [Nat.ble ((0 : Nat) + m) m, allC m fun q ↦ rowC a ((0 : Nat) + q), decide (m ≤ (274877906944 : Nat)), f_valid (itC fun q ↦ rowC a ((0 : Nat) + q)) m == true, Nat.ble ((0 : Nat) + m) m, allC m fun q ↦ rowC a ((0 : Nat) + q), decide ((0 : Nat) < m), decide (m ≤ (274877906944 : Nat)), chk ([AV.own (1 : Nat) m, AV.v (Value.int IntKind.i64 (↑m : Int)), AV.v (Value.int IntKind.i64 (0 : Int)), AV.v (Value.int IntKind.i64 (0 : Int))] = vTS m ∧ Hsim [AB.row false m (8 : Nat) (rowC a) (46 : TypeId), AB.row true m (8 : Nat) (rowC (stepsF (itC fun q ↦ rowC a ((0 : Nat) + q)) m)) (46 : TypeId)] [AB.row false m (8 : Nat) (rowC a) (46 : TypeId), AB.row true m (8 : Nat) (rowC bs) (46 : TypeId)])] (bif noneTo bad m then Res.out Ex.ret [AV.tup [AV.v (Value.int IntKind.i64 (sumTo con m)), AV.v (Value.bool true)]] [AB.row false m (8 : Nat) (rowC a) (46 : TypeId)] else Res.out Ex.ret [AV.tup [AV.v (Value.int IntKind.i64 (0 : Int)), AV.v (Value.bool false)]] [AB.row false m (8 : Nat) (rowC a) (46 : TypeId)]) := by kernel_rfl

theorem treeNTI (m : Nat) (a : Nat → Nat → Int) : execF Try.prog gm_n noLam 100 Try.f23 [.sl 0 8 0 0 m none] [.row false m 8 (rowC a) 46] (packK 1)
    = needs [Nat.ble ((0 : Nat) + m) m, allC m fun q ↦ rowC a ((0 : Nat) + q), decide (m ≤ (274877906944 : Nat)), f_valid (itC fun q ↦ rowC a ((0 : Nat) + q)) m == false] (Res.out Ex.ret [AV.tup [AV.v (Value.int IntKind.i64 (0 : Int)), AV.v (Value.bool false)]] [AB.row false m (8 : Nat) (rowC a) (46 : TypeId)]) := by kernel_rfl

theorem treeNTS (m : Nat) (a : Nat → Nat → Int) : execF Try.prog gm_n noLam 100 Try.f22 [.sl 0 8 0 0 m none] [.row false m 8 (rowC a) 46] (packK 1)
    = needs [Nat.ble ((0 : Nat) + m) m, allC m fun q ↦ rowC a ((0 : Nat) + q), decide (m ≤ (274877906944 : Nat)), f_valid (itC fun q ↦ rowC a ((0 : Nat) + q)) m == false] (Res.out Ex.ret [AV.tup [AV.v (Value.int IntKind.i64 (0 : Int)), AV.v (Value.bool false)]] [AB.row false m (8 : Nat) (rowC a) (46 : TypeId)]) := by kernel_rfl

abbrev alS (p q : Nat → Int) : Nat → Int := reF (w8 (mulF (w8 (mirF p)) q))
theorem alS_eq (p q : Nat → Int) : sgn4 (w4 (alS (w8 p) (w8 q))) = sgn4 (w4 (reF (mulF (mirF (w8 p)) (w8 q)))) := by
  rw [sgn4_w4, sgn4_w4]
  refine sgn4_congr fun k hk => ?_
  show W (reZ (w8 (mulF (w8 (mirF (w8 p))) (w8 q))) k) = W (reZ (mulF (mirF (w8 p)) (w8 q)) k)
  rw [re_congr (fun j hj => ?_)]
  rw [w8_at _ j hj]
  show W (mulZ (w8 (mirF (w8 p))) (w8 q) j) = W (mulZ (mirF (w8 p)) (w8 q) j)
  rw [mul_congr (w8_at _) (fun _ _ => rfl)]

theorem steps_bd {a : Nat → Nat → Int} {m : Nat} (h : f_valid a m = true) {j : Nat} (hj : j < m) : bd8 200 (stepsF a m j) := by
  simp only [f_valid, Bool.and_eq_true] at h
  have h1 := smallF_iff.1 (okB_get h.1 hj)
  have h2 := smallF_iff.1 (okB_get h.1 (Nat.mod_lt (j + 1) (show 0 < m by omega)))
  intro k hk
  have h1 := h1 k hk
  have h2 := h2 k hk
  show -200 ≤ W (a ((j + 1) % m) k + W (a j k * -1)) ∧ W (a ((j + 1) % m) k + W (a j k * -1)) ≤ 200
  rw [w64_in (x := a j k * -1) (by omega) (by omega), w64_in (by omega) (by omega)]
  omega
theorem isZ_iff {f : Nat → Int} : isZ f = true ↔ ∀ k, k < 8 → f k = 0 := by
  simp only [isZ, Bool.and_true, Bool.and_eq_true, beq_iff_eq]
  constructor
  · rintro ⟨h0, h1, h2, h3, h4, h5, h6, h7⟩ k hk
    rcases (by omega : k = 0 ∨ k = 1 ∨ k = 2 ∨ k = 3 ∨ k = 4 ∨ k = 5 ∨ k = 6 ∨ k = 7) with rfl | rfl | rfl | rfl | rfl | rfl | rfl | rfl <;> assumption
  · intro h
    exact ⟨h 0 (by omega), h 1 (by omega), h 2 (by omega), h 3 (by omega), h 4 (by omega), h 5 (by omega), h 6 (by omega), h 7 (by omega)⟩
theorem noneTo_iff {bad : Nat → Bool} {m : Nat} : noneTo bad m = true ↔ ∀ i, i < m → bad i = false := by
  simp [noneTo]
/-- The program's way to refuse and the reference's. -/
theorem bad_same {a : Nat → Nat → Int} {m : Nat} (h : f_valid a m = true) : noneTo (badI alF sgn4 (stepsF a m) (bendsF (stepsF a m) m) m) m = noneTo (badS alS crF sgn4 (stepsF a m) m) m := by
  rw [Bool.eq_iff_iff, noneTo_iff, noneTo_iff]
  have hb : ∀ i, i < m → bd8 200 (stepsF a m i) := fun i hi => steps_bd h hi
  have hpv : ∀ i, i < m → pvI i m < m := fun i hi => Nat.mod_lt _ (by omega)
  have cr : ∀ i, sgn4 (w4 (crF (w8 (stepsF a m (pvI i m))) (w8 (stepsF a m i)))) = bendsF (stepsF a m) m i := fun i => rfl
  have al : ∀ i, sgn4 (w4 (alF (w8 (stepsF a m (pvI i m))) (w8 (stepsF a m i)))) = sgn4 (w4 (reF (mulF (mirF (w8 (stepsF a m (pvI i m)))) (w8 (stepsF a m i))))) := fun i => rfl
  obtain ⟨Z, hZ⟩ : ∃ Z : Nat → Bool, ∀ i, isZ (stepsF a m i) = Z i := ⟨fun i => isZ (stepsF a m i), fun _ => rfl⟩
  have eI : ∀ i, badI alF sgn4 (stepsF a m) (bendsF (stepsF a m) m) m i = (Z i || (bendsF (stepsF a m) m i == 0 && decide (sgn4 (w4 (reF (mulF (mirF (w8 (stepsF a m (pvI i m)))) (w8 (stepsF a m i))))) < 0))) := fun i => by rw [← hZ]; rfl
  have eS : ∀ i, badS alS crF sgn4 (stepsF a m) m i = (bendsF (stepsF a m) m i == 0 && decide (sgn4 (w4 (alS (w8 (stepsF a m (pvI i m))) (w8 (stepsF a m i)))) ≤ 0)) := fun i => rfl
  have zero : ∀ i, i < m → Z i = true → bendsF (stepsF a m) m i = 0 ∧ sgn4 (w4 (reF (mulF (mirF (w8 (stepsF a m (pvI i m)))) (w8 (stepsF a m i))))) = 0 := fun i hi hz => cross_none (hb _ (hpv i hi)) (hb i hi) (isZ_iff.1 ((hZ i).trans hz))
  have none : ∀ i, i < m → bendsF (stepsF a m) m i = 0 → sgn4 (w4 (reF (mulF (mirF (w8 (stepsF a m (pvI i m)))) (w8 (stepsF a m i))))) = 0 → Z i = true ∨ Z (pvI i m) = true := fun i hi h1 h2 => by
    rcases no_cross (hb _ (hpv i hi)) (hb i hi) h1 h2 with h | h
    · exact .inl ((hZ _).symm.trans (isZ_iff.2 h))
    · exact .inr ((hZ _).symm.trans (isZ_iff.2 h))
  constructor
  · intro hn i hi
    have hi1 := hn i hi
    have hi2 := hn _ (hpv i hi)
    rw [eI] at hi1 hi2
    rw [eS, alS_eq]
    cases hs : (bendsF (stepsF a m) m i == 0 && decide (sgn4 (w4 (reF (mulF (mirF (w8 (stepsF a m (pvI i m)))) (w8 (stepsF a m i))))) ≤ 0)) with
    | false => rfl
    | true =>
      simp only [Bool.and_eq_true, beq_iff_eq, decide_eq_true_eq] at hs
      simp only [Bool.or_eq_false_iff, Bool.and_eq_false_iff, beq_eq_false_iff_ne, decide_eq_false_iff_not] at hi1 hi2
      have : ¬ sgn4 (w4 (reF (mulF (mirF (w8 (stepsF a m (pvI i m)))) (w8 (stepsF a m i))))) < 0 := by
        rcases hi1.2 with h | h
        · exact (h hs.1).elim
        · exact h
      rcases none i hi hs.1 (by omega) with h | h
      · rw [h] at hi1; exact absurd hi1.1 (by simp)
      · rw [h] at hi2; exact absurd hi2.1 (by simp)
  · intro hn i hi
    have hi1 := hn i hi
    rw [eS, alS_eq] at hi1
    rw [eI]
    simp only [Bool.and_eq_false_iff, beq_eq_false_iff_ne, decide_eq_false_iff_not] at hi1
    simp only [Bool.or_eq_false_iff, Bool.and_eq_false_iff, beq_eq_false_iff_ne, decide_eq_false_iff_not]
    constructor
    · cases hz : Z i with
      | false => rfl
      | true =>
        have := zero i hi hz
        rcases hi1 with h | h
        · exact (h this.1).elim
        · omega
    · rcases hi1 with h | h
      · exact .inl h
      · exact .inr (by omega)
theorem con_same (a : Nat → Nat → Int) (m : Nat) : conI upF (stepsF a m) (bendsF (stepsF a m) m) m = conS upF crF sgn4 (stepsF a m) m := by
  funext i
  have cr : sgn4 (w4 (crF (w8 (stepsF a m (pvI i m))) (w8 (stepsF a m i)))) = bendsF (stepsF a m) m i := rfl
  unfold conI conS
  rw [cr]
  have hr : bendsF (stepsF a m) m i = -1 ∨ bendsF (stepsF a m) m i = 0 ∨ bendsF (stepsF a m) m i = 1 := sgn4_range _
  generalize bendsF (stepsF a m) m i = s at *
  rcases hr with rfl | rfl | rfl <;> rfl

/-- PolyTurns of a polygon; of another list. -/
def turnsOk (a : Nat → Nat → Int) (m : Nat) : Bool := noneTo (badS alS crF sgn4 (stepsF a m) m) m
def turnsN (a : Nat → Nat → Int) (m : Nat) : Int := bif turnsOk a m then sumTo (conS upF crF sgn4 (stepsF a m) m) m else 0
def F_turnsY : List SA → Option FR
  | [.row m g] => some { val := .tup [.v (i64 (turnsN (itC g) m)), .v (.bool (turnsOk (itC g) m))], obl := [allC m g, decide (m ≤ 2 ^ 38), f_valid (itC g) m == true] }
  | _ => none
def F_turnsN : List SA → Option FR
  | [.row m g] => some { val := .tup [.v (i64 0), .v (.bool false)], obl := [allC m g, decide (m ≤ 2 ^ 38), f_valid (itC g) m == false] }
  | _ => none

theorem rowC_step (a : Nat → Nat → Int) (m : Nat) : rowC (stepsF (itC (rowC a)) m) = rowC (stepsF a m) := rfl
theorem bends_itC (a : Nat → Nat → Int) (m : Nat) : bendsF (stepsF (itC (rowC a)) m) m = bendsF (stepsF a m) m := by kernel_rfl
theorem rowC_itC' (x : Nat → Nat → Int) : rowC (itC (rowC x)) = rowC x := rfl
theorem valid_itC' (a : Nat → Nat → Int) (m : Nat) : f_valid (itC (rowC a)) m = f_valid a m := by kernel_rfl

theorem ok_turnsI : SpecOk Try.prog 23 (specR md_list F_turnsY) := by
  refine specR_hr gm_yb_ok Try.func23 rfl fun sas fr hF ho => ?_
  unfold F_turnsY at hF
  split at hF
  · rename_i m g
    cases hF
    simp only [ob_cons] at ho
    obtain ⟨h1, h2, h3, _⟩ := ho
    have hv : f_valid (itC g) m = true := by simpa using h3
    refine ⟨[.row false m 8 (rowC (itC g)) 46], lamTI m (itC g) (stepsF (itC g) m) (bendsF (stepsF (itC g) m) m) (badI alF sgn4 (stepsF (itC g) m) (bendsF (stepsF (itC g) m) m) m) (conI upF (stepsF (itC g) m) (bendsF (stepsF (itC g) m) m) m), 100, .cons (ABeq.row fun j hj => allC_get h1 j hj) .nil,
      lam1 (by kernel_rfl) (sumTI gmTI_ok (fun p q k => i64B_W _) m (rowC (itC g)) 46 m _ _ (of_decide_eq_true h2)), ?_⟩
    show GoodQ (execF Try.prog gm_yb (lamTI m (itC g) (stepsF (itC g) m) (bendsF (stepsF (itC g) m) m) (badI alF sgn4 (stepsF (itC g) m) (bendsF (stepsF (itC g) m) m) m) (conI upF (stepsF (itC g) m) (bendsF (stepsF (itC g) m) m) m)) 100 Try.f23 [.sl 0 8 0 0 m none] [.row false m 8 (rowC (itC g)) 46] (packK 1)) _
    rw [treeFTI, zero_row, rowC_step, bends_itC, valid_itC']
    have hpos := valid_pos h3
    refine good_needs ?_ ?_
    · simp only [ob_cons, ob_nil, allC_of (m := m) (a := itC g) fun j _ => rfl, h2, h3, Nat.zero_add, and_true, true_and, Nat.ble_eq, Nat.le_refl, decide_eq_true_eq]
      exact ⟨hpos, hpos, chk_of ⟨rfl, Hsim.refl _⟩⟩
    · rw [bad_same hv, con_same]
      refine good_cond (fun hq => ?_) fun hq => ?_
      · refine good_out ⟨_, rfl, ?_, .cons (ABeq.row fun j hj => (allC_get h1 j hj).symm) .nil⟩
        simp only [turnsN, turnsOk, hq, cond_true]
      · refine good_out ⟨_, rfl, ?_, .cons (ABeq.row fun j hj => (allC_get h1 j hj).symm) .nil⟩
        simp only [turnsN, turnsOk, hq, cond_false]
  · cases hF

theorem ok_turnsS : SpecOk Try.prog 22 (specR md_list F_turnsY) := by
  refine specR_hr gm_y_ok Try.func22 rfl fun sas fr hF ho => ?_
  unfold F_turnsY at hF
  split at hF
  · rename_i m g
    cases hF
    simp only [ob_cons] at ho
    obtain ⟨h1, h2, h3, _⟩ := ho
    refine ⟨[.row false m 8 (rowC (itC g)) 46], lamTS m (itC g) (stepsF (itC g) m) (badS alS crF sgn4 (stepsF (itC g) m) m) (conS upF crF sgn4 (stepsF (itC g) m) m), 100, .cons (ABeq.row fun j hj => allC_get h1 j hj) .nil,
      lam1 (by kernel_rfl) (sumTS gmTS_ok (fun p q k => i64B_W _) (fun p k => i64B_W _) m (rowC (itC g)) 46 m _ (of_decide_eq_true h2)), ?_⟩
    show GoodQ (execF Try.prog gm_y (lamTS m (itC g) (stepsF (itC g) m) (badS alS crF sgn4 (stepsF (itC g) m) m) (conS upF crF sgn4 (stepsF (itC g) m) m)) 100 Try.f22 [.sl 0 8 0 0 m none] [.row false m 8 (rowC (itC g)) 46] (packK 1)) _
    rw [treeFTS, zero_row, rowC_step, valid_itC']
    have hpos := valid_pos h3
    refine good_needs ?_ ?_
    · simp only [ob_cons, ob_nil, allC_of (m := m) (a := itC g) fun j _ => rfl, h2, h3, Nat.zero_add, and_true, true_and, Nat.ble_eq, Nat.le_refl, decide_eq_true_eq]
      exact ⟨hpos, chk_of ⟨rfl, Hsim.refl _⟩⟩
    · refine good_cond (fun hq => ?_) fun hq => ?_
      · refine good_out ⟨_, rfl, ?_, .cons (ABeq.row fun j hj => (allC_get h1 j hj).symm) .nil⟩
        simp only [turnsN, turnsOk, hq, cond_true]
      · refine good_out ⟨_, rfl, ?_, .cons (ABeq.row fun j hj => (allC_get h1 j hj).symm) .nil⟩
        simp only [turnsN, turnsOk, hq, cond_false]
  · cases hF

theorem ok_turnsNI : SpecOk Try.prog 23 (specR md_list F_turnsN) := by
  refine specR_hr gm_n_ok Try.func23 rfl fun sas fr hF ho => ?_
  unfold F_turnsN at hF
  split at hF
  · rename_i m g
    cases hF
    simp only [ob_cons] at ho
    obtain ⟨h1, h2, h3, _⟩ := ho
    refine ⟨[.row false m 8 (rowC (itC g)) 46], noLam, 100, .cons (ABeq.row fun j hj => allC_get h1 j hj) .nil, noLam' _, ?_⟩
    show GoodQ (execF Try.prog gm_n noLam 100 Try.f23 [.sl 0 8 0 0 m none] [.row false m 8 (rowC (itC g)) 46] (packK 1)) _
    rw [treeNTI, zero_row, valid_itC']
    refine good_needs ?_ (good_out ⟨_, rfl, rfl, .cons (ABeq.row fun j hj => (allC_get h1 j hj).symm) .nil⟩)
    simp only [ob_cons, ob_nil, allC_of (m := m) (a := itC g) fun j _ => rfl, h2, h3, Nat.zero_add, and_true, true_and, Nat.ble_eq, Nat.le_refl]
  · cases hF

theorem ok_turnsNS : SpecOk Try.prog 22 (specR md_list F_turnsN) := by
  refine specR_hr gm_n_ok Try.func22 rfl fun sas fr hF ho => ?_
  unfold F_turnsN at hF
  split at hF
  · rename_i m g
    cases hF
    simp only [ob_cons] at ho
    obtain ⟨h1, h2, h3, _⟩ := ho
    refine ⟨[.row false m 8 (rowC (itC g)) 46], noLam, 100, .cons (ABeq.row fun j hj => allC_get h1 j hj) .nil, noLam' _, ?_⟩
    show GoodQ (execF Try.prog gm_n noLam 100 Try.f22 [.sl 0 8 0 0 m none] [.row false m 8 (rowC (itC g)) 46] (packK 1)) _
    rw [treeNTS, zero_row, valid_itC']
    refine good_needs ?_ (good_out ⟨_, rfl, rfl, .cons (ABeq.row fun j hj => (allC_get h1 j hj).symm) .nil⟩)
    simp only [ob_cons, ob_nil, allC_of (m := m) (a := itC g) fun j _ => rfl, h2, h3, Nat.zero_add, and_true, true_and, Nat.ble_eq, Nat.le_refl]
  · cases hF

end Go.Proofs.Ytkbdppnlojlcdaa

/- The abstract machine, 24: words for callees by their view of memory: whatever their arguments reach, under numbers of its own. Conditions: those of the table of callees. -/
namespace Go.Proofs.Ytkbdppnlojlcdaa
open Go.RowKit

mutual
/-- Other numbers for the blocks. -/
def mapA (f : Nat → Option Nat) : AV → Option AV
  | .v x => some (.v x)
  | .ptr i w j k => (f i).map fun i => .ptr i w j k
  | .sl i w j k l c => (f i).map fun i => .sl i w j k l c
  | .own i l => (f i).map fun i => .own i l
  | .agg cs => (mapAs f cs).map .agg
  | .tup cs => (mapAs f cs).map .tup
  | .fn g cs => (mapAs f cs).map (.fn g)
  | .dead => some .dead
def mapAs (f : Nat → Option Nat) : List AV → Option (List AV)
  | [] => some []
  | a :: al => match mapA f a, mapAs f al with
    | some x, some xs => some (x :: xs)
    | _, _ => none
end
mutual
theorem VR.map {f : Nat → Option Nat} {ν ν' : Nu} (h : ∀ i i' b, f i = some i' → ν i = some b → ν' i' = some b) : ∀ {a a' : AV} {y : Value}, mapA f a = some a' → VR ν a y → VR ν' a' y
  | .v _, a', _, hs, hv => by
    simp only [mapA, Option.some.injEq] at hs
    subst hs
    simpa only [VR] using hv
  | .ptr .., a', _, hs, hv => by
    simp only [mapA, Option.map_eq_some_iff] at hs
    obtain ⟨q, hq, rfl⟩ := hs
    simp only [VR] at hv ⊢
    obtain ⟨b, h1, h2⟩ := hv
    exact ⟨b, h _ _ _ hq h1, h2⟩
  | .sl .., a', _, hs, hv => by
    simp only [mapA, Option.map_eq_some_iff] at hs
    obtain ⟨q, hq, rfl⟩ := hs
    simp only [VR] at hv ⊢
    obtain ⟨p, c, h1, h2, h3, h4⟩ := hv
    exact ⟨p, c, h1, h2, h3, fun hc => let ⟨b, h5, h6⟩ := h4 hc; ⟨b, h _ _ _ hq h5, h6⟩⟩
  | .own .., a', _, hs, hv => by
    simp only [mapA, Option.map_eq_some_iff] at hs
    obtain ⟨q, hq, rfl⟩ := hs
    simp only [VR] at hv ⊢
    obtain ⟨b, h1, h2⟩ := hv
    exact ⟨b, h _ _ _ hq h1, h2⟩
  | .agg cs, a', _, hs, hv => by
    simp only [mapA, Option.map_eq_some_iff] at hs
    obtain ⟨q, hq, rfl⟩ := hs
    simp only [VR] at hv ⊢
    obtain ⟨l, h1, h2⟩ := hv
    exact ⟨l, h1, VRs.map h hq h2⟩
  | .tup cs, a', _, hs, hv => by
    simp only [mapA, Option.map_eq_some_iff] at hs
    obtain ⟨q, hq, rfl⟩ := hs
    simp only [VR] at hv ⊢
    obtain ⟨l, h1, h2⟩ := hv
    exact ⟨l, h1, VRs.map h hq h2⟩
  | .fn _ cs, a', _, hs, hv => by
    simp only [mapA, Option.map_eq_some_iff] at hs
    obtain ⟨q, hq, rfl⟩ := hs
    simp only [VR] at hv ⊢
    obtain ⟨l, h1, h2⟩ := hv
    exact ⟨l, h1, VRs.map h hq h2⟩
  | .dead, a', _, hs, _ => by
    simp only [mapA, Option.some.injEq] at hs
    subst hs
    simp only [VR]
theorem VRs.map {f : Nat → Option Nat} {ν ν' : Nu} (h : ∀ i i' b, f i = some i' → ν i = some b → ν' i' = some b) : ∀ {al al' : List AV} {ys : List Value}, mapAs f al = some al' → VRs ν al ys → VRs ν' al' ys
  | [], al', ys, hs, hv => by
    simp only [mapAs, Option.some.injEq] at hs
    subst hs
    cases ys with
    | nil => simp only [VRs]
    | cons => simp only [VRs] at hv
  | a :: al, al', ys, hs, hv => by
    cases ys with
    | nil => simp only [VRs] at hv
    | cons y ys =>
      simp only [VRs] at hv
      simp only [mapAs] at hs
      split at hs
      · rename_i x xs h1 h2
        cases hs
        simp only [VRs]
        exact ⟨VR.map h h1 hv.1, VRs.map h h2 hv.2⟩
      · cases hs
end
def mapB (f : Nat → Option Nat) : AB → Option AB
  | .cells cs t => (mapAs f cs).map fun cs => .cells cs t
  | b => some b
def mapBs (f : Nat → Option Nat) : List AB → Option (List AB)
  | [] => some []
  | b :: bs => match mapB f b, mapBs f bs with
    | some x, some xs => some (x :: xs)
    | _, _ => none
theorem mapBs_get {f : Nat → Option Nat} : ∀ {bs bs' : List AB}, mapBs f bs = some bs' → bs'.length = bs.length ∧ ∀ (j : Nat) b, bs[j]? = some b → ∃ b', bs'[j]? = some b' ∧ mapB f b = some b'
  | [], bs', h => by
    simp only [mapBs, Option.some.injEq] at h
    subst h
    exact ⟨rfl, fun j b hb => by simp at hb⟩
  | b :: bs, bs', h => by
    simp only [mapBs] at h
    split at h
    · rename_i x xs h1 h2
      cases h
      obtain ⟨e1, e2⟩ := mapBs_get h2
      refine ⟨by simp [e1], fun j b' hb => ?_⟩
      cases j with
      | zero => simp at hb; subst hb; exact ⟨x, rfl, h1⟩
      | succ j => simpa using e2 j b' (by simpa using hb)
    · cases h
theorem BR.map {f : Nat → Option Nat} {ν ν' : Nu} {i i' : Nat} {b b' : AB} {w : World} (h : ∀ i i' b, f i = some i' → ν i = some b → ν' i' = some b) (hi : ν' i' = ν i) (hm : mapB f b = some b') (hb : BR ν i b w) : BR ν' i' b' w := by
  cases b with
  | cells cs t =>
    simp only [mapB, Option.map_eq_some_iff] at hm
    obtain ⟨cs', h1, rfl⟩ := hm
    obtain ⟨b, l, e1, e2, e3, e4⟩ := hb
    exact ⟨b, l, by rw [hi]; exact e1, e2, e3, e4.map h h1⟩
  | row rw' n wd g t =>
    simp only [mapB, Option.some.injEq] at hm
    subst hm
    rcases hb with ⟨e1, e2, e3⟩ | ⟨b, l, t', fz, e1, e2⟩
    · exact .inl ⟨e1, e2, by rw [hi]; exact e3⟩
    · exact .inr ⟨b, l, t', fz, by rw [hi]; exact e1, e2⟩
  | gone =>
    simp only [mapB, Option.some.injEq] at hm
    subst hm
    trivial
theorem mapB_marks {f : Nat → Option Nat} {b b' : AB} (h : mapB f b = some b') : b'.wr = b.wr ∧ b'.live = b.live ∧ (b = .gone → b' = .gone) := by
  cases b with
  | cells cs t => simp only [mapB, Option.map_eq_some_iff] at h; obtain ⟨q, _, rfl⟩ := h; exact ⟨rfl, rfl, fun h => by cases h⟩
  | row => simp only [mapB, Option.some.injEq] at h; subst h; exact ⟨rfl, rfl, fun h => by cases h⟩
  | gone => simp only [mapB, Option.some.injEq] at h; subst h; exact ⟨rfl, rfl, fun _ => rfl⟩

/-- A row that the callee only reads. -/
def roB (r : Bool) : AB → AB
  | .row rw n w g t => .row (rw && !r) n w g t
  | b => b
def roL : List Bool → List AB → List AB
  | _, [] => []
  | [], b :: bs => b :: roL [] bs
  | r :: rs, b :: bs => roB r b :: roL rs bs
theorem roL_length : ∀ (rs : List Bool) (bs : List AB), (roL rs bs).length = bs.length
  | _, [] => by simp [roL]
  | [], b :: bs => by simp [roL, roL_length [] bs]
  | r :: rs, b :: bs => by simp [roL, roL_length rs bs]
theorem roL_get : ∀ (rs : List Bool) (bs : List AB) (j : Nat), (roL rs bs)[j]? = (bs[j]?).map (roB (rs.getD j false))
  | _, [], j => by simp [roL]
  | [], b :: bs, 0 => by cases b <;> simp [roL, roB]
  | [], b :: bs, j + 1 => by simpa [roL] using roL_get [] bs j
  | r :: rs, b :: bs, 0 => by simp [roL]
  | r :: rs, b :: bs, j + 1 => by simpa [roL] using roL_get rs bs j
theorem roB_wr {r : Bool} {b : AB} (h : (roB r b).wr = true) : b.wr = true := by
  cases b with
  | row rw => simp only [roB, AB.wr, Bool.and_eq_true] at h ⊢; exact h.1
  | cells => rfl
  | gone => simp [roB, AB.wr] at h
theorem roB_live {r : Bool} {b : AB} : (roB r b).live = b.live := by cases b <;> rfl
theorem roB_br {ν : Nu} {i : Nat} {r : Bool} {b : AB} {w : World} (h : BR ν i b w) : BR ν i (roB r b) w := by
  cases b with
  | row rw n wd g t =>
    rcases h with ⟨e1, e2, e3⟩ | ⟨b, l, t', fz, e1, e2, e3, e4⟩
    · exact .inl ⟨by simp [e1], e2, e3⟩
    · exact .inr ⟨b, l, t', fz, e1, e2, fun hr => by
        simp only [Bool.and_eq_true] at hr
        exact e3 hr.1, e4⟩
  | cells => exact h
  | gone => exact h

/-- What a callee leaves: its value, the blocks that it saw, new ones, what is owed; in its own numbers. -/
structure HR where
  val : AV
  out : List AB
  new : List AB := []
  obl : List Bool := []

def putH : List Nat → List AB → List AB → List (Nat × AB)
  | i :: is, h :: hs, o :: os => bif h.wr then (i, o) :: putH is hs os else putH is hs os
  | _, _, _ => []
theorem putH_mem : ∀ {is : List Nat} {hs os : List AB} {i : Nat} {o : AB}, (i, o) ∈ putH is hs os → ∃ (j : Nat) (h : AB), is[j]? = some i ∧ hs[j]? = some h ∧ os[j]? = some o ∧ h.wr = true
  | i0 :: is, h0 :: hs, o0 :: os, i, o, hm => by
    simp only [putH] at hm
    have tail : (i, o) ∈ putH is hs os → ∃ (j : Nat) (h : AB), (i0 :: is)[j]? = some i ∧ (h0 :: hs)[j]? = some h ∧ (o0 :: os)[j]? = some o ∧ h.wr = true := fun hm => by
      obtain ⟨j, h, e1, e2, e3, e4⟩ := putH_mem hm
      exact ⟨j + 1, h, by simpa using e1, by simpa using e2, by simpa using e3, e4⟩
    cases hw : h0.wr with
    | true =>
      rw [hw, cond_true] at hm
      rcases List.mem_cons.1 hm with e | hm
      · cases e
        exact ⟨0, h0, rfl, rfl, rfl, hw⟩
      · exact tail hm
    | false => rw [hw, cond_false] at hm; exact tail hm
  | [], _, _, _, _, hm => by simp [putH] at hm
  | _ :: _, [], _, _, _, hm => by simp [putH] at hm
  | _ :: _, _ :: _, [], _, _, hm => by simp [putH] at hm
theorem putH_of : ∀ {is : List Nat} {hs os : List AB} {j i : Nat} {h o : AB}, is[j]? = some i → hs[j]? = some h → os[j]? = some o → h.wr = true → (i, o) ∈ putH is hs os
  | i0 :: is, h0 :: hs, o0 :: os, j, i, h, o, e1, e2, e3, hw => by
    cases j with
    | zero =>
      simp at e1 e2 e3
      subst e1 e2 e3
      simp [putH, hw]
    | succ j =>
      have := putH_of (is := is) (hs := hs) (os := os) (j := j) (by simpa using e1) (by simpa using e2) (by simpa using e3) hw
      simp only [putH]
      cases h0.wr with
      | true => exact List.mem_cons_of_mem _ this
      | false => exact this
  | [], _, _, _, _, _, _, e1, _, _, _ => by simp at e1
  | _ :: _, [], _, _, _, _, _, _, e2, _, _ => by simp at e2
  | _ :: _, _ :: _, [], _, _, _, _, _, _, e3, _ => by simp at e3
theorem lookB_of {i : Nat} {b : AB} : ∀ {l : List (Nat × AB)}, (i, b) ∈ l → ∃ b', lookB i l = some b'
  | p :: l, h => by
    simp only [lookB]
    split
    · exact ⟨_, rfl⟩
    · rename_i hne
      rcases List.mem_cons.1 h with e | h
      · subst e; exact absurd rfl hne
      · exact lookB_of h

/-- The numbers on the way back: what the callee may write, and what is new. -/
def bkF (keep : List Nat) (Hc : List AB) (base : Nat) : Nat → Option Nat := fun i => bif Nat.blt i keep.length then (bif (Hc.getD i .gone).wr then keep[i]? else none) else some (base + (i - keep.length))

def viewH (ros : List Bool) (avs : List AV) (H : List AB) : Option (List Nat × List AV × List AB) :=
  match renAs (reach H 400 [] (idxAs avs)) avs, renBs (reach H 400 [] (idxAs avs)) H (reach H 400 [] (idxAs avs)) with
  | some a, some h => cond (nodupB (reach H 400 [] (idxAs avs))) (some (reach H 400 [] (idxAs avs), a, roL ros h)) none
  | _, _ => none

/-- A callee's word, by its view. -/
def specH (ros : List Bool) (F : List AV → List AB → Option HR) : Spec := fun avs H base =>
  match viewH ros avs H with
  | some q => match F q.2.1 q.2.2 with
    | some hr => match mapA (bkF q.1 q.2.2 base) hr.val, mapBs (bkF q.1 q.2.2 base) hr.out, mapBs (bkF q.1 q.2.2 base) hr.new with
      | some v, some ou, some nw => cond (Nat.beq hr.out.length q.2.2.length && hr.new.all AB.wr)
          (some { val := v, rd := q.1, put := putH q.1 q.2.2 ou, new := nw, obl := hr.obl }) none
      | _, _, _ => none
    | none => none
  | none => none

/-- What the callee is to come to. -/
def GivH (hr : HR) : Ex → List AV → List AB → Prop := fun _ l He => l = [hr.val] ∧ Hsim He (hr.out ++ hr.new)

theorem specH_ok {Γ : Gam} (hΓ : GamOk Try.prog Γ) {f : FuncId} {fn : Func} {ros : List Bool} {F : List AV → List AB → Option HR} (hf : Try.prog.funcs[f]? = some fn) (hb : fn.body.isSome = true)
    (h : ∀ avs H hr, F avs H = some hr → obls hr.obl = true → ∃ (H0 : List AB) (Λ : Nat → Option Sum) (n : Nat), Hsim H H0 ∧ (∀ c, fn.body = some c → LamOk Try.prog H0.length Λ c) ∧ GoodQ (execF Try.prog Γ Λ n fn avs H0 (packK H0.length)) (GivH hr)) : SpecOk Try.prog f (specH ros F) := by
  refine ⟨fun args w => enters f fn hf hb args w, fun avs H base δ ν vals w hS ho hv hbr hlt hfree hsep => ?_⟩
  unfold specH at hS
  split at hS
  case h_2 => cases hS
  rename_i q hq
  split at hS
  case h_2 => cases hS
  rename_i hr hF
  split at hS
  case h_2 => cases hS
  rename_i v ou nw hval hou hnw
  cases hck : (Nat.beq hr.out.length q.2.2.length && hr.new.all AB.wr) with
  | false => rw [hck] at hS; cases hS
  | true =>
  rw [hck] at hS
  simp only [cond_true, Option.some.injEq] at hS
  subst hS
  rw [Bool.and_eq_true] at hck
  have hlen := Nat.eq_of_beq_eq_true hck.1
  have hnewwr := List.all_eq_true.1 hck.2
  unfold viewH at hq
  generalize reach H 400 [] (idxAs avs) = keep at *
  split at hq
  case h_2 => cases hq
  rename_i avs' H1 hra hrb
  cases hnd : nodupB keep with
  | false => rw [hnd] at hq; cases hq
  | true =>
  rw [hnd] at hq
  simp only [cond_true, Option.some.injEq] at hq
  subst hq
  simp only at hval hou hnw hF hlen hbr hsep ho hfree ⊢
  obtain ⟨hl1, hg1⟩ := renBs_get hrb
  have hlHc : (roL ros H1).length = keep.length := by rw [roL_length, hl1]
  have nuAt : ∀ {j i}, keep[j]? = some i → keepNu keep ν j = ν i := fun hj => by simp [keepNu, hj]
  have ofNu : ∀ {j b}, keepNu keep ν j = some b → ∃ i, keep[j]? = some i ∧ ν i = some b := by
    intro j b hb
    unfold keepNu at hb
    split at hb
    · rename_i i hi; exact ⟨i, hi, hb⟩
    · cases hb
  have ren_marks : ∀ {b b' : AB}, renB keep b = some b' → b'.wr = b.wr ∧ b'.live = b.live := by
    intro b b' hb
    cases b with
    | cells cs t => simp only [renB, Option.map_eq_some_iff] at hb; obtain ⟨q, _, rfl⟩ := hb; exact ⟨rfl, rfl⟩
    | row => simp only [renB, Option.some.injEq] at hb; subst hb; exact ⟨rfl, rfl⟩
    | gone => simp only [renB, Option.some.injEq] at hb; subst hb; exact ⟨rfl, rfl⟩
  -- the callee's block j is the caller's block keep j
  have view : ∀ {j i}, keep[j]? = some i → ∃ b1, H1[j]? = some b1 ∧ renB keep (H.getD i .gone) = some b1 ∧ (roL ros H1)[j]? = some (roB (ros.getD j false) b1) := by
    intro j i hj
    obtain ⟨b1, e1, e2⟩ := hg1 j i hj
    exact ⟨b1, e1, e2, by rw [roL_get, e1]; rfl⟩
  have wrOf : ∀ {j i}, keep[j]? = some i → ((roL ros H1).getD j .gone).wr = true → (H.getD i .gone).wr = true := by
    intro j i hj hw
    obtain ⟨b1, _, e2, e3⟩ := view hj
    have : (roL ros H1).getD j .gone = roB (ros.getD j false) b1 := by simp [List.getD_eq_getElem?_getD, e3]
    rw [this] at hw
    rw [← (ren_marks e2).1]
    exact roB_wr hw
  have liveOf : ∀ {j i}, keep[j]? = some i → ((roL ros H1).getD j .gone).live = true → (H.getD i .gone).live = true := by
    intro j i hj hw
    obtain ⟨b1, _, e2, e3⟩ := view hj
    have : (roL ros H1).getD j .gone = roB (ros.getD j false) b1 := by simp [List.getD_eq_getElem?_getD, e3]
    rw [this, roB_live] at hw
    rw [← (ren_marks e2).2]
    exact hw
  obtain ⟨hlo, hgo⟩ := mapBs_get hou
  obtain ⟨hln, hgn⟩ := mapBs_get hnw
  have inPut : ∀ {j i}, keep[j]? = some i → ((roL ros H1).getD j .gone).wr = true → ∃ o o', hr.out[j]? = some o ∧ ou[j]? = some o' ∧ mapB (bkF keep (roL ros H1) base) o = some o' ∧ (i, o') ∈ putH keep (roL ros H1) ou := by
    intro j i hj hw
    have hjl : j < keep.length := (List.getElem?_eq_some_iff.1 hj).1
    have ho : hr.out[j]? = some (hr.out[j]'(by omega)) := List.getElem?_eq_getElem _
    obtain ⟨o', e1, e2⟩ := hgo j _ ho
    have hh : (roL ros H1)[j]? = some ((roL ros H1)[j]'(by omega)) := List.getElem?_eq_getElem _
    refine ⟨_, o', ho, e1, e2, putH_of hj hh e1 ?_⟩
    have : (roL ros H1).getD j .gone = (roL ros H1)[j]'(by omega) := by simp [List.getD_eq_getElem?_getD, hh]
    rw [← this]; exact hw
  let M : Nat → Prop := fun k => w.heap.size ≤ k ∨ ∃ j b, ((roL ros H1).getD j .gone).wr = true ∧ keepNu keep ν j = some b ∧ b.n = k
  have hRH : RH M (keepNu keep ν) (fun b => (roL ros H1).getD b .gone) w := by
    refine ⟨fun j => ?_, fun i j b b' hne hw hlv hb hb' => ?_, fun i b hw hb => .inr ⟨i, b, hw, hb, rfl⟩, fun i b hb => ?_⟩
    · cases hj : keep[j]? with
      | none =>
        have : (roL ros H1).getD j .gone = .gone := by
          rw [List.getD_eq_getElem?_getD, List.getElem?_eq_none]
          · rfl
          · rw [hlHc]
            exact List.getElem?_eq_none_iff.1 hj
        simp only [this]
        trivial
      | some i =>
        obtain ⟨b1, e1, e2, e3⟩ := view hj
        have : (roL ros H1).getD j .gone = roB (ros.getD j false) b1 := by simp [List.getD_eq_getElem?_getD, e3]
        simp only [this]
        refine roB_br ?_
        have hbi := hbr i (List.mem_of_getElem? hj)
        have hν := nuAt hj
        cases hi : H.getD i .gone with
        | cells cs t =>
          rw [hi] at e2 hbi
          simp only [renB, Option.map_eq_some_iff] at e2
          obtain ⟨cs', h1, h2⟩ := e2
          rw [← h2]
          obtain ⟨b, l, g1, g2, g3, g4⟩ := hbi
          exact ⟨b, l, by rw [hν]; exact g1, g2, g3, g4.ren h1⟩
        | row rw' n wd g t =>
          rw [hi] at e2 hbi
          simp only [renB, Option.some.injEq] at e2
          rw [← e2]
          rcases hbi with ⟨g1, g2, g3⟩ | ⟨b, l, t', fz, g1, g2⟩
          · exact .inl ⟨g1, g2, by rw [hν]; exact g3⟩
          · exact .inr ⟨b, l, t', fz, by rw [hν]; exact g1, g2⟩
        | gone =>
          rw [hi] at e2
          simp only [renB, Option.some.injEq] at e2
          rw [← e2]
          trivial
    · obtain ⟨i', hi, e1⟩ := ofNu hb
      obtain ⟨j', hj, e2⟩ := ofNu hb'
      obtain ⟨_, o', _, _, _, hp⟩ := inPut hi hw
      refine hsep i' o' j' b b' hp (List.mem_of_getElem? hj) (fun e => ?_) (liveOf hj hlv) e1 e2
      subst e
      exact hne (nodupB_ne hnd i j i' hi hj)
    · obtain ⟨i', _, e1⟩ := ofNu hb
      exact hlt i' b e1
  obtain ⟨H0, Λ, n, hsim, hL, hG⟩ := h avs' (roL ros H1) hr hF ho
  have hl0 : H0.length = keep.length := by rw [← hsim.length, hlHc]
  have hdom0 : ∀ i b, keepNu keep ν i = some b → i < H0.length := by
    intro i b hb
    obtain ⟨i', hi, _⟩ := ofNu hb
    rw [hl0]
    exact (List.getElem?_eq_some_iff.1 hi).1
  refine (calls_pack hΓ mixed enters hf hL (fun k hk => Or.inl hk) hG.out (hv.ren hra) (hRH.sim hsim) hdom0).mono ?_
  rintro e w' ⟨vv, av, He, ν', rfl, ⟨hav, hHe⟩, hvr, hRH', hfr, hle, hdom'⟩
  simp only [List.cons.injEq, and_true] at hav
  subst hav
  have hRH2 := hRH'.sim hHe
  have hHl : He.length = keep.length + hr.new.length := by rw [hHe.length, List.length_append, hlen, hlHc]
  -- a block that may be written has a place
  have wrNu : ∀ {j : Nat}, ((roL ros H1).getD j .gone).wr = true → ∃ b, keepNu keep ν j = some b := by
    intro j hw
    have : BR (keepNu keep ν) j ((roL ros H1).getD j .gone) w := hRH.br j
    cases hb : (roL ros H1).getD j .gone with
    | cells cs t => rw [hb] at this; obtain ⟨b, l, e1, _⟩ := this; exact ⟨b, e1⟩
    | row rw' n wd g t =>
      rw [hb] at this hw
      rcases this with ⟨e1, _⟩ | ⟨b, l, t', fz, e1, _⟩
      · simp only [AB.wr] at hw
        rw [e1] at hw
        cases hw
      · exact ⟨b, e1⟩
    | gone => rw [hb] at hw; cases hw
  let ν2 : Nu := fun i => match ν i with
    | some b => some b
    | none => if base ≤ i ∧ i < base + nw.length then ν' (keep.length + (i - base)) else none
  have n2old : ∀ {i b}, ν i = some b → ν2 i = some b := fun {i b} h => by simp only [ν2, h]
  have n2new : ∀ {j : Nat}, j < nw.length → ν2 (base + j) = ν' (keep.length + j) := fun {j} hj => by
    have h0 := hfree j hj
    have h1 : ν2 (base + j) = if base ≤ base + j ∧ base + j < base + nw.length then ν' (keep.length + (base + j - base)) else none := by
      show (match ν (base + j) with | some b => some b | none => if base ≤ base + j ∧ base + j < base + nw.length then ν' (keep.length + (base + j - base)) else none) = _
      rw [h0]
    rw [h1, if_pos ⟨by omega, by omega⟩, Nat.add_sub_cancel_left]
  have mp : ∀ i i' b, bkF keep (roL ros H1) base i = some i' → ν' i = some b → ν2 i' = some b := by
    intro i i' b h1 h2
    unfold bkF at h1
    cases hc : Nat.blt i keep.length with
    | true =>
      rw [hc, cond_true] at h1
      cases hw : ((roL ros H1).getD i .gone).wr with
      | false => rw [hw] at h1; cases h1
      | true =>
        rw [hw, cond_true] at h1
        obtain ⟨b0, hb0⟩ := wrNu hw
        have := hle _ _ hb0
        rw [h2] at this
        cases this
        rw [nuAt h1] at hb0
        exact n2old hb0
    | false =>
      rw [hc, cond_false, Option.some.injEq] at h1
      subst h1
      have hge : ¬ i < keep.length := fun hl => by rw [← Nat.blt_eq] at hl; rw [hl] at hc; cases hc
      have hd := hdom' i b h2
      have e : i = keep.length + (i - keep.length) := by omega
      rw [n2new (by rw [hln]; omega), ← e]
      exact h2
  have outBR : ∀ {j : Nat} {o : AB}, hr.out[j]? = some o → BR ν' j o w' := by
    intro j o hj
    have := hRH2.br j
    have hjl : j < hr.out.length := (List.getElem?_eq_some_iff.1 hj).1
    simp only [List.getD_eq_getElem?_getD, List.getElem?_append_left hjl, hj, Option.getD_some] at this
    exact this
  have newAt : ∀ {j : Nat} {o : AB}, hr.new[j]? = some o → (hr.out ++ hr.new).getD (keep.length + j) .gone = o := by
    intro j o hj
    rw [List.getD_eq_getElem?_getD, List.getElem?_append_right (by omega)]
    have : keep.length + j - hr.out.length = j := by omega
    rw [this, hj]
    rfl
  refine ⟨vv, ν2, rfl, ⟨fun i b hb => n2old hb, fun i h1 h2 => ?_, hvr.map mp hval, fun i b hl => ?_, fun j b hj => ?_, hfr.os, hfr.tape, hfr.output, hfr.size, fun k hk hne => ?_, fun j b hj hb => ?_, fun j j' b b' hne hj hj' hb hb' => ?_⟩⟩
  · simp only [ν2, h1] at h2
    split at h2
    · assumption
    · exact (h2 rfl).elim
  · obtain ⟨j, hh, e1, e2, e3, e4⟩ := putH_mem (lookB_mem hl)
    have hw : ((roL ros H1).getD j .gone).wr = true := by simp only [List.getD_eq_getElem?_getD, e2, Option.getD_some]; exact e4
    obtain ⟨o, o', g1, g2, g3, _⟩ := inPut e1 hw
    rw [e3] at g2
    cases g2
    obtain ⟨b0, hb0⟩ := wrNu hw
    have e5 : ν2 i = ν' j := by
      rw [hle _ _ hb0]
      rw [nuAt e1] at hb0
      exact n2old hb0
    exact (outBR g1).map mp e5 g3
  · have hjl : j < nw.length := (List.getElem?_eq_some_iff.1 hj).1
    have hn : hr.new[j]? = some (hr.new[j]'(by omega)) := List.getElem?_eq_getElem _
    obtain ⟨b', e1, e2⟩ := hgn j _ hn
    rw [hj] at e1
    cases e1
    have : BR ν' (keep.length + j) ((hr.out ++ hr.new).getD (keep.length + j) .gone) w' := hRH2.br (keep.length + j)
    rw [newAt hn] at this
    exact this.map mp (n2new hjl) e2
  · refine hfr.block k hk fun hM => ?_
    rcases hM with hM | ⟨j, b, hw, hb, e⟩
    · omega
    · obtain ⟨i, hi, e1⟩ := ofNu hb
      obtain ⟨_, o', _, _, _, hp⟩ := inPut hi hw
      exact hne _ b hp e1 e
  · have hj : j < nw.length := hj
    rw [n2new hj] at hb
    refine ⟨hRH2.lt _ _ hb, ?_⟩
    have hn : hr.new[j]? = some (hr.new[j]'(by omega)) := List.getElem?_eq_getElem _
    have hwn : ((hr.out ++ hr.new).getD (keep.length + j) .gone).wr = true := by
      rw [newAt hn]
      exact hnewwr _ (List.mem_of_getElem? hn)
    rcases hRH2.own _ b hwn hb with hM | ⟨i, b0, hw, hb0, e⟩
    · exact .inl hM
    · right
      obtain ⟨i', hi, e1⟩ := ofNu hb0
      obtain ⟨o, o', g1, g2, g3, hp⟩ := inPut hi hw
      obtain ⟨o2, hl2⟩ := lookB_of hp
      refine ⟨i', b0, ?_, e1, e⟩
      have hil : i < keep.length := (List.getElem?_eq_some_iff.1 hi).1
      have hgone : o = .gone := by
        cases hlv : o.live with
        | false => cases o <;> first | rfl | cases hlv
        | true =>
          have e3 : (hr.out ++ hr.new).getD i .gone = o := by
            rw [List.getD_eq_getElem?_getD, List.getElem?_append_left (by omega), g1]
            rfl
          exact (hRH2.sep (keep.length + j) i b b0 (by omega) hwn (by rw [e3]; exact hlv) hb (hle _ _ hb0) e.symm).elim
      subst hgone
      have ho' := (mapB_marks g3).2.2 rfl
      subst ho'
      obtain ⟨j2, h2, f1, f2, f3, f4⟩ := putH_mem (lookB_mem hl2)
      have : j2 = i := nodupB_ne hnd j2 i i' f1 hi
      subst this
      rw [g2] at f3
      cases f3
      exact hl2
  · have hj : j < nw.length := hj
    have hj' : j' < nw.length := hj'
    rw [n2new hj] at hb
    rw [n2new hj'] at hb'
    have hn : hr.new[j]? = some (hr.new[j]'(by omega)) := List.getElem?_eq_getElem _
    have hn' : hr.new[j']? = some (hr.new[j']'(by omega)) := List.getElem?_eq_getElem _
    have w1 : ((hr.out ++ hr.new).getD (keep.length + j) .gone).wr = true := by
      rw [newAt hn]
      exact hnewwr _ (List.mem_of_getElem? hn)
    have w2 : ((hr.out ++ hr.new).getD (keep.length + j') .gone).live = true := by
      rw [newAt hn']
      have := hnewwr _ (List.mem_of_getElem? hn')
      revert this
      cases hr.new[j']'(by omega) <;> simp [AB.wr, AB.live]
    exact hRH2.sep (keep.length + j) (keep.length + j') b b' (by omega) w1 w2 hb hb'

end Go.Proofs.Ytkbdppnlojlcdaa

/- PolyConvex of both: loops and runs. Conditions: a list of points. -/
namespace Go.Proofs.Ytkbdppnlojlcdaa
open Go.RowKit
set_option maxRecDepth 100000

/-- The place of the first that is bad, or -1. -/
def fstAt (bad : Nat → Bool) (m : Nat) : Int := match (List.range m).find? bad with
  | some j => (j : Int)
  | none => -1
theorem fstAt_at {bad : Nat → Bool} {m i : Nat} (h : noneTo bad i = true) (hi : i < m) (h1 : bad i = true) : fstAt bad m = i := by
  have : (List.range m).find? bad = some i := by
    rw [List.find?_range_eq_some]
    exact ⟨h1, by simpa using hi, fun j hj => by simp [noneTo_get h hj]⟩
  rw [fstAt, this]
theorem fstAt_no {bad : Nat → Bool} {m : Nat} (h : noneTo bad m = true) : fstAt bad m = -1 := by
  have : (List.range m).find? bad = none := by
    rw [List.find?_eq_none]
    intro j hj
    simp [noneTo_get h (by simpa using hj)]
  rw [fstAt, this]
theorem fstAt_ge (bad : Nat → Bool) (m : Nat) : decide (fstAt bad m ≥ 0) = !noneTo bad m := by
  cases h : (List.range m).find? bad with
  | none =>
    have : noneTo bad m = true := List.all_eq_true.2 fun j hj => by
      have := List.find?_eq_none.1 h j hj
      simpa using this
    rw [fstAt_no this, this]
    rfl
  | some j =>
    have h1 := List.find?_some h
    have h2 := List.mem_of_find?_eq_some h
    rw [noneTo_no (by simpa using h2) h1, fstAt, h]
    simp

noncomputable abbrev fIFI : Func := Try.f103
abbrev fnT : AV := .fn 71 [.ptr 1 0 0 0]
abbrev lvIF : Ex → List Nat := lv3 [0, 1, 7, 8] [] [4]
abbrev hpIF (m : Nat) (a : Nat → Int) (x : Int) (t t2 : TypeId) : List AB := [.row false m 1 (rowI a) t, .cells [.v (i64 x)] t2]
def neB (a : Nat → Int) (x : Int) (j : Nat) : Bool := a j != x

theorem rndIF (m : Nat) (a : Nat → Int) (x : Int) (t t2 : TypeId) (i : Nat) : execC Try.prog g0 100 noLam (loopAt 0 fIFI) (mkT 0 19 ((lvIF .normal).zip [.own 0 m, fnT, .v (i64 m), .v (i64 i)])) (hpIF m a x t t2) (leafV 19 lvIF 2)
    = bif decide ((↑i : Int) < (↑m : Int)) then needs [decide ((↑i : Int) < (↑m : Int)), decide (Int.toNat (↑i : Int) < m)] (bif a (Int.toNat (↑i : Int)) != x then Res.out Ex.ret [AV.v (Value.int IntKind.i64 (↑i : Int))] [AB.row false m (1 : Nat) (rowI a) t, AB.cells [AV.v (Value.int IntKind.i64 x)] t2] else Res.out Ex.normal [AV.own (0 : Nat) m, AV.fn (71 : FuncId) [AV.ptr (1 : Nat) (0 : Nat) (0 : Nat) (0 : Nat)], AV.v (Value.int IntKind.i64 (↑m : Int)), AV.v (Value.int IntKind.i64 (IntKind.wrap IntKind.i64 ((↑i : Int) + (1 : Int))))] [AB.row false m (1 : Nat) (rowI a) t, AB.cells [AV.v (Value.int IntKind.i64 x)] t2]) else Res.out (Ex.exit (0 : Nat)) [] [AB.row false m (1 : Nat) (rowI a) t, AB.cells [AV.v (Value.int IntKind.i64 x)] t2] := by kernel_rfl

abbrev lvCS : Ex → List Nat := lv3 [3, 5, 7] [3, 5] [2]
theorem rndCS (n : Nat) (g : Nat → List Value) (t : TypeId) (m : Nat) (bf : Nat → Int) (tv : Int) (i : Nat) : execC Try.prog g0 100 noLam (loopAt 0 Try.f28) (mkT 0 54 ((lvCS .normal).zip [.own 1 m, .v (i64 tv), .v (i64 i)])) [.row false n 8 g t, .row true m 1 (rowI bf) 3] (leafV 54 lvCS 1)
    = bif decide ((↑i : Int) < (↑m : Int)) then needs [decide ((↑i : Int) < (↑m : Int)), decide (Int.toNat (↑i : Int) < m), decide ((0 : Int) < (↑m : Int)), decide ((0 : Nat) < m)] (bif bf (Int.toNat (↑i : Int)) != bf (0 : Nat) then Res.out Ex.ret [AV.v (Value.bool false)] [AB.row false n (8 : Nat) g t] else Res.out Ex.normal [AV.own (1 : Nat) m, AV.v (Value.int IntKind.i64 tv), AV.v (Value.int IntKind.i64 (IntKind.wrap IntKind.i64 ((↑i : Int) + (1 : Int))))] [AB.row false n (8 : Nat) g t, AB.row true m (1 : Nat) (rowI bf) (3 : TypeId)]) else Res.out (Ex.exit (0 : Nat)) [AV.own (1 : Nat) m, AV.v (Value.int IntKind.i64 tv)] [AB.row false n (8 : Nat) g t, AB.row true m (1 : Nat) (rowI bf) (3 : TypeId)] := by kernel_rfl

def F_ifI : List AV → List AB → Option HR
  | [.own 0 m, .fn 71 [.ptr 1 0 0 0]], [.row false n 1 g t, .cells [.v (.int .i64 x)] t2] => some { val := .v (i64 (fstAt (neB (itI g) x) m)), out := [.row false n 1 g t, .cells [.v (.int .i64 x)] t2], obl := [Nat.beq n m, allI m g, decide (m ≤ 2 ^ 40)] }
  | _, _ => none
noncomputable abbrev lamIF (m : Nat) (a : Nat → Int) (x : Int) (t t2 : TypeId) (out : Kont → Res) : Nat → Option Sum := oneL 0 (atS 19 (lvIF .normal) 2 [.own 0 m, fnT, .v (i64 m), .v (i64 (0 : Nat))] (hpIF m a x t t2) out)

theorem treeIF (m : Nat) (a : Nat → Int) (x : Int) (t t2 : TypeId) (bad : Nat → Bool) : execF Try.prog g0 (lamIF m a x t t2 (fun K => cond (noneTo bad m) (K .normal (mkT 0 19 []) (hpIF m a x t t2)) (K .ret (mkT 0 19 [(4, .v (i64 (fstAt bad m)))]) (hpIF m a x t t2)))) 100 fIFI [.own 0 m, fnT] (hpIF m a x t t2) (packK 2)
    = needs [chk ([AV.own (0 : Nat) m, AV.fn (71 : FuncId) [AV.ptr (1 : Nat) (0 : Nat) (0 : Nat) (0 : Nat)], AV.v (Value.int IntKind.i64 (↑m : Int)), AV.v (Value.int IntKind.i64 (0 : Int))] = [AV.own (0 : Nat) m, fnT, AV.v (Value.int IntKind.i64 (↑m : Int)), AV.v (Value.int IntKind.i64 (0 : Int))] ∧ Hsim [AB.row false m (1 : Nat) (rowI a) t, AB.cells [AV.v (Value.int IntKind.i64 x)] t2] (hpIF m a x t t2))] (bif noneTo bad m then Res.out Ex.ret [AV.v (Value.int IntKind.i64 (-1 : Int))] [AB.row false m (1 : Nat) (rowI a) t, AB.cells [AV.v (Value.int IntKind.i64 x)] t2] else Res.out Ex.ret [AV.v (Value.int IntKind.i64 (fstAt bad m))] [AB.row false m (1 : Nat) (rowI a) t, AB.cells [AV.v (Value.int IntKind.i64 x)] t2]) := by kernel_rfl

def gm_CI : Gam := ext (ext gm_yb 23 (specR md_list F_turnsY)) 103 (specH [true] F_ifI)
theorem treeCI (m : Nat) (a : Nat → Nat → Int) : execF Try.prog gm_CI noLam 100 Try.f29 [.sl 0 8 0 0 m none] [.row false m 8 (rowC a) 46] (packK 1)
    = needs [Nat.ble ((0 : Nat) + m) m, allC m fun q ↦ rowC a ((0 : Nat) + q), decide (m ≤ (274877906944 : Nat)), f_valid (itC fun q ↦ rowC a ((0 : Nat) + q)) m == true] (bif !turnsOk (itC fun q ↦ rowC a ((0 : Nat) + q)) m then Res.out Ex.ret [AV.v (Value.bool false)] [AB.row false m (8 : Nat) (rowC a) (46 : TypeId)] else bif decide ((↑m : Int) < (3 : Int)) then Res.out Ex.ret [AV.v (Value.bool false)] [AB.row false m (8 : Nat) (rowC a) (46 : TypeId)] else needs [Nat.ble ((0 : Nat) + m) m, allC m fun q ↦ rowC a ((0 : Nat) + q), decide ((0 : Nat) < m), decide (m ≤ (274877906944 : Nat))] (bif turnsN (itC fun q ↦ rowC a ((0 : Nat) + q)) m == (1 : Int) then needs [Nat.beq m m, allI m (rowI (bendsF (stepsF (itC fun q ↦ rowC a ((0 : Nat) + q)) m) m)), decide (m ≤ (1099511627776 : Nat))] (Res.out Ex.ret [AV.v (Value.bool !decide (fstAt (neB (itI (rowI (bendsF (stepsF (itC fun q ↦ rowC a ((0 : Nat) + q)) m) m))) (turnsN (itC fun q ↦ rowC a ((0 : Nat) + q)) m)) m ≥ (0 : Int)))] [AB.row false m (8 : Nat) (rowC a) (46 : TypeId)]) else bif turnsN (itC fun q ↦ rowC a ((0 : Nat) + q)) m == (-1 : Int) then needs [Nat.beq m m, allI m (rowI (bendsF (stepsF (itC fun q ↦ rowC a ((0 : Nat) + q)) m) m)), decide (m ≤ (1099511627776 : Nat))] (Res.out Ex.ret [AV.v (Value.bool !decide (fstAt (neB (itI (rowI (bendsF (stepsF (itC fun q ↦ rowC a ((0 : Nat) + q)) m) m))) (turnsN (itC fun q ↦ rowC a ((0 : Nat) + q)) m)) m ≥ (0 : Int)))] [AB.row false m (8 : Nat) (rowC a) (46 : TypeId)]) else Res.out Ex.ret [AV.v (Value.bool false)] [AB.row false m (8 : Nat) (rowC a) (46 : TypeId)])) := by kernel_rfl

def gm_CS : Gam := ext (ext gm_y 22 (specR md_list F_turnsY)) 14 (specR md_list F_bendsY)
noncomputable abbrev lamCS (m : Nat) (a : Nat → Nat → Int) (bf : Nat → Int) (tv : Int) (bad : Nat → Bool) : Nat → Option Sum := oneL 0 (atS 54 (lvCS .normal) 1 [.own 1 m, .v (i64 tv), .v (i64 (0 : Nat))] [.row false m 8 (rowC a) 46, .row true m 1 (rowI bf) 3] (fun K => cond (noneTo bad m) (K .normal (mkT 0 54 [(3, .own 1 m), (5, .v (i64 tv))]) [.row false m 8 (rowC a) 46, .row true m 1 (rowI bf) 3]) (K .ret (mkT 0 54 [(2, .v (.bool false))]) [.row false m 8 (rowC a) 46])))
theorem treeCS (m : Nat) (a : Nat → Nat → Int) (bf : Nat → Int) (tv : Int) (bad : Nat → Bool) : execF Try.prog gm_CS (lamCS m a bf tv bad) 100 Try.f28 [.sl 0 8 0 0 m none] [.row false m 8 (rowC a) 46] (packK 1)
    = needs [Nat.ble ((0 : Nat) + m) m, allC m fun q ↦ rowC a ((0 : Nat) + q), decide (m ≤ (274877906944 : Nat)), f_valid (itC fun q ↦ rowC a ((0 : Nat) + q)) m == true, Nat.ble ((0 : Nat) + m) m, allC m fun q ↦ rowC a ((0 : Nat) + q), decide (m ≤ (274877906944 : Nat)), f_valid (itC fun q ↦ rowC a ((0 : Nat) + q)) m == true] (bif !turnsOk (itC fun q ↦ rowC a ((0 : Nat) + q)) m then Res.out Ex.ret [AV.v (Value.bool false)] [AB.row false m (8 : Nat) (rowC a) (46 : TypeId)] else bif decide ((↑m : Int) < (3 : Int)) then Res.out Ex.ret [AV.v (Value.bool false)] [AB.row false m (8 : Nat) (rowC a) (46 : TypeId)] else needs [chk ([AV.own (1 : Nat) m, AV.v (Value.int IntKind.i64 (turnsN (itC fun q ↦ rowC a ((0 : Nat) + q)) m)), AV.v (Value.int IntKind.i64 (0 : Int))] = [AV.own (1 : Nat) m, AV.v (Value.int IntKind.i64 tv), AV.v (Value.int IntKind.i64 (0 : Int))] ∧ Hsim [AB.row false m (8 : Nat) (rowC a) (46 : TypeId), AB.row true m (1 : Nat) (rowI (bendsF (stepsF (itC fun q ↦ rowC a ((0 : Nat) + q)) m) m)) (3 : TypeId)] [AB.row false m (8 : Nat) (rowC a) (46 : TypeId), AB.row true m (1 : Nat) (rowI bf) (3 : TypeId)])] (bif noneTo bad m then needs [decide ((0 : Int) < (↑m : Int)), decide ((0 : Nat) < m)] (bif bf (0 : Nat) == tv then Res.out Ex.ret [AV.v (Value.bool (IntKind.wrap IntKind.i64 (tv * tv) == (1 : Int)))] [AB.row false m (8 : Nat) (rowC a) (46 : TypeId)] else Res.out Ex.ret [AV.v (Value.bool false)] [AB.row false m (8 : Nat) (rowC a) (46 : TypeId)]) else Res.out Ex.ret [AV.v (Value.bool false)] [AB.row false m (8 : Nat) (rowC a) (46 : TypeId)])) := by kernel_rfl

def gm_CNI : Gam := ext gm_n 23 (specR md_list F_turnsN)
theorem treeCNI (m : Nat) (a : Nat → Nat → Int) : execF Try.prog gm_CNI noLam 100 Try.f29 [.sl 0 8 0 0 m none] [.row false m 8 (rowC a) 46] (packK 1)
    = needs [Nat.ble ((0 : Nat) + m) m, allC m fun q ↦ rowC a ((0 : Nat) + q), decide (m ≤ (274877906944 : Nat)), f_valid (itC fun q ↦ rowC a ((0 : Nat) + q)) m == false] (Res.out Ex.ret [AV.v (Value.bool false)] [AB.row false m (8 : Nat) (rowC a) (46 : TypeId)]) := by kernel_rfl

def gm_CNS : Gam := ext (ext gm_n 22 (specR md_list F_turnsN)) 14 (specR md_list F_bendsSN)
theorem treeCNS (m : Nat) (a : Nat → Nat → Int) : execF Try.prog gm_CNS noLam 100 Try.f28 [.sl 0 8 0 0 m none] [.row false m 8 (rowC a) 46] (packK 1)
    = needs [Nat.ble ((0 : Nat) + m) m, allC m fun q ↦ rowC a ((0 : Nat) + q), decide (m ≤ (274877906944 : Nat)), f_valid (itC fun q ↦ rowC a ((0 : Nat) + q)) m == false, Nat.ble ((0 : Nat) + m) m, allC m fun q ↦ rowC a ((0 : Nat) + q), decide (m ≤ (274877906944 : Nat)), f_valid (itC fun q ↦ rowC a ((0 : Nat) + q)) m == false] (Res.out Ex.ret [AV.v (Value.bool false)] [AB.row false m (8 : Nat) (rowC a) (46 : TypeId)]) := by kernel_rfl

end Go.Proofs.Ytkbdppnlojlcdaa

/- PolyConvex of both: what they return. Conditions: a list of points. -/
namespace Go.Proofs.Ytkbdppnlojlcdaa
open Go.RowKit
set_option maxRecDepth 100000

theorem sumIF (m : Nat) (a : Nat → Int) (x : Int) (t t2 : TypeId) (hm : m ≤ 2 ^ 40) : SumOk Try.prog 2 (.block 0 (.loop (loopAt 0 fIFI))) (atS 19 (lvIF .normal) 2 [.own 0 m, fnT, .v (i64 m), .v (i64 (0 : Nat))] (hpIF m a x t t2) (fun K => cond (noneTo (neB a x) m) (K .normal (mkT 0 19 []) (hpIF m a x t t2)) (K .ret (mkT 0 19 [(4, .v (i64 (fstAt (neB a x) m)))]) (hpIF m a x t t2)))) := by
  refine for_at g0_ok (n := 100) (m := 2) (lv := lvIF) (fun i => [.own 0 m, fnT, .v (i64 m), .v (i64 i)]) (fun _ => hpIF m a x t t2) (fun i => noneTo (neB a x) i = true) m (fun _ => noLam) (lv3_ris rfl rfl rfl) (Nat.le_refl _) rfl fun K Q hk i hi him => ⟨noLam_ok _ _ _, ?_⟩
  rw [rndIF]
  refine good_cond (fun h1 => ?_) fun h1 => ?_
  · have h1 := of_decide_eq_true h1
    have h1' : i < m := by omega
    rw [Int.toNat_natCast, wr_in (x := (i : Int) + 1) (by omega)]
    refine good_needs (by simp only [ob_cons, ob_nil, and_true, decide_eq_true_eq]; omega) (good_cond (fun h2 => ?_) fun h2 => ?_)
    · refine good_out ⟨_, Hsim.refl _, ?_⟩
      rw [noneTo_no h1' h2, fstAt_at hi h1' h2] at hk
      exact hk
    · exact good_out ⟨i + 1, ⟨rfl, h1', noneTo_succ hi h2⟩, rfl, Hsim.refl _⟩
  · have h1 := of_decide_eq_false h1
    have : i = m := by omega
    subst this
    refine good_out ⟨_, Hsim.refl _, ?_⟩
    rw [if_pos rfl]
    rw [hi] at hk
    exact hk

theorem sumCS (n : Nat) (g : Nat → List Value) (t : TypeId) (m : Nat) (bf : Nat → Int) (tv : Int) (hm : m ≤ 2 ^ 40) (hp : 0 < m) : SumOk Try.prog 1 (.block 0 (.loop (loopAt 0 Try.f28))) (atS 54 (lvCS .normal) 1 [.own 1 m, .v (i64 tv), .v (i64 (0 : Nat))] [.row false n 8 g t, .row true m 1 (rowI bf) 3]
    (fun K => cond (noneTo (neB bf (bf 0)) m) (K .normal (mkT 0 54 [(3, .own 1 m), (5, .v (i64 tv))]) [.row false n 8 g t, .row true m 1 (rowI bf) 3]) (K .ret (mkT 0 54 [(2, .v (.bool false))]) [.row false n 8 g t]))) := by
  refine for_at g0_ok (n := 100) (m := 1) (lv := lvCS) (fun i => [.own 1 m, .v (i64 tv), .v (i64 i)]) (fun _ => [.row false n 8 g t, .row true m 1 (rowI bf) 3]) (fun i => noneTo (neB bf (bf 0)) i = true) m (fun _ => noLam) (lv3_ris rfl rfl rfl) (Nat.le_refl _) rfl fun K Q hk i hi him => ⟨noLam_ok _ _ _, ?_⟩
  rw [rndCS]
  refine good_cond (fun h1 => ?_) fun h1 => ?_
  · have h1 := of_decide_eq_true h1
    have h1' : i < m := by omega
    rw [Int.toNat_natCast, wr_in (x := (i : Int) + 1) (by omega)]
    refine good_needs (by simp only [ob_cons, ob_nil, and_true, decide_eq_true_eq]; omega) (good_cond (fun h2 => ?_) fun h2 => ?_)
    · refine good_out ⟨_, Hsim.refl _, ?_⟩
      rw [noneTo_no h1' h2] at hk
      exact hk
    · exact good_out ⟨i + 1, ⟨rfl, h1', noneTo_succ hi h2⟩, rfl, Hsim.refl _⟩
  · have h1 := of_decide_eq_false h1
    have : i = m := by omega
    subst this
    refine good_out ⟨_, Hsim.refl _, ?_⟩
    rw [if_pos rfl]
    rw [hi] at hk
    exact hk

theorem ok_ifI : SpecOk Try.prog 103 (specH [true] F_ifI) := by
  refine specH_ok g0_ok Try.func103 rfl fun avs H hr hF ho => ?_
  unfold F_ifI at hF
  split at hF
  · rename_i m n g t x t2
    cases hF
    simp only [ob_cons] at ho
    obtain ⟨h1, h2, h3, _⟩ := ho
    have h1 := Nat.eq_of_beq_eq_true h1
    subst h1
    refine ⟨hpIF n (itI g) x t t2, lamIF n (itI g) x t t2 _, 100, .cons (ABeq.row fun j hj => allI_get h2 j hj) (.cons (ABeq.refl _) .nil), lam1 (by kernel_rfl) (sumIF n (itI g) x t t2 (of_decide_eq_true h3)), ?_⟩
    show GoodQ (execF Try.prog g0 (lamIF n (itI g) x t t2 (fun K => cond (noneTo (neB (itI g) x) n) (K .normal (mkT 0 19 []) (hpIF n (itI g) x t t2)) (K .ret (mkT 0 19 [(4, .v (i64 (fstAt (neB (itI g) x) n)))]) (hpIF n (itI g) x t t2)))) 100 fIFI [.own 0 n, fnT] (hpIF n (itI g) x t t2) (packK 2)) _
    rw [treeIF]
    refine good_needs (by rw [ob_cons]; exact ⟨chk_of ⟨rfl, Hsim.refl _⟩, rfl⟩) (good_cond (fun hb => ?_) fun hb => ?_)
    · refine good_out ⟨?_, .cons (ABeq.row fun j hj => (allI_get h2 j hj).symm) (.cons (ABeq.refl _) .nil)⟩
      rw [fstAt_no hb]
    · exact good_out ⟨rfl, .cons (ABeq.row fun j hj => (allI_get h2 j hj).symm) (.cons (ABeq.refl _) .nil)⟩
  · cases hF

theorem gm_CI_ok : GamOk Try.prog gm_CI := ext_ok (ext_ok gm_yb_ok ok_turnsI) ok_ifI
theorem gm_CS_ok : GamOk Try.prog gm_CS := ext_ok (ext_ok gm_y_ok ok_turnsS) ok_bendsSY
theorem gm_CNI_ok : GamOk Try.prog gm_CNI := ext_ok gm_n_ok ok_turnsNI
theorem gm_CNS_ok : GamOk Try.prog gm_CNS := ext_ok (ext_ok gm_n_ok ok_turnsNS) ok_bendsSN

/-- PolyConvex of a polygon. -/
def convB (a : Nat → Nat → Int) (m : Nat) : Bool := turnsOk a m && !decide ((m : Int) < 3) && (turnsN a m == 1 || turnsN a m == -1) && noneTo (neB (bendsF (stepsF a m) m) (turnsN a m)) m
def F_convY : List SA → Option FR
  | [.row m g] => some { val := .v (.bool (convB (itC g) m)), obl := [allC m g, decide (m ≤ 2 ^ 38), f_valid (itC g) m == true] }
  | _ => none
def F_convN : List SA → Option FR
  | [.row m g] => some { val := .v (.bool false), obl := [allC m g, decide (m ≤ 2 ^ 38), f_valid (itC g) m == false] }
  | _ => none
theorem turnsOk_itC (a : Nat → Nat → Int) (m : Nat) : turnsOk (itC (rowC a)) m = turnsOk a m := by kernel_rfl
theorem turnsN_itC (a : Nat → Nat → Int) (m : Nat) : turnsN (itC (rowC a)) m = turnsN a m := by kernel_rfl
theorem itI_row (f : Nat → Int) : itI (rowI f) = f := rfl
theorem allI_row' (m : Nat) (a : Nat → Int) : allI m (rowI a) = true := allI_of (a := a) fun j _ => rfl

theorem ok_convI : SpecOk Try.prog 29 (specR md_list F_convY) := by
  refine specR_hr gm_CI_ok Try.func29 rfl fun sas fr hF ho => ?_
  unfold F_convY at hF
  split at hF
  · rename_i m g
    cases hF
    simp only [ob_cons] at ho
    obtain ⟨h1, h2, h3, _⟩ := ho
    refine ⟨[.row false m 8 (rowC (itC g)) 46], noLam, 100, .cons (ABeq.row fun j hj => allC_get h1 j hj) .nil, noLam' _, ?_⟩
    show GoodQ (execF Try.prog gm_CI noLam 100 Try.f29 [.sl 0 8 0 0 m none] [.row false m 8 (rowC (itC g)) 46] (packK 1)) _
    have hm := of_decide_eq_true h2
    have hpos := valid_pos h3
    rw [treeCI, zero_row, bends_itC, valid_itC', turnsOk_itC, turnsN_itC, itI_row, fstAt_ge]
    have hs : ∀ b, convB (itC g) m = b → GoodQ (.out .ret [.v (.bool b)] [.row false m 8 (rowC (itC g)) 46]) (GivR (abP md_list [.row m g] []) { val := .v (.bool (convB (itC g) m)), obl := [allC m g, decide (m ≤ 2 ^ 38), f_valid (itC g) m == true] }) := fun b hb =>
      good_out ⟨_, rfl, by rw [hb], .cons (ABeq.row fun j hj => (allC_get h1 j hj).symm) .nil⟩
    have hO : obls [Nat.beq m m, allI m (rowI (bendsF (stepsF (itC g) m) m)), decide (m ≤ 1099511627776)] = true := by
      simp only [ob_cons, ob_nil, allI_row', beq_me, and_true, true_and, decide_eq_true_eq]
      omega
    have hO2 : obls [Nat.ble (0 + m) m, allC m (rowC (itC g)), decide (0 < m), decide (m ≤ 274877906944)] = true := by
      simp only [ob_cons, ob_nil, allC_of (m := m) (a := itC g) fun j _ => rfl, Nat.zero_add, and_true, true_and, Nat.ble_eq, Nat.le_refl, decide_eq_true_eq]
      exact ⟨hpos, by omega⟩
    unfold convB at hs
    refine good_needs ?_ ?_
    · simp only [ob_cons, ob_nil, allC_of (m := m) (a := itC g) fun j _ => rfl, h2, h3, Nat.zero_add, and_true, true_and, Nat.ble_eq, Nat.le_refl]
    · cases q1 : turnsOk (itC g) m with
      | false => exact hs false (by rw [q1]; rfl)
      | true =>
        cases q2 : decide ((m : Int) < 3) with
        | true => exact hs false (by rw [q1, q2]; rfl)
        | false =>
          refine good_needs hO2 ?_
          cases q3 : (turnsN (itC g) m == 1) with
          | true => exact good_needs hO (hs _ (by rw [q1, q2, q3]; simp))
          | false =>
            cases q4 : (turnsN (itC g) m == -1) with
            | true => exact good_needs hO (hs _ (by rw [q1, q2, q3, q4]; simp))
            | false => exact hs false (by rw [q1, q2, q3, q4]; rfl)
  · cases hF

theorem noneTo_iff' {bad : Nat → Bool} {m : Nat} : noneTo bad m = true ↔ ∀ i, i < m → bad i = false := noneTo_iff
/-- The reference's way. -/
theorem conv_same {a : Nat → Nat → Int} {m : Nat} (h : f_valid a m = true) (q1 : turnsOk a m = true) (q2 : decide ((m : Int) < 3) = false) :
    convB a m = (noneTo (neB (bendsF (stepsF a m) m) (bendsF (stepsF a m) m 0)) m && (bendsF (stepsF a m) m 0 == turnsN a m && IntKind.wrap IntKind.i64 (turnsN a m * turnsN a m) == 1)) := by
  have q2' := of_decide_eq_false q2
  have hm : m ≤ 48 := by
    simp only [f_valid, Bool.and_eq_true] at h
    have := inR_iff.1 h.2
    omega
  have hr : -(m : Int) ≤ turnsN a m ∧ turnsN a m ≤ m := by
    simp only [turnsN, q1, cond_true]
    exact sumTo_range (fun j => conT_range _ _ _ _) m
  unfold convB
  rw [q1, q2]
  generalize turnsN a m = t at *
  generalize hbf : bendsF (stepsF a m) m = bf
  have hsq : IntKind.wrap IntKind.i64 (t * t) = t * t := by
    have := mul_bd (x := t) (y := t) (A := 48) (B := 48) (by omega) (by omega) (by omega) (by omega)
    exact wr_in (by omega)
  rw [hsq, Bool.eq_iff_iff]
  have hone : t * t = 1 ↔ t = 1 ∨ t = -1 := by
    constructor
    · intro e
      rcases (by omega : t ≤ -2 ∨ t = -1 ∨ t = 0 ∨ t = 1 ∨ 2 ≤ t) with h | h | h | h | h
      · have h1 := Int.mul_nonneg (a := -t - 2) (b := -t + 2) (by omega) (by omega)
        have h2 : (-t - 2) * (-t + 2) = t * t - 4 := by grind
        omega
      · exact .inr h
      · subst h; simp at e
      · exact .inl h
      · have h1 := Int.mul_nonneg (a := t - 2) (b := t + 2) (by omega) (by omega)
        have h2 : (t - 2) * (t + 2) = t * t - 4 := by grind
        omega
    · rintro (rfl | rfl) <;> rfl
  simp only [Bool.and_eq_true, Bool.true_and, Bool.not_false, Bool.or_eq_true, beq_iff_eq, noneTo_iff, neB, bne_eq_false_iff_eq, hone]
  constructor
  · rintro ⟨h1, h2⟩
    have h0 := h2 0 (by omega)
    exact ⟨fun i hi => (h2 i hi).trans h0.symm, h0, h1⟩
  · rintro ⟨h1, h2, h3⟩
    exact ⟨h3, fun i hi => (h1 i hi).trans h2⟩

theorem ok_convS : SpecOk Try.prog 28 (specR md_list F_convY) := by
  refine specR_hr gm_CS_ok Try.func28 rfl fun sas fr hF ho => ?_
  unfold F_convY at hF
  split at hF
  · rename_i m g
    cases hF
    simp only [ob_cons] at ho
    obtain ⟨h1, h2, h3, _⟩ := ho
    have hm := of_decide_eq_true h2
    have hpos := valid_pos h3
    have hv : f_valid (itC g) m = true := by simpa using h3
    refine ⟨[.row false m 8 (rowC (itC g)) 46], lamCS m (itC g) (bendsF (stepsF (itC g) m) m) (turnsN (itC g) m) (neB (bendsF (stepsF (itC g) m) m) (bendsF (stepsF (itC g) m) m 0)), 100, .cons (ABeq.row fun j hj => allC_get h1 j hj) .nil, lam1 (by kernel_rfl) (sumCS m (rowC (itC g)) 46 m _ _ (by omega) hpos), ?_⟩
    show GoodQ (execF Try.prog gm_CS (lamCS m (itC g) (bendsF (stepsF (itC g) m) m) (turnsN (itC g) m) (neB (bendsF (stepsF (itC g) m) m) (bendsF (stepsF (itC g) m) m 0))) 100 Try.f28 [.sl 0 8 0 0 m none] [.row false m 8 (rowC (itC g)) 46] (packK 1)) _
    rw [treeCS, zero_row, bends_itC, valid_itC', turnsOk_itC, turnsN_itC]
    have hs : ∀ b, convB (itC g) m = b → GoodQ (.out .ret [.v (.bool b)] [.row false m 8 (rowC (itC g)) 46]) (GivR (abP md_list [.row m g] []) { val := .v (.bool (convB (itC g) m)), obl := [allC m g, decide (m ≤ 2 ^ 38), f_valid (itC g) m == true] }) := fun b hb =>
      good_out ⟨_, rfl, by rw [hb], .cons (ABeq.row fun j hj => (allC_get h1 j hj).symm) .nil⟩
    refine good_needs ?_ ?_
    · simp only [ob_cons, ob_nil, allC_of (m := m) (a := itC g) fun j _ => rfl, h2, h3, Nat.zero_add, and_true, true_and, Nat.ble_eq, Nat.le_refl]
    · cases q1 : turnsOk (itC g) m with
      | false => exact hs false (by unfold convB; rw [q1]; rfl)
      | true =>
        cases q2 : decide ((m : Int) < 3) with
        | true => exact hs false (by unfold convB; rw [q1, q2]; rfl)
        | false =>
          have hc := conv_same hv q1 q2
          refine good_needs (by rw [ob_cons]; exact ⟨chk_of ⟨rfl, Hsim.refl _⟩, rfl⟩) (good_cond (fun q3 => ?_) fun q3 => ?_)
          · refine good_needs (by simp only [ob_cons, ob_nil, and_true, decide_eq_true_eq]; omega) (good_cond (fun q4 => ?_) fun q4 => ?_)
            · exact hs _ (by rw [hc, q3, q4]; rfl)
            · exact hs _ (by rw [hc, q3, q4]; rfl)
          · exact hs _ (by rw [hc, q3]; rfl)
  · cases hF

theorem ok_convNI : SpecOk Try.prog 29 (specR md_list F_convN) := by
  refine specR_hr gm_CNI_ok Try.func29 rfl fun sas fr hF ho => ?_
  unfold F_convN at hF
  split at hF
  · rename_i m g
    cases hF
    simp only [ob_cons] at ho
    obtain ⟨h1, h2, h3, _⟩ := ho
    refine ⟨[.row false m 8 (rowC (itC g)) 46], noLam, 100, .cons (ABeq.row fun j hj => allC_get h1 j hj) .nil, noLam' _, ?_⟩
    show GoodQ (execF Try.prog gm_CNI noLam 100 Try.f29 [.sl 0 8 0 0 m none] [.row false m 8 (rowC (itC g)) 46] (packK 1)) _
    rw [treeCNI, zero_row, valid_itC']
    refine good_needs ?_ (good_out ⟨_, rfl, rfl, .cons (ABeq.row fun j hj => (allC_get h1 j hj).symm) .nil⟩)
    simp only [ob_cons, ob_nil, allC_of (m := m) (a := itC g) fun j _ => rfl, h2, h3, Nat.zero_add, and_true, true_and, Nat.ble_eq, Nat.le_refl]
  · cases hF
theorem ok_convNS : SpecOk Try.prog 28 (specR md_list F_convN) := by
  refine specR_hr gm_CNS_ok Try.func28 rfl fun sas fr hF ho => ?_
  unfold F_convN at hF
  split at hF
  · rename_i m g
    cases hF
    simp only [ob_cons] at ho
    obtain ⟨h1, h2, h3, _⟩ := ho
    refine ⟨[.row false m 8 (rowC (itC g)) 46], noLam, 100, .cons (ABeq.row fun j hj => allC_get h1 j hj) .nil, noLam' _, ?_⟩
    show GoodQ (execF Try.prog gm_CNS noLam 100 Try.f28 [.sl 0 8 0 0 m none] [.row false m 8 (rowC (itC g)) 46] (packK 1)) _
    rw [treeCNS, zero_row, valid_itC']
    refine good_needs ?_ (good_out ⟨_, rfl, rfl, .cons (ABeq.row fun j hj => (allC_get h1 j hj).symm) .nil⟩)
    simp only [ob_cons, ob_nil, allC_of (m := m) (a := itC g) fun j _ => rfl, h2, h3, Nat.zero_add, and_true, true_and, Nat.ble_eq, Nat.le_refl]
  · cases hF

end Go.Proofs.Ytkbdppnlojlcdaa

/- FnExactPolyConvex: the whole. -/
namespace Go.Proofs.Ytkbdppnlojlcdaa
open Go.RowKit
set_option maxRecDepth 100000

def gm_VY : Gam := ext (ext gm_h 28 (specR md_list F_convY)) 29 (specR md_list F_convY)
theorem gm_VY_ok : GamOk Try.prog gm_VY := ext_ok (ext_ok gm_h_ok ok_convS) ok_convI
def gm_VN : Gam := ext (ext gm_h 28 (specR md_list F_convN)) 29 (specR md_list F_convN)
theorem gm_VN_ok : GamOk Try.prog gm_VN := ext_ok (ext_ok gm_h_ok ok_convNS) ok_convNI

theorem treeConvY (m : Nat) (a : Nat → Nat → Int) (t : TypeId) : execF Try.prog gm_VY noLam 100 Try.f6 [.sl 0 8 0 0 m none] [.row false m 8 (rowC a) t] (packK 1)
    = bif decide (IntKind.wrap IntKind.i64 ((1048576 : Int) - (↑m : Int)) < (0 : Int)) then Res.out Ex.ret [AV.v (Value.bool true)] [AB.row false m (8 : Nat) (rowC a) t] else bif decide (IntKind.wrap IntKind.i64 ((1048576 : Int) - (↑m : Int)) < (0 : Int)) then Res.out Ex.ret [AV.v (Value.bool true)] [AB.row false m (8 : Nat) (rowC a) t] else needs [Nat.ble ((0 : Nat) + m) m, allC m fun q ↦ rowC a ((0 : Nat) + q), decide (m ≤ (1099511627776 : Nat)), Nat.ble m m, allC m (rowC (itC fun q ↦ rowC a ((0 : Nat) + q))), decide (m ≤ (274877906944 : Nat)), f_valid (itC (rowC (itC fun q ↦ rowC a ((0 : Nat) + q)))) m == true, Nat.ble ((0 : Nat) + m) m, allC m fun q ↦ rowC a ((0 : Nat) + q), decide (m ≤ (1099511627776 : Nat)), Nat.ble m m, allC m (rowC (itC fun q ↦ rowC a ((0 : Nat) + q))), decide (m ≤ (274877906944 : Nat)), f_valid (itC (rowC (itC fun q ↦ rowC a ((0 : Nat) + q)))) m == true] (bif !convB (itC (rowC (itC fun q ↦ rowC a ((0 : Nat) + q)))) m == convB (itC (rowC (itC fun q ↦ rowC a ((0 : Nat) + q)))) m then Res.out Ex.ret [AV.v (Value.bool false)] [AB.row false m (8 : Nat) (rowC a) t] else needs [Nat.ble ((0 : Nat) + m) m, allC m fun q ↦ rowC a ((0 : Nat) + q), decide (m ≤ (1099511627776 : Nat)), Nat.ble m m, Nat.ble m m, Nat.beq m m, allC m (rowC (itC fun q ↦ rowC a ((0 : Nat) + q))), allC m (rowC (itC fun q ↦ rowC a ((0 : Nat) + q))), sameL m (itC (rowC (itC fun q ↦ rowC a ((0 : Nat) + q)))) (itC (rowC (itC fun q ↦ rowC a ((0 : Nat) + q)))), decide (m ≤ (1099511627776 : Nat))] (Res.out Ex.ret [AV.v (Value.bool true)] [AB.row false m (8 : Nat) (rowC a) t])) := by kernel_rfl

theorem treeConvN (m : Nat) (a : Nat → Nat → Int) (t : TypeId) : execF Try.prog gm_VN noLam 100 Try.f6 [.sl 0 8 0 0 m none] [.row false m 8 (rowC a) t] (packK 1)
    = bif decide (IntKind.wrap IntKind.i64 ((1048576 : Int) - (↑m : Int)) < (0 : Int)) then Res.out Ex.ret [AV.v (Value.bool true)] [AB.row false m (8 : Nat) (rowC a) t] else bif decide (IntKind.wrap IntKind.i64 ((1048576 : Int) - (↑m : Int)) < (0 : Int)) then Res.out Ex.ret [AV.v (Value.bool true)] [AB.row false m (8 : Nat) (rowC a) t] else needs [Nat.ble ((0 : Nat) + m) m, allC m fun q ↦ rowC a ((0 : Nat) + q), decide (m ≤ (1099511627776 : Nat)), Nat.ble m m, allC m (rowC (itC fun q ↦ rowC a ((0 : Nat) + q))), decide (m ≤ (274877906944 : Nat)), f_valid (itC (rowC (itC fun q ↦ rowC a ((0 : Nat) + q)))) m == false, Nat.ble ((0 : Nat) + m) m, allC m fun q ↦ rowC a ((0 : Nat) + q), decide (m ≤ (1099511627776 : Nat)), Nat.ble m m, allC m (rowC (itC fun q ↦ rowC a ((0 : Nat) + q))), decide (m ≤ (274877906944 : Nat)), f_valid (itC (rowC (itC fun q ↦ rowC a ((0 : Nat) + q)))) m == false, Nat.ble ((0 : Nat) + m) m, allC m fun q ↦ rowC a ((0 : Nat) + q), decide (m ≤ (1099511627776 : Nat)), Nat.ble m m, Nat.ble m m, Nat.beq m m, allC m (rowC (itC fun q ↦ rowC a ((0 : Nat) + q))), allC m (rowC (itC fun q ↦ rowC a ((0 : Nat) + q))), sameL m (itC (rowC (itC fun q ↦ rowC a ((0 : Nat) + q)))) (itC (rowC (itC fun q ↦ rowC a ((0 : Nat) + q)))), decide (m ≤ (1099511627776 : Nat))] (Res.out Ex.ret [AV.v (Value.bool true)] [AB.row false m (8 : Nat) (rowC a) t]) := by kernel_rfl

theorem yes_conv (m : Nat) (a : Nat → Nat → Int) (t : TypeId) (hm : m ≤ 9223372036854775807) : ∃ Γ, GamOk Try.prog Γ ∧ GoodQ (execF Try.prog Γ noLam 100 Try.f6 [.sl 0 8 0 0 m none] [.row false m 8 (rowC a) t] (packK 1)) SaysYes := by
  have e1 : IntKind.wrap IntKind.i64 ((1048576 : Int) - (m : Int)) = 1048576 - m := by
    rw [show IntKind.wrap IntKind.i64 ((1048576 : Int) - (m : Int)) = W ((1048576 : Int) - (m : Int)) from rfl, w64_in (by omega) (by omega)]
  by_cases hb : m ≤ 1048576
  · have c1 : decide ((1048576 : Int) - m < 0) = false := decide_eq_false (by omega)
    have b40 : decide (m ≤ 1099511627776) = true := decide_eq_true (by omega)
    have b38 : decide (m ≤ 274877906944) = true := decide_eq_true (by omega)
    cases hv : f_valid a m with
    | true =>
      refine ⟨gm_VY, gm_VY_ok, ?_⟩
      rw [treeConvY]
      simp only [zero_row, rowC_itC, valid_itC, hv, e1, c1, b40, b38, allC_row, sameL_self, ble_me, beq_me, needs_t, needs_nil, cond_true, cond_false, Nat.zero_add, bne_self_eq_false, beq_self_eq_true]
      exact good_out rfl
    | false =>
      refine ⟨gm_VN, gm_VN_ok, ?_⟩
      rw [treeConvN]
      simp only [zero_row, rowC_itC, valid_itC, hv, e1, c1, b40, b38, allC_row, sameL_self, ble_me, beq_me, needs_t, needs_nil, cond_true, cond_false, Nat.zero_add, bne_self_eq_false, beq_self_eq_true]
      exact good_out rfl
  · refine ⟨gm_VN, gm_VN_ok, ?_⟩
    rw [treeConvN, e1, show decide ((1048576 : Int) - m < 0) = true from decide_eq_true (by omega)]
    exact good_out rfl

end Go.Proofs.Ytkbdppnlojlcdaa

/- PolyConvex of the program and of the reference return the same, for whatever list: FnExactPolyConvex returns true, and its argument reads as before. No conditions. -/
namespace Go.Proofs.Ytkbdppnlojlcdaa
open Go.ChangeShapes Go.WideShapes Go.ChangeAt Go.RowKit

set_option maxRecDepth 100000 in
theorem conv_lifted (os : Os) (started : os.Started) (H : Type) (enc : TypeId × Value → H) :
    ReturnsInHanded {} Try.checked os 6 .any (Rows.fnExactPolyConvexSpec.pre6 enc Try.prog Try.f6 Rows.fnExactPolyConvexRow.domain false) (Rows.fnExactPolyConvexSpec.post enc Try.prog Try.f6 false true false false) := by
  refine returnsInHanded_of_change (C := Try.checked) own started (by kernel_rfl) Try.func6
    (ChangeSpec.witness6 (enc := enc) (C := Try.checked) false ⟨#[], #[.slice none 0 0], []⟩ 8 (by kernel_rfl) (by kernel_rfl) (by kernel_rfl) (by kernel_rfl)) ?_
  intro W base args ds gs before hval hW _ _
  exact contractC (spec := Rows.fnExactPolyConvexSpec) Try.func6 rfl rfl rfl (fun _ _ => rfl) (fun m a hm => (yes_conv m a 46 hm).elim fun Γ h => ⟨Γ, 100, h⟩) H enc W base args ds gs before hval hW

theorem conv_holds : Rows.FnExactPolyConvexSaid :=
  OpenClaim.holds_of_wide 6 Try.f6 rfl rfl rfl rfl rfl rfl rfl ⟨rfl, rfl, rfl, rfl, rfl⟩ rfl rfl rfl rfl rfl (by kernel_rfl) Try.func6 (by kernel_rfl)
    (of_decide_eq_true (by kernel_rfl)) (by unfold Func.isWrapper; first | (rw [if_pos (by decide +kernel)]; kernel_rfl) | (rw [if_neg (by decide +kernel)]; exact ⟨rfl, rfl⟩))
    (fun os started H enc _ => conv_lifted os started H enc)
#print axioms conv_holds
end Go.Proofs.Ytkbdppnlojlcdaa
