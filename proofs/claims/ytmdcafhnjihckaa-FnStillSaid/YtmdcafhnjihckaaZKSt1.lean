/- Turns that change nothing make a group: FnStill returns true, whatever the bytes are, and they read as before. No conditions. -/
import Derived.Test.YtmdcafhnjihckaaZD0
import Derived.Test.YtmdcafhnjihckaaZD1
import Derived.Test.YtmdcafhnjihckaaZD2
import Derived.Test.YtmdcafhnjihckaaZD3
import Derived.Test.YtmdcafhnjihckaaZD4
import Derived.Test.YtmdcafhnjihckaaZD5
import Derived.Test.YtmdcafhnjihckaaZD6
import Derived.Test.YtmdcafhnjihckaaZKSt0
/- laws.sameInts. Conditions: two lists of whole numbers. -/
namespace Go.Proofs.Ytmdcafhnjihckaa
open Go.RowKit
set_option maxRecDepth 100000

abbrev lvSi : Ex → List Nat := lv3 [0, 1, 5] [] [4]
abbrev hpSi (m n : Nat) (f h : Nat → Int) : List AB := [.row false m 1 (rowI f) 3, .row false n 1 (rowI h) 3]
theorem rndSi (m : Nat) (f h : Nat → Int) (i : Nat) : execC Try.prog g0 100 noLam (loopAt 0 Try.f27) (mkT 0 26 ((lvSi .normal).zip [.sl 0 1 0 0 m none, .sl 1 1 0 0 m none, .v (i64 i)])) (hpSi m m f h) (leafV 26 lvSi 2)
    = bif decide ((↑i : Int) < (↑m : Int)) then needs [decide ((↑i : Int) < (↑m : Int)), decide ((0 : Nat) + Int.toNat (↑i : Int) < m), decide ((↑i : Int) < (↑m : Int)), decide ((0 : Nat) + Int.toNat (↑i : Int) < m)] (bif f ((0 : Nat) + Int.toNat (↑i : Int)) != h ((0 : Nat) + Int.toNat (↑i : Int)) then Res.out Ex.ret [AV.v (Value.bool false)] [AB.row false m (1 : Nat) (rowI f) (3 : TypeId), AB.row false m (1 : Nat) (rowI h) (3 : TypeId)] else Res.out Ex.normal [AV.sl (0 : Nat) (1 : Nat) (0 : Nat) (0 : Nat) m none, AV.sl (1 : Nat) (1 : Nat) (0 : Nat) (0 : Nat) m none, AV.v (Value.int IntKind.i64 (IntKind.wrap IntKind.i64 ((↑i : Int) + (1 : Int))))] [AB.row false m (1 : Nat) (rowI f) (3 : TypeId), AB.row false m (1 : Nat) (rowI h) (3 : TypeId)]) else Res.out (Ex.exit (0 : Nat)) [] [AB.row false m (1 : Nat) (rowI f) (3 : TypeId), AB.row false m (1 : Nat) (rowI h) (3 : TypeId)] := by kernel_rfl

noncomputable abbrev lamSi (m : Nat) (f h : Nat → Int) (c : Bool) : Nat → Option Sum := oneL 0 (atS 26 (lvSi .normal) 2 [.sl 0 1 0 0 m none, .sl 1 1 0 0 m none, .v (i64 (0 : Nat))] (hpSi m m f h) (fun K => cond c (K .normal (mkT 0 26 []) (hpSi m m f h)) (K .ret (mkT 0 26 [(4, .v (.bool false))]) (hpSi m m f h))))
theorem treeSi (m n : Nat) (f h : Nat → Int) (c : Bool) : execF Try.prog g0 (lamSi m f h c) 100 Try.f27 [.sl 0 1 0 0 m none, .sl 1 1 0 0 n none] (hpSi m n f h) (packK 2)
    = bif (↑m : Int) != (↑n : Int) then Res.out Ex.ret [AV.v (Value.bool false)] [AB.row false m (1 : Nat) (rowI f) (3 : TypeId), AB.row false n (1 : Nat) (rowI h) (3 : TypeId)] else needs [chk ([AV.sl (0 : Nat) (1 : Nat) (0 : Nat) (0 : Nat) m none, AV.sl (1 : Nat) (1 : Nat) (0 : Nat) (0 : Nat) n none, AV.v (Value.int IntKind.i64 (0 : Int))] = [AV.sl (0 : Nat) (1 : Nat) (0 : Nat) (0 : Nat) m none, AV.sl (1 : Nat) (1 : Nat) (0 : Nat) (0 : Nat) m none, AV.v (Value.int IntKind.i64 (0 : Int))] ∧ Hsim [AB.row false m (1 : Nat) (rowI f) (3 : TypeId), AB.row false n (1 : Nat) (rowI h) (3 : TypeId)] (hpSi m m f h))] (bif c then Res.out Ex.ret [AV.v (Value.bool true)] [AB.row false m (1 : Nat) (rowI f) (3 : TypeId), AB.row false m (1 : Nat) (rowI h) (3 : TypeId)] else Res.out Ex.ret [AV.v (Value.bool false)] [AB.row false m (1 : Nat) (rowI f) (3 : TypeId), AB.row false m (1 : Nat) (rowI h) (3 : TypeId)]) := by kernel_rfl

def badI (f h : Nat → Int) (i : Nat) : Bool := !(f i == h i)
/-- The same whole numbers. -/
def eqI (m : Nat) (f : Nat → Int) (n : Nat) (h : Nat → Int) : Bool := Nat.beq m n && noneTo (badI f h) m
theorem eqI_iff {m n : Nat} {f h : Nat → Int} : eqI m f n h = true ↔ m = n ∧ ∀ i, i < m → f i = h i := by
  unfold eqI
  rw [Bool.and_eq_true, noneTo_iff]
  constructor
  · rintro ⟨h1, h2⟩
    exact ⟨Nat.eq_of_beq_eq_true h1, fun i hi => by simpa [badI] using h2 i hi⟩
  · rintro ⟨rfl, h2⟩
    exact ⟨Nat.beq_refl _, fun i hi => by simpa [badI] using h2 i hi⟩
theorem sumSi (m : Nat) (f h : Nat → Int) (hm : m ≤ 2 ^ 40) :
    SumOk Try.prog 2 (.block 0 (.loop (loopAt 0 Try.f27))) (atS 26 (lvSi .normal) 2 [.sl 0 1 0 0 m none, .sl 1 1 0 0 m none, .v (i64 (0 : Nat))] (hpSi m m f h) (fun K => cond (noneTo (badI f h) m) (K .normal (mkT 0 26 []) (hpSi m m f h)) (K .ret (mkT 0 26 [(4, .v (.bool false))]) (hpSi m m f h)))) := by
  refine for_at g0_ok (n := 100) (m := 2) (lv := lvSi) (fun i => [.sl 0 1 0 0 m none, .sl 1 1 0 0 m none, .v (i64 (i : Nat))]) (fun _ => hpSi m m f h) (fun i => noneTo (badI f h) i = true) m (fun _ => noLam) (lv3_ris rfl rfl rfl) (Nat.le_refl _) rfl fun K Q hk i hi him => ⟨noLam_ok _ _ _, ?_⟩
  rw [rndSi]
  refine good_cond (fun c1 => ?_) fun c1 => ?_
  · have c1 := of_decide_eq_true c1
    have c1' : i < m := by omega
    rw [Int.toNat_natCast, Nat.zero_add, wr_in (x := (i : Int) + 1) (by omega)]
    refine good_needs (by simp only [ob_cons, ob_nil, and_true, decide_eq_true_eq]; omega) (good_cond (fun q => ?_) fun q => ?_)
    · have hb : badI f h i = true := by
        unfold badI
        simpa using q
      refine good_out ⟨_, Hsim.refl _, ?_⟩
      rw [noneTo_no c1' hb] at hk
      exact hk
    · have hb : badI f h i = false := by
        unfold badI
        simpa using q
      exact good_out ⟨i + 1, ⟨rfl, c1', noneTo_succ hi hb⟩, rfl, Hsim.refl _⟩
  · have c1 := of_decide_eq_false c1
    have : i = m := by omega
    subst this
    refine good_out ⟨_, Hsim.refl _, ?_⟩
    rw [if_pos rfl]
    rw [hi] at hk
    exact hk
def md_si : List Md := [.rd 1 3, .rd 1 3]
def FsiO (eq : Nat → (Nat → Int) → Nat → (Nat → Int) → Bool) : List SA → Option FR
  | [.row m g, .row n h] => some { val := .v (.bool (eq m (itI g) n (itI h))), obl := [allI m g, allI n h, decide (m ≤ 2 ^ 38), decide (n ≤ 2 ^ 38)] }
  | _ => none
theorem ok_sameI : SpecOk Try.prog 27 (specR md_si (FsiO eqI)) := by
  refine specR_hr g0_ok Try.func27 rfl fun sas fr hF ho => ?_
  unfold FsiO at hF
  split at hF
  · rename_i m g n g2
    cases hF
    simp only [ob_cons] at ho
    obtain ⟨h1, h2, h3, h4, _⟩ := ho
    have hm := of_decide_eq_true h3
    have fin : ∀ b, eqI m (itI g) n (itI g2) = b → GoodQ (.out .ret [.v (.bool b)] (hpSi m n (itI g) (itI g2))) (GivR (abP md_si [.row m g, .row n g2] []) { val := .v (.bool (eqI m (itI g) n (itI g2))), obl := [allI m g, allI n g2, decide (m ≤ 2 ^ 38), decide (n ≤ 2 ^ 38)] }) := fun b hb =>
      good_out ⟨_, rfl, by rw [hb], .cons (ABeq.row fun j hj => (allI_get h1 j hj).symm) (.cons (ABeq.row fun j hj => (allI_get h2 j hj).symm) .nil)⟩
    refine ⟨hpSi m n (itI g) (itI g2), lamSi m (itI g) (itI g2) (noneTo (badI (itI g) (itI g2)) m), 100, .cons (ABeq.row fun j hj => allI_get h1 j hj) (.cons (ABeq.row fun j hj => allI_get h2 j hj) .nil), lam1 (by kernel_rfl) (sumSi m (itI g) (itI g2) (by omega)), ?_⟩
    show GoodQ (execF Try.prog g0 (lamSi m (itI g) (itI g2) (noneTo (badI (itI g) (itI g2)) m)) 100 Try.f27 [.sl 0 1 0 0 m none, .sl 1 1 0 0 n none] (hpSi m n (itI g) (itI g2)) (packK 2)) _
    rw [treeSi]
    refine good_cond (fun q => ?_) fun q => ?_
    · have hne : m ≠ n := fun e => by
        subst e
        simp at q
      refine fin false ?_
      unfold eqI
      rw [beq_ne hne]
      rfl
    · have e : m = n := by
        have q2 : (m : Int) = n := by simpa using q
        omega
      subst e
      have e0 : eqI m (itI g) m (itI g2) = noneTo (badI (itI g) (itI g2)) m := by
        unfold eqI
        rw [show Nat.beq m m = true from Nat.beq_refl m]
        rfl
      refine good_needs (by rw [ob_cons]; exact ⟨chk_of ⟨rfl, Hsim.refl _⟩, rfl⟩) (good_cond (fun q => fin true (by rw [e0, q])) fun q => fin false (by rw [e0, q]))
  · cases hF

end Go.Proofs.Ytmdcafhnjihckaa

/- The abstract machine, 29: words for more than one loop. No conditions. -/
namespace Go.Proofs.Ytmdcafhnjihckaa
open Go.RowKit

def addL (id : Nat) (S : Sum) (Λ : Nat → Option Sum) : Nat → Option Sum := fun j => bif Nat.beq j id then some S else Λ j
theorem lamAdd {P : Program} {m0 id : Nat} {fn : Func} {S : Sum} {c : Code} {Λ : Nat → Option Sum} (h : codeAt id (fn.body.getD .skip) = [.block id (.loop c)]) (hS : SumOk P m0 (.block id (.loop c)) S) (hΛ : ∀ cc, fn.body = some cc → LamOk P m0 Λ cc) : ∀ cc, fn.body = some cc → LamOk P m0 (addL id S Λ) cc := by
  intro cc hcc j S' hj b hb
  unfold addL at hj
  cases hjb : Nat.beq j id with
  | false =>
    rw [hjb] at hj
    exact hΛ cc hcc j S' hj b hb
  | true =>
    rw [hjb] at hj
    cases hj
    rw [Nat.eq_of_beq_eq_true hjb] at hb
    rw [hcc] at h
    simp only [Option.getD_some] at h
    rw [h] at hb
    simp at hb
    subst hb
    exact hS
theorem lamAddC {P : Program} {m0 id : Nat} {S : Sum} {c cc : Code} {Λ : Nat → Option Sum} (h : codeAt id cc = [.block id (.loop c)]) (hS : SumOk P m0 (.block id (.loop c)) S) (hΛ : LamOk P m0 Λ cc) : LamOk P m0 (addL id S Λ) cc := by
  intro j S' hj b hb
  unfold addL at hj
  cases hjb : Nat.beq j id with
  | false =>
    rw [hjb] at hj
    exact hΛ j S' hj b hb
  | true =>
    rw [hjb] at hj
    cases hj
    rw [Nat.eq_of_beq_eq_true hjb] at hb
    rw [h] at hb
    simp at hb
    subst hb
    exact hS

end Go.Proofs.Ytmdcafhnjihckaa

/- FnStill: its trees. Conditions: bytes. -/
namespace Go.Proofs.Ytmdcafhnjihckaa
open Go.RowKit
set_option maxRecDepth 100000

noncomputable abbrev fSt : Func := Try.f5
abbrev lvSt0 : Ex → List Nat := lv3 [3, 4, 8, 9] [4, 8] [2]
abbrev stSt0 (k q : Nat) (s : Bool) (i : Nat) : List AV := [.own 1 k, .sl 2 1 0 0 q (some q), .v (.bool s), .v (i64 i)]
abbrev hpSt0 (m : Nat) (b : Nat → Int) (k : Nat) (f : Nat → Nat → Int) (q : Nat) (o : Nat → Int) : List AB := [.row false m 1 (rowB b) 5, .row true k 9 (row9 f) 46, .row true q 1 (rowI o) 3]
theorem rndSt0 (m : Nat) (b : Nat → Int) (k : Nat) (f : Nat → Nat → Int) (q : Nat) (o : Nat → Int) (s : Bool) (i : Nat) : execC Try.prog g0 100 noLam (loopAt 0 fSt) (mkT 0 117 ((lvSt0 .normal).zip (stSt0 k q s i))) (hpSt0 m b k f q o) (leafV 117 lvSt0 1)
    = bif decide ((↑i : Int) < (↑k : Int)) then bif s then needs [decide ((↑i : Int) < (↑k : Int)), decide (Int.toNat (↑i : Int) < k)] (bif decide (f (Int.toNat (↑i : Int)) (1 : Nat) ≤ (1000 : Int)) then needs [decide ((↑i : Int) < (↑k : Int)), decide (Int.toNat (↑i : Int) < k)] (bif decide (f (Int.toNat (↑i : Int)) (1 : Nat) ≥ (-1000 : Int)) then needs [decide ((↑i : Int) < (↑k : Int)), decide (Int.toNat (↑i : Int) < k)] (bif decide (f (Int.toNat (↑i : Int)) (2 : Nat) ≤ (1000 : Int)) then needs [decide ((↑i : Int) < (↑k : Int)), decide (Int.toNat (↑i : Int) < k)] (bif decide (f (Int.toNat (↑i : Int)) (2 : Nat) ≥ (-1000 : Int)) then needs [decide ((↑i : Int) < (↑k : Int)), decide (Int.toNat (↑i : Int) < k)] (bif decide (f (Int.toNat (↑i : Int)) (3 : Nat) ≤ (1000 : Int)) then needs [decide ((↑i : Int) < (↑k : Int)), decide (Int.toNat (↑i : Int) < k)] (bif decide (f (Int.toNat (↑i : Int)) (3 : Nat) ≥ (-1000 : Int)) then needs [decide ((↑i : Int) < (↑k : Int)), decide (Int.toNat (↑i : Int) < k)] (bif decide (f (Int.toNat (↑i : Int)) (4 : Nat) ≤ (1000 : Int)) then needs [decide ((↑i : Int) < (↑k : Int)), decide (Int.toNat (↑i : Int) < k)] (bif decide (f (Int.toNat (↑i : Int)) (4 : Nat) ≥ (-1000 : Int)) then needs [decide ((↑i : Int) < (↑k : Int)), decide (Int.toNat (↑i : Int) < k)] (bif decide (f (Int.toNat (↑i : Int)) (5 : Nat) ≤ (1000 : Int)) then needs [decide ((↑i : Int) < (↑k : Int)), decide (Int.toNat (↑i : Int) < k)] (bif decide (f (Int.toNat (↑i : Int)) (5 : Nat) ≥ (-1000 : Int)) then needs [decide ((↑i : Int) < (↑k : Int)), decide (Int.toNat (↑i : Int) < k)] (bif decide (f (Int.toNat (↑i : Int)) (6 : Nat) ≤ (1000 : Int)) then needs [decide ((↑i : Int) < (↑k : Int)), decide (Int.toNat (↑i : Int) < k)] (bif decide (f (Int.toNat (↑i : Int)) (6 : Nat) ≥ (-1000 : Int)) then needs [decide ((↑i : Int) < (↑k : Int)), decide (Int.toNat (↑i : Int) < k)] (bif decide (f (Int.toNat (↑i : Int)) (7 : Nat) ≤ (1000 : Int)) then needs [decide ((↑i : Int) < (↑k : Int)), decide (Int.toNat (↑i : Int) < k)] (bif decide (f (Int.toNat (↑i : Int)) (7 : Nat) ≥ (-1000 : Int)) then needs [decide ((↑i : Int) < (↑k : Int)), decide (Int.toNat (↑i : Int) < k)] (bif decide (f (Int.toNat (↑i : Int)) (8 : Nat) ≤ (1000 : Int)) then needs [decide ((↑i : Int) < (↑k : Int)), decide (Int.toNat (↑i : Int) < k)] (Res.out Ex.normal [AV.own (1 : Nat) k, AV.sl (2 : Nat) (1 : Nat) (0 : Nat) (0 : Nat) q (some q), AV.v (Value.bool (decide (f (Int.toNat (↑i : Int)) (8 : Nat) ≥ (-1000 : Int)))), AV.v (Value.int IntKind.i64 (IntKind.wrap IntKind.i64 ((↑i : Int) + (1 : Int))))] [AB.row false m (1 : Nat) (rowB b) (5 : TypeId), AB.row true k (9 : Nat) (row9 f) (46 : TypeId), AB.row true q (1 : Nat) (rowI o) (3 : TypeId)]) else Res.out Ex.normal [AV.own (1 : Nat) k, AV.sl (2 : Nat) (1 : Nat) (0 : Nat) (0 : Nat) q (some q), AV.v (Value.bool false), AV.v (Value.int IntKind.i64 (IntKind.wrap IntKind.i64 ((↑i : Int) + (1 : Int))))] [AB.row false m (1 : Nat) (rowB b) (5 : TypeId), AB.row true k (9 : Nat) (row9 f) (46 : TypeId), AB.row true q (1 : Nat) (rowI o) (3 : TypeId)]) else Res.out Ex.normal [AV.own (1 : Nat) k, AV.sl (2 : Nat) (1 : Nat) (0 : Nat) (0 : Nat) q (some q), AV.v (Value.bool false), AV.v (Value.int IntKind.i64 (IntKind.wrap IntKind.i64 ((↑i : Int) + (1 : Int))))] [AB.row false m (1 : Nat) (rowB b) (5 : TypeId), AB.row true k (9 : Nat) (row9 f) (46 : TypeId), AB.row true q (1 : Nat) (rowI o) (3 : TypeId)]) else Res.out Ex.normal [AV.own (1 : Nat) k, AV.sl (2 : Nat) (1 : Nat) (0 : Nat) (0 : Nat) q (some q), AV.v (Value.bool false), AV.v (Value.int IntKind.i64 (IntKind.wrap IntKind.i64 ((↑i : Int) + (1 : Int))))] [AB.row false m (1 : Nat) (rowB b) (5 : TypeId), AB.row true k (9 : Nat) (row9 f) (46 : TypeId), AB.row true q (1 : Nat) (rowI o) (3 : TypeId)]) else Res.out Ex.normal [AV.own (1 : Nat) k, AV.sl (2 : Nat) (1 : Nat) (0 : Nat) (0 : Nat) q (some q), AV.v (Value.bool false), AV.v (Value.int IntKind.i64 (IntKind.wrap IntKind.i64 ((↑i : Int) + (1 : Int))))] [AB.row false m (1 : Nat) (rowB b) (5 : TypeId), AB.row true k (9 : Nat) (row9 f) (46 : TypeId), AB.row true q (1 : Nat) (rowI o) (3 : TypeId)]) else Res.out Ex.normal [AV.own (1 : Nat) k, AV.sl (2 : Nat) (1 : Nat) (0 : Nat) (0 : Nat) q (some q), AV.v (Value.bool false), AV.v (Value.int IntKind.i64 (IntKind.wrap IntKind.i64 ((↑i : Int) + (1 : Int))))] [AB.row false m (1 : Nat) (rowB b) (5 : TypeId), AB.row true k (9 : Nat) (row9 f) (46 : TypeId), AB.row true q (1 : Nat) (rowI o) (3 : TypeId)]) else Res.out Ex.normal [AV.own (1 : Nat) k, AV.sl (2 : Nat) (1 : Nat) (0 : Nat) (0 : Nat) q (some q), AV.v (Value.bool false), AV.v (Value.int IntKind.i64 (IntKind.wrap IntKind.i64 ((↑i : Int) + (1 : Int))))] [AB.row false m (1 : Nat) (rowB b) (5 : TypeId), AB.row true k (9 : Nat) (row9 f) (46 : TypeId), AB.row true q (1 : Nat) (rowI o) (3 : TypeId)]) else Res.out Ex.normal [AV.own (1 : Nat) k, AV.sl (2 : Nat) (1 : Nat) (0 : Nat) (0 : Nat) q (some q), AV.v (Value.bool false), AV.v (Value.int IntKind.i64 (IntKind.wrap IntKind.i64 ((↑i : Int) + (1 : Int))))] [AB.row false m (1 : Nat) (rowB b) (5 : TypeId), AB.row true k (9 : Nat) (row9 f) (46 : TypeId), AB.row true q (1 : Nat) (rowI o) (3 : TypeId)]) else Res.out Ex.normal [AV.own (1 : Nat) k, AV.sl (2 : Nat) (1 : Nat) (0 : Nat) (0 : Nat) q (some q), AV.v (Value.bool false), AV.v (Value.int IntKind.i64 (IntKind.wrap IntKind.i64 ((↑i : Int) + (1 : Int))))] [AB.row false m (1 : Nat) (rowB b) (5 : TypeId), AB.row true k (9 : Nat) (row9 f) (46 : TypeId), AB.row true q (1 : Nat) (rowI o) (3 : TypeId)]) else Res.out Ex.normal [AV.own (1 : Nat) k, AV.sl (2 : Nat) (1 : Nat) (0 : Nat) (0 : Nat) q (some q), AV.v (Value.bool false), AV.v (Value.int IntKind.i64 (IntKind.wrap IntKind.i64 ((↑i : Int) + (1 : Int))))] [AB.row false m (1 : Nat) (rowB b) (5 : TypeId), AB.row true k (9 : Nat) (row9 f) (46 : TypeId), AB.row true q (1 : Nat) (rowI o) (3 : TypeId)]) else Res.out Ex.normal [AV.own (1 : Nat) k, AV.sl (2 : Nat) (1 : Nat) (0 : Nat) (0 : Nat) q (some q), AV.v (Value.bool false), AV.v (Value.int IntKind.i64 (IntKind.wrap IntKind.i64 ((↑i : Int) + (1 : Int))))] [AB.row false m (1 : Nat) (rowB b) (5 : TypeId), AB.row true k (9 : Nat) (row9 f) (46 : TypeId), AB.row true q (1 : Nat) (rowI o) (3 : TypeId)]) else Res.out Ex.normal [AV.own (1 : Nat) k, AV.sl (2 : Nat) (1 : Nat) (0 : Nat) (0 : Nat) q (some q), AV.v (Value.bool false), AV.v (Value.int IntKind.i64 (IntKind.wrap IntKind.i64 ((↑i : Int) + (1 : Int))))] [AB.row false m (1 : Nat) (rowB b) (5 : TypeId), AB.row true k (9 : Nat) (row9 f) (46 : TypeId), AB.row true q (1 : Nat) (rowI o) (3 : TypeId)]) else Res.out Ex.normal [AV.own (1 : Nat) k, AV.sl (2 : Nat) (1 : Nat) (0 : Nat) (0 : Nat) q (some q), AV.v (Value.bool false), AV.v (Value.int IntKind.i64 (IntKind.wrap IntKind.i64 ((↑i : Int) + (1 : Int))))] [AB.row false m (1 : Nat) (rowB b) (5 : TypeId), AB.row true k (9 : Nat) (row9 f) (46 : TypeId), AB.row true q (1 : Nat) (rowI o) (3 : TypeId)]) else Res.out Ex.normal [AV.own (1 : Nat) k, AV.sl (2 : Nat) (1 : Nat) (0 : Nat) (0 : Nat) q (some q), AV.v (Value.bool false), AV.v (Value.int IntKind.i64 (IntKind.wrap IntKind.i64 ((↑i : Int) + (1 : Int))))] [AB.row false m (1 : Nat) (rowB b) (5 : TypeId), AB.row true k (9 : Nat) (row9 f) (46 : TypeId), AB.row true q (1 : Nat) (rowI o) (3 : TypeId)]) else Res.out Ex.normal [AV.own (1 : Nat) k, AV.sl (2 : Nat) (1 : Nat) (0 : Nat) (0 : Nat) q (some q), AV.v (Value.bool false), AV.v (Value.int IntKind.i64 (IntKind.wrap IntKind.i64 ((↑i : Int) + (1 : Int))))] [AB.row false m (1 : Nat) (rowB b) (5 : TypeId), AB.row true k (9 : Nat) (row9 f) (46 : TypeId), AB.row true q (1 : Nat) (rowI o) (3 : TypeId)]) else Res.out Ex.normal [AV.own (1 : Nat) k, AV.sl (2 : Nat) (1 : Nat) (0 : Nat) (0 : Nat) q (some q), AV.v (Value.bool false), AV.v (Value.int IntKind.i64 (IntKind.wrap IntKind.i64 ((↑i : Int) + (1 : Int))))] [AB.row false m (1 : Nat) (rowB b) (5 : TypeId), AB.row true k (9 : Nat) (row9 f) (46 : TypeId), AB.row true q (1 : Nat) (rowI o) (3 : TypeId)]) else Res.out Ex.normal [AV.own (1 : Nat) k, AV.sl (2 : Nat) (1 : Nat) (0 : Nat) (0 : Nat) q (some q), AV.v (Value.bool false), AV.v (Value.int IntKind.i64 (IntKind.wrap IntKind.i64 ((↑i : Int) + (1 : Int))))] [AB.row false m (1 : Nat) (rowB b) (5 : TypeId), AB.row true k (9 : Nat) (row9 f) (46 : TypeId), AB.row true q (1 : Nat) (rowI o) (3 : TypeId)] else Res.out (Ex.exit (0 : Nat)) [AV.sl (1 : Nat) (1 : Nat) (0 : Nat) (0 : Nat) q (some q), AV.v (Value.bool s)] [AB.row false m (1 : Nat) (rowB b) (5 : TypeId), AB.row true q (1 : Nat) (rowI o) (3 : TypeId)] := by kernel_rfl

abbrev celH (h : Nat → Bool) : List AV := [.v (.bool (h 0)), .v (.bool (h 1)), .v (.bool (h 2)), .v (.bool (h 3)), .v (.bool (h 4)), .v (.bool (h 5)), .v (.bool (h 6)), .v (.bool (h 7)), .v (.bool (h 8)), .v (.bool (h 9)), .v (.bool (h 10)), .v (.bool (h 11)), .v (.bool (h 12)), .v (.bool (h 13)), .v (.bool (h 14)), .v (.bool (h 15)), .v (.bool (h 16)), .v (.bool (h 17)), .v (.bool (h 18)), .v (.bool (h 19)), .v (.bool (h 20)), .v (.bool (h 21)), .v (.bool (h 22)), .v (.bool (h 23))]
abbrev lvSt4 : Ex → List Nat := lv3 [4, 8, 11, 12] [8, 11] [2]
abbrev stSt4 (q : Nat) (s : Bool) (i : Nat) : List AV := [.sl 1 1 0 0 q (some q), .v (.bool s), .ptr 2 0 0 0, .v (i64 i)]
abbrev hpSt4 (m : Nat) (b : Nat → Int) (q : Nat) (o : Nat → Int) (h : Nat → Bool) : List AB := [.row false m 1 (rowB b) 5, .row true q 1 (rowI o) 3, .cells (celH h) 47]
theorem rndSt4 (m : Nat) (b : Nat → Int) (q : Nat) (o : Nat → Int) (h : Nat → Bool) (s : Bool) (i : Nat) : execC Try.prog g0 100 noLam (loopAt 4 fSt) (mkT 0 117 ((lvSt4 .normal).zip (stSt4 q s i))) (hpSt4 m b q o h) (leafV 117 lvSt4 1)
    = bif decide ((↑i : Int) < (↑q : Int)) then needs [decide ((↑i : Int) < (↑q : Int)), decide ((0 : Nat) + Int.toNat (↑i : Int) < q), decide ((0 : Int) ≤ o ((0 : Nat) + Int.toNat (↑i : Int))), decide (o ((0 : Nat) + Int.toNat (↑i : Int)) < (24 : Int)), Nat.blt ((0 : Nat) + ((0 : Nat) + Int.toNat (o ((0 : Nat) + Int.toNat (↑i : Int))) * (1 : Nat))) (24 : Nat)] (Res.out Ex.normal [AV.sl (1 : Nat) (1 : Nat) (0 : Nat) (0 : Nat) q (some q), AV.v (Value.bool s), AV.ptr (2 : Nat) (0 : Nat) (0 : Nat) (0 : Nat), AV.v (Value.int IntKind.i64 (IntKind.wrap IntKind.i64 ((↑i : Int) + (1 : Int))))] [AB.row false m (1 : Nat) (rowB b) (5 : TypeId), AB.row true q (1 : Nat) (rowI o) (3 : TypeId), AB.cells [AV.v (Value.bool (bif Nat.beq (0 : Nat) ((0 : Nat) + ((0 : Nat) + Int.toNat (o ((0 : Nat) + Int.toNat (↑i : Int))) * (1 : Nat))) then true else h (0 : Nat))), AV.v (Value.bool (bif Nat.beq (1 : Nat) ((0 : Nat) + ((0 : Nat) + Int.toNat (o ((0 : Nat) + Int.toNat (↑i : Int))) * (1 : Nat))) then true else h (1 : Nat))), AV.v (Value.bool (bif Nat.beq (2 : Nat) ((0 : Nat) + ((0 : Nat) + Int.toNat (o ((0 : Nat) + Int.toNat (↑i : Int))) * (1 : Nat))) then true else h (2 : Nat))), AV.v (Value.bool (bif Nat.beq (3 : Nat) ((0 : Nat) + ((0 : Nat) + Int.toNat (o ((0 : Nat) + Int.toNat (↑i : Int))) * (1 : Nat))) then true else h (3 : Nat))), AV.v (Value.bool (bif Nat.beq (4 : Nat) ((0 : Nat) + ((0 : Nat) + Int.toNat (o ((0 : Nat) + Int.toNat (↑i : Int))) * (1 : Nat))) then true else h (4 : Nat))), AV.v (Value.bool (bif Nat.beq (5 : Nat) ((0 : Nat) + ((0 : Nat) + Int.toNat (o ((0 : Nat) + Int.toNat (↑i : Int))) * (1 : Nat))) then true else h (5 : Nat))), AV.v (Value.bool (bif Nat.beq (6 : Nat) ((0 : Nat) + ((0 : Nat) + Int.toNat (o ((0 : Nat) + Int.toNat (↑i : Int))) * (1 : Nat))) then true else h (6 : Nat))), AV.v (Value.bool (bif Nat.beq (7 : Nat) ((0 : Nat) + ((0 : Nat) + Int.toNat (o ((0 : Nat) + Int.toNat (↑i : Int))) * (1 : Nat))) then true else h (7 : Nat))), AV.v (Value.bool (bif Nat.beq (8 : Nat) ((0 : Nat) + ((0 : Nat) + Int.toNat (o ((0 : Nat) + Int.toNat (↑i : Int))) * (1 : Nat))) then true else h (8 : Nat))), AV.v (Value.bool (bif Nat.beq (9 : Nat) ((0 : Nat) + ((0 : Nat) + Int.toNat (o ((0 : Nat) + Int.toNat (↑i : Int))) * (1 : Nat))) then true else h (9 : Nat))), AV.v (Value.bool (bif Nat.beq (10 : Nat) ((0 : Nat) + ((0 : Nat) + Int.toNat (o ((0 : Nat) + Int.toNat (↑i : Int))) * (1 : Nat))) then true else h (10 : Nat))), AV.v (Value.bool (bif Nat.beq (11 : Nat) ((0 : Nat) + ((0 : Nat) + Int.toNat (o ((0 : Nat) + Int.toNat (↑i : Int))) * (1 : Nat))) then true else h (11 : Nat))), AV.v (Value.bool (bif Nat.beq (12 : Nat) ((0 : Nat) + ((0 : Nat) + Int.toNat (o ((0 : Nat) + Int.toNat (↑i : Int))) * (1 : Nat))) then true else h (12 : Nat))), AV.v (Value.bool (bif Nat.beq (13 : Nat) ((0 : Nat) + ((0 : Nat) + Int.toNat (o ((0 : Nat) + Int.toNat (↑i : Int))) * (1 : Nat))) then true else h (13 : Nat))), AV.v (Value.bool (bif Nat.beq (14 : Nat) ((0 : Nat) + ((0 : Nat) + Int.toNat (o ((0 : Nat) + Int.toNat (↑i : Int))) * (1 : Nat))) then true else h (14 : Nat))), AV.v (Value.bool (bif Nat.beq (15 : Nat) ((0 : Nat) + ((0 : Nat) + Int.toNat (o ((0 : Nat) + Int.toNat (↑i : Int))) * (1 : Nat))) then true else h (15 : Nat))), AV.v (Value.bool (bif Nat.beq (16 : Nat) ((0 : Nat) + ((0 : Nat) + Int.toNat (o ((0 : Nat) + Int.toNat (↑i : Int))) * (1 : Nat))) then true else h (16 : Nat))), AV.v (Value.bool (bif Nat.beq (17 : Nat) ((0 : Nat) + ((0 : Nat) + Int.toNat (o ((0 : Nat) + Int.toNat (↑i : Int))) * (1 : Nat))) then true else h (17 : Nat))), AV.v (Value.bool (bif Nat.beq (18 : Nat) ((0 : Nat) + ((0 : Nat) + Int.toNat (o ((0 : Nat) + Int.toNat (↑i : Int))) * (1 : Nat))) then true else h (18 : Nat))), AV.v (Value.bool (bif Nat.beq (19 : Nat) ((0 : Nat) + ((0 : Nat) + Int.toNat (o ((0 : Nat) + Int.toNat (↑i : Int))) * (1 : Nat))) then true else h (19 : Nat))), AV.v (Value.bool (bif Nat.beq (20 : Nat) ((0 : Nat) + ((0 : Nat) + Int.toNat (o ((0 : Nat) + Int.toNat (↑i : Int))) * (1 : Nat))) then true else h (20 : Nat))), AV.v (Value.bool (bif Nat.beq (21 : Nat) ((0 : Nat) + ((0 : Nat) + Int.toNat (o ((0 : Nat) + Int.toNat (↑i : Int))) * (1 : Nat))) then true else h (21 : Nat))), AV.v (Value.bool (bif Nat.beq (22 : Nat) ((0 : Nat) + ((0 : Nat) + Int.toNat (o ((0 : Nat) + Int.toNat (↑i : Int))) * (1 : Nat))) then true else h (22 : Nat))), AV.v (Value.bool (bif Nat.beq (23 : Nat) ((0 : Nat) + ((0 : Nat) + Int.toNat (o ((0 : Nat) + Int.toNat (↑i : Int))) * (1 : Nat))) then true else h (23 : Nat)))] (47 : TypeId)]) else Res.out (Ex.exit (4 : Nat)) [AV.v (Value.bool s), AV.ptr (1 : Nat) (0 : Nat) (0 : Nat) (0 : Nat)] [AB.row false m (1 : Nat) (rowB b) (5 : TypeId), AB.cells [AV.v (Value.bool (h (0 : Nat))), AV.v (Value.bool (h (1 : Nat))), AV.v (Value.bool (h (2 : Nat))), AV.v (Value.bool (h (3 : Nat))), AV.v (Value.bool (h (4 : Nat))), AV.v (Value.bool (h (5 : Nat))), AV.v (Value.bool (h (6 : Nat))), AV.v (Value.bool (h (7 : Nat))), AV.v (Value.bool (h (8 : Nat))), AV.v (Value.bool (h (9 : Nat))), AV.v (Value.bool (h (10 : Nat))), AV.v (Value.bool (h (11 : Nat))), AV.v (Value.bool (h (12 : Nat))), AV.v (Value.bool (h (13 : Nat))), AV.v (Value.bool (h (14 : Nat))), AV.v (Value.bool (h (15 : Nat))), AV.v (Value.bool (h (16 : Nat))), AV.v (Value.bool (h (17 : Nat))), AV.v (Value.bool (h (18 : Nat))), AV.v (Value.bool (h (19 : Nat))), AV.v (Value.bool (h (20 : Nat))), AV.v (Value.bool (h (21 : Nat))), AV.v (Value.bool (h (22 : Nat))), AV.v (Value.bool (h (23 : Nat)))] (47 : TypeId)] := by kernel_rfl

end Go.Proofs.Ytmdcafhnjihckaa

/- FnStill: the trees of the function. Conditions: bytes. -/
namespace Go.Proofs.Ytmdcafhnjihckaa
open Go.RowKit
set_option maxRecDepth 100000

noncomputable abbrev lamSt (m : Nat) (b : Nat → Int) (k : Nat) (f : Nat → Nat → Int) (q : Nat) (o : Nat → Int) (s : Bool) (h : Nat → Bool) : Nat → Option Sum :=
  addL 0 (atS 117 (lvSt0 .normal) 1 (stSt0 k q true 0) (hpSt0 m b k f q o) (fun K => K .normal (mkT 0 117 [(4, .sl 1 1 0 0 q (some q)), (8, .v (.bool s))]) [.row false m 1 (rowB b) 5, .row true q 1 (rowI o) 3]))
    (oneL 4 (atS 117 (lvSt4 .normal) 1 (stSt4 q s 0) (hpSt4 m b q o fun _ => false) (fun K => K .normal (mkT 0 117 [(8, .v (.bool s)), (11, .ptr 1 0 0 0)]) [.row false m 1 (rowB b) 5, .cells (celH h) 47])))
def gmLStY (dl : Nat → (Nat → Int) → List Wh) (yes : List Wh → Bool) (sl : List Wh → List Nat) (of : List Wh → Nat → Int) (eq : Nat → (Nat → Int) → Nat → (Nat → Int) → Bool) : Gam := ext (ext (ext (ext g0 24 (specR md_co (FdrO fun m b => frL (dl m b)))) 26 (specR md_ws (FstS yes sl of))) 25 (specR md_ws (FstY yes sl of))) 27 (specR md_si (FsiO eq))
def gmLStN (dl : Nat → (Nat → Int) → List Wh) (yes : List Wh → Bool) (sl : List Wh → List Nat) (of : List Wh → Nat → Int) (eq : Nat → (Nat → Int) → Nat → (Nat → Int) → Bool) : Gam := ext (ext (ext (ext g0 24 (specR md_co (FdrO fun m b => frL (dl m b)))) 26 (specR md_ws (FstS yes sl of))) 25 (specR md_ws (FstN yes))) 27 (specR md_si (FsiO eq))
theorem lawStY (dl : Nat → (Nat → Int) → List Wh) (yes : List Wh → Bool) (sl : List Wh → List Nat) (of : List Wh → Nat → Int) (eq : Nat → (Nat → Int) → Nat → (Nat → Int) → Bool) (m : Nat) (b : Nat → Int) (k : Nat) (f : Nat → Nat → Int) (q : Nat) (o : Nat → Int) (s : Bool) (h : Nat → Bool) : execF Try.prog (gmLStY dl yes sl of eq) (lamSt m b k f q o s h) 100 fSt [.sl 0 1 0 0 m none] [.row false m 1 (rowB b) 5] (packK 1)
    = bif decide ((↑m : Int) > (1048576 : Int)) then Res.out Ex.ret [AV.v (Value.bool true)] [AB.row false m (1 : Nat) (rowB b) (5 : TypeId)] else needs [Nat.ble ((0 : Nat) + m) m, okB m fun q ↦ rowB b ((0 : Nat) + q), decide (m ≤ (2097152 : Nat)), Nat.ble (List.length (dl m (itB fun q ↦ rowB b ((0 : Nat) + q)))) (List.length (dl m (itB fun q ↦ rowB b ((0 : Nat) + q)))), allW (List.length (dl m (itB fun q ↦ rowB b ((0 : Nat) + q)))) (row9 (wfun (dl m (itB fun q ↦ rowB b ((0 : Nat) + q))))), decide (List.length (dl m (itB fun q ↦ rowB b ((0 : Nat) + q))) ≤ (274877906944 : Nat)), yes (listW (itW (row9 (wfun (dl m (itB fun q ↦ rowB b ((0 : Nat) + q)))))) (List.length (dl m (itB fun q ↦ rowB b ((0 : Nat) + q))))), Nat.ble (List.length (dl m (itB fun q ↦ rowB b ((0 : Nat) + q)))) (List.length (dl m (itB fun q ↦ rowB b ((0 : Nat) + q)))), allW (List.length (dl m (itB fun q ↦ rowB b ((0 : Nat) + q)))) (row9 (wfun (dl m (itB fun q ↦ rowB b ((0 : Nat) + q))))), decide (List.length (dl m (itB fun q ↦ rowB b ((0 : Nat) + q))) ≤ (274877906944 : Nat))] (bif !true == yes (listW (itW (row9 (wfun (dl m (itB fun q ↦ rowB b ((0 : Nat) + q)))))) (List.length (dl m (itB fun q ↦ rowB b ((0 : Nat) + q))))) then bif true == yes (listW (itW (row9 (wfun (dl m (itB fun q ↦ rowB b ((0 : Nat) + q)))))) (List.length (dl m (itB fun q ↦ rowB b ((0 : Nat) + q))))) then needs [Nat.ble ((0 : Nat) + List.length (sl (listW (itW (row9 (wfun (dl m (itB fun q ↦ rowB b ((0 : Nat) + q)))))) (List.length (dl m (itB fun q ↦ rowB b ((0 : Nat) + q))))))) (List.length (sl (listW (itW (row9 (wfun (dl m (itB fun q ↦ rowB b ((0 : Nat) + q)))))) (List.length (dl m (itB fun q ↦ rowB b ((0 : Nat) + q))))))), Nat.ble (List.length (sl (listW (itW (row9 (wfun (dl m (itB fun q ↦ rowB b ((0 : Nat) + q)))))) (List.length (dl m (itB fun q ↦ rowB b ((0 : Nat) + q))))))) (List.length (sl (listW (itW (row9 (wfun (dl m (itB fun q ↦ rowB b ((0 : Nat) + q)))))) (List.length (dl m (itB fun q ↦ rowB b ((0 : Nat) + q))))))), allI (List.length (sl (listW (itW (row9 (wfun (dl m (itB fun q ↦ rowB b ((0 : Nat) + q)))))) (List.length (dl m (itB fun q ↦ rowB b ((0 : Nat) + q))))))) fun q ↦ rowI (of (listW (itW (row9 (wfun (dl m (itB fun q ↦ rowB b ((0 : Nat) + q)))))) (List.length (dl m (itB fun q ↦ rowB b ((0 : Nat) + q)))))) ((0 : Nat) + q), allI (List.length (sl (listW (itW (row9 (wfun (dl m (itB fun q ↦ rowB b ((0 : Nat) + q)))))) (List.length (dl m (itB fun q ↦ rowB b ((0 : Nat) + q))))))) (rowI (of (listW (itW (row9 (wfun (dl m (itB fun q ↦ rowB b ((0 : Nat) + q)))))) (List.length (dl m (itB fun q ↦ rowB b ((0 : Nat) + q))))))), decide (List.length (sl (listW (itW (row9 (wfun (dl m (itB fun q ↦ rowB b ((0 : Nat) + q)))))) (List.length (dl m (itB fun q ↦ rowB b ((0 : Nat) + q)))))) ≤ (274877906944 : Nat)), decide (List.length (sl (listW (itW (row9 (wfun (dl m (itB fun q ↦ rowB b ((0 : Nat) + q)))))) (List.length (dl m (itB fun q ↦ rowB b ((0 : Nat) + q)))))) ≤ (274877906944 : Nat))] (Res.out Ex.ret [AV.v (Value.bool (eq (List.length (sl (listW (itW (row9 (wfun (dl m (itB fun q ↦ rowB b ((0 : Nat) + q)))))) (List.length (dl m (itB fun q ↦ rowB b ((0 : Nat) + q))))))) (itI fun q ↦ rowI (of (listW (itW (row9 (wfun (dl m (itB fun q ↦ rowB b ((0 : Nat) + q)))))) (List.length (dl m (itB fun q ↦ rowB b ((0 : Nat) + q)))))) ((0 : Nat) + q)) (List.length (sl (listW (itW (row9 (wfun (dl m (itB fun q ↦ rowB b ((0 : Nat) + q)))))) (List.length (dl m (itB fun q ↦ rowB b ((0 : Nat) + q))))))) (itI (rowI (of (listW (itW (row9 (wfun (dl m (itB fun q ↦ rowB b ((0 : Nat) + q)))))) (List.length (dl m (itB fun q ↦ rowB b ((0 : Nat) + q))))))))))] [AB.row false m (1 : Nat) (rowB b) (5 : TypeId)]) else Res.out Ex.ret [AV.v (Value.bool false)] [AB.row false m (1 : Nat) (rowB b) (5 : TypeId)] else needs [Nat.ble ((0 : Nat) + List.length (sl (listW (itW (row9 (wfun (dl m (itB fun q ↦ rowB b ((0 : Nat) + q)))))) (List.length (dl m (itB fun q ↦ rowB b ((0 : Nat) + q))))))) (List.length (sl (listW (itW (row9 (wfun (dl m (itB fun q ↦ rowB b ((0 : Nat) + q)))))) (List.length (dl m (itB fun q ↦ rowB b ((0 : Nat) + q))))))), Nat.ble (List.length (sl (listW (itW (row9 (wfun (dl m (itB fun q ↦ rowB b ((0 : Nat) + q)))))) (List.length (dl m (itB fun q ↦ rowB b ((0 : Nat) + q))))))) (List.length (sl (listW (itW (row9 (wfun (dl m (itB fun q ↦ rowB b ((0 : Nat) + q)))))) (List.length (dl m (itB fun q ↦ rowB b ((0 : Nat) + q))))))), allI (List.length (sl (listW (itW (row9 (wfun (dl m (itB fun q ↦ rowB b ((0 : Nat) + q)))))) (List.length (dl m (itB fun q ↦ rowB b ((0 : Nat) + q))))))) fun q ↦ rowI (of (listW (itW (row9 (wfun (dl m (itB fun q ↦ rowB b ((0 : Nat) + q)))))) (List.length (dl m (itB fun q ↦ rowB b ((0 : Nat) + q)))))) ((0 : Nat) + q), allI (List.length (sl (listW (itW (row9 (wfun (dl m (itB fun q ↦ rowB b ((0 : Nat) + q)))))) (List.length (dl m (itB fun q ↦ rowB b ((0 : Nat) + q))))))) (rowI (of (listW (itW (row9 (wfun (dl m (itB fun q ↦ rowB b ((0 : Nat) + q)))))) (List.length (dl m (itB fun q ↦ rowB b ((0 : Nat) + q))))))), decide (List.length (sl (listW (itW (row9 (wfun (dl m (itB fun q ↦ rowB b ((0 : Nat) + q)))))) (List.length (dl m (itB fun q ↦ rowB b ((0 : Nat) + q)))))) ≤ (274877906944 : Nat)), decide (List.length (sl (listW (itW (row9 (wfun (dl m (itB fun q ↦ rowB b ((0 : Nat) + q)))))) (List.length (dl m (itB fun q ↦ rowB b ((0 : Nat) + q)))))) ≤ (274877906944 : Nat))] (bif !eq (List.length (sl (listW (itW (row9 (wfun (dl m (itB fun q ↦ rowB b ((0 : Nat) + q)))))) (List.length (dl m (itB fun q ↦ rowB b ((0 : Nat) + q))))))) (itI fun q ↦ rowI (of (listW (itW (row9 (wfun (dl m (itB fun q ↦ rowB b ((0 : Nat) + q)))))) (List.length (dl m (itB fun q ↦ rowB b ((0 : Nat) + q)))))) ((0 : Nat) + q)) (List.length (sl (listW (itW (row9 (wfun (dl m (itB fun q ↦ rowB b ((0 : Nat) + q)))))) (List.length (dl m (itB fun q ↦ rowB b ((0 : Nat) + q))))))) (itI (rowI (of (listW (itW (row9 (wfun (dl m (itB fun q ↦ rowB b ((0 : Nat) + q)))))) (List.length (dl m (itB fun q ↦ rowB b ((0 : Nat) + q)))))))) then bif true == yes (listW (itW (row9 (wfun (dl m (itB fun q ↦ rowB b ((0 : Nat) + q)))))) (List.length (dl m (itB fun q ↦ rowB b ((0 : Nat) + q))))) then needs [Nat.ble ((0 : Nat) + List.length (sl (listW (itW (row9 (wfun (dl m (itB fun q ↦ rowB b ((0 : Nat) + q)))))) (List.length (dl m (itB fun q ↦ rowB b ((0 : Nat) + q))))))) (List.length (sl (listW (itW (row9 (wfun (dl m (itB fun q ↦ rowB b ((0 : Nat) + q)))))) (List.length (dl m (itB fun q ↦ rowB b ((0 : Nat) + q))))))), Nat.ble (List.length (sl (listW (itW (row9 (wfun (dl m (itB fun q ↦ rowB b ((0 : Nat) + q)))))) (List.length (dl m (itB fun q ↦ rowB b ((0 : Nat) + q))))))) (List.length (sl (listW (itW (row9 (wfun (dl m (itB fun q ↦ rowB b ((0 : Nat) + q)))))) (List.length (dl m (itB fun q ↦ rowB b ((0 : Nat) + q))))))), allI (List.length (sl (listW (itW (row9 (wfun (dl m (itB fun q ↦ rowB b ((0 : Nat) + q)))))) (List.length (dl m (itB fun q ↦ rowB b ((0 : Nat) + q))))))) fun q ↦ rowI (of (listW (itW (row9 (wfun (dl m (itB fun q ↦ rowB b ((0 : Nat) + q)))))) (List.length (dl m (itB fun q ↦ rowB b ((0 : Nat) + q)))))) ((0 : Nat) + q), allI (List.length (sl (listW (itW (row9 (wfun (dl m (itB fun q ↦ rowB b ((0 : Nat) + q)))))) (List.length (dl m (itB fun q ↦ rowB b ((0 : Nat) + q))))))) (rowI (of (listW (itW (row9 (wfun (dl m (itB fun q ↦ rowB b ((0 : Nat) + q)))))) (List.length (dl m (itB fun q ↦ rowB b ((0 : Nat) + q))))))), decide (List.length (sl (listW (itW (row9 (wfun (dl m (itB fun q ↦ rowB b ((0 : Nat) + q)))))) (List.length (dl m (itB fun q ↦ rowB b ((0 : Nat) + q)))))) ≤ (274877906944 : Nat)), decide (List.length (sl (listW (itW (row9 (wfun (dl m (itB fun q ↦ rowB b ((0 : Nat) + q)))))) (List.length (dl m (itB fun q ↦ rowB b ((0 : Nat) + q)))))) ≤ (274877906944 : Nat))] (Res.out Ex.ret [AV.v (Value.bool (eq (List.length (sl (listW (itW (row9 (wfun (dl m (itB fun q ↦ rowB b ((0 : Nat) + q)))))) (List.length (dl m (itB fun q ↦ rowB b ((0 : Nat) + q))))))) (itI fun q ↦ rowI (of (listW (itW (row9 (wfun (dl m (itB fun q ↦ rowB b ((0 : Nat) + q)))))) (List.length (dl m (itB fun q ↦ rowB b ((0 : Nat) + q)))))) ((0 : Nat) + q)) (List.length (sl (listW (itW (row9 (wfun (dl m (itB fun q ↦ rowB b ((0 : Nat) + q)))))) (List.length (dl m (itB fun q ↦ rowB b ((0 : Nat) + q))))))) (itI (rowI (of (listW (itW (row9 (wfun (dl m (itB fun q ↦ rowB b ((0 : Nat) + q)))))) (List.length (dl m (itB fun q ↦ rowB b ((0 : Nat) + q))))))))))] [AB.row false m (1 : Nat) (rowB b) (5 : TypeId)]) else Res.out Ex.ret [AV.v (Value.bool false)] [AB.row false m (1 : Nat) (rowB b) (5 : TypeId)] else needs [chk ([AV.own (1 : Nat) (List.length (dl m (itB fun q ↦ rowB b ((0 : Nat) + q)))), AV.sl (2 : Nat) (1 : Nat) (0 : Nat) (0 : Nat) (List.length (sl (listW (itW (row9 (wfun (dl m (itB fun q ↦ rowB b ((0 : Nat) + q)))))) (List.length (dl m (itB fun q ↦ rowB b ((0 : Nat) + q))))))) (some (List.length (sl (listW (itW (row9 (wfun (dl m (itB fun q ↦ rowB b ((0 : Nat) + q)))))) (List.length (dl m (itB fun q ↦ rowB b ((0 : Nat) + q)))))))), AV.v (Value.bool true), AV.v (Value.int IntKind.i64 (0 : Int))] = stSt0 k q true (0 : Nat) ∧ Hsim [AB.row false m (1 : Nat) (rowB b) (5 : TypeId), AB.row true (List.length (dl m (itB fun q ↦ rowB b ((0 : Nat) + q)))) (9 : Nat) (row9 (wfun (dl m (itB fun q ↦ rowB b ((0 : Nat) + q))))) (46 : TypeId), AB.row true (List.length (sl (listW (itW (row9 (wfun (dl m (itB fun q ↦ rowB b ((0 : Nat) + q)))))) (List.length (dl m (itB fun q ↦ rowB b ((0 : Nat) + q))))))) (1 : Nat) (rowI (of (listW (itW (row9 (wfun (dl m (itB fun q ↦ rowB b ((0 : Nat) + q)))))) (List.length (dl m (itB fun q ↦ rowB b ((0 : Nat) + q))))))) (3 : TypeId)] (hpSt0 m b k f q o)), chk ([AV.sl (1 : Nat) (1 : Nat) (0 : Nat) (0 : Nat) q (some q), AV.v (Value.bool s), AV.ptr (2 : Nat) (0 : Nat) (0 : Nat) (0 : Nat), AV.v (Value.int IntKind.i64 (0 : Int))] = stSt4 q s (0 : Nat) ∧ Hsim [AB.row false m (1 : Nat) (rowB b) (5 : TypeId), AB.row true q (1 : Nat) (rowI o) (3 : TypeId), AB.cells [AV.v (Value.bool false), AV.v (Value.bool false), AV.v (Value.bool false), AV.v (Value.bool false), AV.v (Value.bool false), AV.v (Value.bool false), AV.v (Value.bool false), AV.v (Value.bool false), AV.v (Value.bool false), AV.v (Value.bool false), AV.v (Value.bool false), AV.v (Value.bool false), AV.v (Value.bool false), AV.v (Value.bool false), AV.v (Value.bool false), AV.v (Value.bool false), AV.v (Value.bool false), AV.v (Value.bool false), AV.v (Value.bool false), AV.v (Value.bool false), AV.v (Value.bool false), AV.v (Value.bool false), AV.v (Value.bool false), AV.v (Value.bool false)] (47 : Nat)] (hpSt4 m b q o fun _ ↦ false))] (bif s then bif !h (0 : Nat) == h (0 : Nat) then Res.out Ex.ret [AV.v (Value.bool false)] [AB.row false m (1 : Nat) (rowB b) (5 : TypeId)] else bif s then bif !h (1 : Nat) == h (23 : Nat) then Res.out Ex.ret [AV.v (Value.bool false)] [AB.row false m (1 : Nat) (rowB b) (5 : TypeId)] else bif s then bif !h (2 : Nat) == h (22 : Nat) then Res.out Ex.ret [AV.v (Value.bool false)] [AB.row false m (1 : Nat) (rowB b) (5 : TypeId)] else bif s then bif !h (3 : Nat) == h (21 : Nat) then Res.out Ex.ret [AV.v (Value.bool false)] [AB.row false m (1 : Nat) (rowB b) (5 : TypeId)] else bif s then bif !h (4 : Nat) == h (20 : Nat) then Res.out Ex.ret [AV.v (Value.bool false)] [AB.row false m (1 : Nat) (rowB b) (5 : TypeId)] else bif s then bif !h (5 : Nat) == h (19 : Nat) then Res.out Ex.ret [AV.v (Value.bool false)] [AB.row false m (1 : Nat) (rowB b) (5 : TypeId)] else bif s then bif !h (6 : Nat) == h (18 : Nat) then Res.out Ex.ret [AV.v (Value.bool false)] [AB.row false m (1 : Nat) (rowB b) (5 : TypeId)] else bif s then bif !h (7 : Nat) == h (17 : Nat) then Res.out Ex.ret [AV.v (Value.bool false)] [AB.row false m (1 : Nat) (rowB b) (5 : TypeId)] else bif s then bif !h (8 : Nat) == h (16 : Nat) then Res.out Ex.ret [AV.v (Value.bool false)] [AB.row false m (1 : Nat) (rowB b) (5 : TypeId)] else bif s then bif !h (9 : Nat) == h (15 : Nat) then Res.out Ex.ret [AV.v (Value.bool false)] [AB.row false m (1 : Nat) (rowB b) (5 : TypeId)] else bif s then bif !h (10 : Nat) == h (14 : Nat) then Res.out Ex.ret [AV.v (Value.bool false)] [AB.row false m (1 : Nat) (rowB b) (5 : TypeId)] else bif s then bif !h (11 : Nat) == h (13 : Nat) then Res.out Ex.ret [AV.v (Value.bool false)] [AB.row false m (1 : Nat) (rowB b) (5 : TypeId)] else bif s then bif !h (12 : Nat) == h (12 : Nat) then Res.out Ex.ret [AV.v (Value.bool false)] [AB.row false m (1 : Nat) (rowB b) (5 : TypeId)] else bif s then bif !h (13 : Nat) == h (11 : Nat) then Res.out Ex.ret [AV.v (Value.bool false)] [AB.row false m (1 : Nat) (rowB b) (5 : TypeId)] else bif s then bif !h (14 : Nat) == h (10 : Nat) then Res.out Ex.ret [AV.v (Value.bool false)] [AB.row false m (1 : Nat) (rowB b) (5 : TypeId)] else bif s then bif !h (15 : Nat) == h (9 : Nat) then Res.out Ex.ret [AV.v (Value.bool false)] [AB.row false m (1 : Nat) (rowB b) (5 : TypeId)] else bif s then bif !h (16 : Nat) == h (8 : Nat) then Res.out Ex.ret [AV.v (Value.bool false)] [AB.row false m (1 : Nat) (rowB b) (5 : TypeId)] else bif s then bif !h (17 : Nat) == h (7 : Nat) then Res.out Ex.ret [AV.v (Value.bool false)] [AB.row false m (1 : Nat) (rowB b) (5 : TypeId)] else bif s then bif !h (18 : Nat) == h (6 : Nat) then Res.out Ex.ret [AV.v (Value.bool false)] [AB.row false m (1 : Nat) (rowB b) (5 : TypeId)] else bif s then bif !h (19 : Nat) == h (5 : Nat) then Res.out Ex.ret [AV.v (Value.bool false)] [AB.row false m (1 : Nat) (rowB b) (5 : TypeId)] else bif s then bif !h (20 : Nat) == h (4 : Nat) then Res.out Ex.ret [AV.v (Value.bool false)] [AB.row false m (1 : Nat) (rowB b) (5 : TypeId)] else bif s then bif !h (21 : Nat) == h (3 : Nat) then Res.out Ex.ret [AV.v (Value.bool false)] [AB.row false m (1 : Nat) (rowB b) (5 : TypeId)] else bif s then bif !h (22 : Nat) == h (2 : Nat) then Res.out Ex.ret [AV.v (Value.bool false)] [AB.row false m (1 : Nat) (rowB b) (5 : TypeId)] else bif s then bif !h (23 : Nat) == h (1 : Nat) then Res.out Ex.ret [AV.v (Value.bool false)] [AB.row false m (1 : Nat) (rowB b) (5 : TypeId)] else bif !s then Res.out Ex.ret [AV.v (Value.bool true)] [AB.row false m (1 : Nat) (rowB b) (5 : TypeId)] else Res.out Ex.ret [AV.v (Value.bool (h (0 : Nat)))] [AB.row false m (1 : Nat) (rowB b) (5 : TypeId)] else bif !s then Res.out Ex.ret [AV.v (Value.bool true)] [AB.row false m (1 : Nat) (rowB b) (5 : TypeId)] else Res.out Ex.ret [AV.v (Value.bool (h (0 : Nat)))] [AB.row false m (1 : Nat) (rowB b) (5 : TypeId)] else bif !s then Res.out Ex.ret [AV.v (Value.bool true)] [AB.row false m (1 : Nat) (rowB b) (5 : TypeId)] else Res.out Ex.ret [AV.v (Value.bool (h (0 : Nat)))] [AB.row false m (1 : Nat) (rowB b) (5 : TypeId)] else bif !s then Res.out Ex.ret [AV.v (Value.bool true)] [AB.row false m (1 : Nat) (rowB b) (5 : TypeId)] else Res.out Ex.ret [AV.v (Value.bool (h (0 : Nat)))] [AB.row false m (1 : Nat) (rowB b) (5 : TypeId)] else bif !s then Res.out Ex.ret [AV.v (Value.bool true)] [AB.row false m (1 : Nat) (rowB b) (5 : TypeId)] else Res.out Ex.ret [AV.v (Value.bool (h (0 : Nat)))] [AB.row false m (1 : Nat) (rowB b) (5 : TypeId)] else bif !s then Res.out Ex.ret [AV.v (Value.bool true)] [AB.row false m (1 : Nat) (rowB b) (5 : TypeId)] else Res.out Ex.ret [AV.v (Value.bool (h (0 : Nat)))] [AB.row false m (1 : Nat) (rowB b) (5 : TypeId)] else bif !s then Res.out Ex.ret [AV.v (Value.bool true)] [AB.row false m (1 : Nat) (rowB b) (5 : TypeId)] else Res.out Ex.ret [AV.v (Value.bool (h (0 : Nat)))] [AB.row false m (1 : Nat) (rowB b) (5 : TypeId)] else bif !s then Res.out Ex.ret [AV.v (Value.bool true)] [AB.row false m (1 : Nat) (rowB b) (5 : TypeId)] else Res.out Ex.ret [AV.v (Value.bool (h (0 : Nat)))] [AB.row false m (1 : Nat) (rowB b) (5 : TypeId)] else bif !s then Res.out Ex.ret [AV.v (Value.bool true)] [AB.row false m (1 : Nat) (rowB b) (5 : TypeId)] else Res.out Ex.ret [AV.v (Value.bool (h (0 : Nat)))] [AB.row false m (1 : Nat) (rowB b) (5 : TypeId)] else bif !s then Res.out Ex.ret [AV.v (Value.bool true)] [AB.row false m (1 : Nat) (rowB b) (5 : TypeId)] else Res.out Ex.ret [AV.v (Value.bool (h (0 : Nat)))] [AB.row false m (1 : Nat) (rowB b) (5 : TypeId)] else bif !s then Res.out Ex.ret [AV.v (Value.bool true)] [AB.row false m (1 : Nat) (rowB b) (5 : TypeId)] else Res.out Ex.ret [AV.v (Value.bool (h (0 : Nat)))] [AB.row false m (1 : Nat) (rowB b) (5 : TypeId)] else bif !s then Res.out Ex.ret [AV.v (Value.bool true)] [AB.row false m (1 : Nat) (rowB b) (5 : TypeId)] else Res.out Ex.ret [AV.v (Value.bool (h (0 : Nat)))] [AB.row false m (1 : Nat) (rowB b) (5 : TypeId)] else bif !s then Res.out Ex.ret [AV.v (Value.bool true)] [AB.row false m (1 : Nat) (rowB b) (5 : TypeId)] else Res.out Ex.ret [AV.v (Value.bool (h (0 : Nat)))] [AB.row false m (1 : Nat) (rowB b) (5 : TypeId)] else bif !s then Res.out Ex.ret [AV.v (Value.bool true)] [AB.row false m (1 : Nat) (rowB b) (5 : TypeId)] else Res.out Ex.ret [AV.v (Value.bool (h (0 : Nat)))] [AB.row false m (1 : Nat) (rowB b) (5 : TypeId)] else bif !s then Res.out Ex.ret [AV.v (Value.bool true)] [AB.row false m (1 : Nat) (rowB b) (5 : TypeId)] else Res.out Ex.ret [AV.v (Value.bool (h (0 : Nat)))] [AB.row false m (1 : Nat) (rowB b) (5 : TypeId)] else bif !s then Res.out Ex.ret [AV.v (Value.bool true)] [AB.row false m (1 : Nat) (rowB b) (5 : TypeId)] else Res.out Ex.ret [AV.v (Value.bool (h (0 : Nat)))] [AB.row false m (1 : Nat) (rowB b) (5 : TypeId)] else bif !s then Res.out Ex.ret [AV.v (Value.bool true)] [AB.row false m (1 : Nat) (rowB b) (5 : TypeId)] else Res.out Ex.ret [AV.v (Value.bool (h (0 : Nat)))] [AB.row false m (1 : Nat) (rowB b) (5 : TypeId)] else bif !s then Res.out Ex.ret [AV.v (Value.bool true)] [AB.row false m (1 : Nat) (rowB b) (5 : TypeId)] else Res.out Ex.ret [AV.v (Value.bool (h (0 : Nat)))] [AB.row false m (1 : Nat) (rowB b) (5 : TypeId)] else bif !s then Res.out Ex.ret [AV.v (Value.bool true)] [AB.row false m (1 : Nat) (rowB b) (5 : TypeId)] else Res.out Ex.ret [AV.v (Value.bool (h (0 : Nat)))] [AB.row false m (1 : Nat) (rowB b) (5 : TypeId)] else bif !s then Res.out Ex.ret [AV.v (Value.bool true)] [AB.row false m (1 : Nat) (rowB b) (5 : TypeId)] else Res.out Ex.ret [AV.v (Value.bool (h (0 : Nat)))] [AB.row false m (1 : Nat) (rowB b) (5 : TypeId)] else bif !s then Res.out Ex.ret [AV.v (Value.bool true)] [AB.row false m (1 : Nat) (rowB b) (5 : TypeId)] else Res.out Ex.ret [AV.v (Value.bool (h (0 : Nat)))] [AB.row false m (1 : Nat) (rowB b) (5 : TypeId)] else bif !s then Res.out Ex.ret [AV.v (Value.bool true)] [AB.row false m (1 : Nat) (rowB b) (5 : TypeId)] else Res.out Ex.ret [AV.v (Value.bool (h (0 : Nat)))] [AB.row false m (1 : Nat) (rowB b) (5 : TypeId)] else bif !s then Res.out Ex.ret [AV.v (Value.bool true)] [AB.row false m (1 : Nat) (rowB b) (5 : TypeId)] else Res.out Ex.ret [AV.v (Value.bool (h (0 : Nat)))] [AB.row false m (1 : Nat) (rowB b) (5 : TypeId)] else bif !s then Res.out Ex.ret [AV.v (Value.bool true)] [AB.row false m (1 : Nat) (rowB b) (5 : TypeId)] else Res.out Ex.ret [AV.v (Value.bool (h (0 : Nat)))] [AB.row false m (1 : Nat) (rowB b) (5 : TypeId)] else bif !s then Res.out Ex.ret [AV.v (Value.bool true)] [AB.row false m (1 : Nat) (rowB b) (5 : TypeId)] else Res.out Ex.ret [AV.v (Value.bool (h (0 : Nat)))] [AB.row false m (1 : Nat) (rowB b) (5 : TypeId)]))) := by kernel_rfl

theorem lawStN (dl : Nat → (Nat → Int) → List Wh) (yes : List Wh → Bool) (sl : List Wh → List Nat) (of : List Wh → Nat → Int) (eq : Nat → (Nat → Int) → Nat → (Nat → Int) → Bool) (m : Nat) (b : Nat → Int) : execF Try.prog (gmLStN dl yes sl of eq) noLam 100 fSt [.sl 0 1 0 0 m none] [.row false m 1 (rowB b) 5] (packK 1)
    = bif decide ((↑m : Int) > (1048576 : Int)) then Res.out Ex.ret [AV.v (Value.bool true)] [AB.row false m (1 : Nat) (rowB b) (5 : TypeId)] else needs [Nat.ble ((0 : Nat) + m) m, okB m fun q ↦ rowB b ((0 : Nat) + q), decide (m ≤ (2097152 : Nat)), Nat.ble (List.length (dl m (itB fun q ↦ rowB b ((0 : Nat) + q)))) (List.length (dl m (itB fun q ↦ rowB b ((0 : Nat) + q)))), allW (List.length (dl m (itB fun q ↦ rowB b ((0 : Nat) + q)))) (row9 (wfun (dl m (itB fun q ↦ rowB b ((0 : Nat) + q))))), decide (List.length (dl m (itB fun q ↦ rowB b ((0 : Nat) + q))) ≤ (274877906944 : Nat)), !yes (listW (itW (row9 (wfun (dl m (itB fun q ↦ rowB b ((0 : Nat) + q)))))) (List.length (dl m (itB fun q ↦ rowB b ((0 : Nat) + q))))), Nat.ble (List.length (dl m (itB fun q ↦ rowB b ((0 : Nat) + q)))) (List.length (dl m (itB fun q ↦ rowB b ((0 : Nat) + q)))), allW (List.length (dl m (itB fun q ↦ rowB b ((0 : Nat) + q)))) (row9 (wfun (dl m (itB fun q ↦ rowB b ((0 : Nat) + q))))), decide (List.length (dl m (itB fun q ↦ rowB b ((0 : Nat) + q))) ≤ (274877906944 : Nat))] (bif !false == yes (listW (itW (row9 (wfun (dl m (itB fun q ↦ rowB b ((0 : Nat) + q)))))) (List.length (dl m (itB fun q ↦ rowB b ((0 : Nat) + q))))) then bif false == yes (listW (itW (row9 (wfun (dl m (itB fun q ↦ rowB b ((0 : Nat) + q)))))) (List.length (dl m (itB fun q ↦ rowB b ((0 : Nat) + q))))) then needs [Nat.ble (List.length (sl (listW (itW (row9 (wfun (dl m (itB fun q ↦ rowB b ((0 : Nat) + q)))))) (List.length (dl m (itB fun q ↦ rowB b ((0 : Nat) + q))))))) (List.length (sl (listW (itW (row9 (wfun (dl m (itB fun q ↦ rowB b ((0 : Nat) + q)))))) (List.length (dl m (itB fun q ↦ rowB b ((0 : Nat) + q))))))), allI (List.length (sl (listW (itW (row9 (wfun (dl m (itB fun q ↦ rowB b ((0 : Nat) + q)))))) (List.length (dl m (itB fun q ↦ rowB b ((0 : Nat) + q))))))) (rowI (of (listW (itW (row9 (wfun (dl m (itB fun q ↦ rowB b ((0 : Nat) + q)))))) (List.length (dl m (itB fun q ↦ rowB b ((0 : Nat) + q))))))), decide (List.length (sl (listW (itW (row9 (wfun (dl m (itB fun q ↦ rowB b ((0 : Nat) + q)))))) (List.length (dl m (itB fun q ↦ rowB b ((0 : Nat) + q)))))) ≤ (274877906944 : Nat))] (Res.out Ex.ret [AV.v (Value.bool (eq (0 : Nat) (itI fun _ ↦ []) (List.length (sl (listW (itW (row9 (wfun (dl m (itB fun q ↦ rowB b ((0 : Nat) + q)))))) (List.length (dl m (itB fun q ↦ rowB b ((0 : Nat) + q))))))) (itI (rowI (of (listW (itW (row9 (wfun (dl m (itB fun q ↦ rowB b ((0 : Nat) + q)))))) (List.length (dl m (itB fun q ↦ rowB b ((0 : Nat) + q))))))))))] [AB.row false m (1 : Nat) (rowB b) (5 : TypeId)]) else Res.out Ex.ret [AV.v (Value.bool false)] [AB.row false m (1 : Nat) (rowB b) (5 : TypeId)] else needs [Nat.ble (List.length (sl (listW (itW (row9 (wfun (dl m (itB fun q ↦ rowB b ((0 : Nat) + q)))))) (List.length (dl m (itB fun q ↦ rowB b ((0 : Nat) + q))))))) (List.length (sl (listW (itW (row9 (wfun (dl m (itB fun q ↦ rowB b ((0 : Nat) + q)))))) (List.length (dl m (itB fun q ↦ rowB b ((0 : Nat) + q))))))), allI (List.length (sl (listW (itW (row9 (wfun (dl m (itB fun q ↦ rowB b ((0 : Nat) + q)))))) (List.length (dl m (itB fun q ↦ rowB b ((0 : Nat) + q))))))) (rowI (of (listW (itW (row9 (wfun (dl m (itB fun q ↦ rowB b ((0 : Nat) + q)))))) (List.length (dl m (itB fun q ↦ rowB b ((0 : Nat) + q))))))), decide (List.length (sl (listW (itW (row9 (wfun (dl m (itB fun q ↦ rowB b ((0 : Nat) + q)))))) (List.length (dl m (itB fun q ↦ rowB b ((0 : Nat) + q)))))) ≤ (274877906944 : Nat))] (bif !eq (0 : Nat) (itI fun _ ↦ []) (List.length (sl (listW (itW (row9 (wfun (dl m (itB fun q ↦ rowB b ((0 : Nat) + q)))))) (List.length (dl m (itB fun q ↦ rowB b ((0 : Nat) + q))))))) (itI (rowI (of (listW (itW (row9 (wfun (dl m (itB fun q ↦ rowB b ((0 : Nat) + q)))))) (List.length (dl m (itB fun q ↦ rowB b ((0 : Nat) + q)))))))) then bif false == yes (listW (itW (row9 (wfun (dl m (itB fun q ↦ rowB b ((0 : Nat) + q)))))) (List.length (dl m (itB fun q ↦ rowB b ((0 : Nat) + q))))) then needs [Nat.ble (List.length (sl (listW (itW (row9 (wfun (dl m (itB fun q ↦ rowB b ((0 : Nat) + q)))))) (List.length (dl m (itB fun q ↦ rowB b ((0 : Nat) + q))))))) (List.length (sl (listW (itW (row9 (wfun (dl m (itB fun q ↦ rowB b ((0 : Nat) + q)))))) (List.length (dl m (itB fun q ↦ rowB b ((0 : Nat) + q))))))), allI (List.length (sl (listW (itW (row9 (wfun (dl m (itB fun q ↦ rowB b ((0 : Nat) + q)))))) (List.length (dl m (itB fun q ↦ rowB b ((0 : Nat) + q))))))) (rowI (of (listW (itW (row9 (wfun (dl m (itB fun q ↦ rowB b ((0 : Nat) + q)))))) (List.length (dl m (itB fun q ↦ rowB b ((0 : Nat) + q))))))), decide (List.length (sl (listW (itW (row9 (wfun (dl m (itB fun q ↦ rowB b ((0 : Nat) + q)))))) (List.length (dl m (itB fun q ↦ rowB b ((0 : Nat) + q)))))) ≤ (274877906944 : Nat))] (Res.out Ex.ret [AV.v (Value.bool (eq (0 : Nat) (itI fun _ ↦ []) (List.length (sl (listW (itW (row9 (wfun (dl m (itB fun q ↦ rowB b ((0 : Nat) + q)))))) (List.length (dl m (itB fun q ↦ rowB b ((0 : Nat) + q))))))) (itI (rowI (of (listW (itW (row9 (wfun (dl m (itB fun q ↦ rowB b ((0 : Nat) + q)))))) (List.length (dl m (itB fun q ↦ rowB b ((0 : Nat) + q))))))))))] [AB.row false m (1 : Nat) (rowB b) (5 : TypeId)]) else Res.out Ex.ret [AV.v (Value.bool false)] [AB.row false m (1 : Nat) (rowB b) (5 : TypeId)] else bif false == yes (listW (itW (row9 (wfun (dl m (itB fun q ↦ rowB b ((0 : Nat) + q)))))) (List.length (dl m (itB fun q ↦ rowB b ((0 : Nat) + q))))) then needs [Nat.ble (List.length (sl (listW (itW (row9 (wfun (dl m (itB fun q ↦ rowB b ((0 : Nat) + q)))))) (List.length (dl m (itB fun q ↦ rowB b ((0 : Nat) + q))))))) (List.length (sl (listW (itW (row9 (wfun (dl m (itB fun q ↦ rowB b ((0 : Nat) + q)))))) (List.length (dl m (itB fun q ↦ rowB b ((0 : Nat) + q))))))), allI (List.length (sl (listW (itW (row9 (wfun (dl m (itB fun q ↦ rowB b ((0 : Nat) + q)))))) (List.length (dl m (itB fun q ↦ rowB b ((0 : Nat) + q))))))) (rowI (of (listW (itW (row9 (wfun (dl m (itB fun q ↦ rowB b ((0 : Nat) + q)))))) (List.length (dl m (itB fun q ↦ rowB b ((0 : Nat) + q))))))), decide (List.length (sl (listW (itW (row9 (wfun (dl m (itB fun q ↦ rowB b ((0 : Nat) + q)))))) (List.length (dl m (itB fun q ↦ rowB b ((0 : Nat) + q)))))) ≤ (274877906944 : Nat))] (Res.out Ex.ret [AV.v (Value.bool (eq (0 : Nat) (itI fun _ ↦ []) (List.length (sl (listW (itW (row9 (wfun (dl m (itB fun q ↦ rowB b ((0 : Nat) + q)))))) (List.length (dl m (itB fun q ↦ rowB b ((0 : Nat) + q))))))) (itI (rowI (of (listW (itW (row9 (wfun (dl m (itB fun q ↦ rowB b ((0 : Nat) + q)))))) (List.length (dl m (itB fun q ↦ rowB b ((0 : Nat) + q))))))))))] [AB.row false m (1 : Nat) (rowB b) (5 : TypeId)]) else Res.out Ex.ret [AV.v (Value.bool false)] [AB.row false m (1 : Nat) (rowB b) (5 : TypeId)])) := by kernel_rfl

end Go.Proofs.Ytmdcafhnjihckaa

/- FnStill returns true, whatever the bytes are. Conditions: bytes. -/
namespace Go.Proofs.Ytmdcafhnjihckaa
open Go.RowKit
set_option maxRecDepth 100000

/-- The radius of a wheel is small. -/
def sm8 (g : Nat → Int) : Bool := decide (g 1 ≤ 1000) && (decide (g 1 ≥ -1000) && (decide (g 2 ≤ 1000) && (decide (g 2 ≥ -1000) && (decide (g 3 ≤ 1000) && (decide (g 3 ≥ -1000) && (decide (g 4 ≤ 1000) && (decide (g 4 ≥ -1000) && (decide (g 5 ≤ 1000) && (decide (g 5 ≥ -1000) && (decide (g 6 ≤ 1000) && (decide (g 6 ≥ -1000) && (decide (g 7 ≤ 1000) && (decide (g 7 ≥ -1000) && (decide (g 8 ≤ 1000) && (decide (g 8 ≥ -1000))))))))))))))))
def smB (f : Nat → Nat → Int) : Nat → Bool
  | 0 => true
  | i + 1 => smB f i && sm8 (f i)
theorem sumSt0 (m : Nat) (b : Nat → Int) (L : List Wh) (q : Nat) (o : Nat → Int) (hl : L.length ≤ 12) :
    SumOk Try.prog 1 (.block 0 (.loop (loopAt 0 fSt))) (atS 117 (lvSt0 .normal) 1 (stSt0 L.length q true 0) (hpSt0 m b L.length (wfun L) q o) (fun K => K .normal (mkT 0 117 [(4, .sl 1 1 0 0 q (some q)), (8, .v (.bool (smB (wfun L) L.length)))]) [.row false m 1 (rowB b) 5, .row true q 1 (rowI o) 3])) := by
  refine for_at g0_ok (n := 100) (m := 1) (lv := lvSt0) (fun i => stSt0 L.length q (smB (wfun L) i) i) (fun _ => hpSt0 m b L.length (wfun L) q o) (fun _ => True) L.length (fun _ => noLam) (lv3_ris rfl rfl rfl) (Nat.le_refl _) trivial fun K Q hk i _ hi => ⟨noLam_ok _ _ _, ?_⟩
  rw [rndSt0]
  simp only [Int.toNat_natCast]
  refine good_cond (fun c1 => ?_) fun c1 => ?_
  · have c1 := of_decide_eq_true c1
    have c1' : i < L.length := by omega
    rw [wr_in (x := (i : Int) + 1) (by omega)]
    have nx : ∀ s' : Bool, s' = smB (wfun L) (i + 1) → GoodQ (.out .normal [.own 1 L.length, .sl 2 1 0 0 q (some q), .v (.bool s'), .v (i64 ((i : Int) + 1))] (hpSt0 m b L.length (wfun L) q o)) (RoundV 117 0 lvSt0 (fun i => stSt0 L.length q (smB (wfun L) i) i) (fun _ => hpSt0 m b L.length (wfun L) q o) (fun s' => s' = i + 1 ∧ i < L.length ∧ True) K Q) := fun s' e => by
      rw [e]
      exact good_out ⟨i + 1, ⟨rfl, c1', trivial⟩, rfl, Hsim.refl _⟩
    refine good_cond (fun hs => ?_) fun hs => nx false (by rw [smB, hs]; rfl)
    refine good_needs (by simp only [ob_cons, ob_nil, and_true, decide_eq_true_eq]; omega) (good_cond (fun p1 => ?_) fun p1 => nx false (by rw [smB, hs, sm8, p1]; rfl))
    refine good_needs (by simp only [ob_cons, ob_nil, and_true, decide_eq_true_eq]; omega) (good_cond (fun p2 => ?_) fun p2 => nx false (by rw [smB, hs, sm8, p1, p2]; rfl))
    refine good_needs (by simp only [ob_cons, ob_nil, and_true, decide_eq_true_eq]; omega) (good_cond (fun p3 => ?_) fun p3 => nx false (by rw [smB, hs, sm8, p1, p2, p3]; rfl))
    refine good_needs (by simp only [ob_cons, ob_nil, and_true, decide_eq_true_eq]; omega) (good_cond (fun p4 => ?_) fun p4 => nx false (by rw [smB, hs, sm8, p1, p2, p3, p4]; rfl))
    refine good_needs (by simp only [ob_cons, ob_nil, and_true, decide_eq_true_eq]; omega) (good_cond (fun p5 => ?_) fun p5 => nx false (by rw [smB, hs, sm8, p1, p2, p3, p4, p5]; rfl))
    refine good_needs (by simp only [ob_cons, ob_nil, and_true, decide_eq_true_eq]; omega) (good_cond (fun p6 => ?_) fun p6 => nx false (by rw [smB, hs, sm8, p1, p2, p3, p4, p5, p6]; rfl))
    refine good_needs (by simp only [ob_cons, ob_nil, and_true, decide_eq_true_eq]; omega) (good_cond (fun p7 => ?_) fun p7 => nx false (by rw [smB, hs, sm8, p1, p2, p3, p4, p5, p6, p7]; rfl))
    refine good_needs (by simp only [ob_cons, ob_nil, and_true, decide_eq_true_eq]; omega) (good_cond (fun p8 => ?_) fun p8 => nx false (by rw [smB, hs, sm8, p1, p2, p3, p4, p5, p6, p7, p8]; rfl))
    refine good_needs (by simp only [ob_cons, ob_nil, and_true, decide_eq_true_eq]; omega) (good_cond (fun p9 => ?_) fun p9 => nx false (by rw [smB, hs, sm8, p1, p2, p3, p4, p5, p6, p7, p8, p9]; rfl))
    refine good_needs (by simp only [ob_cons, ob_nil, and_true, decide_eq_true_eq]; omega) (good_cond (fun p10 => ?_) fun p10 => nx false (by rw [smB, hs, sm8, p1, p2, p3, p4, p5, p6, p7, p8, p9, p10]; rfl))
    refine good_needs (by simp only [ob_cons, ob_nil, and_true, decide_eq_true_eq]; omega) (good_cond (fun p11 => ?_) fun p11 => nx false (by rw [smB, hs, sm8, p1, p2, p3, p4, p5, p6, p7, p8, p9, p10, p11]; rfl))
    refine good_needs (by simp only [ob_cons, ob_nil, and_true, decide_eq_true_eq]; omega) (good_cond (fun p12 => ?_) fun p12 => nx false (by rw [smB, hs, sm8, p1, p2, p3, p4, p5, p6, p7, p8, p9, p10, p11, p12]; rfl))
    refine good_needs (by simp only [ob_cons, ob_nil, and_true, decide_eq_true_eq]; omega) (good_cond (fun p13 => ?_) fun p13 => nx false (by rw [smB, hs, sm8, p1, p2, p3, p4, p5, p6, p7, p8, p9, p10, p11, p12, p13]; rfl))
    refine good_needs (by simp only [ob_cons, ob_nil, and_true, decide_eq_true_eq]; omega) (good_cond (fun p14 => ?_) fun p14 => nx false (by rw [smB, hs, sm8, p1, p2, p3, p4, p5, p6, p7, p8, p9, p10, p11, p12, p13, p14]; rfl))
    refine good_needs (by simp only [ob_cons, ob_nil, and_true, decide_eq_true_eq]; omega) (good_cond (fun p15 => ?_) fun p15 => nx false (by rw [smB, hs, sm8, p1, p2, p3, p4, p5, p6, p7, p8, p9, p10, p11, p12, p13, p14, p15]; rfl))
    exact good_needs (by simp only [ob_cons, ob_nil, and_true, decide_eq_true_eq]; omega) (nx _ (by rw [smB, hs, sm8, p1, p2, p3, p4, p5, p6, p7, p8, p9, p10, p11, p12, p13, p14, p15]; rfl))
  · have c1 := of_decide_eq_false c1
    have : i = L.length := by omega
    subst this
    refine good_out ⟨_, Hsim.refl _, ?_⟩
    rw [if_pos rfl]
    exact hk
theorem sm8_bd {g : Nat → Int} (h : sm8 g = true) : ∀ k, k < 8 → -1000 ≤ g (k + 1) ∧ g (k + 1) ≤ 1000 := by
  unfold sm8 at h
  simp only [Bool.and_eq_true, decide_eq_true_eq] at h
  exact forall8 (by show -1000 ≤ g 1 ∧ g 1 ≤ 1000; omega) (by show -1000 ≤ g 2 ∧ g 2 ≤ 1000; omega) (by show -1000 ≤ g 3 ∧ g 3 ≤ 1000; omega) (by show -1000 ≤ g 4 ∧ g 4 ≤ 1000; omega) (by show -1000 ≤ g 5 ∧ g 5 ≤ 1000; omega) (by show -1000 ≤ g 6 ∧ g 6 ≤ 1000; omega) (by show -1000 ≤ g 7 ∧ g 7 ≤ 1000; omega) (by show -1000 ≤ g 8 ∧ g 8 ≤ 1000; omega)
theorem smB_get {f : Nat → Nat → Int} : ∀ {n : Nat}, smB f n = true → ∀ i, i < n → sm8 (f i) = true
  | 0, _, i, hi => absurd hi (Nat.not_lt_zero _)
  | n + 1, h, i, hi => by
    rw [smB, Bool.and_eq_true] at h
    rcases Nat.lt_or_ge i n with h1 | h1
    · exact smB_get h.1 i h1
    · have : i = n := by omega
      subst this
      exact h.2
theorem smB_bd {L : List Wh} (h : smB (wfun L) L.length = true) : bdW 1000 L := fun w hw k hk => by
  obtain ⟨i, hi, e⟩ := List.mem_iff_getElem.1 hw
  have e2 := listW_get (wfun L) hi
  rw [listW_fun, List.getElem?_eq_getElem hi, Option.some.injEq, e] at e2
  have hb := sm8_bd (smB_get h i hi) k hk
  have e3 : ∀ k, k < 8 → (whOf (wfun L i)).r.f k = wfun L i (k + 1) := forall8 rfl rfl rfl rfl rfl rfl rfl rfl
  rw [e2, e3 k hk]
  omega
def hasF (o : Nat → Int) (i p : Nat) : Bool := (List.range i).any fun j => Nat.beq p (o j).toNat
theorem hasF_succ (o : Nat → Int) (i p : Nat) : (bif Nat.beq p ((o i).toNat * 1) then true else hasF o i p) = hasF o (i + 1) p := by
  have e : hasF o (i + 1) p = (hasF o i p || Nat.beq p (o i).toNat) := by
    unfold hasF
    rw [List.range_succ, List.any_append]
    simp only [List.any_cons, List.any_nil, Bool.or_false]
  rw [e, Nat.mul_one]
  cases Nat.beq p (o i).toNat <;> cases hasF o i p <;> rfl
theorem sumSt4 (m : Nat) (b : Nat → Int) (q : Nat) (o : Nat → Int) (s : Bool) (hq : q ≤ 24) (ho : ∀ j, j < q → 0 ≤ o j ∧ o j < 24) :
    SumOk Try.prog 1 (.block 4 (.loop (loopAt 4 fSt))) (atS 117 (lvSt4 .normal) 1 (stSt4 q s 0) (hpSt4 m b q o fun _ => false) (fun K => K .normal (mkT 0 117 [(8, .v (.bool s)), (11, .ptr 1 0 0 0)]) [.row false m 1 (rowB b) 5, .cells (celH (hasF o q)) 47])) := by
  refine for_at g0_ok (n := 100) (m := 1) (lv := lvSt4) (fun i => stSt4 q s i) (fun i => hpSt4 m b q o (hasF o i)) (fun _ => True) q (fun _ => noLam) (lv3_ris rfl rfl rfl) (Nat.le_refl _) trivial fun K Q hk i _ hi => ⟨noLam_ok _ _ _, ?_⟩
  rw [rndSt4]
  simp only [Int.toNat_natCast]
  refine good_cond (fun c1 => ?_) fun c1 => ?_
  · have c1 := of_decide_eq_true c1
    have c1' : i < q := by omega
    have hoi := ho i c1'
    rw [wr_in (x := (i : Int) + 1) (by omega)]
    simp only [Nat.zero_add, hasF_succ]
    exact good_needs (by simp only [ob_cons, ob_nil, and_true, decide_eq_true_eq, Nat.blt_eq]; omega) (good_out ⟨i + 1, ⟨rfl, c1', trivial⟩, rfl, Hsim.refl _⟩)
  · have c1 := of_decide_eq_false c1
    have : i = q := by omega
    subst this
    refine good_out ⟨_, Hsim.refl _, ?_⟩
    rw [if_pos rfl]
    exact hk
theorem oF_in (T : List Wh) (j : Nat) (hj : j < (stL T 24).length) : 0 ≤ oF T 24 j ∧ oF T 24 j < 24 := by
  unfold oF
  rw [List.getElem?_eq_getElem hj, Option.getD_some]
  have : (stL T 24)[j] ∈ (List.range 24).filter (fndB T) := List.getElem_mem hj
  have := List.mem_range.1 (List.mem_filter.1 this).1
  omega
theorem hasF_fnd (T : List Wh) {p : Nat} (hp : p < 24) : hasF (oF T 24) (stL T 24).length p = fndB T p := by
  have key : hasF (oF T 24) (stL T 24).length p = true ↔ p ∈ stL T 24 := by
    unfold hasF
    rw [List.any_eq_true]
    constructor
    · rintro ⟨j, hj, e⟩
      have hj := List.mem_range.1 hj
      have e := Nat.eq_of_beq_eq_true e
      unfold oF at e
      rw [List.getElem?_eq_getElem hj, Option.getD_some, Int.toNat_natCast] at e
      rw [e]
      exact List.getElem_mem hj
    · intro h
      obtain ⟨j, hj, e⟩ := List.mem_iff_getElem.1 h
      refine ⟨j, List.mem_range.2 hj, ?_⟩
      unfold oF
      rw [List.getElem?_eq_getElem hj, Option.getD_some, Int.toNat_natCast, e]
      exact Nat.beq_refl p
  have k2 : p ∈ stL T 24 ↔ fndB T p = true := by
    unfold stL
    rw [List.mem_filter, List.mem_range]
    exact ⟨fun h => h.2, fun h => ⟨hp, h⟩⟩
  rw [Bool.eq_iff_iff, key, k2]
theorem eqI_me (q : Nat) (o : Nat → Int) : eqI q o q o = true := eqI_iff.2 ⟨rfl, fun _ _ => rfl⟩
theorem allI_rowI (m : Nat) (a : Nat → Int) : allI m (rowI a) = true := allI_of (a := a) fun _ _ => rfl
theorem itI_rowI (f : Nat → Int) : itI (rowI f) = f := rfl
theorem yes_dst (m : Nat) (b : Nat → Int) (_ : m ≤ 9223372036854775807) (hb : okB m (rowB b) = true) : ∃ Γ n Λ, GamOk Try.prog Γ ∧ (∀ cc, fSt.body = some cc → LamOk Try.prog 1 Λ cc) ∧ GoodQ (execF Try.prog Γ Λ n fSt [.sl 0 1 0 0 m none] [.row false m 1 (rowB b) 5] (packK 1)) SaysYes := by
  have hl := bEx_len m b
  have gS : GamOk Try.prog (ext (ext g0 24 (specR md_co (FdrO fun m b => frL (bEx m b)))) 26 (specR md_ws (FstS yesTi stT stO))) := ext_ok (ext_ok g0_ok ok_drSt) ok_stS
  have b21 : m ≤ 1048576 → decide (m ≤ 2097152) = true := fun h => decide_eq_true (by omega)
  cases hy : yesTi (bEx m b) with
  | false =>
    have gN : GamOk Try.prog (gmLStN bEx yesTi stT stO eqI) := ext_ok (ext_ok gS ok_stN) ok_sameI
    refine ⟨_, 100, noLam, gN, noLam' _, ?_⟩
    rw [lawStN]
    refine good_cond (fun _ => good_out rfl) fun c => ?_
    have c := of_decide_eq_false c
    have hs : stT (bEx m b) = [] := by rw [stT, hy]; rfl
    have e0 : ∀ f h : Nat → Int, eqI 0 f 0 h = true := fun f h => eqI_iff.2 ⟨rfl, fun i hi => absurd hi (Nat.not_lt_zero _)⟩
    simp only [Nat.zero_add, itB_row]
    generalize bEx m b = L at hl hy hs ⊢
    simp only [hb, b21 (by omega), ble_me, allW_row, allI_rowI, itI_rowI, b38 hl, b38 (Nat.zero_le 12), listW_me, hy, hs, List.length_nil, e0, needs_t, needs_nil, beq_self_eq_true, Bool.not_true, Bool.not_false, cond_false, cond_true]
    exact good_out rfl
  | true =>
    have gY : GamOk Try.prog (gmLStY bEx yesTi stT stO eqI) := ext_ok (ext_ok gS ok_stY) ok_sameI
    have hq : (stT (bEx m b)).length ≤ 24 := by
      rw [stT, hy]
      exact stL_le _ _
    have ho : ∀ j, j < (stT (bEx m b)).length → 0 ≤ stO (bEx m b) j ∧ stO (bEx m b) j < 24 := by
      rw [stT, hy]
      exact oF_in _
    refine ⟨_, 100, _, gY, lamAdd (by kernel_rfl) (sumSt0 m b (bEx m b) (stT (bEx m b)).length (stO (bEx m b)) hl) (lam1 (by kernel_rfl) (sumSt4 m b (stT (bEx m b)).length (stO (bEx m b)) (smB (wfun (bEx m b)) (bEx m b).length) hq ho)), ?_⟩
    show GoodQ (execF Try.prog (gmLStY bEx yesTi stT stO eqI) (lamSt m b (bEx m b).length (wfun (bEx m b)) (stT (bEx m b)).length (stO (bEx m b)) (smB (wfun (bEx m b)) (bEx m b).length) (hasF (stO (bEx m b)) (stT (bEx m b)).length)) 100 fSt [.sl 0 1 0 0 m none] [.row false m 1 (rowB b) 5] (packK 1)) SaysYes
    rw [lawStY]
    refine good_cond (fun _ => good_out rfl) fun c => ?_
    have c := of_decide_eq_false c
    have yI' : yI (bEx m b) = true := by
      have := yesTi_eq (bEx m b)
      rw [hy] at this
      exact this.symm
    have hT : tI (bEx m b) = tidyL (bEx m b) := by rw [tI, yI']; rfl
    have hF : ∀ p, p < 24 → hasF (stO (bEx m b)) (stT (bEx m b)).length p = fndB (tI (bEx m b)) p := fun p hp => by
      rw [stT, hy, hT]
      exact hasF_fnd _ hp
    simp only [Nat.zero_add, itB_row]
    generalize bEx m b = L at hl hy hq ho yI' hT hF ⊢
    have b38q : decide ((stT L).length ≤ 274877906944) = true := decide_eq_true (by omega)
    simp only [hb, b21 (by omega), ble_me, allW_row, allI_rowI, itI_rowI, b38 hl, b38q, listW_me, hy, eqI_me, needs_t, needs_nil, beq_self_eq_true, Bool.not_true, cond_false]
    refine good_needs (by simp only [ob_cons, ob_nil, and_true]; exact ⟨chk_of ⟨rfl, Hsim.refl _⟩, chk_of ⟨rfl, Hsim.refl _⟩⟩) ?_
    cases hs : smB (wfun L) L.length with
    | false =>
      simp only [cond_false, Bool.not_false, cond_true]
      exact good_out rfl
    | true =>
      have hbd : bdW 500000 (tI L) := (tI_small (by omega) yI' (smB_bd hs)).mono (by omega)
      have tT := tI_tidy L
      generalize hH : hasF (stO L) (stT L).length = h at hF ⊢
      have hh : ∀ p, p < 24 → h ((24 - p) % 24) = h p := fun p hp => by rw [hF _ (by omega), hF p hp, still_eq tT hbd hp]
      have h0 : h 0 = true := by rw [hF 0 (by omega), still_none tT hbd]
      have e1 : h 23 = h 1 := hh 1 (by omega)
      have e2 : h 22 = h 2 := hh 2 (by omega)
      have e3 : h 21 = h 3 := hh 3 (by omega)
      have e4 : h 20 = h 4 := hh 4 (by omega)
      have e5 : h 19 = h 5 := hh 5 (by omega)
      have e6 : h 18 = h 6 := hh 6 (by omega)
      have e7 : h 17 = h 7 := hh 7 (by omega)
      have e8 : h 16 = h 8 := hh 8 (by omega)
      have e9 : h 15 = h 9 := hh 9 (by omega)
      have e10 : h 14 = h 10 := hh 10 (by omega)
      have e11 : h 13 = h 11 := hh 11 (by omega)
      simp only [e1, e2, e3, e4, e5, e6, e7, e8, e9, e10, e11, h0, cond_true, beq_self_eq_true, Bool.not_true, cond_false]
      exact good_out rfl

end Go.Proofs.Ytmdcafhnjihckaa

/- Turns that change nothing make a group: FnStill returns true, whatever the bytes are, and they read as before. No conditions. -/
namespace Go.Proofs.Ytmdcafhnjihckaa
open Go.ChangeShapes Go.WideShapes Go.ChangeAt Go.RowKit

set_option maxRecDepth 100000 in
theorem dst_lifted (os : Os) (started : os.Started) (H : Type) (enc : TypeId × Value → H) :
    ReturnsInHanded {} Try.checked os 5 .any (Rows.fnStillSpec.pre6 enc Try.prog Try.f5 Rows.fnStillRow.domain false) (Rows.fnStillSpec.post enc Try.prog Try.f5 false true false false) := by
  refine returnsInHanded_of_change (C := Try.checked) own started (by kernel_rfl) Try.func5
    (ChangeSpec.witness6 (enc := enc) (C := Try.checked) false ⟨#[], #[.slice none 0 0], []⟩ 8 (by kernel_rfl) (by kernel_rfl) (by kernel_rfl) (by kernel_rfl)) ?_
  intro W base args ds gs before hval hW _ _
  exact contractB (spec := Rows.fnStillSpec) Try.func5 rfl rfl rfl (fun _ _ => rfl) (fun m b hm hb => yes_dst m b hm hb) H enc W base args ds gs before hval hW

set_option maxRecDepth 100000 in
theorem dst_f1 : Rows.fnStillRow.wf (OpenSpec.ofChange Rows.fnStillSpec) = true := by kernel_rfl
set_option maxRecDepth 100000 in
theorem dst_f2 : (Rows.fnStillRow.inPlace == Try.prog.inPlace 5) = true := by kernel_rfl
set_option maxRecDepth 100000 in
theorem dst_f3 : (Rows.fnStillRow.unfollowed == Try.prog.unfollowed 5) = true := by kernel_rfl
set_option maxRecDepth 100000 in
theorem dst_f4 : (Rows.fnStillRow.recurses == Try.prog.recurses 5) = true := by kernel_rfl
set_option maxRecDepth 100000 in
theorem dst_f5 : (Rows.fnStillRow.named == Try.prog.varsNamed 5) = true := by kernel_rfl
set_option maxRecDepth 100000 in
theorem dst_f6 : Try.prog.funcNamed Rows.fnStillRow.func = some 5 := by kernel_rfl
theorem dst_f7 : (Rows.fnStillRow.lifted == Try.prog.liftsFinal) = true := jfG
theorem dst_f8 : (Try.prog.make == some Rows.fnStillRow.make) = true := jfH
theorem dst_f9 : (Rows.fnStillRow.plainKeys == Try.prog.plainKeys) = true := jfI
set_option maxRecDepth 100000 in
theorem dst_joined : joinedFacts Try.prog 5 Try.f5 Rows.fnStillSpec Rows.fnStillRow = true := by
  unfold joinedFacts
  rw [jfA, jfB, jfC, jfD, jfE, jfF, dst_f1, dst_f2, dst_f3, dst_f4, dst_f5, dst_f7, dst_f8, dst_f9]
  kernel_rfl

theorem dst_holds : Rows.FnStillSaid :=
  OpenClaim.holds_of_wide 5 Try.f5 rfl rfl rfl rfl rfl rfl rfl ⟨rfl, rfl, rfl, rfl, rfl⟩ rfl rfl rfl rfl rfl dst_f6 Try.func5 dst_joined
    (of_decide_eq_true (by kernel_rfl)) (by unfold Func.isWrapper; first | (rw [if_pos (by decide +kernel)]; kernel_rfl) | (rw [if_neg (by decide +kernel)]; exact ⟨rfl, rfl⟩))
    (fun os started H enc _ => dst_lifted os started H enc)
#print axioms dst_holds
end Go.Proofs.Ytmdcafhnjihckaa
