/- The frame of a law over bytes. No conditions. -/
import Derived.Test.YtoligfhcogligaaZS0
import Derived.Test.YtoligfhcogligaaZS1
import Derived.Test.YtoligfhcogligaaZS2
import Derived.Test.YtoligfhcogligaaZS3
/- l2Turned and l2Done, the reference's: their words. Conditions: at most 2^40 steps. -/
namespace Go.Proofs.Ytoligfhcogligaa
open Go.RowKit
set_option maxRecDepth 100000

def fStp (st : (Nat → Int) → Nat → Int) : List Value → Option (Value × List Bool)
  | [.agg ⟨[.int .i64 a0, .int .i64 a1, .int .i64 a2, .int .i64 a3, .int .i64 a4, .int .i64 a5, .int .i64 a6, .int .i64 a7]⟩] => some (cyv (st (v8 a0 a1 a2 a3 a4 a5 a6 a7)), [])
  | _ => none
def gmSt (st : (Nat → Int) → Nat → Int) : Gam := ext g0 96 (specV (fStp st))
abbrev cyC (a : Nat → Int) : List AV := [.v (i64 (a 0)), .v (i64 (a 1)), .v (i64 (a 2)), .v (i64 (a 3)), .v (i64 (a 4)), .v (i64 (a 5)), .v (i64 (a 6)), .v (i64 (a 7))]
abbrev lvTu : Ex → List Nat := lv3 [1, 2, 4, 5] [2, 4] [4]
abbrev hpTu (a : Nat → Int) : List AB := [.cells (cyC a) 40, .cells (cyC fun _ => 0) 40]
abbrev stTu (n : Int) (i : Nat) : List AV := [.v (i64 n), .ptr 0 0 0 0, .ptr 1 0 0 0, .v (i64 i)]
theorem rndTu (st : (Nat → Int) → Nat → Int) (a : Nat → Int) (n : Int) (i : Nat) : execC Try.prog (gmSt st) 100 noLam (loopAt 0 Try.f132) (mkT 0 14 ((lvTu .normal).zip (stTu n i))) (hpTu a) (leafV 14 lvTu 0)
    = bif decide ((↑i : Int) < n) then Res.out Ex.normal [AV.v (Value.int IntKind.i64 n), AV.ptr (0 : Nat) (0 : Nat) (0 : Nat) (0 : Nat), AV.ptr (1 : Nat) (0 : Nat) (0 : Nat) (0 : Nat), AV.v (Value.int IntKind.i64 (IntKind.wrap IntKind.i64 ((↑i : Int) + (1 : Int))))] [AB.cells [AV.v (Value.int IntKind.i64 (st (w8 a) (0 : Nat))), AV.v (Value.int IntKind.i64 (st (w8 a) (1 : Nat))), AV.v (Value.int IntKind.i64 (st (w8 a) (2 : Nat))), AV.v (Value.int IntKind.i64 (st (w8 a) (3 : Nat))), AV.v (Value.int IntKind.i64 (st (w8 a) (4 : Nat))), AV.v (Value.int IntKind.i64 (st (w8 a) (5 : Nat))), AV.v (Value.int IntKind.i64 (st (w8 a) (6 : Nat))), AV.v (Value.int IntKind.i64 (st (w8 a) (7 : Nat)))] (40 : TypeId), AB.cells [AV.v (Value.int IntKind.i64 (0 : Int)), AV.v (Value.int IntKind.i64 (0 : Int)), AV.v (Value.int IntKind.i64 (0 : Int)), AV.v (Value.int IntKind.i64 (0 : Int)), AV.v (Value.int IntKind.i64 (0 : Int)), AV.v (Value.int IntKind.i64 (0 : Int)), AV.v (Value.int IntKind.i64 (0 : Int)), AV.v (Value.int IntKind.i64 (0 : Int))] (40 : TypeId)] else Res.out (Ex.exit (0 : Nat)) [AV.ptr (0 : Nat) (0 : Nat) (0 : Nat) (0 : Nat), AV.ptr (1 : Nat) (0 : Nat) (0 : Nat) (0 : Nat)] [AB.cells [AV.v (Value.int IntKind.i64 (a (0 : Nat))), AV.v (Value.int IntKind.i64 (a (1 : Nat))), AV.v (Value.int IntKind.i64 (a (2 : Nat))), AV.v (Value.int IntKind.i64 (a (3 : Nat))), AV.v (Value.int IntKind.i64 (a (4 : Nat))), AV.v (Value.int IntKind.i64 (a (5 : Nat))), AV.v (Value.int IntKind.i64 (a (6 : Nat))), AV.v (Value.int IntKind.i64 (a (7 : Nat)))] (40 : TypeId), AB.cells [AV.v (Value.int IntKind.i64 (0 : Int)), AV.v (Value.int IntKind.i64 (0 : Int)), AV.v (Value.int IntKind.i64 (0 : Int)), AV.v (Value.int IntKind.i64 (0 : Int)), AV.v (Value.int IntKind.i64 (0 : Int)), AV.v (Value.int IntKind.i64 (0 : Int)), AV.v (Value.int IntKind.i64 (0 : Int)), AV.v (Value.int IntKind.i64 (0 : Int))] (40 : TypeId)] := by kernel_rfl

noncomputable abbrev lamTu (a : Nat → Int) (n : Int) (b : Nat → Int) : Nat → Option Sum := oneL 0 (atS 14 (lvTu .normal) 0 (stTu n 0) (hpTu a) (fun K => K .normal (mkT 0 14 [(2, .ptr 0 0 0 0), (4, .ptr 1 0 0 0)]) (hpTu b)))
theorem treeTu (st : (Nat → Int) → Nat → Int) (a : Nat → Int) (n : Int) (b : Nat → Int) : execF Try.prog (gmSt st) (lamTu a n b) 100 Try.f132 [.v (cyv a), .v (i64 n)] [] (packK 0)
    = needs [chk ([AV.v (Value.int IntKind.i64 n), AV.ptr (0 : Nat) (0 : Nat) (0 : Nat) (0 : Nat), AV.ptr (1 : Nat) (0 : Nat) (0 : Nat) (0 : Nat), AV.v (Value.int IntKind.i64 (0 : Int))] = stTu n (0 : Nat) ∧ Hsim [AB.cells [AV.v (Value.int IntKind.i64 (a (0 : Nat))), AV.v (Value.int IntKind.i64 (a (1 : Nat))), AV.v (Value.int IntKind.i64 (a (2 : Nat))), AV.v (Value.int IntKind.i64 (a (3 : Nat))), AV.v (Value.int IntKind.i64 (a (4 : Nat))), AV.v (Value.int IntKind.i64 (a (5 : Nat))), AV.v (Value.int IntKind.i64 (a (6 : Nat))), AV.v (Value.int IntKind.i64 (a (7 : Nat)))] (40 : Nat), AB.cells [AV.v (Value.int IntKind.i64 (0 : Int)), AV.v (Value.int IntKind.i64 (0 : Int)), AV.v (Value.int IntKind.i64 (0 : Int)), AV.v (Value.int IntKind.i64 (0 : Int)), AV.v (Value.int IntKind.i64 (0 : Int)), AV.v (Value.int IntKind.i64 (0 : Int)), AV.v (Value.int IntKind.i64 (0 : Int)), AV.v (Value.int IntKind.i64 (0 : Int))] (40 : Nat)] (hpTu a))] (Res.out Ex.ret [AV.agg [AV.v (Value.int IntKind.i64 (b (0 : Nat))), AV.v (Value.int IntKind.i64 (b (1 : Nat))), AV.v (Value.int IntKind.i64 (b (2 : Nat))), AV.v (Value.int IntKind.i64 (b (3 : Nat))), AV.v (Value.int IntKind.i64 (b (4 : Nat))), AV.v (Value.int IntKind.i64 (b (5 : Nat))), AV.v (Value.int IntKind.i64 (b (6 : Nat))), AV.v (Value.int IntKind.i64 (b (7 : Nat)))]] []) := by kernel_rfl

theorem treeDo (ok : (Nat → Int) → Bool) (a : Nat → Int) : execF Try.prog (ext g0 115 (specV (fOkc ok))) noLam 100 Try.f134 [.v (cyv a)] [] (packK 0)
    = bif !ok (w8 a) then Res.out Ex.ret [AV.tup [AV.agg [AV.v (Value.int IntKind.i64 (0 : Int)), AV.v (Value.int IntKind.i64 (0 : Int)), AV.v (Value.int IntKind.i64 (0 : Int)), AV.v (Value.int IntKind.i64 (0 : Int)), AV.v (Value.int IntKind.i64 (0 : Int)), AV.v (Value.int IntKind.i64 (0 : Int)), AV.v (Value.int IntKind.i64 (0 : Int)), AV.v (Value.int IntKind.i64 (0 : Int))], AV.v (Value.bool false)]] [] else Res.out Ex.ret [AV.tup [AV.agg [AV.v (Value.int IntKind.i64 (a (0 : Nat))), AV.v (Value.int IntKind.i64 (a (1 : Nat))), AV.v (Value.int IntKind.i64 (a (2 : Nat))), AV.v (Value.int IntKind.i64 (a (3 : Nat))), AV.v (Value.int IntKind.i64 (a (4 : Nat))), AV.v (Value.int IntKind.i64 (a (5 : Nat))), AV.v (Value.int IntKind.i64 (a (6 : Nat))), AV.v (Value.int IntKind.i64 (a (7 : Nat)))], AV.v (Value.bool true)]] [] := by kernel_rfl

theorem fStp_eq : fStp stepF = f_l2Step := by
  funext l
  rfl
theorem gmSt_ok : GamOk Try.prog (gmSt stepF) := by
  unfold gmSt
  rw [fStp_eq]
  exact ext_ok g0_ok ok_l2Step
theorem sumTu (a : Nat → Int) (n : Int) (hn : n ≤ 2 ^ 40) :
    SumOk Try.prog 0 (.block 0 (.loop (loopAt 0 Try.f132))) (atS 14 (lvTu .normal) 0 (stTu n 0) (hpTu a) (fun K => K .normal (mkT 0 14 [(2, .ptr 0 0 0 0), (4, .ptr 1 0 0 0)]) (hpTu (turnedF a n.toNat)))) := by
  refine for_at gmSt_ok (n := 100) (m := 0) (lv := lvTu) (fun i => stTu n i) (fun i => hpTu (turnedF a i)) (fun _ => True) n.toNat (fun _ => noLam) (lv3_ris rfl rfl rfl) (Nat.le_refl _) trivial fun K Q hk i hi him => ⟨noLam_ok _ _ _, ?_⟩
  rw [rndTu]
  refine good_cond (fun c1 => ?_) fun c1 => ?_
  · have c1 := of_decide_eq_true c1
    rw [wr_in (x := (i : Int) + 1) (by omega)]
    exact good_out ⟨i + 1, ⟨rfl, by omega, trivial⟩, rfl, Hsim.refl _⟩
  · have c1 := of_decide_eq_false c1
    have : i = n.toNat := by omega
    subst this
    refine good_out ⟨_, Hsim.refl _, ?_⟩
    rw [if_pos rfl]
    exact hk

def F_turned : List SA → Option FR
  | [.v (.agg ⟨[.int .i64 a0, .int .i64 a1, .int .i64 a2, .int .i64 a3, .int .i64 a4, .int .i64 a5, .int .i64 a6, .int .i64 a7]⟩), .v (.int .i64 n)] => some { val := .agg (cyC (turnedF (v8 a0 a1 a2 a3 a4 a5 a6 a7) n.toNat)), obl := [decide (n ≤ 2 ^ 40)] }
  | _ => none
theorem ok_turnedS : SpecOk Try.prog 132 (specR [.val, .val] F_turned) := by
  refine specR_hr gmSt_ok Try.func132 rfl fun sas fr hF ho => ?_
  unfold F_turned at hF
  split at hF
  · rename_i a0 a1 a2 a3 a4 a5 a6 a7 n
    cases hF
    simp only [ob_cons] at ho
    have hn := of_decide_eq_true ho.1
    refine ⟨[], lamTu (v8 a0 a1 a2 a3 a4 a5 a6 a7) n (turnedF (v8 a0 a1 a2 a3 a4 a5 a6 a7) n.toNat), 100, .nil, lam1 (by kernel_rfl) (sumTu (v8 a0 a1 a2 a3 a4 a5 a6 a7) n hn), ?_⟩
    show GoodQ (execF Try.prog (gmSt stepF) (lamTu (v8 a0 a1 a2 a3 a4 a5 a6 a7) n (turnedF (v8 a0 a1 a2 a3 a4 a5 a6 a7) n.toNat)) 100 Try.f132 [.v (cyv (v8 a0 a1 a2 a3 a4 a5 a6 a7)), .v (i64 n)] [] (packK 0)) _
    rw [treeTu]
    exact good_needs (by rw [ob_cons]; exact ⟨chk_of ⟨rfl, Hsim.refl _⟩, rfl⟩) (good_out ⟨_, rfl, rfl, .nil⟩)
  · cases hF

/-- The point, if it is a valid one. -/
def doneC (a : Nat → Int) : Nat → Int := bif cyOk (cyOf a) then a else fun _ => 0
def F_l2Done : List SA → Option FR
  | [.v (.agg ⟨[.int .i64 a0, .int .i64 a1, .int .i64 a2, .int .i64 a3, .int .i64 a4, .int .i64 a5, .int .i64 a6, .int .i64 a7]⟩)] => some { val := .tup [.agg (cyC (doneC (v8 a0 a1 a2 a3 a4 a5 a6 a7))), .v (.bool (cyOk (cyOf (v8 a0 a1 a2 a3 a4 a5 a6 a7))))] }
  | _ => none
theorem ok_l2Done : SpecOk Try.prog 134 (specR [.val] F_l2Done) := by
  have hg : GamOk Try.prog (ext g0 115 (specV (fOkc fun v => cyOk (cyOf v)))) := by
    rw [fOkc_eq]
    exact ext_ok g0_ok ok_cv
  refine specR_hr hg Try.func134 rfl fun sas fr hF ho => ?_
  unfold F_l2Done at hF
  split at hF
  · rename_i a0 a1 a2 a3 a4 a5 a6 a7
    cases hF
    refine ⟨[], noLam, 100, .nil, noLam' _, ?_⟩
    show GoodQ (execF Try.prog (ext g0 115 (specV (fOkc fun v => cyOk (cyOf v)))) noLam 100 Try.f134 [.v (cyv (v8 a0 a1 a2 a3 a4 a5 a6 a7))] [] (packK 0)) _
    rw [treeDo]
    refine good_cond (fun q => ?_) fun q => ?_
    · have q : cyOk (cyOf (v8 a0 a1 a2 a3 a4 a5 a6 a7)) = false := by
        have q' : (!cyOk (cyOf (v8 a0 a1 a2 a3 a4 a5 a6 a7))) = true := q
        simpa using q'
      refine good_out ⟨_, rfl, ?_, .nil⟩
      rw [doneC, q]
      rfl
    · have q : cyOk (cyOf (v8 a0 a1 a2 a3 a4 a5 a6 a7)) = true := by
        have q' : (!cyOk (cyOf (v8 a0 a1 a2 a3 a4 a5 a6 a7))) = false := q
        simpa using q'
      refine good_out ⟨_, rfl, ?_, .nil⟩
      rw [doneC, q]
      rfl
  · cases hF

end Go.Proofs.Ytoligfhcogligaa

/- root and turned of the program. Conditions: numbers of 64 bits. -/
namespace Go.Proofs.Ytoligfhcogligaa
open Go.RowKit
set_option maxRecDepth 100000

def rootP (t m : Nat) : Int := bif Nat.beq m t then 1 else 0
def f_root : List Value → Option (Value × List Bool)
  | [.int .i64 n] => some (cyv (rootF n.toNat), [decide (0 ≤ n), decide (n ≤ (23 : Nat))])
  | _ => none
theorem root_eq : ∀ t, t < 24 → ∀ k, k < 8 → redD (rootP t) 24 16 k = rootF t k := by
  decide +kernel
/-- Numbers of 64 bits. -/
def inB (a : Nat → Int) : Bool := smallF a (-9223372036854775808) 9223372036854775807
/-- Turned, by the program. -/
def FtuI (tu : (Nat → Int) → Int → Nat → Int) : List SA → Option FR
  | [.v (.agg ⟨[.int .i64 a0, .int .i64 a1, .int .i64 a2, .int .i64 a3, .int .i64 a4, .int .i64 a5, .int .i64 a6, .int .i64 a7]⟩), .v (.int .i64 n)] => some { val := .agg (cyC (tu (v8 a0 a1 a2 a3 a4 a5 a6 a7) n)), obl := [inB (v8 a0 a1 a2 a3 a4 a5 a6 a7), inR n (-9223372036854775808) 9223372036854775807] }
  | _ => none
abbrev tuF : (Nat → Int) → Int → Nat → Int := fun a n => turnedF a (n % 24).toNat
end Go.Proofs.Ytoligfhcogligaa

/- 'changed', for each change that the program makes: trees. Conditions: a list of wheels. -/
namespace Go.Proofs.Ytoligfhcogligaa
open Go.RowKit
set_option maxRecDepth 100000

def fMirO (mi : (Nat → Int) → Nat → Int) : List Value → Option (Value × List Bool)
  | [.agg ⟨[.int .i64 a0, .int .i64 a1, .int .i64 a2, .int .i64 a3, .int .i64 a4, .int .i64 a5, .int .i64 a6, .int .i64 a7]⟩] => some (cyv (mi (v8 a0 a1 a2 a3 a4 a5 a6 a7)), [])
  | _ => none
abbrev lvCh : Ex → List Nat := lv3 [1, 6, 15, 16, 17] [6] [4, 5]
def FtiYO (ti : List Wh → List Wh) (okt inw : List Wh → Bool) : List SA → Option FR
  | [.row m g] => some { val := valY (ti (listW (itW g) m)), new := newY (ti (listW (itW g) m)), obl := [allW m g, decide (m ≤ 2 ^ 38), inw (listW (itW g) m), okt (listW (itW g) m)] }
  | _ => none
def FtiNO (okt inw : List Wh → Bool) : List SA → Option FR
  | [.row m g] => some { val := valN, obl := [allW m g, decide (m ≤ 2 ^ 38), inw (listW (itW g) m), !okt (listW (itW g) m)] }
  | _ => none
abbrev hpCTi (m : Nat) (f : Nat → Nat → Int) (t : TypeId) (n : Nat) (h : Nat → Nat → Int) : List AB := [.row false m 9 (row9 f) t, .row true n 9 (row9 h) 111]
abbrev hpCTu (m : Nat) (f : Nat → Nat → Int) (t : TypeId) (x : Int) (n : Nat) (h : Nat → Nat → Int) : List AB := [.row false m 9 (row9 f) t, .cells [.v (i64 x)] 3, .row true n 9 (row9 h) 111]
abbrev hpCLa (m : Nat) (f : Nat → Nat → Int) (t : TypeId) (x : Int) (n : Nat) (h : Nat → Nat → Int) : List AB := [.row false m 9 (row9 f) t, .cells [.v (i64 x)] 3, .row true n 9 (row9 h) 111]
abbrev hpCBa (m : Nat) (f : Nat → Nat → Int) (t : TypeId) (n : Nat) (h : Nat → Nat → Int) : List AB := [.row false m 9 (row9 f) t, .row true n 9 (row9 h) 111]
abbrev hpCMi (m : Nat) (f : Nat → Nat → Int) (t : TypeId) (n : Nat) (h : Nat → Nat → Int) : List AB := [.row false m 9 (row9 f) t, .row true n 9 (row9 h) 111]
end Go.Proofs.Ytoligfhcogligaa

/- 'changed', for each change that the program makes: its words. Conditions: a list of wheels. -/
namespace Go.Proofs.Ytoligfhcogligaa
open Go.RowKit
set_option maxRecDepth 100000

theorem fMirO_eq : fMirO mirF = f_mirror := by
  funext l
  rfl
theorem ch_row (L : List Wh) (w : Wh) (i : Nat) (hl : L.length = i) (q : Nat) (hq : q < i + 1) : [i64 (bif Nat.blt q i then wfun L q 0 else whN w 0), i64 (bif Nat.blt q i then wfun L q 1 else whN w 1), i64 (bif Nat.blt q i then wfun L q 2 else whN w 2), i64 (bif Nat.blt q i then wfun L q 3 else whN w 3), i64 (bif Nat.blt q i then wfun L q 4 else whN w 4), i64 (bif Nat.blt q i then wfun L q 5 else whN w 5), i64 (bif Nat.blt q i then wfun L q 6 else whN w 6), i64 (bif Nat.blt q i then wfun L q 7 else whN w 7), i64 (bif Nat.blt q i then wfun L q 8 else whN w 8)] = row9 (wfun (L ++ [w])) q := by
  subst hl
  exact row9_snoc L (whN w) q hq
theorem okD_mem {L : List Wh} (h : okD L = true) {w : Wh} (hw : w ∈ L) : (-1000 ≤ w.s ∧ w.s ≤ 1000) ∧ ∀ k, k < 8 → -1000000 ≤ w.r.f k ∧ w.r.f k ≤ 1000000 := by
  rw [okD, Bool.and_eq_true] at h
  have := List.all_eq_true.1 h.2 w hw
  rw [Bool.and_eq_true] at this
  exact ⟨inR_iff.1 this.1, smallF_iff.1 this.2⟩
theorem okD_len {L : List Wh} (h : okD L = true) : L.length ≤ 12 := by
  rw [okD, Bool.and_eq_true] at h
  exact of_decide_eq_true h.1
theorem valid_in {L : List Wh} (h : okD L = true) {w : Wh} (hw : w ∈ L) : cyIn w.r := fun k hk => by
  have := (okD_mem h hw).2 k hk
  omega
theorem valid_inB {L : List Wh} (h : okD L = true) {w : Wh} (hw : w ∈ L) : inB w.r.f = true := smallF_iff.2 (valid_in h hw)
theorem cyOf_f8 (a : Nat → Int) : ∀ k, k < 8 → (cyOf a).f k = a k := forall8 rfl rfl rfl rfl rfl rfl rfl rfl
theorem cyOf_in {a : Nat → Int} (h : ∀ k, k < 8 → -9223372036854775808 ≤ a k ∧ a k ≤ 9223372036854775807) : cyIn (cyOf a) := fun k hk => by
  rw [cyOf_f8 a k hk]
  exact h k hk
theorem stepF_in {a : Nat → Int} (h : ∀ k, k < 8 → -9223372036854775808 ≤ a k ∧ a k ≤ 9223372036854775807) : ∀ k, k < 8 → -9223372036854775808 ≤ stepF a k ∧ stepF a k ≤ 9223372036854775807 :=
  forall8 (w64_range _) (h 0 (by omega)) (h 1 (by omega)) (h 2 (by omega)) (w64_range _) (h 4 (by omega)) (h 5 (by omega)) (h 6 (by omega))
theorem turnedF_in {a : Nat → Int} (h : ∀ k, k < 8 → -9223372036854775808 ≤ a k ∧ a k ≤ 9223372036854775807) : ∀ (n k : Nat), k < 8 → -9223372036854775808 ≤ turnedF a n k ∧ turnedF a n k ≤ 9223372036854775807
  | 0 => h
  | n + 1 => stepF_in (turnedF_in h n)
theorem FtiYO_eq : FtiYO tidyL okT inWB = F_tiY := by
  funext l
  rfl
theorem FtiNO_eq : FtiNO okT inWB = F_tiN := by
  funext l
  rfl
theorem row0 (f : Nat → Nat → Int) : (fun q => row9 f (0 + q)) = row9 f := by
  funext q
  rw [Nat.zero_add]

def chTi (w : Wh) : Wh := w
abbrev mpTi : List Wh → List Wh := fun L => L.map chTi
theorem inwTi {L : List Wh} (h : okD L = true) : inW (L.map chTi) := by
  intro w' hw'
  obtain ⟨w, hw, rfl⟩ := List.mem_map.1 hw'
  exact valid_in h hw
def chTu (x : Int) (w : Wh) : Wh := ⟨w.s, cyOf (tuF w.r.f x)⟩
abbrev mpTu : Int → List Wh → List Wh := fun x L => L.map (chTu x)
theorem inwTu (x : Int) {L : List Wh} (h : okD L = true) : inW (L.map (chTu x)) := by
  intro w' hw'
  obtain ⟨w, hw, rfl⟩ := List.mem_map.1 hw'
  exact cyOf_in (turnedF_in (valid_in h hw) _)
def chLa (x : Int) (w : Wh) : Wh := ⟨w.s, cyOf (tuF w.r.f (IntKind.wrap IntKind.i64 (x * w.s)))⟩
abbrev mpLa : Int → List Wh → List Wh := fun x L => L.map (chLa x)
theorem inwLa (x : Int) {L : List Wh} (h : okD L = true) : inW (L.map (chLa x)) := by
  intro w' hw'
  obtain ⟨w, hw, rfl⟩ := List.mem_map.1 hw'
  exact cyOf_in (turnedF_in (valid_in h hw) _)
def chBa (w : Wh) : Wh := ⟨IntKind.wrap IntKind.i64 (0 - w.s), w.r⟩
abbrev mpBa : List Wh → List Wh := fun L => L.map chBa
theorem inwBa {L : List Wh} (h : okD L = true) : inW (L.map chBa) := by
  intro w' hw'
  obtain ⟨w, hw, rfl⟩ := List.mem_map.1 hw'
  exact (valid_in h hw : cyIn w.r)
def chMi (w : Wh) : Wh := ⟨IntKind.wrap IntKind.i64 (0 - w.s), cyOf (mirF w.r.f)⟩
abbrev mpMi : List Wh → List Wh := fun L => L.map chMi
theorem inwMi {L : List Wh} (_ : okD L = true) : inW (L.map chMi) := by
  intro w' hw'
  obtain ⟨w, hw, rfl⟩ := List.mem_map.1 hw'
  exact cyOf_in fun k _ => w64_range _
end Go.Proofs.Ytoligfhcogligaa

/- The program's designs changed: DesignTidy, DesignTurned, DesignLater, DesignBack, DesignMirror. Conditions: a list of wheels. -/
namespace Go.Proofs.Ytoligfhcogligaa
open Go.RowKit
set_option maxRecDepth 100000

/-- The list is a design, and what comes of it too. -/
def yesTi (L : List Wh) : Bool := (okD L && okT (L.map chTi))
def FdeYTi (yes : List Wh → Bool) (ti : List Wh → List Wh) (mp : List Wh → List Wh) : List SA → Option FR
  | [.row m g] => some { val := valY (ti (mp (listW (itW g) m))), new := newY (ti (mp (listW (itW g) m))), obl := [allW m g, decide (m ≤ 2 ^ 38), yes (listW (itW g) m)] }
  | _ => none
def FdeNTi (yes : List Wh → Bool) : List SA → Option FR
  | [.row m g] => some { val := valN, obl := [allW m g, decide (m ≤ 2 ^ 38), !yes (listW (itW g) m)] }
  | _ => none
/-- The list is a design, and what comes of it too. -/
def yesTu (x : Int) (L : List Wh) : Bool := inR x 0 23 && (okD L && okT (L.map (chTu x)))
def FdeYTu (yes : Int → List Wh → Bool) (ti : List Wh → List Wh) (mp : Int → List Wh → List Wh) : List SA → Option FR
  | [.row m g, .v (.int .i64 x)] => some { val := valY (ti (mp x (listW (itW g) m))), new := newY (ti (mp x (listW (itW g) m))), obl := [allW m g, decide (m ≤ 2 ^ 38), yes x (listW (itW g) m)] }
  | _ => none
def FdeNTu (yes : Int → List Wh → Bool) : List SA → Option FR
  | [.row m g, .v (.int .i64 x)] => some { val := valN, obl := [allW m g, decide (m ≤ 2 ^ 38), !yes x (listW (itW g) m)] }
  | _ => none
/-- The list is a design, and what comes of it too. -/
def yesLa (x : Int) (L : List Wh) : Bool := inR x 0 23 && (okD L && okT (L.map (chLa x)))
def FdeYLa (yes : Int → List Wh → Bool) (ti : List Wh → List Wh) (mp : Int → List Wh → List Wh) : List SA → Option FR
  | [.row m g, .v (.int .i64 x)] => some { val := valY (ti (mp x (listW (itW g) m))), new := newY (ti (mp x (listW (itW g) m))), obl := [allW m g, decide (m ≤ 2 ^ 38), yes x (listW (itW g) m)] }
  | _ => none
def FdeNLa (yes : Int → List Wh → Bool) : List SA → Option FR
  | [.row m g, .v (.int .i64 x)] => some { val := valN, obl := [allW m g, decide (m ≤ 2 ^ 38), !yes x (listW (itW g) m)] }
  | _ => none
/-- The list is a design, and what comes of it too. -/
def yesBa (L : List Wh) : Bool := (okD L && okT (L.map chBa))
def FdeYBa (yes : List Wh → Bool) (ti : List Wh → List Wh) (mp : List Wh → List Wh) : List SA → Option FR
  | [.row m g] => some { val := valY (ti (mp (listW (itW g) m))), new := newY (ti (mp (listW (itW g) m))), obl := [allW m g, decide (m ≤ 2 ^ 38), yes (listW (itW g) m)] }
  | _ => none
def FdeNBa (yes : List Wh → Bool) : List SA → Option FR
  | [.row m g] => some { val := valN, obl := [allW m g, decide (m ≤ 2 ^ 38), !yes (listW (itW g) m)] }
  | _ => none
/-- The list is a design, and what comes of it too. -/
def yesMi (L : List Wh) : Bool := (okD L && okT (L.map chMi))
def FdeYMi (yes : List Wh → Bool) (ti : List Wh → List Wh) (mp : List Wh → List Wh) : List SA → Option FR
  | [.row m g] => some { val := valY (ti (mp (listW (itW g) m))), new := newY (ti (mp (listW (itW g) m))), obl := [allW m g, decide (m ≤ 2 ^ 38), yes (listW (itW g) m)] }
  | _ => none
def FdeNMi (yes : List Wh → Bool) : List SA → Option FR
  | [.row m g] => some { val := valN, obl := [allW m g, decide (m ≤ 2 ^ 38), !yes (listW (itW g) m)] }
  | _ => none
end Go.Proofs.Ytoligfhcogligaa

/- l5At and DesignAt, the reference's: their words. Conditions: a list of wheels. -/
namespace Go.Proofs.Ytoligfhcogligaa
open Go.RowKit
set_option maxRecDepth 100000

def fMd (md : Int → Int) : List Value → Option (Value × List Bool)
  | [.int .i64 n] => some (.int .i64 (md n), [])
  | _ => none
def FtuO (tu : (Nat → Int) → Int → Nat → Int) : List SA → Option FR
  | [.v (.agg ⟨[.int .i64 a0, .int .i64 a1, .int .i64 a2, .int .i64 a3, .int .i64 a4, .int .i64 a5, .int .i64 a6, .int .i64 a7]⟩), .v (.int .i64 n)] => some { val := .agg (cyC (tu (v8 a0 a1 a2 a3 a4 a5 a6 a7) n)), obl := [decide (n ≤ 2 ^ 40)] }
  | _ => none
def gmAt (md : Int → Int) (tu : (Nat → Int) → Int → Nat → Int) (ad : (Nat → Int) → Int → (Nat → Int) → Nat → Int) : Gam := ext (ext (ext g0 98 (specV (fMd md))) 132 (specR [.val, .val] (FtuO tu))) 74 (specV (fAdd3 ad))
abbrev lvAt : Ex → List Nat := lv3 [0, 1, 4, 5, 6] [4, 5] [4]
abbrev hpAt (m : Nat) (f : Nat → Nat → Int) (t : TypeId) (a : Nat → Int) : List AB := [.row false m 9 (row9 f) t, .cells (cyC fun _ => 0) 40, .cells (cyC a) 40]
abbrev stAt (m : Nat) (n : Int) (i : Nat) : List AV := [.sl 0 9 0 0 m none, .v (i64 n), .ptr 1 0 0 0, .ptr 2 0 0 0, .v (i64 i)]
theorem rndAt (md : Int → Int) (tu : (Nat → Int) → Int → Nat → Int) (ad : (Nat → Int) → Int → (Nat → Int) → Nat → Int) (m : Nat) (f : Nat → Nat → Int) (t : TypeId) (a : Nat → Int) (n : Int) (i : Nat) : execC Try.prog (gmAt md tu ad) 100 noLam (loopAt 0 Try.f135) (mkT 0 31 ((lvAt .normal).zip (stAt m n i))) (hpAt m f t a) (leafV 31 lvAt 1)
    = bif decide ((↑i : Int) < (↑m : Int)) then needs [decide ((↑i : Int) < (↑m : Int)), decide ((0 : Nat) + Int.toNat (↑i : Int) < m), decide ((↑i : Int) < (↑m : Int)), decide ((0 : Nat) + Int.toNat (↑i : Int) < m), decide (md (IntKind.wrap IntKind.i64 (n * f ((0 : Nat) + Int.toNat (↑i : Int)) (0 : Nat))) ≤ (1099511627776 : Int))] (Res.out Ex.normal [AV.sl (0 : Nat) (9 : Nat) (0 : Nat) (0 : Nat) m none, AV.v (Value.int IntKind.i64 n), AV.ptr (1 : Nat) (0 : Nat) (0 : Nat) (0 : Nat), AV.ptr (2 : Nat) (0 : Nat) (0 : Nat) (0 : Nat), AV.v (Value.int IntKind.i64 (IntKind.wrap IntKind.i64 ((↑i : Int) + (1 : Int))))] [AB.row false m (9 : Nat) (row9 f) t, AB.cells [AV.v (Value.int IntKind.i64 (0 : Int)), AV.v (Value.int IntKind.i64 (0 : Int)), AV.v (Value.int IntKind.i64 (0 : Int)), AV.v (Value.int IntKind.i64 (0 : Int)), AV.v (Value.int IntKind.i64 (0 : Int)), AV.v (Value.int IntKind.i64 (0 : Int)), AV.v (Value.int IntKind.i64 (0 : Int)), AV.v (Value.int IntKind.i64 (0 : Int))] (40 : TypeId), AB.cells [AV.v (Value.int IntKind.i64 (ad (w8 a) (1 : Int) (w8 (tu (v8 (f ((0 : Nat) + Int.toNat (↑i : Int)) (1 : Nat)) (f ((0 : Nat) + Int.toNat (↑i : Int)) (2 : Nat)) (f ((0 : Nat) + Int.toNat (↑i : Int)) (3 : Nat)) (f ((0 : Nat) + Int.toNat (↑i : Int)) (4 : Nat)) (f ((0 : Nat) + Int.toNat (↑i : Int)) (5 : Nat)) (f ((0 : Nat) + Int.toNat (↑i : Int)) (6 : Nat)) (f ((0 : Nat) + Int.toNat (↑i : Int)) (7 : Nat)) (f ((0 : Nat) + Int.toNat (↑i : Int)) (8 : Nat))) (md (IntKind.wrap IntKind.i64 (n * f ((0 : Nat) + Int.toNat (↑i : Int)) (0 : Nat)))))) (0 : Nat))), AV.v (Value.int IntKind.i64 (ad (w8 a) (1 : Int) (w8 (tu (v8 (f ((0 : Nat) + Int.toNat (↑i : Int)) (1 : Nat)) (f ((0 : Nat) + Int.toNat (↑i : Int)) (2 : Nat)) (f ((0 : Nat) + Int.toNat (↑i : Int)) (3 : Nat)) (f ((0 : Nat) + Int.toNat (↑i : Int)) (4 : Nat)) (f ((0 : Nat) + Int.toNat (↑i : Int)) (5 : Nat)) (f ((0 : Nat) + Int.toNat (↑i : Int)) (6 : Nat)) (f ((0 : Nat) + Int.toNat (↑i : Int)) (7 : Nat)) (f ((0 : Nat) + Int.toNat (↑i : Int)) (8 : Nat))) (md (IntKind.wrap IntKind.i64 (n * f ((0 : Nat) + Int.toNat (↑i : Int)) (0 : Nat)))))) (1 : Nat))), AV.v (Value.int IntKind.i64 (ad (w8 a) (1 : Int) (w8 (tu (v8 (f ((0 : Nat) + Int.toNat (↑i : Int)) (1 : Nat)) (f ((0 : Nat) + Int.toNat (↑i : Int)) (2 : Nat)) (f ((0 : Nat) + Int.toNat (↑i : Int)) (3 : Nat)) (f ((0 : Nat) + Int.toNat (↑i : Int)) (4 : Nat)) (f ((0 : Nat) + Int.toNat (↑i : Int)) (5 : Nat)) (f ((0 : Nat) + Int.toNat (↑i : Int)) (6 : Nat)) (f ((0 : Nat) + Int.toNat (↑i : Int)) (7 : Nat)) (f ((0 : Nat) + Int.toNat (↑i : Int)) (8 : Nat))) (md (IntKind.wrap IntKind.i64 (n * f ((0 : Nat) + Int.toNat (↑i : Int)) (0 : Nat)))))) (2 : Nat))), AV.v (Value.int IntKind.i64 (ad (w8 a) (1 : Int) (w8 (tu (v8 (f ((0 : Nat) + Int.toNat (↑i : Int)) (1 : Nat)) (f ((0 : Nat) + Int.toNat (↑i : Int)) (2 : Nat)) (f ((0 : Nat) + Int.toNat (↑i : Int)) (3 : Nat)) (f ((0 : Nat) + Int.toNat (↑i : Int)) (4 : Nat)) (f ((0 : Nat) + Int.toNat (↑i : Int)) (5 : Nat)) (f ((0 : Nat) + Int.toNat (↑i : Int)) (6 : Nat)) (f ((0 : Nat) + Int.toNat (↑i : Int)) (7 : Nat)) (f ((0 : Nat) + Int.toNat (↑i : Int)) (8 : Nat))) (md (IntKind.wrap IntKind.i64 (n * f ((0 : Nat) + Int.toNat (↑i : Int)) (0 : Nat)))))) (3 : Nat))), AV.v (Value.int IntKind.i64 (ad (w8 a) (1 : Int) (w8 (tu (v8 (f ((0 : Nat) + Int.toNat (↑i : Int)) (1 : Nat)) (f ((0 : Nat) + Int.toNat (↑i : Int)) (2 : Nat)) (f ((0 : Nat) + Int.toNat (↑i : Int)) (3 : Nat)) (f ((0 : Nat) + Int.toNat (↑i : Int)) (4 : Nat)) (f ((0 : Nat) + Int.toNat (↑i : Int)) (5 : Nat)) (f ((0 : Nat) + Int.toNat (↑i : Int)) (6 : Nat)) (f ((0 : Nat) + Int.toNat (↑i : Int)) (7 : Nat)) (f ((0 : Nat) + Int.toNat (↑i : Int)) (8 : Nat))) (md (IntKind.wrap IntKind.i64 (n * f ((0 : Nat) + Int.toNat (↑i : Int)) (0 : Nat)))))) (4 : Nat))), AV.v (Value.int IntKind.i64 (ad (w8 a) (1 : Int) (w8 (tu (v8 (f ((0 : Nat) + Int.toNat (↑i : Int)) (1 : Nat)) (f ((0 : Nat) + Int.toNat (↑i : Int)) (2 : Nat)) (f ((0 : Nat) + Int.toNat (↑i : Int)) (3 : Nat)) (f ((0 : Nat) + Int.toNat (↑i : Int)) (4 : Nat)) (f ((0 : Nat) + Int.toNat (↑i : Int)) (5 : Nat)) (f ((0 : Nat) + Int.toNat (↑i : Int)) (6 : Nat)) (f ((0 : Nat) + Int.toNat (↑i : Int)) (7 : Nat)) (f ((0 : Nat) + Int.toNat (↑i : Int)) (8 : Nat))) (md (IntKind.wrap IntKind.i64 (n * f ((0 : Nat) + Int.toNat (↑i : Int)) (0 : Nat)))))) (5 : Nat))), AV.v (Value.int IntKind.i64 (ad (w8 a) (1 : Int) (w8 (tu (v8 (f ((0 : Nat) + Int.toNat (↑i : Int)) (1 : Nat)) (f ((0 : Nat) + Int.toNat (↑i : Int)) (2 : Nat)) (f ((0 : Nat) + Int.toNat (↑i : Int)) (3 : Nat)) (f ((0 : Nat) + Int.toNat (↑i : Int)) (4 : Nat)) (f ((0 : Nat) + Int.toNat (↑i : Int)) (5 : Nat)) (f ((0 : Nat) + Int.toNat (↑i : Int)) (6 : Nat)) (f ((0 : Nat) + Int.toNat (↑i : Int)) (7 : Nat)) (f ((0 : Nat) + Int.toNat (↑i : Int)) (8 : Nat))) (md (IntKind.wrap IntKind.i64 (n * f ((0 : Nat) + Int.toNat (↑i : Int)) (0 : Nat)))))) (6 : Nat))), AV.v (Value.int IntKind.i64 (ad (w8 a) (1 : Int) (w8 (tu (v8 (f ((0 : Nat) + Int.toNat (↑i : Int)) (1 : Nat)) (f ((0 : Nat) + Int.toNat (↑i : Int)) (2 : Nat)) (f ((0 : Nat) + Int.toNat (↑i : Int)) (3 : Nat)) (f ((0 : Nat) + Int.toNat (↑i : Int)) (4 : Nat)) (f ((0 : Nat) + Int.toNat (↑i : Int)) (5 : Nat)) (f ((0 : Nat) + Int.toNat (↑i : Int)) (6 : Nat)) (f ((0 : Nat) + Int.toNat (↑i : Int)) (7 : Nat)) (f ((0 : Nat) + Int.toNat (↑i : Int)) (8 : Nat))) (md (IntKind.wrap IntKind.i64 (n * f ((0 : Nat) + Int.toNat (↑i : Int)) (0 : Nat)))))) (7 : Nat)))] (40 : TypeId)]) else Res.out (Ex.exit (0 : Nat)) [AV.ptr (1 : Nat) (0 : Nat) (0 : Nat) (0 : Nat), AV.ptr (2 : Nat) (0 : Nat) (0 : Nat) (0 : Nat)] [AB.row false m (9 : Nat) (row9 f) t, AB.cells [AV.v (Value.int IntKind.i64 (0 : Int)), AV.v (Value.int IntKind.i64 (0 : Int)), AV.v (Value.int IntKind.i64 (0 : Int)), AV.v (Value.int IntKind.i64 (0 : Int)), AV.v (Value.int IntKind.i64 (0 : Int)), AV.v (Value.int IntKind.i64 (0 : Int)), AV.v (Value.int IntKind.i64 (0 : Int)), AV.v (Value.int IntKind.i64 (0 : Int))] (40 : TypeId), AB.cells [AV.v (Value.int IntKind.i64 (a (0 : Nat))), AV.v (Value.int IntKind.i64 (a (1 : Nat))), AV.v (Value.int IntKind.i64 (a (2 : Nat))), AV.v (Value.int IntKind.i64 (a (3 : Nat))), AV.v (Value.int IntKind.i64 (a (4 : Nat))), AV.v (Value.int IntKind.i64 (a (5 : Nat))), AV.v (Value.int IntKind.i64 (a (6 : Nat))), AV.v (Value.int IntKind.i64 (a (7 : Nat)))] (40 : TypeId)] := by kernel_rfl

noncomputable abbrev lamAt (m : Nat) (f : Nat → Nat → Int) (t : TypeId) (n : Int) (b : Nat → Int) : Nat → Option Sum := oneL 0 (atS 31 (lvAt .normal) 1 (stAt m n 0) (hpAt m f t fun _ => 0) (fun K => K .normal (mkT 0 31 [(4, .ptr 1 0 0 0), (5, .ptr 2 0 0 0)]) (hpAt m f t b)))
theorem treeAt (m : Nat) (f : Nat → Nat → Int) (t : TypeId) (n : Int) (b : Nat → Int) : execF Try.prog g0 (lamAt m f t n b) 100 Try.f135 [.sl 0 9 0 0 m none, .v (i64 n)] [.row false m 9 (row9 f) t] (packK 1)
    = needs [chk ([AV.sl (0 : Nat) (9 : Nat) (0 : Nat) (0 : Nat) m none, AV.v (Value.int IntKind.i64 n), AV.ptr (1 : Nat) (0 : Nat) (0 : Nat) (0 : Nat), AV.ptr (2 : Nat) (0 : Nat) (0 : Nat) (0 : Nat), AV.v (Value.int IntKind.i64 (0 : Int))] = stAt m n (0 : Nat) ∧ Hsim [AB.row false m (9 : Nat) (row9 f) t, AB.cells [AV.v (Value.int IntKind.i64 (0 : Int)), AV.v (Value.int IntKind.i64 (0 : Int)), AV.v (Value.int IntKind.i64 (0 : Int)), AV.v (Value.int IntKind.i64 (0 : Int)), AV.v (Value.int IntKind.i64 (0 : Int)), AV.v (Value.int IntKind.i64 (0 : Int)), AV.v (Value.int IntKind.i64 (0 : Int)), AV.v (Value.int IntKind.i64 (0 : Int))] (40 : Nat), AB.cells [AV.v (Value.int IntKind.i64 (0 : Int)), AV.v (Value.int IntKind.i64 (0 : Int)), AV.v (Value.int IntKind.i64 (0 : Int)), AV.v (Value.int IntKind.i64 (0 : Int)), AV.v (Value.int IntKind.i64 (0 : Int)), AV.v (Value.int IntKind.i64 (0 : Int)), AV.v (Value.int IntKind.i64 (0 : Int)), AV.v (Value.int IntKind.i64 (0 : Int))] (40 : Nat)] (hpAt m f t fun _ ↦ (0 : Int)))] (Res.out Ex.ret [AV.agg [AV.v (Value.int IntKind.i64 (b (0 : Nat))), AV.v (Value.int IntKind.i64 (b (1 : Nat))), AV.v (Value.int IntKind.i64 (b (2 : Nat))), AV.v (Value.int IntKind.i64 (b (3 : Nat))), AV.v (Value.int IntKind.i64 (b (4 : Nat))), AV.v (Value.int IntKind.i64 (b (5 : Nat))), AV.v (Value.int IntKind.i64 (b (6 : Nat))), AV.v (Value.int IntKind.i64 (b (7 : Nat)))]] [AB.row false m (9 : Nat) (row9 f) t]) := by kernel_rfl

theorem fMd_eq : fMd (fun n => n % 24) = f_l1Mod := by
  funext l
  rfl
theorem FtuO_eq : FtuO (fun a n => turnedF a n.toNat) = F_turned := by
  funext l
  rfl
theorem gmAt_ok : GamOk Try.prog (gmAt (fun n => n % 24) (fun a n => turnedF a n.toNat) sumF) := by
  unfold gmAt
  rw [fMd_eq, FtuO_eq, fAdd3_eq]
  exact ext_ok (ext_ok (ext_ok g0_ok ok_l1Mod) ok_turnedS) ok_l2Sum
/-- The sum of the turned radii. -/
def atF (f : Nat → Nat → Int) (n : Int) : Nat → Nat → Int
  | 0 => fun _ => 0
  | i + 1 => sumF (atF f n i) 1 (turnedF (v8 (f i 1) (f i 2) (f i 3) (f i 4) (f i 5) (f i 6) (f i 7) (f i 8)) (IntKind.wrap IntKind.i64 (n * f i 0) % 24).toNat)
theorem sumAt (m : Nat) (f : Nat → Nat → Int) (t : TypeId) (n : Int) (hm : m ≤ 2 ^ 40) :
    SumOk Try.prog 1 (.block 0 (.loop (loopAt 0 Try.f135))) (atS 31 (lvAt .normal) 1 (stAt m n 0) (hpAt m f t fun _ => 0) (fun K => K .normal (mkT 0 31 [(4, .ptr 1 0 0 0), (5, .ptr 2 0 0 0)]) (hpAt m f t (atF f n m)))) := by
  refine for_at gmAt_ok (n := 100) (m := 1) (lv := lvAt) (fun i => stAt m n i) (fun i => hpAt m f t (atF f n i)) (fun _ => True) m (fun _ => noLam) (lv3_ris rfl rfl rfl) (Nat.le_refl _) trivial fun K Q hk i hi him => ⟨noLam_ok _ _ _, ?_⟩
  rw [rndAt]
  refine good_cond (fun c1 => ?_) fun c1 => ?_
  · have c1 := of_decide_eq_true c1
    have c1' : i < m := by omega
    rw [Int.toNat_natCast, Nat.zero_add, wr_in (x := (i : Int) + 1) (by omega)]
    refine good_needs (by simp only [ob_cons, ob_nil, and_true, decide_eq_true_eq]; omega) (good_out ⟨i + 1, ⟨rfl, c1', trivial⟩, rfl, Hsim.refl _⟩)
  · have c1 := of_decide_eq_false c1
    have : i = m := by omega
    subst this
    refine good_out ⟨_, Hsim.refl _, ?_⟩
    rw [if_pos rfl]
    exact hk

def FatO (at_ : (Nat → Nat → Int) → Int → Nat → Nat → Int) : List SA → Option FR
  | [.row m g, .v (.int .i64 n)] => some { val := .agg (cyC (at_ (itW g) n m)), obl := [allW m g, decide (m ≤ 2 ^ 38)] }
  | _ => none
theorem atF_row (g : Nat → Nat → Int) (n : Int) (m : Nat) : atF (itW (row9 g)) n m = atF g n m := by
  induction m with
  | zero => rfl
  | succ m ih => rw [atF, ih]; rfl
theorem ok_l5At : SpecOk Try.prog 135 (specR md_wv (FatO atF)) := by
  refine specR_hr g0_ok Try.func135 rfl fun sas fr hF ho => ?_
  unfold FatO at hF
  split at hF
  · rename_i m g n
    cases hF
    simp only [ob_cons] at ho
    obtain ⟨h1, h2, _⟩ := ho
    have hm := of_decide_eq_true h2
    refine ⟨[.row false m 9 (row9 (itW g)) 111], lamAt m (itW g) 111 n (atF (itW g) n m), 100, .cons (ABeq.row fun j hj => allW_get h1 j hj) .nil, lam1 (by kernel_rfl) (sumAt m (itW g) 111 n (by omega)), ?_⟩
    show GoodQ (execF Try.prog g0 (lamAt m (itW g) 111 n (atF (itW g) n m)) 100 Try.f135 [.sl 0 9 0 0 m none, .v (i64 n)] [.row false m 9 (row9 (itW g)) 111] (packK 1)) _
    rw [treeAt]
    exact good_needs (by rw [ob_cons]; exact ⟨chk_of ⟨rfl, Hsim.refl _⟩, rfl⟩) (good_out ⟨_, rfl, rfl, .cons (ABeq.row fun j hj => (allW_get h1 j hj).symm) .nil⟩)
  · cases hF

def FdoO (dn : (Nat → Int) → Nat → Int) (ok : (Nat → Int) → Bool) : List SA → Option FR
  | [.v (.agg ⟨[.int .i64 a0, .int .i64 a1, .int .i64 a2, .int .i64 a3, .int .i64 a4, .int .i64 a5, .int .i64 a6, .int .i64 a7]⟩)] => some { val := .tup [.agg (cyC (dn (v8 a0 a1 a2 a3 a4 a5 a6 a7))), .v (.bool (ok (v8 a0 a1 a2 a3 a4 a5 a6 a7)))] }
  | _ => none
theorem FdoO_eq : FdoO doneC (fun v => cyOk (cyOf v)) = F_l2Done := by
  funext l
  rfl
def gmDA (at_ : (Nat → Nat → Int) → Int → Nat → Nat → Int) (dn : (Nat → Int) → Nat → Int) (ok : (Nat → Int) → Bool) : Gam := ext (ext (ext (ext g0 119 (specR md_ws F_dv)) 131 (specV f_l1Is)) 135 (specR md_wv (FatO at_))) 134 (specR [.val] (FdoO dn ok))
theorem treeDA (at_ : (Nat → Nat → Int) → Int → Nat → Nat → Int) (dn : (Nat → Int) → Nat → Int) (ok : (Nat → Int) → Bool) (m : Nat) (f : Nat → Nat → Int) (t : TypeId) (n : Int) : execF Try.prog (gmDA at_ dn ok) noLam 100 Try.f120 [.sl 0 9 0 0 m none, .v (i64 n)] [.row false m 9 (row9 f) t] (packK 1)
    = needs [Nat.ble ((0 : Nat) + m) m, allW m fun q ↦ row9 f ((0 : Nat) + q), decide (m ≤ (549755813888 : Nat))] (bif !okD (listW (itW fun q ↦ row9 f ((0 : Nat) + q)) m) then Res.out Ex.ret [AV.tup [AV.agg [AV.v (Value.int IntKind.i64 (0 : Int)), AV.v (Value.int IntKind.i64 (0 : Int)), AV.v (Value.int IntKind.i64 (0 : Int)), AV.v (Value.int IntKind.i64 (0 : Int)), AV.v (Value.int IntKind.i64 (0 : Int)), AV.v (Value.int IntKind.i64 (0 : Int)), AV.v (Value.int IntKind.i64 (0 : Int)), AV.v (Value.int IntKind.i64 (0 : Int))], AV.v (Value.bool false)]] [AB.row false m (9 : Nat) (row9 f) t] else bif !inR n (0 : Int) (23 : Int) then Res.out Ex.ret [AV.tup [AV.agg [AV.v (Value.int IntKind.i64 (0 : Int)), AV.v (Value.int IntKind.i64 (0 : Int)), AV.v (Value.int IntKind.i64 (0 : Int)), AV.v (Value.int IntKind.i64 (0 : Int)), AV.v (Value.int IntKind.i64 (0 : Int)), AV.v (Value.int IntKind.i64 (0 : Int)), AV.v (Value.int IntKind.i64 (0 : Int)), AV.v (Value.int IntKind.i64 (0 : Int))], AV.v (Value.bool false)]] [AB.row false m (9 : Nat) (row9 f) t] else needs [Nat.ble ((0 : Nat) + m) m, allW m fun q ↦ row9 f ((0 : Nat) + q), decide (m ≤ (274877906944 : Nat))] (Res.out Ex.ret [AV.tup [AV.agg [AV.v (Value.int IntKind.i64 (dn (w8 (at_ (itW fun q ↦ row9 f ((0 : Nat) + q)) n m)) (0 : Nat))), AV.v (Value.int IntKind.i64 (dn (w8 (at_ (itW fun q ↦ row9 f ((0 : Nat) + q)) n m)) (1 : Nat))), AV.v (Value.int IntKind.i64 (dn (w8 (at_ (itW fun q ↦ row9 f ((0 : Nat) + q)) n m)) (2 : Nat))), AV.v (Value.int IntKind.i64 (dn (w8 (at_ (itW fun q ↦ row9 f ((0 : Nat) + q)) n m)) (3 : Nat))), AV.v (Value.int IntKind.i64 (dn (w8 (at_ (itW fun q ↦ row9 f ((0 : Nat) + q)) n m)) (4 : Nat))), AV.v (Value.int IntKind.i64 (dn (w8 (at_ (itW fun q ↦ row9 f ((0 : Nat) + q)) n m)) (5 : Nat))), AV.v (Value.int IntKind.i64 (dn (w8 (at_ (itW fun q ↦ row9 f ((0 : Nat) + q)) n m)) (6 : Nat))), AV.v (Value.int IntKind.i64 (dn (w8 (at_ (itW fun q ↦ row9 f ((0 : Nat) + q)) n m)) (7 : Nat)))], AV.v (Value.bool (ok (w8 (at_ (itW fun q ↦ row9 f ((0 : Nat) + q)) n m))))]] [AB.row false m (9 : Nat) (row9 f) t])) := by kernel_rfl

end Go.Proofs.Ytoligfhcogligaa

/- l5Each, the reference's. Conditions: a list of wheels. -/
namespace Go.Proofs.Ytoligfhcogligaa
open Go.RowKit
set_option maxRecDepth 100000

def fIsO (ok : Int → Bool) : List Value → Option (Value × List Bool)
  | [.int .i64 n] => some (.bool (ok n), [])
  | _ => none
def FtidyO (ti : List Wh → List Wh) (okt : List Wh → Bool) : List SA → Option FR
  | [.row m g] => some { val := .tup [.own 0 (ti (listW (itW g) m)).length, .v (.bool (okt (listW (itW g) m)))], new := [.row true (ti (listW (itW g) m)).length 9 (row9 (wfun (ti (listW (itW g) m)))) 111], obl := [allW m g, decide (m ≤ 2 ^ 38)] }
  | _ => none
def gmE1 (md : Int → Int) (mi : (Nat → Int) → Nat → Int) (tu : (Nat → Int) → Int → Nat → Int) : Gam := ext (ext (ext g0 98 (specV (fMd md))) 55 (specV (fMirO mi))) 132 (specR [.val, .val] (FtuO tu))
abbrev lvEa : Ex → List Nat := lv3 [0, 1, 2, 3, 4, 12, 13] [12] [10, 11]
abbrev stEa (m : Nat) (sp tn la : Int) (mir : Bool) (n i : Nat) : List AV := [.sl 0 9 0 0 m none, .v (i64 sp), .v (i64 tn), .v (i64 la), .v (.bool mir), .own 1 n, .v (i64 i)]
noncomputable abbrev lamEa (m : Nat) (f : Nat → Nat → Int) (t : TypeId) (sp tn la : Int) (mir : Bool) (n : Nat) (h : Nat → Nat → Int) : Nat → Option Sum := oneL 0 (atS 71 (lvEa .normal) 1 (stEa m sp tn la mir 0 0) (hpTI m f t 0 (wfun [])) (fun K => K .normal (mkT 0 71 [(12, .own 1 n)]) (hpTI m f t n h)))
def gmE2 (okd : List Wh → Bool) (is : Int → Bool) (ti : List Wh → List Wh) (okt : List Wh → Bool) : Gam := ext (ext (ext g0 119 (specR md_ws (FdvO okd))) 131 (specV (fIsO is))) 138 (specR md_ws (FtidyO ti okt))
theorem fIsO_eq : fIsO (fun n => inR n 0 23) = f_l1Is := by
  funext l
  rfl
theorem FtidyO_eq : FtidyO tidyL okT = F_tidy := by
  funext l
  rfl
theorem gmE1_ok : GamOk Try.prog (gmE1 (fun n => n % 24) mirF (fun a n => turnedF a n.toNat)) := by
  have e : fMirO mirF = f_l2Mirror := by funext l; rfl
  unfold gmE1
  rw [fMd_eq, FtuO_eq, e]
  exact ext_ok (ext_ok (ext_ok g0_ok ok_l1Mod) ok_l2Mirror) ok_turnedS
theorem gmE2_ok : GamOk Try.prog (gmE2 okD (fun n => inR n 0 23) tidyL okT) := by
  unfold gmE2
  rw [fIsO_eq, FtidyO_eq, FdvO_eq]
  exact ext_ok (ext_ok (ext_ok g0_ok ok_dv) ok_l1Is) ok_tidyS
/-- One wheel, changed by the reference. -/
def chE (sp tn la : Int) (mir : Bool) (w : Wh) : Wh := ⟨IntKind.wrap IntKind.i64 (sp * w.s), cyOf (turnedF (bif mir then w8 (mirF w.r.f) else w.r.f) ((IntKind.wrap IntKind.i64 (tn + IntKind.wrap IntKind.i64 (la * w.s))) % 24).toNat)⟩
def eachP (tn la : Int) (L : List Wh) : Bool := okD L && (inR tn 0 23 && inR la 0 23)
def eachOk (sp tn la : Int) (mir : Bool) (L : List Wh) : Bool := eachP tn la L && okT (L.map (chE sp tn la mir))
def eachL (sp tn la : Int) (mir : Bool) (L : List Wh) : List Wh := bif eachP tn la L then tidyL (L.map (chE sp tn la mir)) else []
def FeaO (ok : Int → Int → Int → Bool → List Wh → Bool) (el : Int → Int → Int → Bool → List Wh → List Wh) : List SA → Option FR
  | [.row m g, .v (.int .i64 sp), .v (.int .i64 tn), .v (.int .i64 la), .v (.bool mir)] => some { val := .tup [.own 0 (el sp tn la mir (listW (itW g) m)).length, .v (.bool (ok sp tn la mir (listW (itW g) m)))], new := [.row true (el sp tn la mir (listW (itW g) m)).length 9 (row9 (wfun (el sp tn la mir (listW (itW g) m)))) 111], obl := [allW m g, decide (m ≤ 2 ^ 38)] }
  | _ => none
def md_ea : List Md := [.rd 9 111, .val, .val, .val, .val]
/-- Two lists of one length. -/
abbrev hpQW (m : Nat) (f h : Nat → Nat → Int) : List AB := [.row false m 9 (row9 f) 111, .row false m 9 (row9 h) 111]

end Go.Proofs.Ytoligfhcogligaa

/- Helpers on what l5Each and the changes come to. No conditions. -/
namespace Go.Proofs.Ytoligfhcogligaa
open Go.RowKit
set_option maxRecDepth 100000

def md_eqWS : List Md := [.rd 9 111, .rd 9 111]
theorem ble_me (n : Nat) : Nat.ble n n = true := by simp
theorem needs_nil (r : Res) : needs [] r = r := rfl
theorem needs_t (l : List Bool) (r : Res) : needs (true :: l) r = needs l r := rfl
theorem le_b {m n : Nat} (h : m ≤ n) : decide (m ≤ n) = true := decide_eq_true h
theorem itW_row (f : Nat → Nat → Int) (j : Nat) : ∀ k, k < 9 → itW (row9 f) j k = f j k := by
  intro k hk
  rcases (by omega : k = 0 ∨ k = 1 ∨ k = 2 ∨ k = 3 ∨ k = 4 ∨ k = 5 ∨ k = 6 ∨ k = 7 ∨ k = 8) with rfl | rfl | rfl | rfl | rfl | rfl | rfl | rfl | rfl <;> rfl
theorem map_same {c d : Wh → Wh} {L : List Wh} (h : ∀ w ∈ L, c w = d w) : L.map c = L.map d := List.map_congr_left h
theorem tidyL_no {L : List Wh} (h : okT L = false) : tidyL L = [] := by
  unfold okT at h
  unfold tidyL
  cases e : tidyS L with
  | none => rfl
  | some T => rw [e] at h; cases h
theorem tidyL_len {L : List Wh} (h : okT L = true) : (tidyL L).length ≤ 12 := by
  unfold okT at h
  unfold tidyL
  cases e : tidyS L with
  | none => rw [e] at h; cases h
  | some T =>
    unfold tidyS at e
    split at e
    · split at e
      · rename_i hv
        cases e
        rw [dValid, Bool.and_eq_true] at hv
        exact of_decide_eq_true hv.1
      · cases e
    · cases e
/-- Where the lists agree, so do the tidy ones. -/
theorem each_yes {sp tn la : Int} {mir : Bool} {L M : List Wh} (hp : eachP tn la L = true) (hM : L.map (chE sp tn la mir) = M) (ht : okT M = true) : eachL sp tn la mir L = tidyL M ∧ eachOk sp tn la mir L = true := by
  subst hM
  refine ⟨?_, ?_⟩
  · rw [eachL, hp]; rfl
  · rw [eachOk, hp, ht]; rfl
theorem each_no {sp tn la : Int} {mir : Bool} {L : List Wh} (h : eachP tn la L = true → okT (L.map (chE sp tn la mir)) = false) : eachL sp tn la mir L = [] ∧ eachOk sp tn la mir L = false := by
  cases hp : eachP tn la L with
  | false => exact ⟨by rw [eachL, hp]; rfl, by rw [eachOk, hp]; rfl⟩
  | true => exact ⟨by rw [eachL, hp]; exact tidyL_no (h hp), by rw [eachOk, hp, h hp]; rfl⟩
theorem wr_w (x : Int) : IntKind.wrap IntKind.i64 (IntKind.wrap IntKind.i64 x) = IntKind.wrap IntKind.i64 x := w64_w64 x
theorem chMi_same (w : Wh) : chMi w = chE (-1) 0 0 true w := by
  have e1 : (-1 : Int) * w.s = 0 - w.s := by omega
  have e2 : (IntKind.wrap IntKind.i64 ((0 : Int) + IntKind.wrap IntKind.i64 (0 * w.s)) % 24).toNat = 0 := by rw [Int.zero_mul]; rfl
  rw [chMi, chE, e1, e2]
  rfl

theorem chTu_same {x : Int} (hx : inR x 0 23 = true) {w : Wh} (h1 : -1000 ≤ w.s ∧ w.s ≤ 1000) : chTu x w = chE 1 x 0 false w := by
  have hx := inR_iff.1 hx
  have e1 : IntKind.wrap IntKind.i64 (1 * w.s) = w.s := by rw [Int.one_mul, wr_in (by omega)]
  have e2 : IntKind.wrap IntKind.i64 (x + IntKind.wrap IntKind.i64 (0 * w.s)) = x := by
    rw [Int.zero_mul, wr_in (x := 0) (by omega), Int.add_zero, wr_in (by omega)]
  rw [chTu, chE, e1, e2]
  rfl
theorem chLa_same {x : Int} (hx : inR x 0 23 = true) {w : Wh} (h1 : -1000 ≤ w.s ∧ w.s ≤ 1000) : chLa x w = chE 1 0 x false w := by
  have hx := inR_iff.1 hx
  have e1 : IntKind.wrap IntKind.i64 (1 * w.s) = w.s := by rw [Int.one_mul, wr_in (by omega)]
  have e2 : IntKind.wrap IntKind.i64 (0 + IntKind.wrap IntKind.i64 (x * w.s)) = IntKind.wrap IntKind.i64 (x * w.s) := by
    rw [Int.zero_add, wr_w]
  rw [chLa, chE, e1, e2]
  rfl

end Go.Proofs.Ytoligfhcogligaa

/- A word for a callee that hands back a new list or none: read as one. Conditions: those of its two cases. -/
namespace Go.Proofs.Ytoligfhcogligaa
open Go.RowKit
set_option maxRecDepth 100000

theorem putC_nil : ∀ (is : List (Option Nat)) (bs : List AB), (∀ b ∈ bs, b.wr = false) → putC is bs = []
  | [], [], _ => rfl
  | [], _ :: _, _ => by simp [putC]
  | i :: is, [], _ => by cases i <;> simp [putC]
  | none :: is, b :: bs, h => by
    simp only [putC]
    exact putC_nil is bs fun x hx => h x (by simp [hx])
  | some i :: is, b :: bs, h => by
    have ih := putC_nil is bs fun x hx => h x (by simp [hx])
    have hb := h b (by simp)
    cases b with
    | row rw n s g t =>
      cases rw with
      | true => cases hb
      | false => simp only [putC]; exact ih
    | cells cs t => cases hb
    | gone => simp only [putC]; exact ih
theorem abP_rd : ∀ {mds : List Md} {sas : List SA} {ps : List (Nat → List Value)}, hasWr mds = false → ∀ b ∈ abP mds sas ps, b.wr = false
  | [], [], ps, _, b, hb => by simp [abP] at hb
  | .val :: ds, .v x :: r, ps, h, b, hb => abP_rd (mds := ds) (sas := r) (ps := ps) h b (by simpa only [abP] using hb)
  | .rd s t :: ds, .row m g :: r, ps, h, b, hb => by
    simp only [abP, List.mem_cons] at hb
    rcases hb with rfl | hb
    · rfl
    · exact abP_rd (mds := ds) (sas := r) (ps := ps) h b hb
  | .wr s t :: ds, _, ps, h, b, hb => by cases h
  | [], _ :: _, ps, _, b, hb => by simp [abP] at hb
  | .val :: ds, [], ps, _, b, hb => by simp [abP] at hb
  | .val :: ds, .row .. :: _, ps, _, b, hb => by simp [abP] at hb
  | .val :: ds, .own .. :: _, ps, _, b, hb => by simp [abP] at hb
  | .rd .. :: ds, [], ps, _, b, hb => by simp [abP] at hb
  | .rd .. :: ds, .v _ :: _, ps, _, b, hb => by simp [abP] at hb
  | .rd .. :: ds, .own .. :: _, ps, _, b, hb => by simp [abP] at hb

/-- The list, or none. -/
structure UR where
  b : Bool
  T : List Wh
  obl : List Bool
def specU (mds : List Md) (U : List SA → Option UR) : Spec := fun avs H base =>
  match saAll H mds avs with
  | some xs => match U (xs.map (·.sa)) with
    | some u => some { val := .tup [.sl base 9 0 0 u.T.length (some u.T.length), .v (.bool u.b)], rd := (ixC mds xs).filterMap id, put := [], new := [.row false u.T.length 9 (row9 (wfun u.T)) 111], obl := xs.flatMap (·.ob) ++ u.obl }
    | none => none
  | none => none

theorem specU_ok {P : Program} {f : FuncId} {mds : List Md} {FY FN : List SA → Option FR} {U : List SA → Option UR} (hw : hasWr mds = false) (hY : SpecOk P f (specR mds FY)) (hN : SpecOk P f (specR mds FN))
    (h : ∀ sas u, U sas = some u → obls u.obl = true → Nat.beq (abP mds sas []).length (abC mds sas).length = true ∧ ((u.b = true ∧ ∃ ob, FY sas = some { val := valY u.T, new := newY u.T, obl := ob } ∧ obls ob = true) ∨ (u.b = false ∧ u.T = [] ∧ ∃ ob, FN sas = some { val := valN, obl := ob } ∧ obls ob = true))) : SpecOk P f (specU mds U) := by
  refine ⟨hY.1, fun avs H base δ ν vals w hS ho hv hr hlt hfree hsep => ?_⟩
  unfold specU at hS
  split at hS
  case h_2 => cases hS
  rename_i xs hxs
  split at hS
  case h_2 => cases hS
  rename_i u hu
  simp only [Option.some.injEq] at hS
  subst hS
  have ho' : obls (xs.flatMap (·.ob)) = true ∧ obls u.obl = true := by simpa [obls, List.all_append] using ho
  obtain ⟨hl, hc⟩ := h _ _ hu ho'.2
  have hput : putC (ixC mds xs) (abP mds (xs.map (·.sa)) []) = [] := putC_nil _ _ fun b hb => abP_rd hw b hb
  rcases hc with ⟨hb, ob, e1, e2⟩ | ⟨hb, hT, ob, e1, e2⟩
  · have hS2 : specR mds FY avs H base = some { val := .tup [.sl base 9 0 0 u.T.length (some u.T.length), .v (.bool true)], rd := (ixC mds xs).filterMap id, put := [], new := newY u.T, obl := xs.flatMap (·.ob) ++ ob } := by
      unfold specR
      rw [hxs]
      simp only [e1]
      show cond _ _ _ = _
      rw [hw, hl, hput]
      rfl
    refine (hY.2 avs H base _ ν vals w hS2 (by simpa [obls, List.all_append] using And.intro ho'.1 e2) hv hr hlt hfree (fun i o j b b' hp => by cases hp)).mono ?_
    rintro e w' ⟨v, ν', rfl, d⟩
    refine ⟨v, ν', rfl, d.le, d.dom, by rw [hb]; exact d.val, fun i b hl => (by cases hl), fun j b hj => ?_, d.os, d.tape, d.output, d.size, d.block, d.fresh, d.apart⟩
    match j with
    | 0 =>
      simp only [List.getElem?_cons_zero, Option.some.injEq] at hj
      subst hj
      have := d.new 0 _ rfl
      rcases this with ⟨h1, _, _⟩ | ⟨k, l, t', fz, h1, h2, _, h4, h5⟩
      · cases h1
      · exact .inr ⟨k, l, t', fz, h1, h2, fun h => (by cases h), h4, h5⟩
    | j + 1 => simp at hj
  · have hS2 : specR mds FN avs H base = some { val := valN, rd := (ixC mds xs).filterMap id, put := [], new := [], obl := xs.flatMap (·.ob) ++ ob } := by
      unfold specR
      rw [hxs]
      simp only [e1]
      show cond _ _ _ = _
      rw [hw, hl, hput]
      rfl
    refine (hN.2 avs H base _ ν vals w hS2 (by simpa [obls, List.all_append] using And.intro ho'.1 e2) hv hr hlt (fun j hj => absurd hj (Nat.not_lt_zero _)) (fun i o j b b' hp => by cases hp)).mono ?_
    rintro e w' ⟨v, ν', rfl, d⟩
    have hnone : ν' base = none := by
      have h0 : ν base = none := hfree 0 (Nat.zero_lt_one)
      cases hq : ν' base with
      | none => rfl
      | some b =>
        have := d.dom base h0 (by rw [hq]; simp)
        simp at this
    have hv0 : VR ν' (.tup [.sl base 9 0 0 0 (some 0), .v (.bool false)]) v := by
      have := d.val
      simp only [VR] at this ⊢
      obtain ⟨l, e1, e2⟩ := this
      match l, e2 with
      | [a, b], ⟨ha, hbb, _⟩ => exact ⟨[a, b], e1, ⟨none, 0, ha, fun c' hc' => by simpa using hc', Nat.le_refl _, fun hc => absurd hc (Nat.lt_irrefl 0)⟩, hbb, trivial⟩
    refine ⟨v, ν', rfl, d.le, fun i h1 h2 => ?_, by rw [hb, hT]; exact hv0, fun i b hl => (by cases hl), fun j b hj => ?_, d.os, d.tape, d.output, d.size, d.block, fun j b hj hq => ?_, fun j j' b b' hne hj hj' => ?_⟩
    · have := d.dom i h1 h2
      simp at this
      omega
    · match j with
      | 0 =>
        simp only [List.getElem?_cons_zero, Option.some.injEq] at hj
        subst hj
        rw [hT]
        exact .inl ⟨rfl, rfl, hnone⟩
      | j + 1 => simp at hj
    · have hj : j < 1 := hj
      have : j = 0 := by omega
      subst this
      rw [Nat.add_zero, hnone] at hq
      cases hq
    · have hj : j < 1 := hj
      have hj' : j' < 1 := hj'
      omega

end Go.Proofs.Ytoligfhcogligaa

/- The abstract machine, 27: words for callees by their view, which may hand back what points to rows that are only read. Conditions: those of the table of callees. -/
namespace Go.Proofs.Ytoligfhcogligaa
open Go.RowKit

/-- The numbers on the way back: what the callee may write, and what is new. -/
def bkK (keep : List Nat) (Hc : List AB) (base : Nat) : Nat → Option Nat := fun i => bif Nat.blt i keep.length then (bif (Hc.getD i .gone).live then keep[i]? else none) else some (base + (i - keep.length))

/-- Rows that are read: they must hold something, so that they have a place. -/
def fullB : List AB → List Bool
  | [] => []
  | .row false n _ _ _ :: l => decide (0 < n) :: fullB l
  | _ :: l => fullB l
theorem fullB_get : ∀ {H : List AB} {j n w : Nat} {g : Nat → List Value} {t : TypeId}, obls (fullB H) = true → H.getD j .gone = .row false n w g t → 0 < n
  | [], j, n, w, g, t, _, h => by simp at h
  | b :: H, 0, n, w, g, t, ho, h => by
    simp only [List.getD_cons_zero] at h
    subst h
    simp only [fullB, ob_cons, decide_eq_true_eq] at ho
    exact ho.1
  | b :: H, j + 1, n, w, g, t, ho, h => by
    simp only [List.getD_cons_succ] at h
    refine fullB_get (H := H) (j := j) ?_ h
    unfold fullB at ho
    split at ho
    · rename_i e; cases e
    · rename_i e; cases e; exact (ob_cons.1 ho).2
    · rename_i e; cases e; exact ho
theorem obls_app {a b : List Bool} : obls (a ++ b) = true ↔ obls a = true ∧ obls b = true := by
  simp [obls]

/-- A callee's word, by its view; it may hand back what points to rows that are only read. -/
def specK (ros : List Bool) (F : List AV → List AB → Option HR) : Spec := fun avs H base =>
  match viewH ros avs H with
  | some q => match F q.2.1 q.2.2 with
    | some hr => match mapA (bkK q.1 q.2.2 base) hr.val, mapBs (bkK q.1 q.2.2 base) hr.out, mapBs (bkK q.1 q.2.2 base) hr.new with
      | some v, some ou, some nw => cond (Nat.beq hr.out.length q.2.2.length && hr.new.all AB.wr)
          (some { val := v, rd := q.1, put := putH q.1 q.2.2 ou, new := nw, obl := hr.obl ++ fullB q.2.2 }) none
      | _, _, _ => none
    | none => none
  | none => none

theorem specK_wk {f : FuncId} {fn : Func} {ros : List Bool} {F : List AV → List AB → Option HR} (hf : Try.prog.funcs[f]? = some fn) (hb : fn.body.isSome = true)
    (h : ∀ avs H hr, F avs H = some hr → obls hr.obl = true → ∃ (Γ : Gam) (H0 : List AB) (Λ : Nat → Option Sum) (n : Nat), GamOk Try.prog Γ ∧ Hsim H H0 ∧ (∀ c, fn.body = some c → LamOk Try.prog H0.length Λ c) ∧ GoodQ (execF Try.prog Γ Λ n fn avs H0 (packK H0.length)) (GivW hr)) : SpecOk Try.prog f (specK ros F) := by
  refine ⟨fun args w => enters f fn hf hb args w, fun avs H base δ ν vals w hS ho hv hbr hlt hfree hsep => ?_⟩
  unfold specK at hS
  split at hS
  case h_2 => cases hS
  rename_i q hq
  split at hS
  case h_2 => cases hS
  rename_i hr hF
  split at hS
  case h_2 => cases hS
  rename_i v ou nw hval hou hnw
  cases hck : (Nat.beq hr.out.length q.2.2.length && hr.new.all AB.wr) with
  | false => rw [hck] at hS; cases hS
  | true =>
  rw [hck] at hS
  simp only [cond_true, Option.some.injEq] at hS
  subst hS
  rw [Bool.and_eq_true] at hck
  have hlen := Nat.eq_of_beq_eq_true hck.1
  have hnewwr := List.all_eq_true.1 hck.2
  unfold viewH at hq
  generalize reach H 400 [] (idxAs avs) = keep at *
  split at hq
  case h_2 => cases hq
  rename_i avs' H1 hra hrb
  cases hnd : nodupB keep with
  | false => rw [hnd] at hq; cases hq
  | true =>
  rw [hnd] at hq
  simp only [cond_true, Option.some.injEq] at hq
  subst hq
  simp only at hval hou hnw hF hlen hbr hsep ho hfree ⊢
  rw [obls_app] at ho
  obtain ⟨ho, hof⟩ := ho
  obtain ⟨hl1, hg1⟩ := renBs_get hrb
  have hlHc : (roL ros H1).length = keep.length := by rw [roL_length, hl1]
  have nuAt : ∀ {j i}, keep[j]? = some i → keepNu keep ν j = ν i := fun hj => by simp [keepNu, hj]
  have ofNu : ∀ {j b}, keepNu keep ν j = some b → ∃ i, keep[j]? = some i ∧ ν i = some b := by
    intro j b hb
    unfold keepNu at hb
    split at hb
    · rename_i i hi; exact ⟨i, hi, hb⟩
    · cases hb
  have ren_marks : ∀ {b b' : AB}, renB keep b = some b' → b'.wr = b.wr ∧ b'.live = b.live := by
    intro b b' hb
    cases b with
    | cells cs t => simp only [renB, Option.map_eq_some_iff] at hb; obtain ⟨q, _, rfl⟩ := hb; exact ⟨rfl, rfl⟩
    | row => simp only [renB, Option.some.injEq] at hb; subst hb; exact ⟨rfl, rfl⟩
    | gone => simp only [renB, Option.some.injEq] at hb; subst hb; exact ⟨rfl, rfl⟩
  -- the callee's block j is the caller's block keep j
  have view : ∀ {j i}, keep[j]? = some i → ∃ b1, H1[j]? = some b1 ∧ renB keep (H.getD i .gone) = some b1 ∧ (roL ros H1)[j]? = some (roB (ros.getD j false) b1) := by
    intro j i hj
    obtain ⟨b1, e1, e2⟩ := hg1 j i hj
    exact ⟨b1, e1, e2, by rw [roL_get, e1]; rfl⟩
  have wrOf : ∀ {j i}, keep[j]? = some i → ((roL ros H1).getD j .gone).wr = true → (H.getD i .gone).wr = true := by
    intro j i hj hw
    obtain ⟨b1, _, e2, e3⟩ := view hj
    have : (roL ros H1).getD j .gone = roB (ros.getD j false) b1 := by simp [List.getD_eq_getElem?_getD, e3]
    rw [this] at hw
    rw [← (ren_marks e2).1]
    exact roB_wr hw
  have liveOf : ∀ {j i}, keep[j]? = some i → ((roL ros H1).getD j .gone).live = true → (H.getD i .gone).live = true := by
    intro j i hj hw
    obtain ⟨b1, _, e2, e3⟩ := view hj
    have : (roL ros H1).getD j .gone = roB (ros.getD j false) b1 := by simp [List.getD_eq_getElem?_getD, e3]
    rw [this, roB_live] at hw
    rw [← (ren_marks e2).2]
    exact hw
  obtain ⟨hlo, hgo⟩ := mapBs_get hou
  obtain ⟨hln, hgn⟩ := mapBs_get hnw
  have inPut : ∀ {j i}, keep[j]? = some i → ((roL ros H1).getD j .gone).wr = true → ∃ o o', hr.out[j]? = some o ∧ ou[j]? = some o' ∧ mapB (bkK keep (roL ros H1) base) o = some o' ∧ (i, o') ∈ putH keep (roL ros H1) ou := by
    intro j i hj hw
    have hjl : j < keep.length := (List.getElem?_eq_some_iff.1 hj).1
    have ho : hr.out[j]? = some (hr.out[j]'(by omega)) := List.getElem?_eq_getElem _
    obtain ⟨o', e1, e2⟩ := hgo j _ ho
    have hh : (roL ros H1)[j]? = some ((roL ros H1)[j]'(by omega)) := List.getElem?_eq_getElem _
    refine ⟨_, o', ho, e1, e2, putH_of hj hh e1 ?_⟩
    have : (roL ros H1).getD j .gone = (roL ros H1)[j]'(by omega) := by simp [List.getD_eq_getElem?_getD, hh]
    rw [← this]; exact hw
  let M : Nat → Prop := fun k => w.heap.size ≤ k ∨ ∃ j b, ((roL ros H1).getD j .gone).wr = true ∧ keepNu keep ν j = some b ∧ b.n = k
  have hRH : RH M (keepNu keep ν) (fun b => (roL ros H1).getD b .gone) w := by
    refine ⟨fun j => ?_, fun i j b b' hne hw hlv hb hb' => ?_, fun i b hw hb => .inr ⟨i, b, hw, hb, rfl⟩, fun i b hb => ?_⟩
    · cases hj : keep[j]? with
      | none =>
        have : (roL ros H1).getD j .gone = .gone := by
          rw [List.getD_eq_getElem?_getD, List.getElem?_eq_none]
          · rfl
          · rw [hlHc]
            exact List.getElem?_eq_none_iff.1 hj
        simp only [this]
        trivial
      | some i =>
        obtain ⟨b1, e1, e2, e3⟩ := view hj
        have : (roL ros H1).getD j .gone = roB (ros.getD j false) b1 := by simp [List.getD_eq_getElem?_getD, e3]
        simp only [this]
        refine roB_br ?_
        have hbi := hbr i (List.mem_of_getElem? hj)
        have hν := nuAt hj
        cases hi : H.getD i .gone with
        | cells cs t =>
          rw [hi] at e2 hbi
          simp only [renB, Option.map_eq_some_iff] at e2
          obtain ⟨cs', h1, h2⟩ := e2
          rw [← h2]
          obtain ⟨b, l, g1, g2, g3, g4⟩ := hbi
          exact ⟨b, l, by rw [hν]; exact g1, g2, g3, g4.ren h1⟩
        | row rw' n wd g t =>
          rw [hi] at e2 hbi
          simp only [renB, Option.some.injEq] at e2
          rw [← e2]
          rcases hbi with ⟨g1, g2, g3⟩ | ⟨b, l, t', fz, g1, g2⟩
          · exact .inl ⟨g1, g2, by rw [hν]; exact g3⟩
          · exact .inr ⟨b, l, t', fz, by rw [hν]; exact g1, g2⟩
        | gone =>
          rw [hi] at e2
          simp only [renB, Option.some.injEq] at e2
          rw [← e2]
          trivial
    · obtain ⟨i', hi, e1⟩ := ofNu hb
      obtain ⟨j', hj, e2⟩ := ofNu hb'
      obtain ⟨_, o', _, _, _, hp⟩ := inPut hi hw
      refine hsep i' o' j' b b' hp (List.mem_of_getElem? hj) (fun e => ?_) (liveOf hj hlv) e1 e2
      subst e
      exact hne (nodupB_ne hnd i j i' hi hj)
    · obtain ⟨i', _, e1⟩ := ofNu hb
      exact hlt i' b e1
  obtain ⟨Γ, H0, Λ, n, hΓ, hsim, hL, hG⟩ := h avs' (roL ros H1) hr hF ho
  have hl0 : H0.length = keep.length := by rw [← hsim.length, hlHc]
  have hdom0 : ∀ i b, keepNu keep ν i = some b → i < H0.length := by
    intro i b hb
    obtain ⟨i', hi, _⟩ := ofNu hb
    rw [hl0]
    exact (List.getElem?_eq_some_iff.1 hi).1
  refine (calls_pack hΓ mixed enters hf hL (fun k hk => Or.inl hk) hG.out (hv.ren hra) (hRH.sim hsim) hdom0).mono ?_
  rintro e w' ⟨vv, av, He, ν', rfl, ⟨av2, hav, hwk, hHe⟩, hvr, hRH', hfr, hle, hdom'⟩
  simp only [List.cons.injEq, and_true] at hav
  subst hav
  have hvr := hwk _ _ _ _ hRH' hvr
  have hRH2 := hRH'.sim hHe
  have hHl : He.length = keep.length + hr.new.length := by rw [hHe.length, List.length_append, hlen, hlHc]
  -- a block that may be written has a place
  have wrNu : ∀ {j : Nat}, ((roL ros H1).getD j .gone).wr = true → ∃ b, keepNu keep ν j = some b := by
    intro j hw
    have : BR (keepNu keep ν) j ((roL ros H1).getD j .gone) w := hRH.br j
    cases hb : (roL ros H1).getD j .gone with
    | cells cs t => rw [hb] at this; obtain ⟨b, l, e1, _⟩ := this; exact ⟨b, e1⟩
    | row rw' n wd g t =>
      rw [hb] at this hw
      rcases this with ⟨e1, _⟩ | ⟨b, l, t', fz, e1, _⟩
      · simp only [AB.wr] at hw
        rw [e1] at hw
        cases hw
      · exact ⟨b, e1⟩
    | gone => rw [hb] at hw; cases hw
  have liveNu : ∀ {j : Nat}, ((roL ros H1).getD j .gone).live = true → ∃ b, keepNu keep ν j = some b := by
    intro j hw
    have : BR (keepNu keep ν) j ((roL ros H1).getD j .gone) w := hRH.br j
    cases hb : (roL ros H1).getD j .gone with
    | cells cs t => rw [hb] at this; obtain ⟨b, l, e1, _⟩ := this; exact ⟨b, e1⟩
    | row rw' n wd g t =>
      rw [hb] at this
      rcases this with ⟨e1, e2, _⟩ | ⟨b, l, t', fz, e1, _⟩
      · subst e1
        have := fullB_get hof hb
        omega
      · exact ⟨b, e1⟩
    | gone => rw [hb] at hw; cases hw
  let ν2 : Nu := fun i => match ν i with
    | some b => some b
    | none => if base ≤ i ∧ i < base + nw.length then ν' (keep.length + (i - base)) else none
  have n2old : ∀ {i b}, ν i = some b → ν2 i = some b := fun {i b} h => by simp only [ν2, h]
  have n2new : ∀ {j : Nat}, j < nw.length → ν2 (base + j) = ν' (keep.length + j) := fun {j} hj => by
    have h0 := hfree j hj
    have h1 : ν2 (base + j) = if base ≤ base + j ∧ base + j < base + nw.length then ν' (keep.length + (base + j - base)) else none := by
      show (match ν (base + j) with | some b => some b | none => if base ≤ base + j ∧ base + j < base + nw.length then ν' (keep.length + (base + j - base)) else none) = _
      rw [h0]
    rw [h1, if_pos ⟨by omega, by omega⟩, Nat.add_sub_cancel_left]
  have mp : ∀ i i' b, bkK keep (roL ros H1) base i = some i' → ν' i = some b → ν2 i' = some b := by
    intro i i' b h1 h2
    unfold bkK at h1
    cases hc : Nat.blt i keep.length with
    | true =>
      rw [hc, cond_true] at h1
      cases hw : ((roL ros H1).getD i .gone).live with
      | false => rw [hw] at h1; cases h1
      | true =>
        rw [hw, cond_true] at h1
        obtain ⟨b0, hb0⟩ := liveNu hw
        have := hle _ _ hb0
        rw [h2] at this
        cases this
        rw [nuAt h1] at hb0
        exact n2old hb0
    | false =>
      rw [hc, cond_false, Option.some.injEq] at h1
      subst h1
      have hge : ¬ i < keep.length := fun hl => by rw [← Nat.blt_eq] at hl; rw [hl] at hc; cases hc
      have hd := hdom' i b h2
      have e : i = keep.length + (i - keep.length) := by omega
      rw [n2new (by rw [hln]; omega), ← e]
      exact h2
  have outBR : ∀ {j : Nat} {o : AB}, hr.out[j]? = some o → BR ν' j o w' := by
    intro j o hj
    have := hRH2.br j
    have hjl : j < hr.out.length := (List.getElem?_eq_some_iff.1 hj).1
    simp only [List.getD_eq_getElem?_getD, List.getElem?_append_left hjl, hj, Option.getD_some] at this
    exact this
  have newAt : ∀ {j : Nat} {o : AB}, hr.new[j]? = some o → (hr.out ++ hr.new).getD (keep.length + j) .gone = o := by
    intro j o hj
    rw [List.getD_eq_getElem?_getD, List.getElem?_append_right (by omega)]
    have : keep.length + j - hr.out.length = j := by omega
    rw [this, hj]
    rfl
  refine ⟨vv, ν2, rfl, ⟨fun i b hb => n2old hb, fun i h1 h2 => ?_, hvr.map mp hval, fun i b hl => ?_, fun j b hj => ?_, hfr.os, hfr.tape, hfr.output, hfr.size, fun k hk hne => ?_, fun j b hj hb => ?_, fun j j' b b' hne hj hj' hb hb' => ?_⟩⟩
  · simp only [ν2, h1] at h2
    split at h2
    · assumption
    · exact (h2 rfl).elim
  · obtain ⟨j, hh, e1, e2, e3, e4⟩ := putH_mem (lookB_mem hl)
    have hw : ((roL ros H1).getD j .gone).wr = true := by simp only [List.getD_eq_getElem?_getD, e2, Option.getD_some]; exact e4
    obtain ⟨o, o', g1, g2, g3, _⟩ := inPut e1 hw
    rw [e3] at g2
    cases g2
    obtain ⟨b0, hb0⟩ := wrNu hw
    have e5 : ν2 i = ν' j := by
      rw [hle _ _ hb0]
      rw [nuAt e1] at hb0
      exact n2old hb0
    exact (outBR g1).map mp e5 g3
  · have hjl : j < nw.length := (List.getElem?_eq_some_iff.1 hj).1
    have hn : hr.new[j]? = some (hr.new[j]'(by omega)) := List.getElem?_eq_getElem _
    obtain ⟨b', e1, e2⟩ := hgn j _ hn
    rw [hj] at e1
    cases e1
    have : BR ν' (keep.length + j) ((hr.out ++ hr.new).getD (keep.length + j) .gone) w' := hRH2.br (keep.length + j)
    rw [newAt hn] at this
    exact this.map mp (n2new hjl) e2
  · refine hfr.block k hk fun hM => ?_
    rcases hM with hM | ⟨j, b, hw, hb, e⟩
    · omega
    · obtain ⟨i, hi, e1⟩ := ofNu hb
      obtain ⟨_, o', _, _, _, hp⟩ := inPut hi hw
      exact hne _ b hp e1 e
  · have hj : j < nw.length := hj
    rw [n2new hj] at hb
    refine ⟨hRH2.lt _ _ hb, ?_⟩
    have hn : hr.new[j]? = some (hr.new[j]'(by omega)) := List.getElem?_eq_getElem _
    have hwn : ((hr.out ++ hr.new).getD (keep.length + j) .gone).wr = true := by
      rw [newAt hn]
      exact hnewwr _ (List.mem_of_getElem? hn)
    rcases hRH2.own _ b hwn hb with hM | ⟨i, b0, hw, hb0, e⟩
    · exact .inl hM
    · right
      obtain ⟨i', hi, e1⟩ := ofNu hb0
      obtain ⟨o, o', g1, g2, g3, hp⟩ := inPut hi hw
      obtain ⟨o2, hl2⟩ := lookB_of hp
      refine ⟨i', b0, ?_, e1, e⟩
      have hil : i < keep.length := (List.getElem?_eq_some_iff.1 hi).1
      have hgone : o = .gone := by
        cases hlv : o.live with
        | false => cases o <;> first | rfl | cases hlv
        | true =>
          have e3 : (hr.out ++ hr.new).getD i .gone = o := by
            rw [List.getD_eq_getElem?_getD, List.getElem?_append_left (by omega), g1]
            rfl
          exact (hRH2.sep (keep.length + j) i b b0 (by omega) hwn (by rw [e3]; exact hlv) hb (hle _ _ hb0) e.symm).elim
      subst hgone
      have ho' := (mapB_marks g3).2.2 rfl
      subst ho'
      obtain ⟨j2, h2, f1, f2, f3, f4⟩ := putH_mem (lookB_mem hl2)
      have : j2 = i := nodupB_ne hnd j2 i i' f1 hi
      subst this
      rw [g2] at f3
      cases f3
      exact hl2
  · have hj : j < nw.length := hj
    have hj' : j' < nw.length := hj'
    rw [n2new hj] at hb
    rw [n2new hj'] at hb'
    have hn : hr.new[j]? = some (hr.new[j]'(by omega)) := List.getElem?_eq_getElem _
    have hn' : hr.new[j']? = some (hr.new[j']'(by omega)) := List.getElem?_eq_getElem _
    have w1 : ((hr.out ++ hr.new).getD (keep.length + j) .gone).wr = true := by
      rw [newAt hn]
      exact hnewwr _ (List.mem_of_getElem? hn)
    have w2 : ((hr.out ++ hr.new).getD (keep.length + j') .gone).live = true := by
      rw [newAt hn']
      have := hnewwr _ (List.mem_of_getElem? hn')
      revert this
      cases hr.new[j']'(by omega) <;> simp [AB.wr, AB.live]
    exact hRH2.sep (keep.length + j) (keep.length + j') b b' (by omega) w1 w2 hb hb'

theorem specK_okG {f : FuncId} {fn : Func} {ros : List Bool} {F : List AV → List AB → Option HR} (hf : Try.prog.funcs[f]? = some fn) (hb : fn.body.isSome = true)
    (h : ∀ avs H hr, F avs H = some hr → obls hr.obl = true → ∃ (Γ : Gam) (H0 : List AB) (Λ : Nat → Option Sum) (n : Nat), GamOk Try.prog Γ ∧ Hsim H H0 ∧ (∀ c, fn.body = some c → LamOk Try.prog H0.length Λ c) ∧ GoodQ (execF Try.prog Γ Λ n fn avs H0 (packK H0.length)) (GivH hr)) : SpecOk Try.prog f (specK ros F) :=
  specK_wk hf hb fun avs H hr hF ho => by
    obtain ⟨Γ, H0, Λ, n, h0, h1, h2, h3⟩ := h avs H hr hF ho
    exact ⟨Γ, H0, Λ, n, h0, h1, h2, ⟨res_mono (fun e l He ⟨h4, h5⟩ => ⟨_, h4, fun _ _ _ _ _ hv => hv, h5⟩) h3.out⟩⟩
theorem specK_ok {Γ : Gam} (hΓ : GamOk Try.prog Γ) {f : FuncId} {fn : Func} {ros : List Bool} {F : List AV → List AB → Option HR} (hf : Try.prog.funcs[f]? = some fn) (hb : fn.body.isSome = true)
    (h : ∀ avs H hr, F avs H = some hr → obls hr.obl = true → ∃ (H0 : List AB) (Λ : Nat → Option Sum) (n : Nat), Hsim H H0 ∧ (∀ c, fn.body = some c → LamOk Try.prog H0.length Λ c) ∧ GoodQ (execF Try.prog Γ Λ n fn avs H0 (packK H0.length)) (GivH hr)) : SpecOk Try.prog f (specK ros F) :=
  specK_okG hf hb fun avs H hr hF ho => let ⟨H0, Λ, n, h1, h2, h3⟩ := h avs H hr hF ho; ⟨Γ, H0, Λ, n, hΓ, h1, h2, h3⟩

end Go.Proofs.Ytoligfhcogligaa

/- A reader of bytes: pick, its tree. -/
namespace Go.Proofs.Ytoligfhcogligaa
open Go.RowKit
set_option maxRecDepth 100000

abbrev rowB (b : Nat → Int) : Nat → List Value := fun j => [.int .u8 (b j)]
abbrev hpRd (l : Nat) (c : Option Nat) (p : Int) (m : Nat) (b : Nat → Int) (tr tb : TypeId) : List AB := [.cells [.sl 1 1 0 0 l c, .v (i64 p)] tr, .row false m 1 (rowB b) tb]
theorem treePk (l : Nat) (c : Option Nat) (p : Int) (m : Nat) (b : Nat → Int) (tr tb : TypeId) (n : Int) : execF Try.prog g0 noLam 100 Try.f86 [.ptr 0 0 0 0, .v (i64 n)] (hpRd l c p m b tr tb) (packK 2)
    = bif decide (n < (1 : Int)) then Res.out Ex.ret [AV.v (Value.int IntKind.i64 (0 : Int))] [AB.cells [AV.sl (1 : Nat) (1 : Nat) (0 : Nat) (0 : Nat) l c, AV.v (Value.int IntKind.i64 (IntKind.wrap IntKind.i64 (p + (1 : Int))))] tr, AB.row false m (1 : Nat) (rowB b) tb] else bif (↑l : Int) == (0 : Int) then Res.out Ex.ret [AV.v (Value.int IntKind.i64 (0 : Int))] [AB.cells [AV.sl (1 : Nat) (1 : Nat) (0 : Nat) (0 : Nat) l c, AV.v (Value.int IntKind.i64 (IntKind.wrap IntKind.i64 (p + (1 : Int))))] tr, AB.row false m (1 : Nat) (rowB b) tb] else bif decide (IntKind.wrap IntKind.i64 (IntKind.wrap IntKind.i64 (p + (1 : Int)) - (1 : Int)) < (↑l : Int)) then needs [decide ((0 : Int) ≤ IntKind.wrap IntKind.i64 (IntKind.wrap IntKind.i64 (p + (1 : Int)) - (1 : Int))), decide (IntKind.wrap IntKind.i64 (IntKind.wrap IntKind.i64 (p + (1 : Int)) - (1 : Int)) < (↑l : Int)), decide ((0 : Nat) + Int.toNat (IntKind.wrap IntKind.i64 (IntKind.wrap IntKind.i64 (p + (1 : Int)) - (1 : Int))) < m), !decide (n = (0 : Int))] (Res.out Ex.ret [AV.v (Value.int IntKind.i64 (Int.tmod (IntKind.wrap IntKind.i64 (b ((0 : Nat) + Int.toNat (IntKind.wrap IntKind.i64 (IntKind.wrap IntKind.i64 (p + (1 : Int)) - (1 : Int)))))) n))] [AB.cells [AV.sl (1 : Nat) (1 : Nat) (0 : Nat) (0 : Nat) l c, AV.v (Value.int IntKind.i64 (IntKind.wrap IntKind.i64 (p + (1 : Int))))] tr, AB.row false m (1 : Nat) (rowB b) tb]) else needs [!decide ((↑l : Int) = (0 : Int)), decide ((0 : Int) ≤ Int.tmod (IntKind.wrap IntKind.i64 (IntKind.wrap IntKind.i64 (p + (1 : Int)) - (1 : Int))) (↑l : Int)), decide (Int.tmod (IntKind.wrap IntKind.i64 (IntKind.wrap IntKind.i64 (p + (1 : Int)) - (1 : Int))) (↑l : Int) < (↑l : Int)), decide ((0 : Nat) + Int.toNat (Int.tmod (IntKind.wrap IntKind.i64 (IntKind.wrap IntKind.i64 (p + (1 : Int)) - (1 : Int))) (↑l : Int)) < m), !decide ((↑l : Int) = (0 : Int)), decide ((0 : Int) ≤ Int.tmod (IntKind.wrap IntKind.i64 (IntKind.wrap IntKind.i64 (IntKind.wrap IntKind.i64 (IntKind.wrap IntKind.i64 (p + (1 : Int)) - (1 : Int)) * (7 : Int)) + (3 : Int))) (↑l : Int)), decide (Int.tmod (IntKind.wrap IntKind.i64 (IntKind.wrap IntKind.i64 (IntKind.wrap IntKind.i64 (IntKind.wrap IntKind.i64 (p + (1 : Int)) - (1 : Int)) * (7 : Int)) + (3 : Int))) (↑l : Int) < (↑l : Int)), decide ((0 : Nat) + Int.toNat (Int.tmod (IntKind.wrap IntKind.i64 (IntKind.wrap IntKind.i64 (IntKind.wrap IntKind.i64 (IntKind.wrap IntKind.i64 (p + (1 : Int)) - (1 : Int)) * (7 : Int)) + (3 : Int))) (↑l : Int)) < m), !decide ((↑l : Int) = (0 : Int)), !decide (n = (0 : Int))] (Res.out Ex.ret [AV.v (Value.int IntKind.i64 (Int.tmod (IntKind.wrap IntKind.i64 (↑(BitVec.toNat (BitVec.ofInt (64 : Nat) (IntKind.wrap IntKind.i64 (IntKind.wrap IntKind.i64 (IntKind.wrap IntKind.i64 (IntKind.wrap IntKind.i64 (IntKind.wrap IntKind.i64 (b ((0 : Nat) + Int.toNat (Int.tmod (IntKind.wrap IntKind.i64 (IntKind.wrap IntKind.i64 (p + (1 : Int)) - (1 : Int))) (↑l : Int)))) * (131 : Int)) + IntKind.wrap IntKind.i64 (IntKind.wrap IntKind.i64 (b ((0 : Nat) + Int.toNat (Int.tmod (IntKind.wrap IntKind.i64 (IntKind.wrap IntKind.i64 (IntKind.wrap IntKind.i64 (IntKind.wrap IntKind.i64 (p + (1 : Int)) - (1 : Int)) * (7 : Int)) + (3 : Int))) (↑l : Int)))) * (1117 : Int))) + IntKind.wrap IntKind.i64 (IntKind.wrap IntKind.i64 (IntKind.wrap IntKind.i64 (p + (1 : Int)) - (1 : Int)) * (29 : Int))) + IntKind.wrap IntKind.i64 (IntKind.wrap IntKind.i64 (Int.tdiv (IntKind.wrap IntKind.i64 (IntKind.wrap IntKind.i64 (p + (1 : Int)) - (1 : Int))) (↑l : Int)) * (53 : Int)))) ^^^ BitVec.ofInt (64 : Nat) (IntKind.wrap IntKind.i64 (Int.tdiv (IntKind.wrap IntKind.i64 (IntKind.wrap IntKind.i64 (IntKind.wrap IntKind.i64 (IntKind.wrap IntKind.i64 (IntKind.wrap IntKind.i64 (b ((0 : Nat) + Int.toNat (Int.tmod (IntKind.wrap IntKind.i64 (IntKind.wrap IntKind.i64 (p + (1 : Int)) - (1 : Int))) (↑l : Int)))) * (131 : Int)) + IntKind.wrap IntKind.i64 (IntKind.wrap IntKind.i64 (b ((0 : Nat) + Int.toNat (Int.tmod (IntKind.wrap IntKind.i64 (IntKind.wrap IntKind.i64 (IntKind.wrap IntKind.i64 (IntKind.wrap IntKind.i64 (p + (1 : Int)) - (1 : Int)) * (7 : Int)) + (3 : Int))) (↑l : Int)))) * (1117 : Int))) + IntKind.wrap IntKind.i64 (IntKind.wrap IntKind.i64 (IntKind.wrap IntKind.i64 (p + (1 : Int)) - (1 : Int)) * (29 : Int))) + IntKind.wrap IntKind.i64 (IntKind.wrap IntKind.i64 (Int.tdiv (IntKind.wrap IntKind.i64 (IntKind.wrap IntKind.i64 (p + (1 : Int)) - (1 : Int))) (↑l : Int)) * (53 : Int)))) (64 : Int))))) : Int)) n))] [AB.cells [AV.sl (1 : Nat) (1 : Nat) (0 : Nat) (0 : Nat) l c, AV.v (Value.int IntKind.i64 (IntKind.wrap IntKind.i64 (p + (1 : Int))))] tr, AB.row false m (1 : Nat) (rowB b) tb]) := by kernel_rfl

end Go.Proofs.Ytoligfhcogligaa

/- A reader of bytes: what pick returns. Conditions: bytes; the reader's place is at most 2^30. -/
namespace Go.Proofs.Ytoligfhcogligaa
open Go.RowKit
set_option maxRecDepth 100000

def isB : List Value → Bool
  | [.int .u8 x] => inR x 0 255
  | _ => false
def u8Of : Value → Int
  | .int .u8 x => x
  | _ => 0
def itB (g : Nat → List Value) : Nat → Int := fun j => u8Of ((g j).getD 0 undef)
def okB (m : Nat) (g : Nat → List Value) : Bool := (List.range m).all fun j => isB (g j)
theorem okB_get {m : Nat} {g : Nat → List Value} (h : okB m g = true) {j : Nat} (hj : j < m) : g j = rowB (itB g) j ∧ 0 ≤ itB g j ∧ itB g j ≤ 255 := by
  have h1 := List.all_eq_true.1 h j (by simpa using hj)
  unfold isB at h1
  unfold rowB itB
  split at h1
  · rename_i x e
    rw [e]
    have e2 : u8Of ([Value.int .u8 x].getD 0 undef) = x := rfl
    rw [e2]
    unfold inR at h1
    simp only [Bool.and_eq_true, decide_eq_true_eq] at h1
    exact ⟨rfl, h1.1, h1.2⟩
  · cases h1
theorem itB_row (b : Nat → Int) : itB (rowB b) = b := rfl

def pkX (l : Nat) (b : Nat → Int) (p : Int) : Int :=
  W (W (W (W (W (b (0 + (Int.tmod p l).toNat)) * 131) + W (W (b (0 + (Int.tmod (W (W (p * 7) + 3)) l).toNat)) * 1117)) + W (p * 29)) + W (W (Int.tdiv p l) * 53))
def pkY (x : Int) : Int := W ((BitVec.ofInt 64 x ^^^ BitVec.ofInt 64 (W (Int.tdiv x 64))).toNat)
def pkR (l : Nat) (b : Nat → Int) (p n : Int) : Int :=
  bif decide (n < 1) then 0 else bif (l : Int) == 0 then 0 else bif decide (p < l) then Int.tmod (W (b (0 + p.toNat))) n else Int.tmod (pkY (pkX l b p)) n
/-- What is picked: always in its bounds. -/
def pkV (l : Nat) (b : Nat → Int) (p n : Int) : Int := if 0 ≤ pkR l b p n ∧ pkR l b p n < n then pkR l b p n else 0
theorem pkV_nn (l : Nat) (b : Nat → Int) (p n : Int) : 0 ≤ pkV l b p n := by unfold pkV; split <;> omega
theorem pkV_lt (l : Nat) (b : Nat → Int) (p : Int) {n : Int} (h : 1 ≤ n) : pkV l b p n < n := by unfold pkV; split <;> omega
theorem pkY_nn {x : Int} (h0 : 0 ≤ x) (h1 : x < 2 ^ 62) : 0 ≤ pkY x := by
  unfold pkY
  have e : W (Int.tdiv x 64) = x / 64 := by
    rw [Int.tdiv_eq_ediv_of_nonneg h0]
    exact w64_in (by omega) (by omega)
  rw [e, BitVec.toNat_xor, BitVec.toNat_ofInt, BitVec.toNat_ofInt]
  have : (x % (2 ^ 64 : Nat)).toNat ^^^ (x / 64 % (2 ^ 64 : Nat)).toNat < 2 ^ 62 := Nat.xor_lt_two_pow (by omega) (by omega)
  rw [w64_in (by omega) (by omega)]
  omega
theorem tmod_in {x : Int} {l : Nat} (h : 0 ≤ x) (hl : l ≠ 0) : 0 ≤ Int.tmod x l ∧ Int.tmod x l < l := by
  have : (0 : Int) < l := by omega
  exact ⟨Int.tmod_nonneg _ h, Int.tmod_lt_of_pos _ this⟩
theorem pkX_in {l m : Nat} {b : Nat → Int} {p : Int} (hb : ∀ j, j < m → 0 ≤ b j ∧ b j ≤ 255) (hl : l ≤ m) (hl0 : l ≠ 0) (h0 : 0 ≤ p) (h1 : p ≤ 2 ^ 30) : 0 ≤ pkX l b p ∧ pkX l b p < 2 ^ 62 := by
  have a1 := tmod_in h0 hl0
  have e1 : W (W (p * 7) + 3) = p * 7 + 3 := by rw [w64_in (x := p * 7) (by omega) (by omega), w64_in (by omega) (by omega)]
  have a2 := tmod_in (x := p * 7 + 3) (by omega) hl0
  have b1 := hb (0 + (Int.tmod p l).toNat) (by omega)
  have b2 := hb (0 + (Int.tmod (p * 7 + 3) l).toNat) (by omega)
  have a3 : 0 ≤ Int.tdiv p l := Int.tdiv_nonneg h0 (by omega)
  have a4 : Int.tdiv p l ≤ p := by
    rw [Int.tdiv_eq_ediv_of_nonneg h0]
    exact Int.ediv_le_self _ h0
  unfold pkX
  rw [e1]
  generalize b (0 + (Int.tmod p l).toNat) = x1 at b1
  generalize b (0 + (Int.tmod (p * 7 + 3) l).toNat) = x2 at b2
  generalize Int.tdiv p l = x3 at a3 a4
  rw [w64_in (x := x1) (by omega) (by omega), w64_in (x := x2) (by omega) (by omega), w64_in (x := x3) (by omega) (by omega), w64_in (x := x1 * 131) (by omega) (by omega), w64_in (x := x2 * 1117) (by omega) (by omega), w64_in (x := x3 * 53) (by omega) (by omega), w64_in (x := p * 29) (by omega) (by omega), w64_in (x := x1 * 131 + x2 * 1117) (by omega) (by omega), w64_in (x := x1 * 131 + x2 * 1117 + p * 29) (by omega) (by omega), w64_in (by omega) (by omega)]
  omega
theorem pkV_eq {l m : Nat} {b : Nat → Int} {p n : Int} (hb : ∀ j, j < m → 0 ≤ b j ∧ b j ≤ 255) (hl : l ≤ m) (h0 : 0 ≤ p) (h1 : p ≤ 2 ^ 30) : pkV l b p n = pkR l b p n := by
  have : pkR l b p n = 0 ∨ 0 ≤ pkR l b p n ∧ pkR l b p n < n := by
    unfold pkR
    by_cases c1 : n < 1
    · rw [decide_eq_true c1]; exact .inl rfl
    · rw [decide_eq_false c1, cond_false]
      by_cases c2 : (l : Int) = 0
      · rw [beq_iff_eq.2 c2]; exact .inl rfl
      · rw [beq_eq_false_iff_ne.2 c2, cond_false]
        by_cases c3 : p < l
        · rw [decide_eq_true c3, cond_true]
          have b1 := hb (0 + p.toNat) (by omega)
          rw [w64_in (by omega) (by omega)]
          exact .inr ⟨Int.tmod_nonneg _ b1.1, Int.tmod_lt_of_pos _ (by omega)⟩
        · rw [decide_eq_false c3, cond_false]
          have := pkX_in hb hl (by omega) h0 h1
          exact .inr ⟨Int.tmod_nonneg _ (pkY_nn this.1 this.2), Int.tmod_lt_of_pos _ (by omega)⟩
  unfold pkV
  split
  · rfl
  · omega

theorem ABeq.trans' {a b c : AB} (h1 : ABeq a b) (h2 : ABeq b c) : ABeq a c := by
  cases a with
  | row rw n w g t =>
    obtain ⟨n', g', rfl, hn, hg⟩ := h1
    obtain ⟨n2, g2, rfl, hn2, hg2⟩ := h2
    exact ⟨n2, g2, rfl, Nat.le_trans hn2 hn, fun j hj => (hg j (by omega)).trans (hg2 j hj)⟩
  | cells => cases h1; exact h2
  | gone => cases h1; exact h2
def FpkO (pk : Nat → (Nat → Int) → Int → Int → Int) : List AV → List AB → Option HR
  | [.ptr 0 0 0 0, .v (.int .i64 n)], [.cells [.sl 1 1 0 0 l c, .v (.int .i64 p)] tr, .row false m 1 g tb] => some { val := .v (.int .i64 (pk l (itB g) p n)), out := [.cells [.sl 1 1 0 0 l c, .v (.int .i64 (p + 1))] tr, .row false m 1 g tb], obl := [okB m g, decide (l ≤ m), decide (0 ≤ p), decide (p ≤ 2 ^ 30)] }
  | _, _ => none
theorem pick_good {l m : Nat} {c : Option Nat} {p : Int} {b : Nat → Int} {tr tb : TypeId} (n : Int) (hb : ∀ j, j < m → 0 ≤ b j ∧ b j ≤ 255) (h2 : l ≤ m) (h3 : 0 ≤ p) (h4 : p ≤ 2 ^ 30) :
    GoodQ (execF Try.prog g0 noLam 100 Try.f86 [.ptr 0 0 0 0, .v (i64 n)] (hpRd l c p m b tr tb) (packK 2)) (fun _ vs He => vs = [.v (i64 (pkV l b p n))] ∧ Hsim He (hpRd l c (p + 1) m b tr tb)) := by
  have e0 : IntKind.wrap IntKind.i64 (p + 1) = p + 1 := wr_in (by omega)
  have e1 : IntKind.wrap IntKind.i64 (p + 1 - 1) = p := by rw [wr_in (by omega)]; omega
  rw [treePk]
  simp only [e0, e1]
  have hv := pkV_eq (n := n) hb h2 h3 h4
  have key : ∀ x, pkR l b p n = x → [AV.v (.int .i64 x)] = [AV.v (i64 (pkV l b p n))] ∧ Hsim (hpRd l c (p + 1) m b tr tb) (hpRd l c (p + 1) m b tr tb) := by
    intro x hx
    exact ⟨by rw [hv, hx], Hsim.refl _⟩
  by_cases c1 : n < 1
  · refine good_true (decide_eq_true c1) (good_out (key _ ?_))
    rw [pkR, decide_eq_true c1]; rfl
  · refine good_false (decide_eq_false c1) ?_
    by_cases c2 : (l : Int) = 0
    · refine good_true (beq_iff_eq.2 c2) (good_out (key _ ?_))
      rw [pkR, decide_eq_false c1, beq_iff_eq.2 c2]; rfl
    · refine good_false (beq_eq_false_iff_ne.2 c2) ?_
      by_cases c3 : p < l
      · refine good_true (decide_eq_true c3) (good_needs ?_ (good_out (key _ ?_)))
        · simp only [ob_cons, ob_nil, and_true, decide_eq_true_eq, Bool.not_eq_true', decide_eq_false_iff_not]
          omega
        · rw [pkR, decide_eq_false c1, beq_eq_false_iff_ne.2 c2, decide_eq_true c3]; rfl
      · have e2 : IntKind.wrap IntKind.i64 (IntKind.wrap IntKind.i64 (p * 7) + 3) = p * 7 + 3 := by rw [wr_in (x := p * 7) (by omega), wr_in (by omega)]
        have a1 := tmod_in h3 (l := l) (by omega)
        have a2 := tmod_in (x := p * 7 + 3) (by omega) (l := l) (by omega)
        refine good_false (decide_eq_false c3) (good_needs ?_ (good_out (key _ ?_)))
        · simp only [ob_cons, ob_nil, and_true, decide_eq_true_eq, Bool.not_eq_true', decide_eq_false_iff_not, e2]
          omega
        · rw [pkR, decide_eq_false c1, beq_eq_false_iff_ne.2 c2, decide_eq_false c3]; rfl
theorem rd_sim {l m : Nat} {c : Option Nat} {p : Int} {tr tb : TypeId} {g : Nat → List Value} (h : okB m g = true) : Hsim [.cells [.sl 1 1 0 0 l c, .v (.int .i64 p)] tr, .row false m 1 g tb] (hpRd l c p m (itB g) tr tb) := .cons (ABeq.refl _) (.cons (ABeq.row fun _ hj => (okB_get h hj).1) .nil)
theorem rd_sim' {l m : Nat} {c : Option Nat} {p : Int} {tr tb : TypeId} {g : Nat → List Value} (h : okB m g = true) : Hsim (hpRd l c p m (itB g) tr tb) [.cells [.sl 1 1 0 0 l c, .v (.int .i64 p)] tr, .row false m 1 g tb] := .cons (ABeq.refl _) (.cons (ABeq.row fun _ hj => (okB_get h hj).1.symm) .nil)
theorem Hsim.trans' : ∀ {H H' H'' : List AB}, Hsim H H' → Hsim H' H'' → Hsim H H''
  | _, _, _, .nil, .nil => .nil
  | _, _, _, .cons h1 t1, .cons h2 t2 => .cons (ABeq.trans' h1 h2) (Hsim.trans' t1 t2)
theorem ok_pick : SpecOk Try.prog 86 (specK [] (FpkO pkV)) := by
  refine specK_ok g0_ok Try.func86 rfl fun avs H hr hF ho => ?_
  unfold FpkO at hF
  split at hF
  · rename_i n l c p tr m g tb
    cases hF
    simp only [ob_cons, decide_eq_true_eq] at ho
    obtain ⟨h1, h2, h3, h4, _⟩ := ho
    refine ⟨hpRd l c p m (itB g) tr tb, noLam, 100, rd_sim h1, noLam' _, ⟨res_mono (fun e vs He hq => ?_) (pick_good n (fun j hj => (okB_get h1 hj).2) h2 h3 h4).out⟩⟩
    exact ⟨hq.1, hq.2.trans' (rd_sim' h1)⟩
  · cases hF

/-- pick, where what it picks of N is told. -/
def FpkJ (pk : Nat → (Nat → Int) → Int → Int → Int) (N q : Int) : List AV → List AB → Option HR
  | [.ptr 0 0 0 0, .v (.int .i64 n)], [.cells [.sl 1 1 0 0 l c, .v (.int .i64 p)] tr, .row false m 1 g tb] => some { val := .v (.int .i64 (bif n == N then q else pk l (itB g) p n)), out := [.cells [.sl 1 1 0 0 l c, .v (.int .i64 (p + 1))] tr, .row false m 1 g tb], obl := [okB m g, decide (l ≤ m), decide (0 ≤ p), decide (p ≤ 2 ^ 30), bif n == N then decide (pk l (itB g) p n = q) else true] }
  | _, _ => none
theorem ok_pickJ (N q : Int) : SpecOk Try.prog 86 (specK [] (FpkJ pkV N q)) := by
  refine specK_ok g0_ok Try.func86 rfl fun avs H hr hF ho => ?_
  unfold FpkJ at hF
  split at hF
  · rename_i n l c p tr m g tb
    cases hF
    simp only [ob_cons, decide_eq_true_eq] at ho
    obtain ⟨h1, h2, h3, h4, h5, _⟩ := ho
    refine ⟨hpRd l c p m (itB g) tr tb, noLam, 100, rd_sim h1, noLam' _, ⟨res_mono (fun e vs He hq => ?_) (pick_good n (fun j hj => (okB_get h1 hj).2) h2 h3 h4).out⟩⟩
    refine ⟨hq.1.trans ?_, hq.2.trans' (rd_sim' h1)⟩
    show [AV.v (i64 (pkV l (itB g) p n))] = [AV.v (.int .i64 (bif n == N then q else pkV l (itB g) p n))]
    cases hn : (n == N) with
    | false => rfl
    | true =>
      rw [hn, cond_true, decide_eq_true_eq] at h5
      rw [h5]; rfl
  · cases hF

end Go.Proofs.Ytoligfhcogligaa

/- The frame of a law over bytes. No conditions. -/
namespace Go.Proofs.Ytoligfhcogligaa
open Go.ChangeShapes Go.WideShapes Go.ChangeAt Go.RowKit Go.Deep
set_option maxRecDepth 100000

theorem okB_row {m : Nat} {b : Nat → Int} (h : ∀ j, j < m → 0 ≤ b j ∧ b j ≤ 255) : okB m (rowB b) = true := List.all_eq_true.2 fun j hj => by
  have := h j (by simpa using hj)
  show inR (b j) 0 255 = true
  exact inR_iff.2 this
section
variable {H : Type} {enc : TypeId × Value → H} {W : World}
theorem byte_elem (n : Nat) (cs : List Value) (x : DataW H × List MemPlace) (_ : cs.length = 1) (h : DataW.trod enc Try.prog W 0 (fun _ => true) true n 5 cs = some x) :
    ∃ f : Nat → Int, (0 ≤ f 0 ∧ f 0 ≤ 255) ∧ cs = [.int .u8 (f 0)] := by
  obtain ⟨k, e, _, hw⟩ := DataW.trod_int Try.underlying5 h
  unfold Lit.wf at hw
  rw [Bool.and_eq_true, decide_eq_true_eq, decide_eq_true_eq] at hw
  exact ⟨fun _ => k, hw, e⟩
end

/-- A law over bytes: what it comes to, whatever came in. -/
theorem contractB {f : FuncId} {fn : Func} {spec : ChangeSpec} (hf : Try.prog.funcs[f]? = some fn) (hp : fn.params = #[22]) (hr : fn.resultTypes = #[4]) (hvars : spec.vars = []) (hspec : ∀ (H : Type) (d : DataW H), spec.fn H [d] = { results := [.lit (.bool true)], args := [d] })
    (yes : ∀ (m : Nat) (b : Nat → Int), m ≤ 9223372036854775807 → okB m (rowB b) = true → ∃ Γ n Λ, GamOk Try.prog Γ ∧ (∀ cc, fn.body = some cc → LamOk Try.prog 1 Λ cc) ∧ GoodQ (execF Try.prog Γ Λ n fn [.sl 0 1 0 0 m none] [.row false m 1 (rowB b) 5] (packK 1)) SaysYes)
    (H : Type) (enc : TypeId × Value → H) (W : World) (base : Nat) (args : Array Value) (ds gs : List (DataW H)) (before : List MemPlace)
    (hval : ∀ (j : Nat) t v, fn.params[j]? = some t → args[j]? = some v → Value.okWide Try.prog W .any base t v)
    (hW : DataW.Whole enc Try.prog fn.params.toList spec.vars false W args.toList ds gs before) :
    Calls Try.prog f args W fun e W' => ∃ v, e = .returned v ∧ spec.post enc Try.prog fn false true false false W args v W' := by
  have hW' := hW
  obtain ⟨p, q, hA0, hV, rfl, hfz, hnd⟩ := hW
  have hA : DataW.TrodAll enc Try.prog W 0 (fun _ => true) true fn.params.toList args.toList ds p := hA0
  rw [hp] at hA hval
  rw [hvars] at hV
  obtain ⟨v0, vs0, d0, ds0, p0, q0, hargs, rfl, rfl, h0, r0⟩ := trodAll_cons hA
  obtain ⟨rfl, rfl, rfl⟩ := trodAll_nil r0
  obtain rfl : args = #[v0] := by cases args; simp_all
  obtain ⟨rfl, rfl⟩ := trodVars_none hV
  clear hA0 hA r0
  obtain ⟨m, ν, g, hm, hok, hvr, hRH, hdom⟩ := arg_row (H := H) Try.underlying22 (s := 1) (by kernel_rfl) Nat.one_pos (hval 0 22 v0 rfl rfl) h0 (fun f => [.int .u8 (f 0)]) (fun f => 0 ≤ f 0 ∧ f 0 ≤ 255) (fun f => ⟨rfl, by simp [Value.oneCell']⟩) byte_elem 5
  obtain ⟨Γ, n, Λ, hΓ, hΛ, hgood⟩ := yes m (fun j => g j 0) hm (okB_row hok)
  have hcall := yes_calls hΓ (n := n) (vals := [v0]) (w := W) hf (Λ := Λ) (H := [.row false m 1 (rowB fun j => g j 0) 5]) hΛ hgood (by simp only [VRs, and_true]; exact hvr) hRH hdom
  refine hcall.mono fun e W' ⟨he, hb⟩ => ?_
  subst he
  have hlt : ∀ x ∈ p0, x.block < W.heap.size := fun x hx => by simpa using hW'.lt x (by simpa using hx)
  refine ⟨_, rfl, post_below (pa := p0) (pv := []) hW' ?_ ?_ ?_ (by simp) hb ?_⟩
  · intro b sp hd
    rw [hr]
    simp only [List.append_nil, hspec]
    exact trodAll_cons_mk (shut_bool Try.underlying4 _) trodAll_mk0
  · intro sp hsp
    rw [hp]
    simp only [List.append_nil, hspec]
    refine trodAll_mk1 (WideElems.Trod_stays laidOut (by kernel_rfl) (of_decide_eq_true (by kernel_rfl)) h0 (fun x hx => hb.same (hlt x hx)) fun x hx => hsp x (by simpa using hx))
  · intro sp _
    rw [hvars]
    simp only [List.append_nil, hspec]
    rfl
  · exact ok_one hr rfl (okWide_bool_mk Try.underlying4 _)

end Go.Proofs.Ytoligfhcogligaa
