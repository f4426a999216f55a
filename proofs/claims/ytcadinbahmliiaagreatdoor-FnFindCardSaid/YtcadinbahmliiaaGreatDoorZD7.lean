/- The frames of laws over a list of entries. No conditions. -/
import Derived.Test.YtcadinbahmliiaaGreatDoorZD0
import Derived.Test.YtcadinbahmliiaaGreatDoorZD1
import Derived.Test.YtcadinbahmliiaaGreatDoorZD2
import Derived.Test.YtcadinbahmliiaaGreatDoorZD3
import Derived.Test.YtcadinbahmliiaaGreatDoorZD4
import Derived.Test.YtcadinbahmliiaaGreatDoorZD5
import Derived.Test.YtcadinbahmliiaaGreatDoorZD6
/- The function that yields the pairs of turns: its word. Conditions: none. -/
namespace Go.Proofs.YtcadinbahmliiaaGreatDoor
open Go.RowKit
set_option maxRecDepth 100000

def enP (x : Nat) : List Value := [i64 ((x / 24 : Nat) : Int), i64 ((x % 24 : Nat) : Int)]

theorem pairs_stops {nn : Nat} {w : World} {M : Nat → Prop} (htab : TabOk M w) : SeqStopsK (wideR none) nn Tryz.prog 97 #[] (fun x => (enP x).toArray) (keepR w M) (fun xs => xs = List.range 576) (fun xs => ∃ k, k ≤ 576 ∧ xs = List.range k) 576 w := by
  intro l J Jx W hW hJ hJx hY hJ0
  have ab : ∀ {s : List Nat} {A B : World}, J s A → A.grownBy B none → J s B := fun hj hg => hJ _ _ _ none hj hg fun r e => by cases e
  let HD0 : Nat → Act → World → Prop := fun i A X => A.defers = [] ∧ SR (fun k => X.heap.size ≤ k) X nu0 (sP0 l i) [] A X nu0 ∧ J (List.range (24 * i)) X ∧ keepR w M w X
  let HD2 : Nat → Nat → Act → World → Prop := fun i j A X => A.defers = [] ∧ SR (fun k => X.heap.size ≤ k) X nu0 (sP2 l i j) [] A X nu0 ∧ J (List.range (24 * i + j)) X ∧ keepR w M w X
  refine callsIn_of_wp Tryz.func97 bodyPr trivial ?_
  have hkW : keepR w M w W := ⟨hW.size, fun k o hk _ ho => (hW.block k hk).trans ho⟩
  have hvr : VRs nu0 [.v (yv l)] [yv l] := by
    simp only [VRs, VR, and_true]
  have hst := start_sr (M := fun k => W.heap.size ≤ k) (w := W) (H := []) (fn := fPr) hvr ⟨fun _ => trivial, fun _ _ _ _ _ h => (by cases h), fun _ _ h => (by cases h), fun _ _ h => (by cases h), htab.keep hkW⟩ (fun _ _ h => by cases h)
  rw [show fPr.ntmps - [AV.v (yv l)].length = 16 from by kernel_rfl] at hst
  have fin : ∀ (A : Act) (X : World), A.defers = [] → ((J (List.range 576) X) ∨ ∃ k, k ≤ 576 ∧ Jx (List.range k) X) → bodyPost Tryz.prog fPr (fun e W' => (∃ v, e = .returned v) ∧ ((∃ xs, xs = List.range 576 ∧ J xs W') ∨ (∃ pre, (∃ k, k ≤ 576 ∧ pre = List.range k) ∧ Jx pre W'))) .ret A X := by
    intro A X hd hx
    refine ⟨hd, _, results_none rfl _ _ _, ⟨_, rfl⟩, ?_⟩
    rcases hx with hx | ⟨k, hk, hx⟩
    · exact .inl ⟨_, rfl, hx⟩
    · exact .inr ⟨_, ⟨k, hk, rfl⟩, hx⟩
  refine wpIn_seq (step0 (by kernel_rfl) (runP0 l) hst rfl fun A X hd hS hg => ?_)
  show (Code.block 0 (.loop pL0)).wpIn (wideR none) nn Tryz.prog _ A X
  refine wpIn_block (wpIn_loop (fun A X => ∃ i, i ≤ 24 ∧ HD0 i A X) (fun A _ => 24 - (intOf (A.tmps.getD 4 undef)).toNat) ⟨0, Nat.zero_le _, hd, hS, ab hJ0 hg, hkW.trans (keepR.grown hg)⟩ ?_)
  clear hd hS hg hst hvr
  have mu0 : ∀ {i : Nat} {A : Act} {X : World}, SR (fun k => X.heap.size ≤ k) X nu0 (sP0 l i) [] A X nu0 → (intOf (A.tmps.getD 4 undef)).toNat = i := by
    intro i A X h
    have := h.tmps 4
    rw [show (sP0 l i).getD 4 .dead = .v (i64 i) from by kernel_rfl] at this
    simp only [VR] at this
    rw [this]
    simp [intOf]
  have mu2 : ∀ {i j : Nat} {A : Act} {X : World}, SR (fun k => X.heap.size ≤ k) X nu0 (sP2 l i j) [] A X nu0 → (intOf (A.tmps.getD 7 undef)).toNat = j := by
    intro i j A X h
    have := h.tmps 7
    rw [show (sP2 l i j).getD 7 .dead = .v (i64 j) from by kernel_rfl] at this
    simp only [VR] at this
    rw [this]
    simp [intOf]
  rintro A X ⟨i, hi, hd, hS, hj, hkX⟩
  have hmu0 := mu0 hS
  rw [loopP0]
  refine wpIn_seq (step0 (by kernel_rfl) (runP1 l i) hS hd fun A1 X1 hd1 hS1 hg1 => ?_)
  have hj1 := ab hj hg1
  have hkX1 := hkX.trans (keepR.grown hg1)
  have hc5 : A1.eval (.tmp 5) = .bool (decide ((i : Int) < 24)) := by
    have := hS1.tmps 5
    rw [show ((sP0 l i).set 5 (.v (.bool (decide ((i : Int) < 24))))).getD 5 .dead = .v (.bool (decide ((i : Int) < 24))) from by kernel_rfl] at this
    simp only [VR] at this
    exact this
  show (Code.seq (.cond (.tmp 5) .skip (.exit 0)) _).wpIn (wideR none) nn Tryz.prog _ A1 X1
  refine wpIn_seq (wpIn_cond hc5 ?_)
  rcases (Nat.lt_or_ge i 24).symm with hge | hlt
  · rw [if_neg (by simp; omega)]
    refine wpIn_exit ?_
    have : i = 24 := by omega
    subst this
    simp only [Exit.then, Exit.inBlock, if_true]
    refine fin A1 X1 hd1 (.inl ?_)
    exact hj1
  · rw [if_pos (by simp; omega)]
    refine wpIn_skip ?_
    show (Code.seq (.block 1 _) _).wpIn (wideR none) nn Tryz.prog _ A1 X1
    refine wpIn_seq (wpIn_block (wpIn_seq (step0 (by kernel_rfl) (runP2 l i _) hS1 hd1 fun A2 X2 hd2 hS2 hg2 => ?_)))
    show (Code.seq pR3 _).wpIn (wideR none) nn Tryz.prog _ A2 X2
    refine wpIn_seq (step0 (by kernel_rfl) (runP3 l i) hS2 hd2 fun A3 X3 hd3 hS3 hg3 => ?_)
    show (Code.block 2 (.loop pL2)).wpIn (wideR none) nn Tryz.prog _ A3 X3
    refine wpIn_block (wpIn_loop (fun A X => ∃ j, j ≤ 24 ∧ HD2 i j A X) (fun A _ => 24 - (intOf (A.tmps.getD 7 undef)).toNat) ⟨0, Nat.zero_le _, hd3, hS3, ab (ab hj1 hg2) hg3, (hkX1.trans (keepR.grown hg2)).trans (keepR.grown hg3)⟩ ?_)
    clear hd3 hS3 hg3 hd2 hS2 hg2 hj1 hd1 hS1 hg1 hj hS hd hc5
    rintro A4 X4 ⟨j, hjj, hd, hS, hj, hkX4⟩
    have hmu2 := mu2 hS
    rw [loopP2]
    refine wpIn_seq (step0 (by kernel_rfl) (runP4 l i j) hS hd fun A5 X5 hd5 hS5 hg5 => ?_)
    have hj5 := ab hj hg5
    have hkX5 := hkX4.trans (keepR.grown hg5)
    have hc8 : A5.eval (.tmp 8) = .bool (decide ((j : Int) < 24)) := by
      have := hS5.tmps 8
      rw [show ((sP2 l i j).set 8 (.v (.bool (decide ((j : Int) < 24))))).getD 8 .dead = .v (.bool (decide ((j : Int) < 24))) from by kernel_rfl] at this
      simp only [VR] at this
      exact this
    show (Code.seq (.cond (.tmp 8) .skip (.exit 2)) _).wpIn (wideR none) nn Tryz.prog _ A5 X5
    refine wpIn_seq (wpIn_cond hc8 ?_)
    rcases (Nat.lt_or_ge j 24).symm with hge | hlt2
    · rw [if_neg (by simp; omega)]
      refine wpIn_exit ?_
      have : j = 24 := by omega
      subst this
      simp only [Exit.then, Exit.inBlock, if_true]
      show pR8.wpIn (wideR none) nn Tryz.prog _ A5 X5
      refine step0 (T' := sP0 l (i + 1)) (lv := lv3 [0, 4] [] []) (by kernel_rfl) ?_ hS5 hd5 fun A6 X6 hd6 hS6 hg6 => ?_
      · have := runP8 l i 24 (decide (((24 : Nat) : Int) < 24))
        rw [show Go.Proofs.YtcadinbahmliiaaGreatDoor.W ((i : Int) + 1) = ((i + 1 : Nat) : Int) from by rw [w64_in (by omega) (by omega)]; omega] at this
        exact this
      · refine ⟨⟨i + 1, hlt, hd6, hS6, ?_, hkX5.trans (keepR.grown hg6)⟩, ?_⟩
        · rw [show 24 * (i + 1) = 24 * i + 24 by omega]
          exact ab hj5 hg6
        · rw [mu0 hS6, hmu0]
          omega
    · rw [if_pos (by simp; omega)]
      refine wpIn_skip ?_
      show (Code.seq (.block 3 _) _).wpIn (wideR none) nn Tryz.prog _ A5 X5
      refine wpIn_seq (wpIn_block (wpIn_seq (step0 (by kernel_rfl) (runP5 l i j _) hS5 hd5 fun A6 X6 hd6 hS6 hg6 => ?_)))
      have hj6 := ab hj5 hg6
      have hkX6 := hkX5.trans (keepR.grown hg6)
      show (Code.seq (.region 6 pO6 false) _).wpIn (wideR none) nn Tryz.prog _ A6 X6
      refine wpIn_seq (wpIn_region ?_)
      rw [pSize]
      have at6 : ∀ {t : Nat} {v : Value}, (sP6 l i j).getD t .dead = .v v → A6.eval (.tmp t) = v := fun {t v} h => by
        have := hS6.tmps t
        rw [h] at this
        simp only [VR] at this
        exact this
      have hsz : 17 ≤ A6.tmps.size := hS6.len
      have hp : 24 * i + j < 576 := by omega
      have hyl := hY (List.range (24 * i + j)) (24 * i + j) X6 hj6 (by rw [List.length_range]; exact hp)
      have htake : List.range (24 * i + j + 1) = List.range (24 * i + j) ++ [24 * i + j] := List.range_succ
      have hen : (enP (24 * i + j)).toArray = #[i64 i, i64 j] := by
        unfold enP
        rw [show (24 * i + j) / 24 = i by omega, show (24 * i + j) % 24 = j by omega]
      simp only [hen] at hyl
      rw [wpOpsIn_cons]
      refine move_op pOp_at0 pOp0.1 pOp0.2.1 (at6 (t := 0) (v := yv l) (by kernel_rfl)) ?_
      rw [pOp0.2.2, wpOpsIn_cons]
      have ev : ∀ {B : Act} {d t : Nat} {v : Value}, d ≠ t → (B.put (some d) v).eval (.tmp t) = B.eval (.tmp t) := fun {B d t v} hne => by
        show (B.put (some d) v).tmps.getD t undef = B.tmps.getD t undef
        simp [Act.put, Array.getD_eq_getD_getElem?, hne]
      have es : ∀ {B : Act} {d : Nat} {v : Value}, d < B.tmps.size → (B.put (some d) v).eval (.tmp d) = v := fun {B d v} hlt => by
        show (B.put (some d) v).tmps.getD d undef = v
        simp [Act.put, Array.getD_eq_getD_getElem?, hlt]
      have sz : ∀ {B : Act} {d : Nat} {v : Value}, (B.put (some d) v).tmps.size = B.tmps.size := fun {B d v} => put_size' ..
      refine move_op pOp_at1 pOp1.1 pOp1.2.1 (v := i64 i) ((ev (by decide)).trans (at6 (by kernel_rfl))) ?_
      rw [pOp1.2.2, wpOpsIn_cons]
      refine move_op pOp_at2 pOp2.1 pOp2.2.1 (v := i64 j) ((ev (by decide)).trans ((ev (by decide)).trans (at6 (by kernel_rfl)))) ?_
      rw [pOp2.2.2, wpOpsIn_cons]
      refine yield_op2 pOp_at3 pOp3.1 pOp3.2.1 (l := l) (v := i64 i) (u := i64 j) ((ev (by decide)).trans ((ev (by decide)).trans (es (by omega)))) ((ev (by decide)).trans (es (by rw [sz]; omega))) (es (by rw [sz, sz]; omega)) hyl ?_
      have after : ∀ (b : Bool) (X7 : World), TabOk (fun k => X7.heap.size ≤ k) X7 → SR (fun k => X7.heap.size ≤ k) X7 nu0 (sP7 l i j b (!b)) [] (((((A6.put (some 10) (yv l)).put (some 11) (i64 i)).put (some 12) (i64 j)).put (some 13) (.bool b)).put (some 14) (.bool (!b))) X7 nu0 := fun b X7 ht => by
        have h0 := sr_of X7 ht hS6.tmps hS6.len
        have h1 := SR.put (dst := some 10) (x := .v (yv l)) (v := yv l) h0 (by kernel_rfl) (Le.refl _) (by simp only [VR]) h0.heap h0.fr h0.dom
        have h2 := SR.put (dst := some 11) (x := .v (i64 i)) (v := i64 i) h1 (by kernel_rfl) (Le.refl _) (by simp only [VR]) h1.heap h1.fr h1.dom
        have h3 := SR.put (dst := some 12) (x := .v (i64 j)) (v := i64 j) h2 (by kernel_rfl) (Le.refl _) (by simp only [VR]) h2.heap h2.fr h2.dom
        have h4 := SR.put (dst := some 13) (x := .v (.bool b)) (v := .bool b) h3 (by kernel_rfl) (Le.refl _) (by simp only [VR]) h3.heap h3.fr h3.dom
        exact SR.put (dst := some 14) (x := .v (.bool (!b))) (v := .bool (!b)) h4 (by kernel_rfl) (Le.refl _) (by simp only [VR]) h4.heap h4.fr h4.dom
      rintro e X7 (⟨rfl, hj7, hk7⟩ | ⟨rfl, hjx⟩)
      · refine ⟨.bool true, rfl, ?_⟩
        rw [pOp3.2.2, wpOpsIn_cons]
        refine not_op pOp_at4 pOp4.1 pOp4.2.1 (b := true) (es (by rw [sz, sz, sz]; omega)) ?_
        rw [pOp4.2.2]
        show (Code.cond (.tmp 14) .ret .skip).wpIn (wideR none) nn Tryz.prog _ _ X7
        refine wpIn_cond_false (es (by rw [sz, sz, sz, sz]; omega)) (wpIn_skip ?_)
        show pR7.wpIn (wideR none) nn Tryz.prog _ _ X7
        refine step0 (T' := sP2 l i (j + 1)) (lv := lv3 [0, 2, 4, 7] [] []) (by kernel_rfl) ?_ (after true X7 (htab.keep (hkX6.trans hk7))) (by rw [put_defers', put_defers', put_defers', put_defers', put_defers']; exact hd6) fun A8 X8 hd8 hS8 hg8 => ?_
        · have := runP7 l i j true (!true)
          rw [show Go.Proofs.YtcadinbahmliiaaGreatDoor.W ((j : Int) + 1) = ((j + 1 : Nat) : Int) from by rw [w64_in (by omega) (by omega)]; omega] at this
          exact this
        · refine ⟨⟨j + 1, hlt2, hd8, hS8, ?_, (hkX6.trans hk7).trans (keepR.grown hg8)⟩, ?_⟩
          · rw [← Nat.add_assoc, htake]
            exact ab hj7 hg8
          · rw [mu2 hS8, hmu2]
            omega
      · refine ⟨.bool false, rfl, ?_⟩
        rw [pOp3.2.2, wpOpsIn_cons]
        refine not_op pOp_at4 pOp4.1 pOp4.2.1 (b := false) (es (by rw [sz, sz, sz]; omega)) ?_
        rw [pOp4.2.2]
        show (Code.cond (.tmp 14) .ret .skip).wpIn (wideR none) nn Tryz.prog _ _ X7
        refine wpIn_cond_true (es (by rw [sz, sz, sz, sz]; omega)) (wpIn_ret (fin _ X7 (by rw [put_defers', put_defers', put_defers', put_defers', put_defers']; exact hd6) (.inr ⟨24 * i + j + 1, by omega, by rw [htake]; exact hjx⟩)))

end Go.Proofs.YtcadinbahmliiaaGreatDoor

/- Products of designs: CycTimes of both, DesignTimes of both: trees. Conditions: two lists of wheels. -/
namespace Go.Proofs.YtcadinbahmliiaaGreatDoor
open Go.RowKit
set_option maxRecDepth 100000

abbrev hpTr (m : Nat) (f : Nat → Nat → Int) (n : Nat) (g : Nat → Nat → Int) : List AB := [.row false m 9 (row9 f) 75, .row false n 9 (row9 g) 75]
def gmS2 (okd : List Wh → Bool) (ti : List Wh → List Wh) (okt : List Wh → Bool) : Gam := ext (ext g0 100 (specR md_ws (FdvO okd))) 101 (specR md_ws (FtidyO ti okt))
end Go.Proofs.YtcadinbahmliiaaGreatDoor

/- Products of designs: CycTimes of both, DesignTimes of both. Conditions: two lists of wheels. -/
namespace Go.Proofs.YtcadinbahmliiaaGreatDoor
open Go.RowKit
set_option maxRecDepth 100000

end Go.Proofs.YtcadinbahmliiaaGreatDoor

/- DesignTimes of both. Conditions: two lists of wheels. -/
namespace Go.Proofs.YtcadinbahmliiaaGreatDoor
open Go.RowKit
set_option maxRecDepth 100000

theorem gmS2_ok : GamOk Tryz.prog (gmS2 okD tidyL okT) := by
  unfold gmS2
  rw [FtidyO_eq, FdvO_eq]
  exact ext_ok (ext_ok g0_ok ok_dv) ok_tidyS

end Go.Proofs.YtcadinbahmliiaaGreatDoor

/- impl.at, and the program's DesignAt: the reference's word. Conditions: a list of wheels. -/
namespace Go.Proofs.YtcadinbahmliiaaGreatDoor
open Go.RowKit
set_option maxRecDepth 100000

end Go.Proofs.YtcadinbahmliiaaGreatDoor

/- DesignAt of the program; DesignClosed of both: the whole. Conditions: a list of wheels. -/
namespace Go.Proofs.YtcadinbahmliiaaGreatDoor
open Go.RowKit
set_option maxRecDepth 100000

theorem map_Ti (L : List Wh) : mpTi L = L := by
  show L.map chTi = L
  exact List.map_id'' (fun _ => rfl) L
theorem yesTi_eq (L : List Wh) : yesTi L = (okD L && okT L) := by
  have := map_Ti L
  unfold yesTi
  rw [show L.map chTi = L from this]
end Go.Proofs.YtcadinbahmliiaaGreatDoor

/- Lists of wheels compared: slices.Equal, l5Equal. Conditions: two lists of wheels. -/
namespace Go.Proofs.YtcadinbahmliiaaGreatDoor
open Go.RowKit
set_option maxRecDepth 100000

noncomputable abbrev fSE : Func := Tryz.f67
abbrev lvSE : Ex → List Nat := lv3 [0, 1, 12, 13] [] [4]
theorem rndSE_h (m : Nat) (f h : Nat → Nat → Int) (i : Nat) (u1 : _) (hu1 : [AB.row false m 9 (row9 f) 75, AB.row false m 9 (row9 h) 75] = u1) (u2 : _) (hu2 : (0 : Nat) = u2) (u3 : _) (hu3 : (↑i : Int) = u3) (u0 : _) (hu0 : (u2 + Int.toNat u3) = u0) : execC Tryz.prog g0 100 noLam (loopAt 0 fSE) (mkT 0 26 ((lvSE .normal).zip [.sl 0 9 0 0 m none, .sl 1 9 0 0 m none, .v (i64 m), .v (i64 i)])) (hpQW m f h) (leafV 26 lvSE 2)
    = bif decide (u3 < (m : Int)) then needs [decide (u3 < (m : Int)), decide (u2 + Int.toNat u3 < m), decide (u3 < (m : Int)), decide (u2 + Int.toNat u3 < m)] (bif !(f u0 u2 == h u0 u2 && (f u0 (1 : Nat) == h u0 (1 : Nat) && (f u0 (2 : Nat) == h u0 (2 : Nat) && (f u0 (3 : Nat) == h u0 (3 : Nat) && (f u0 (4 : Nat) == h u0 (4 : Nat) && (f u0 (5 : Nat) == h u0 (5 : Nat) && (f u0 (6 : Nat) == h u0 (6 : Nat) && (f u0 (7 : Nat) == h u0 (7 : Nat) && (f u0 (8 : Nat) == h u0 (8 : Nat) && true))))))) && true && true)) then Res.out .ret [AV.v (.bool false)] u1 else Res.out .normal [AV.sl u2 (9 : Nat) u2 u2 m none, AV.sl 1 (9 : Nat) u2 u2 m none, AV.v (.int .i64 (m : Int)), AV.v (.int .i64 (IntKind.wrap .i64 (u3 + (1 : Int))))] u1) else Res.out (Ex.exit u2) [] u1 := by
  subst hu0 hu3 hu2 hu1
  kernel_rfl
theorem rndSE (m : Nat) (f h : Nat → Nat → Int) (i : Nat) : type_of% (rndSE_h m f h i _ rfl _ rfl _ rfl _ rfl) := rndSE_h m f h i _ rfl _ rfl _ rfl _ rfl

noncomputable abbrev lamSE (m : Nat) (f h : Nat → Nat → Int) (c : Bool) : Nat → Option Sum := oneL 0 (atS 26 (lvSE .normal) 2 [.sl 0 9 0 0 m none, .sl 1 9 0 0 m none, .v (i64 m), .v (i64 (0 : Nat))] (hpQW m f h) (fun K => cond c (K .normal (mkT 0 26 []) (hpQW m f h)) (K .ret (mkT 0 26 [(4, .v (.bool false))]) (hpQW m f h))))
theorem treeSE (m n : Nat) (f h : Nat → Nat → Int) (c : Bool) : execF Tryz.prog g0 (lamSE m f h c) 100 fSE [.sl 0 9 0 0 m none, .sl 1 9 0 0 n none] [.row false m 9 (row9 f) 75, .row false n 9 (row9 h) 75] (packK 2)
    = bif (m : Int) != (↑n : Int) then Res.out .ret [AV.v (.bool false)] [AB.row false m 9 (row9 f) 75, AB.row false n 9 (row9 h) 75] else needs [chk ([AV.sl 0 (9 : Nat) (0 : Nat) (0 : Nat) m none, AV.sl 1 (9 : Nat) (0 : Nat) (0 : Nat) n none, AV.v (.int .i64 (m : Int)), AV.v (.int .i64 0)] = [AV.sl 0 (9 : Nat) (0 : Nat) (0 : Nat) m none, AV.sl 1 (9 : Nat) (0 : Nat) (0 : Nat) m none, AV.v (.int .i64 (m : Int)), AV.v (.int .i64 0)] ∧ Hsim [AB.row false m 9 (row9 f) 75, AB.row false n 9 (row9 h) 75] (hpQW m f h))] (bif c then Res.out .ret [AV.v (.bool true)] [AB.row false m 9 (row9 f) 75, AB.row false m 9 (row9 h) 75] else Res.out .ret [AV.v (.bool false)] [AB.row false m 9 (row9 f) 75, AB.row false m 9 (row9 h) 75]) := by kernel_rfl

abbrev lvLE : Ex → List Nat := lv3 [0, 1, 5] [] [4]
theorem rndLE_h (m : Nat) (f h : Nat → Nat → Int) (i : Nat) (u1 : _) (hu1 : [AB.row false m 9 (row9 f) 75, AB.row false m 9 (row9 h) 75] = u1) (u2 : _) (hu2 : (0 : Nat) = u2) (u3 : _) (hu3 : (↑i : Int) = u3) (u0 : _) (hu0 : (u2 + Int.toNat u3) = u0) : execC Tryz.prog g0 100 noLam (loopAt 0 Tryz.f137) (mkT 0 26 ((lvLE .normal).zip [.sl 0 9 0 0 m none, .sl 1 9 0 0 m none, .v (i64 i)])) (hpQW m f h) (leafV 26 lvLE 2)
    = bif decide (u3 < (m : Int)) then needs [decide (u3 < (m : Int)), decide (u2 + Int.toNat u3 < m), decide (u3 < (m : Int)), decide (u2 + Int.toNat u3 < m)] (bif !(f u0 u2 == h u0 u2 && (f u0 (1 : Nat) == h u0 (1 : Nat) && (f u0 (2 : Nat) == h u0 (2 : Nat) && (f u0 (3 : Nat) == h u0 (3 : Nat) && (f u0 (4 : Nat) == h u0 (4 : Nat) && (f u0 (5 : Nat) == h u0 (5 : Nat) && (f u0 (6 : Nat) == h u0 (6 : Nat) && (f u0 (7 : Nat) == h u0 (7 : Nat) && (f u0 (8 : Nat) == h u0 (8 : Nat) && true))))))) && true && true)) then Res.out .ret [AV.v (.bool false)] u1 else Res.out .normal [AV.sl u2 (9 : Nat) u2 u2 m none, AV.sl 1 (9 : Nat) u2 u2 m none, AV.v (.int .i64 (IntKind.wrap .i64 (u3 + (1 : Int))))] u1) else Res.out (Ex.exit u2) [] u1 := by
  subst hu0 hu3 hu2 hu1
  kernel_rfl
theorem rndLE (m : Nat) (f h : Nat → Nat → Int) (i : Nat) : type_of% (rndLE_h m f h i _ rfl _ rfl _ rfl _ rfl) := rndLE_h m f h i _ rfl _ rfl _ rfl _ rfl

noncomputable abbrev lamLE (m : Nat) (f h : Nat → Nat → Int) (c : Bool) : Nat → Option Sum := oneL 0 (atS 26 (lvLE .normal) 2 [.sl 0 9 0 0 m none, .sl 1 9 0 0 m none, .v (i64 (0 : Nat))] (hpQW m f h) (fun K => cond c (K .normal (mkT 0 26 []) (hpQW m f h)) (K .ret (mkT 0 26 [(4, .v (.bool false))]) (hpQW m f h))))
theorem treeLE_h (m n : Nat) (f h : Nat → Nat → Int) (c : Bool) (u0 : _) (hu0 : (AB.row false m 9 (row9 f) 75) = u0) (u1 : _) (hu1 : (0 : Nat) = u1) (u2 : _) (hu2 : [u0, AB.row false m 9 (row9 h) 75] = u2) (u3 : _) (hu3 : [u0, AB.row false n 9 (row9 h) 75] = u3) : execF Tryz.prog g0 (lamLE m f h c) 100 Tryz.f137 [.sl 0 9 0 0 m none, .sl 1 9 0 0 n none] [.row false m 9 (row9 f) 75, .row false n 9 (row9 h) 75] (packK 2)
    = bif (m : Int) != (↑n : Int) then Res.out .ret [AV.v (.bool false)] u3 else needs [chk ([AV.sl u1 (9 : Nat) u1 u1 m none, AV.sl 1 (9 : Nat) u1 u1 n none, AV.v (.int .i64 0)] = [AV.sl u1 (9 : Nat) u1 u1 m none, AV.sl 1 (9 : Nat) u1 u1 m none, AV.v (.int .i64 0)] ∧ Hsim u3 (hpQW m f h))] (bif c then Res.out .ret [AV.v (.bool true)] u2 else Res.out .ret [AV.v (.bool false)] u2) := by
  subst hu3 hu2 hu1 hu0
  kernel_rfl
theorem treeLE (m n : Nat) (f h : Nat → Nat → Int) (c : Bool) : type_of% (treeLE_h m n f h c _ rfl _ rfl _ rfl _ rfl) := treeLE_h m n f h c _ rfl _ rfl _ rfl _ rfl

def gmS3 (yT yL : Int → List Wh → Bool) (tT tL : Int → List Wh → List Wh) (eq : List Wh → List Wh → Bool) : Gam := ext (ext (ext g0 67 (specR md_eqWS (FeqB eq))) 98 (specU md_wv (UO1 yL tL))) 99 (specU md_wv (UO1 yT tT))
end Go.Proofs.YtcadinbahmliiaaGreatDoor

/- DesignStill of both: trees. Conditions: a list of wheels. -/
namespace Go.Proofs.YtcadinbahmliiaaGreatDoor
open Go.RowKit
set_option maxRecDepth 100000

def gmR3 (ok : Int → Int → Int → Bool → List Wh → Bool) (el : Int → Int → Int → Bool → List Wh → List Wh) (eq : List Wh → List Wh → Bool) : Gam := ext (ext g0 137 (specR md_eqWS (FeqB eq))) 96 (specR md_ea (FeaO ok el))
end Go.Proofs.YtcadinbahmliiaaGreatDoor

/- Lists compared; the program's turned designs read as the reference's. Conditions: lists of wheels. -/
namespace Go.Proofs.YtcadinbahmliiaaGreatDoor
open Go.RowKit
set_option maxRecDepth 100000

theorem sumSE (m : Nat) (f h : Nat → Nat → Int) (hm : m ≤ 2 ^ 40) :
    SumOk Tryz.prog 2 (.block 0 (.loop (loopAt 0 fSE))) (atS 26 (lvSE .normal) 2 [.sl 0 9 0 0 m none, .sl 1 9 0 0 m none, .v (i64 m), .v (i64 (0 : Nat))] (hpQW m f h) (fun K => cond (noneTo (badE f h) m) (K .normal (mkT 0 26 []) (hpQW m f h)) (K .ret (mkT 0 26 [(4, .v (.bool false))]) (hpQW m f h)))) := by
  refine for_at g0_ok (n := 100) (m := 2) (lv := lvSE) (fun i => [.sl 0 9 0 0 m none, .sl 1 9 0 0 m none, .v (i64 m), .v (i64 (i : Nat))]) (fun _ => hpQW m f h) (fun i => noneTo (badE f h) i = true) m (fun _ => noLam) (lv3_ris rfl rfl rfl) (Nat.le_refl _) rfl fun K Q hk i hi him => ⟨noLam_ok _ _ _, ?_⟩
  rw [rndSE]
  refine good_cond (fun c1 => ?_) fun c1 => ?_
  · have c1 := of_decide_eq_true c1
    have c1' : i < m := by omega
    rw [Int.toNat_natCast, Nat.zero_add, wr_in (x := (i : Int) + 1) (by omega)]
    refine good_needs (by simp only [ob_cons, ob_nil, and_true, decide_eq_true_eq]; omega) (good_cond (fun q => ?_) fun q => ?_)
    · have hb : badE f h i = true := by
        unfold badE
        rw [Bool.not_eq_true', decide_eq_false_iff_not]
        intro e
        simp only [whOf, Wh.mk.injEq, Cy.mk.injEq] at e
        obtain ⟨e0, e1, e2, e3, e4, e5, e6, e7, e8⟩ := e
        simp [e0, e1, e2, e3, e4, e5, e6, e7, e8] at q
      refine good_out ⟨_, Hsim.refl _, ?_⟩
      rw [noneTo_no c1' hb] at hk
      exact hk
    · have hb : badE f h i = false := by
        unfold badE
        rw [Bool.not_eq_false', decide_eq_true_eq]
        simp at q
        simp [whOf, q]
      exact good_out ⟨i + 1, ⟨rfl, c1', noneTo_succ hi hb⟩, rfl, Hsim.refl _⟩
  · have c1 := of_decide_eq_false c1
    have : i = m := by omega
    subst this
    refine good_out ⟨_, Hsim.refl _, ?_⟩
    rw [if_pos rfl]
    rw [hi] at hk
    exact hk
theorem ok_SE : SpecOk Tryz.prog 67 (specR md_eqWS (FeqB eqL)) := by
  refine specR_hr g0_ok Tryz.func67 rfl fun sas fr hF ho => ?_
  unfold FeqB at hF
  split at hF
  · rename_i m g n g2
    cases hF
    simp only [ob_cons] at ho
    obtain ⟨h1, h2, h3, _⟩ := ho
    have hm := of_decide_eq_true h3
    refine ⟨[.row false m 9 (row9 (itW g)) 75, .row false n 9 (row9 (itW g2)) 75], lamSE m (itW g) (itW g2) (noneTo (badE (itW g) (itW g2)) m), 100, .cons (ABeq.row fun j hj => allW_get h1 j hj) (.cons (ABeq.row fun j hj => allW_get h2 j hj) .nil), lam1 (by kernel_rfl) (sumSE m (itW g) (itW g2) (by omega)), ?_⟩
    show GoodQ (execF Tryz.prog g0 (lamSE m (itW g) (itW g2) (noneTo (badE (itW g) (itW g2)) m)) 100 fSE [.sl 0 9 0 0 m none, .sl 1 9 0 0 n none] [.row false m 9 (row9 (itW g)) 75, .row false n 9 (row9 (itW g2)) 75] (packK 2)) _
    rw [treeSE]
    refine good_cond (fun q => ?_) fun q => ?_
    · have hne : m ≠ n := fun e => by
        subst e
        simp at q
      exact good_out ⟨_, rfl, by rw [eqL_len (by rw [listW_length, listW_length]; exact hne)], .cons (ABeq.row fun j hj => (allW_get h1 j hj).symm) (.cons (ABeq.row fun j hj => (allW_get h2 j hj).symm) .nil)⟩
    · have e : m = n := by
        have q2 : (m : Int) = n := by simpa using q
        omega
      subst e
      refine good_needs (by rw [ob_cons]; exact ⟨chk_of ⟨rfl, Hsim.refl _⟩, rfl⟩) (good_cond (fun q => ?_) fun q => ?_)
      · exact good_out ⟨_, rfl, by rw [eqL_list, q], .cons (ABeq.row fun j hj => (allW_get h1 j hj).symm) (.cons (ABeq.row fun j hj => (allW_get h2 j hj).symm) .nil)⟩
      · exact good_out ⟨_, rfl, by rw [eqL_list, q], .cons (ABeq.row fun j hj => (allW_get h1 j hj).symm) (.cons (ABeq.row fun j hj => (allW_get h2 j hj).symm) .nil)⟩
  · cases hF

theorem sumLE (m : Nat) (f h : Nat → Nat → Int) (hm : m ≤ 2 ^ 40) :
    SumOk Tryz.prog 2 (.block 0 (.loop (loopAt 0 Tryz.f137))) (atS 26 (lvLE .normal) 2 [.sl 0 9 0 0 m none, .sl 1 9 0 0 m none, .v (i64 (0 : Nat))] (hpQW m f h) (fun K => cond (noneTo (badE f h) m) (K .normal (mkT 0 26 []) (hpQW m f h)) (K .ret (mkT 0 26 [(4, .v (.bool false))]) (hpQW m f h)))) := by
  refine for_at g0_ok (n := 100) (m := 2) (lv := lvLE) (fun i => [.sl 0 9 0 0 m none, .sl 1 9 0 0 m none, .v (i64 (i : Nat))]) (fun _ => hpQW m f h) (fun i => noneTo (badE f h) i = true) m (fun _ => noLam) (lv3_ris rfl rfl rfl) (Nat.le_refl _) rfl fun K Q hk i hi him => ⟨noLam_ok _ _ _, ?_⟩
  rw [rndLE]
  refine good_cond (fun c1 => ?_) fun c1 => ?_
  · have c1 := of_decide_eq_true c1
    have c1' : i < m := by omega
    rw [Int.toNat_natCast, Nat.zero_add, wr_in (x := (i : Int) + 1) (by omega)]
    refine good_needs (by simp only [ob_cons, ob_nil, and_true, decide_eq_true_eq]; omega) (good_cond (fun q => ?_) fun q => ?_)
    · have hb : badE f h i = true := by
        unfold badE
        rw [Bool.not_eq_true', decide_eq_false_iff_not]
        intro e
        simp only [whOf, Wh.mk.injEq, Cy.mk.injEq] at e
        obtain ⟨e0, e1, e2, e3, e4, e5, e6, e7, e8⟩ := e
        simp [e0, e1, e2, e3, e4, e5, e6, e7, e8] at q
      refine good_out ⟨_, Hsim.refl _, ?_⟩
      rw [noneTo_no c1' hb] at hk
      exact hk
    · have hb : badE f h i = false := by
        unfold badE
        rw [Bool.not_eq_false', decide_eq_true_eq]
        simp at q
        simp [whOf, q]
      exact good_out ⟨i + 1, ⟨rfl, c1', noneTo_succ hi hb⟩, rfl, Hsim.refl _⟩
  · have c1 := of_decide_eq_false c1
    have : i = m := by omega
    subst this
    refine good_out ⟨_, Hsim.refl _, ?_⟩
    rw [if_pos rfl]
    rw [hi] at hk
    exact hk
theorem ok_LE : SpecOk Tryz.prog 137 (specR md_eqWS (FeqB eqL)) := by
  refine specR_hr g0_ok Tryz.func137 rfl fun sas fr hF ho => ?_
  unfold FeqB at hF
  split at hF
  · rename_i m g n g2
    cases hF
    simp only [ob_cons] at ho
    obtain ⟨h1, h2, h3, _⟩ := ho
    have hm := of_decide_eq_true h3
    refine ⟨[.row false m 9 (row9 (itW g)) 75, .row false n 9 (row9 (itW g2)) 75], lamLE m (itW g) (itW g2) (noneTo (badE (itW g) (itW g2)) m), 100, .cons (ABeq.row fun j hj => allW_get h1 j hj) (.cons (ABeq.row fun j hj => allW_get h2 j hj) .nil), lam1 (by kernel_rfl) (sumLE m (itW g) (itW g2) (by omega)), ?_⟩
    show GoodQ (execF Tryz.prog g0 (lamLE m (itW g) (itW g2) (noneTo (badE (itW g) (itW g2)) m)) 100 Tryz.f137 [.sl 0 9 0 0 m none, .sl 1 9 0 0 n none] [.row false m 9 (row9 (itW g)) 75, .row false n 9 (row9 (itW g2)) 75] (packK 2)) _
    rw [treeLE]
    refine good_cond (fun q => ?_) fun q => ?_
    · have hne : m ≠ n := fun e => by
        subst e
        simp at q
      exact good_out ⟨_, rfl, by rw [eqL_len (by rw [listW_length, listW_length]; exact hne)], .cons (ABeq.row fun j hj => (allW_get h1 j hj).symm) (.cons (ABeq.row fun j hj => (allW_get h2 j hj).symm) .nil)⟩
    · have e : m = n := by
        have q2 : (m : Int) = n := by simpa using q
        omega
      subst e
      refine good_needs (by rw [ob_cons]; exact ⟨chk_of ⟨rfl, Hsim.refl _⟩, rfl⟩) (good_cond (fun q => ?_) fun q => ?_)
      · exact good_out ⟨_, rfl, by rw [eqL_list, q], .cons (ABeq.row fun j hj => (allW_get h1 j hj).symm) (.cons (ABeq.row fun j hj => (allW_get h2 j hj).symm) .nil)⟩
      · exact good_out ⟨_, rfl, by rw [eqL_list, q], .cons (ABeq.row fun j hj => (allW_get h1 j hj).symm) (.cons (ABeq.row fun j hj => (allW_get h2 j hj).symm) .nil)⟩
  · cases hF

theorem gmS3_ok : GamOk Tryz.prog (gmS3 yT yL tT tL eqL) := ext_ok (ext_ok (ext_ok g0_ok ok_SE) ok_ULa) ok_UTu
theorem gmR3_ok : GamOk Tryz.prog (gmR3 eachOk eachL eqL) := ext_ok (ext_ok g0_ok ok_LE) ok_each

end Go.Proofs.YtcadinbahmliiaaGreatDoor

/- The program's DesignAkin: its trees. Conditions: two lists of wheels. -/
namespace Go.Proofs.YtcadinbahmliiaaGreatDoor
open Go.RowKit
set_option maxRecDepth 100000

noncomputable abbrev fAk : Func := Tryz.f34
noncomputable def bAk : Code := fAk.body.getD .skip
def sqN : Nat → Code → Code
  | 0, c => c
  | n + 1, c => sqN n (sqB c)
def rgA : Code → Code | .rangeFunc _ _ a _ => a | c => c
def rgB : Code → Code | .rangeFunc _ _ _ b => b | c => c
def scB : Code → Code | .scope b => b | c => c
noncomputable def akB1 : Code := scB (sqB bAk)
noncomputable def akPre0 : List Code := [sqA bAk]
noncomputable def akPre : List Code := [sqA akB1, sqA (sqN 1 akB1), sqA (sqN 2 akB1), sqA (sqN 3 akB1), sqA (sqN 4 akB1)]
noncomputable def akP2 : Code := sqA (sqA (sqN 5 akB1))
noncomputable def akAs : Code := rgA (blB (sqB (sqA (sqN 5 akB1))))
noncomputable def akBd : Code := rgB (blB (sqB (sqA (sqN 5 akB1))))
noncomputable def akRest : Code := sqN 6 akB1
theorem bAk_eq : fAk.body = some (nestL akPre0 (.scope (nestL akPre (.seq (.seq akP2 (.block 0 (.rangeFunc (.tmp 31) #[32, 33] akAs akBd))) akRest)))) := by kernel_rfl

def gmAkI (yes : List Wh → Bool) (ti mp : List Wh → List Wh) (yT yL : Int → List Wh → Bool) (tT tL : Int → List Wh → List Wh) (eq : List Wh → List Wh → Bool) : Gam := ext (gmS3 yT yL tT tL eq) 46 (specR md_ws (FdeYTi yes ti mp))
theorem preAk_h (yes : List Wh → Bool) (ti mp : List Wh → List Wh) (yT yL : Int → List Wh → Bool) (tT tL : Int → List Wh → List Wh) (eq : List Wh → List Wh → Bool) (m : Nat) (f : Nat → Nat → Int) (n : Nat) (g : Nat → Nat → Int) (u0 : _) (hu0 : AV.dead = u0) (u3 : _) (hu3 : (0 : Nat) = u3) (u1 : _) (hu1 : (listW (itW fun q ↦ row9 g (u3 + q)) n) = u1) (u2 : _) (hu2 : (listW (itW fun q ↦ row9 f (u3 + q)) m) = u2) (u4 : _) (hu4 : (List.length (ti (mp u1))) = u4) (u5 : _) (hu5 : (List.length (ti (mp u2))) = u5) : execL Tryz.prog (gmAkI yes ti mp yT yL tT tL eq) 100 (akPre0 ++ (akPre ++ [akP2])) ([.sl 0 9 0 0 m none, .sl 1 9 0 0 n none] ++ List.replicate 52 (.v undef)) (hpTr m f n g) (leafK (lv3 [6, 8, 10, 31] [] []) 2)
    = needs [Nat.ble (u3 + m) m, allW m fun q ↦ row9 f (u3 + q), decide (m ≤ (274877906944 : Nat)), yes u2, Nat.ble (u3 + n) n, allW n fun q ↦ row9 g (u3 + q), decide (n ≤ (274877906944 : Nat)), yes u1] (Res.out .normal [u0, u0, u0, u0, u0, u0, AV.ptr (2 : Nat) u3 u3 u3, u0, AV.ptr (3 : Nat) u3 u3 u3, u0, AV.ptr (4 : Nat) u3 u3 u3, u0, u0, u0, u0, u0, u0, u0, u0, u0, u0, u0, u0, u0, u0, u0, u0, u0, u0, u0, u0, AV.fn (97 : Nat) [], u0, u0, u0, u0, u0, u0, u0, u0, u0, u0, u0, u0, u0, u0, u0, u0, u0, u0, u0, u0, u0, u0] [AB.row false m 9 (row9 f) 75, AB.row false n 9 (row9 g) 75, AB.cells [AV.sl 5 (9 : Nat) u3 u3 u5 (some u5)] (31 : Nat), AB.cells [AV.sl 6 (9 : Nat) u3 u3 u4 (some u4)] (31 : Nat), AB.cells [AV.v (.int .i64 (-1 : Int))] (3 : Nat), AB.row true u5 9 (row9 (wfun (ti (mp u2)))) 75, AB.row true u4 9 (row9 (wfun (ti (mp u1)))) 75]) := by
  subst hu5 hu4 hu2 hu1 hu3 hu0
  kernel_rfl
theorem preAk (yes : List Wh → Bool) (ti mp : List Wh → List Wh) (yT yL : Int → List Wh → Bool) (tT tL : Int → List Wh → List Wh) (eq : List Wh → List Wh → Bool) (m : Nat) (f : Nat → Nat → Int) (n : Nat) (g : Nat → Nat → Int) : type_of% (preAk_h yes ti mp yT yL tT tL eq m f n g _ rfl _ rfl _ rfl _ rfl _ rfl _ rfl) := preAk_h yes ti mp yT yL tT tL eq m f n g _ rfl _ rfl _ rfl _ rfl _ rfl _ rfl

abbrev hpAkI (m : Nat) (f : Nat → Nat → Int) (n : Nat) (g : Nat → Nat → Int) (q : Nat) (h : Nat → Nat → Int) (r : Nat) (u : Nat → Nat → Int) (v : Int) : List AB := [.row false m 9 (row9 f) 75, .row false n 9 (row9 g) 75, .cells [.sl 5 9 0 0 q (some q)] 31, .cells [.sl 6 9 0 0 r (some r)] 31, .cells [.v (i64 v)] 3, .row true q 9 (row9 h) 75, .row true r 9 (row9 u) 75]
abbrev TTak : List AV := mkT 0 54 [(6, .ptr 2 0 0 0), (8, .ptr 3 0 0 0), (10, .ptr 4 0 0 0), (31, .fn 97 [])]
abbrev TLak : List AV := mkT 0 54 [(6, .ptr 2 0 0 0), (8, .ptr 3 0 0 0), (10, .ptr 4 0 0 0)]
theorem rndAkI_h (yes : List Wh → Bool) (ti mp : List Wh → List Wh) (yT yL : Int → List Wh → Bool) (tT tL : Int → List Wh → List Wh) (eq : List Wh → List Wh → Bool) (m : Nat) (f : Nat → Nat → Int) (n : Nat) (g : Nat → Nat → Int) (q : Nat) (h : Nat → Nat → Int) (r : Nat) (u : Nat → Nat → Int) (x y v : Int) (u3 : _) (hu3 : AV.dead = u3) (u4 : _) (hu4 : (0 : Nat) = u4) (u5 : _) (hu5 : 75 = u5) (u6 : _) (hu6 : (9 : Nat) = u6) (u7 : _) (hu7 : (AB.cells [AV.v (.int .i64 v)] 3) = u7) (u8 : _) (hu8 : (AB.row false m u6 (row9 f) u5) = u8) (u9 : _) (hu9 : (AB.row false n u6 (row9 g) u5) = u9) (u10 : _) (hu10 : (AB.row true r u6 (row9 u) u5) = u10) (u11 : _) (hu11 : 31 = u11) (u0 : _) (hu0 : [u3, u3, u3, u3, u3, u3, u3, u3, u3, u3, u3, u3, u3, u3, u3, u3, u3, u3, u3, u3, u3, u3, u3, u3, u3, u3, u3, u3, u3, u3, u3, u3, u3, u3, u3, u3, u3, u3, u3, u3, u3, u3, u3, u3, u3, u3, u3, u3, u3, u3, u3, u3, u3, u3] = u0) (u1 : _) (hu1 : (itW fun q ↦ row9 h (u4 + q)) = u1) (u2 : _) (hu2 : (AB.cells [AV.sl 6 u6 u4 u4 r (some r)] u11) = u2) : execC Tryz.prog (gmAkI yes ti mp yT yL tT tL eq) 100 noLam akAs (parT [32, 33] [i64 x, i64 y] TLak) (hpAkI m f n g q h r u v) (andK Tryz.prog (gmAkI yes ti mp yT yL tT tL eq) 100 akBd 7)
    = needs [Nat.ble (u4 + q) q, allW q fun q ↦ row9 h (u4 + q), decide (q ≤ (274877906944 : Nat))] (bif !yL x (listW u1 q) then Res.out .normal u0 [u8, u9, AB.cells [AV.sl 5 u6 u4 u4 q (some q)] u11, u2, u7, AB.row true q u6 (row9 h) u5, u10] else needs [Nat.ble (u4 + List.length (tL x (listW u1 q))) (List.length (tL x (listW u1 q))), allW (List.length (tL x (listW u1 q))) fun q_1 ↦ row9 (wfun (tL x (listW u1 q))) (u4 + q_1), decide (List.length (tL x (listW u1 q)) ≤ (274877906944 : Nat))] (bif yT y (listW (itW fun q_1 ↦ row9 (wfun (tL x (listW u1 q))) (u4 + q_1)) (List.length (tL x (listW u1 q)))) then needs [Nat.ble (u4 + List.length (tT y (listW (itW fun q_1 ↦ row9 (wfun (tL x (listW u1 q))) (u4 + q_1)) (List.length (tL x (listW u1 q)))))) (List.length (tT y (listW (itW fun q_1 ↦ row9 (wfun (tL x (listW u1 q))) (u4 + q_1)) (List.length (tL x (listW u1 q)))))), Nat.ble (u4 + r) r, allW (List.length (tT y (listW (itW fun q_1 ↦ row9 (wfun (tL x (listW u1 q))) (u4 + q_1)) (List.length (tL x (listW u1 q)))))) fun q_1 ↦ row9 (wfun (tT y (listW (itW fun q_2 ↦ row9 (wfun (tL x (listW u1 q))) (u4 + q_2)) (List.length (tL x (listW u1 q)))))) (u4 + q_1), allW r fun q ↦ row9 u (u4 + q), decide (List.length (tT y (listW (itW fun q_1 ↦ row9 (wfun (tL x (listW u1 q))) (u4 + q_1)) (List.length (tL x (listW u1 q))))) ≤ (274877906944 : Nat))] (bif eq (listW (itW fun q_1 ↦ row9 (wfun (tT y (listW (itW fun q_2 ↦ row9 (wfun (tL x (listW u1 q))) (u4 + q_2)) (List.length (tL x (listW u1 q)))))) (u4 + q_1)) (List.length (tT y (listW (itW fun q_1 ↦ row9 (wfun (tL x (listW u1 q))) (u4 + q_1)) (List.length (tL x (listW u1 q))))))) (listW (itW fun q ↦ row9 u (u4 + q)) r) then Res.out (Ex.exit u4) u0 [u8, u9, AB.cells [AV.sl 5 u6 u4 u4 q (some q)] u11, u2, AB.cells [AV.v (.int .i64 (IntKind.wrap .i64 (IntKind.wrap .i64 ((24 : Int) * x) + y)))] 3, AB.row true q u6 (row9 h) u5, u10] else Res.out .normal u0 [u8, u9, AB.cells [AV.sl 5 u6 u4 u4 q (some q)] u11, u2, u7, AB.row true q u6 (row9 h) u5, u10]) else Res.out .normal u0 [u8, u9, AB.cells [AV.sl 5 u6 u4 u4 q (some q)] u11, u2, u7, AB.row true q u6 (row9 h) u5, u10])) := by
  subst hu2 hu1 hu0 hu11 hu10 hu9 hu8 hu7 hu6 hu5 hu4 hu3
  kernel_rfl
theorem rndAkI (yes : List Wh → Bool) (ti mp : List Wh → List Wh) (yT yL : Int → List Wh → Bool) (tT tL : Int → List Wh → List Wh) (eq : List Wh → List Wh → Bool) (m : Nat) (f : Nat → Nat → Int) (n : Nat) (g : Nat → Nat → Int) (q : Nat) (h : Nat → Nat → Int) (r : Nat) (u : Nat → Nat → Int) (x y v : Int) : type_of% (rndAkI_h yes ti mp yT yL tT tL eq m f n g q h r u x y v _ rfl _ rfl _ rfl _ rfl _ rfl _ rfl _ rfl _ rfl _ rfl _ rfl _ rfl _ rfl) := rndAkI_h yes ti mp yT yL tT tL eq m f n g q h r u x y v _ rfl _ rfl _ rfl _ rfl _ rfl _ rfl _ rfl _ rfl _ rfl _ rfl _ rfl _ rfl

theorem endAkN (yes : List Wh → Bool) (ti mp : List Wh → List Wh) (yT yL : Int → List Wh → Bool) (tT tL : Int → List Wh → List Wh) (eq : List Wh → List Wh → Bool) (m : Nat) (f : Nat → Nat → Int) (n : Nat) (g : Nat → Nat → Int) (q : Nat) (h : Nat → Nat → Int) (r : Nat) (u : Nat → Nat → Int) (v : Int) : behind Tryz.prog (gmAkI yes ti mp yT yL tT tL eq) 100 fAk 0 akRest (packK 2) .normal TLak (hpAkI m f n g q h r u v)
    = bif decide (v < (0 : Int)) then Res.out .ret [AV.tup [AV.v (.int .i64 0), AV.v (.bool false)]] [AB.row false m 9 (row9 f) 75, AB.row false n 9 (row9 g) 75] else Res.out .ret [AV.tup [AV.v (.int .i64 v), AV.v (.bool true)]] [AB.row false m 9 (row9 f) 75, AB.row false n 9 (row9 g) 75] := by kernel_rfl

theorem endAkX (yes : List Wh → Bool) (ti mp : List Wh → List Wh) (yT yL : Int → List Wh → Bool) (tT tL : Int → List Wh → List Wh) (eq : List Wh → List Wh → Bool) (m : Nat) (f : Nat → Nat → Int) (n : Nat) (g : Nat → Nat → Int) (q : Nat) (h : Nat → Nat → Int) (r : Nat) (u : Nat → Nat → Int) (v : Int) : behind Tryz.prog (gmAkI yes ti mp yT yL tT tL eq) 100 fAk 0 akRest (packK 2) (.exit 0) TLak (hpAkI m f n g q h r u v)
    = bif decide (v < (0 : Int)) then Res.out .ret [AV.tup [AV.v (.int .i64 0), AV.v (.bool false)]] [AB.row false m 9 (row9 f) 75, AB.row false n 9 (row9 g) 75] else Res.out .ret [AV.tup [AV.v (.int .i64 v), AV.v (.bool true)]] [AB.row false m 9 (row9 f) 75, AB.row false n 9 (row9 g) 75] := by kernel_rfl

end Go.Proofs.YtcadinbahmliiaaGreatDoor

/- DesignAkin of the reference: trees. Conditions: two lists of wheels. -/
namespace Go.Proofs.YtcadinbahmliiaaGreatDoor
open Go.RowKit
set_option maxRecDepth 100000

theorem treeAk_h (ok : Int → Int → Int → Bool → List Wh → Bool) (el : Int → Int → Int → Bool → List Wh → List Wh) (eq : List Wh → List Wh → Bool) (m : Nat) (f : Nat → Nat → Int) (n : Nat) (g : Nat → Nat → Int) (x y : Int) (u2 : _) (hu2 : [AB.row false m 9 (row9 f) 75, AB.row false n 9 (row9 g) 75] = u2) (u4 : _) (hu4 : (listW (itW fun q ↦ row9 f ((0 : Nat) + q)) m) = u4) (u0 : _) (hu0 : (el (1 : Int) (0 : Int) x false u4) = u0) (u3 : _) (hu3 : (List.length u0) = u3) (u1 : _) (hu1 : (el (1 : Int) y (0 : Int) false (listW (itW (row9 (wfun u0))) u3)) = u1) (u5 : _) (hu5 : (List.length u1) = u5) : execF Tryz.prog (gmR3 ok el eq) noLam 100 Tryz.f93 [.sl 0 9 0 0 m none, .sl 1 9 0 0 n none, .v (i64 x), .v (i64 y)] (hpTr m f n g) (packK 2)
    = needs [Nat.ble ((0 : Nat) + m) m, allW m fun q ↦ row9 f ((0 : Nat) + q), decide (m ≤ (274877906944 : Nat))] (bif !ok (1 : Int) (0 : Int) x false u4 then Res.out .ret [AV.v (.bool false)] u2 else needs [Nat.ble u3 u3, allW u3 (row9 (wfun u0)), decide (List.length u0 ≤ (274877906944 : Nat))] (bif ok (1 : Int) y (0 : Int) false (listW (itW (row9 (wfun u0))) u3) then needs [Nat.ble u5 u5, Nat.ble ((0 : Nat) + n) n, allW u5 (row9 (wfun u1)), allW n fun q ↦ row9 g ((0 : Nat) + q), decide (List.length u1 ≤ (274877906944 : Nat))] (Res.out .ret [AV.v (.bool (eq (listW (itW (row9 (wfun u1))) u5) (listW (itW fun q ↦ row9 g ((0 : Nat) + q)) n)))] u2) else Res.out .ret [AV.v (.bool false)] u2)) := by
  subst hu5 hu1 hu3 hu0 hu4 hu2
  kernel_rfl
theorem treeAk (ok : Int → Int → Int → Bool → List Wh → Bool) (el : Int → Int → Int → Bool → List Wh → List Wh) (eq : List Wh → List Wh → Bool) (m : Nat) (f : Nat → Nat → Int) (n : Nat) (g : Nat → Nat → Int) (x y : Int) : type_of% (treeAk_h ok el eq m f n g x y _ rfl _ rfl _ rfl _ rfl _ rfl _ rfl) := treeAk_h ok el eq m f n g x y _ rfl _ rfl _ rfl _ rfl _ rfl _ rfl

def FakO (ak : List Wh → List Wh → Int → Int → Bool) : List SA → Option FR
  | [.row m ga, .row n gb, .v (.int .i64 x), .v (.int .i64 y)] => some { val := .v (.bool (ak (listW (itW ga) m) (listW (itW gb) n) x y)), obl := [allW m ga, allW n gb, decide (m ≤ 2 ^ 38), decide (n ≤ 2 ^ 38)] }
  | _ => none
def md_ak : List Md := [.rd 9 75, .rd 9 75, .val, .val]
def gmAk (ak : List Wh → List Wh → Int → Int → Bool) : Gam := ext g0 93 (specR md_ak (FakO ak))
abbrev lvAk : Ex → List Nat := lv3 [6, 8, 10] [] [4, 5]
abbrev stAk (q r i : Nat) : List AV := [.own 2 q, .own 3 r, .v (i64 i)]
abbrev hpAk (m : Nat) (f : Nat → Nat → Int) (n : Nat) (g : Nat → Nat → Int) (q : Nat) (h : Nat → Nat → Int) (r : Nat) (u : Nat → Nat → Int) : List AB := [.row false m 9 (row9 f) 75, .row false n 9 (row9 g) 75, .row true q 9 (row9 h) 75, .row true r 9 (row9 u) 75]
theorem rndAk (ak : List Wh → List Wh → Int → Int → Bool) (m : Nat) (f : Nat → Nat → Int) (n : Nat) (g : Nat → Nat → Int) (q : Nat) (h : Nat → Nat → Int) (r : Nat) (u : Nat → Nat → Int) (i : Nat) : execC Tryz.prog (gmAk ak) 100 noLam (loopAt 0 Tryz.f59) (mkT 0 39 ((lvAk .normal).zip (stAk q r i))) (hpAk m f n g q h r u) (leafV 39 lvAk 2)
    = bif decide ((↑i : Int) < (576 : Int)) then needs [Nat.ble q q, Nat.ble r r, allW q (row9 h), allW r (row9 u), decide (q ≤ (274877906944 : Nat)), decide (r ≤ (274877906944 : Nat))] (bif ak (listW (itW (row9 h)) q) (listW (itW (row9 u)) r) (IntKind.wrap .i64 (Int.tdiv (↑i : Int) (24 : Int))) (Int.tmod (↑i : Int) (24 : Int)) then Res.out .ret [AV.v (.int .i64 (↑i : Int)), AV.v (.bool true)] [AB.row false m 9 (row9 f) 75, AB.row false n 9 (row9 g) 75] else Res.out .normal [AV.own 2 q, AV.own 3 r, AV.v (.int .i64 (IntKind.wrap .i64 ((↑i : Int) + (1 : Int))))] [AB.row false m 9 (row9 f) 75, AB.row false n 9 (row9 g) 75, AB.row true q 9 (row9 h) 75, AB.row true r 9 (row9 u) 75]) else Res.out (Ex.exit (0 : Nat)) [] [AB.row false m 9 (row9 f) 75, AB.row false n 9 (row9 g) 75] := by kernel_rfl

noncomputable abbrev lamAk (m : Nat) (f : Nat → Nat → Int) (n : Nat) (g : Nat → Nat → Int) (q : Nat) (h : Nat → Nat → Int) (r : Nat) (u : Nat → Nat → Int) (c : Bool) (x : Int) : Nat → Option Sum := oneL 0 (atS 39 (lvAk .normal) 2 (stAk q r 0) (hpAk m f n g q h r u) (fun K => cond c (K .normal (mkT 0 39 []) (hpTr m f n g)) (K .ret (mkT 0 39 [(4, .v (i64 x)), (5, .v (.bool true))]) (hpTr m f n g))))
theorem treeAkS_h (okd : List Wh → Bool) (ti : List Wh → List Wh) (okt : List Wh → Bool) (m : Nat) (f : Nat → Nat → Int) (n : Nat) (g : Nat → Nat → Int) (q : Nat) (h : Nat → Nat → Int) (r : Nat) (u : Nat → Nat → Int) (c : Bool) (x : Int) (u1 : _) (hu1 : [AV.tup [AV.v (.int .i64 0), AV.v (.bool false)]] = u1) (u5 : _) (hu5 : (0 : Nat) = u5) (u7 : _) (hu7 : 75 = u7) (u0 : _) (hu0 : [AB.row false m 9 (row9 f) u7, AB.row false n 9 (row9 g) u7] = u0) (u2 : _) (hu2 : (listW (itW fun q ↦ row9 g (u5 + q)) n) = u2) (u3 : _) (hu3 : (listW (itW fun q ↦ row9 f (u5 + q)) m) = u3) (u4 : _) (hu4 : (allW n fun q ↦ row9 g (u5 + q)) = u4) (u6 : _) (hu6 : [Nat.ble (u5 + n) n, u4, decide (n ≤ (274877906944 : Nat))] = u6) : execF Tryz.prog (gmS2 okd ti okt) (lamAk m f n g q h r u c x) 100 Tryz.f59 [.sl 0 9 0 0 m none, .sl 1 9 0 0 n none] (hpTr m f n g) (packK 2)
    = needs [Nat.ble (u5 + m) m, allW m fun q ↦ row9 f (u5 + q), decide (m ≤ (549755813888 : Nat))] (bif !okd u3 then needs [Nat.ble (u5 + n) n, u4, decide (n ≤ (549755813888 : Nat))] (bif !okd u2 then Res.out .ret u1 u0 else needs u6 (Res.out .ret u1 u0)) else needs [Nat.ble (u5 + m) m, allW m fun q ↦ row9 f (u5 + q), decide (m ≤ (274877906944 : Nat)), Nat.ble (u5 + n) n, u4, decide (n ≤ (549755813888 : Nat))] (bif !okd u2 then bif !okt u3 then Res.out .ret u1 u0 else Res.out .ret u1 u0 else needs u6 (bif !okt u3 then Res.out .ret u1 u0 else bif !okt u2 then Res.out .ret u1 u0 else needs [chk ([AV.own 2 (List.length (ti u3)), AV.own 3 (List.length (ti u2)), AV.v (.int .i64 0)] = stAk q r u5 ∧ Hsim [AB.row false m 9 (row9 f) u7, AB.row false n 9 (row9 g) u7, AB.row true (List.length (ti u3)) (9 : Nat) (row9 (wfun (ti u3))) u7, AB.row true (List.length (ti u2)) (9 : Nat) (row9 (wfun (ti u2))) u7] (hpAk m f n g q h r u))] (bif c then Res.out .ret u1 u0 else Res.out .ret [AV.tup [AV.v (.int .i64 x), AV.v (.bool true)]] u0)))) := by
  subst hu6 hu4 hu3 hu2 hu0 hu7 hu5 hu1
  kernel_rfl
theorem treeAkS (okd : List Wh → Bool) (ti : List Wh → List Wh) (okt : List Wh → Bool) (m : Nat) (f : Nat → Nat → Int) (n : Nat) (g : Nat → Nat → Int) (q : Nat) (h : Nat → Nat → Int) (r : Nat) (u : Nat → Nat → Int) (c : Bool) (x : Int) : type_of% (treeAkS_h okd ti okt m f n g q h r u c x _ rfl _ rfl _ rfl _ rfl _ rfl _ rfl _ rfl _ rfl) := treeAkS_h okd ti okt m f n g q h r u c x _ rfl _ rfl _ rfl _ rfl _ rfl _ rfl _ rfl _ rfl

end Go.Proofs.YtcadinbahmliiaaGreatDoor

/- The program's CycMirror. Conditions: a point. -/
namespace Go.Proofs.YtcadinbahmliiaaGreatDoor
open Go.RowKit
set_option maxRecDepth 100000

end Go.Proofs.YtcadinbahmliiaaGreatDoor

/- 'changed', for DesignFaster: trees. Conditions: a list of wheels. -/
namespace Go.Proofs.YtcadinbahmliiaaGreatDoor
open Go.RowKit
set_option maxRecDepth 100000

end Go.Proofs.YtcadinbahmliiaaGreatDoor

/- 'changed', for DesignFaster: its words. Conditions: a list of wheels. -/
namespace Go.Proofs.YtcadinbahmliiaaGreatDoor
open Go.RowKit
set_option maxRecDepth 100000

end Go.Proofs.YtcadinbahmliiaaGreatDoor

/- The program's DesignFaster. Conditions: a list of wheels. -/
namespace Go.Proofs.YtcadinbahmliiaaGreatDoor
open Go.RowKit
set_option maxRecDepth 100000

end Go.Proofs.YtcadinbahmliiaaGreatDoor

/- The program's DesignFaster, as a list or none, read as one. Conditions: a list of wheels. -/
namespace Go.Proofs.YtcadinbahmliiaaGreatDoor
open Go.RowKit
set_option maxRecDepth 100000

end Go.Proofs.YtcadinbahmliiaaGreatDoor

/- Plain laws of designs: turned, later, back, mirrored, faster. No program, no conditions. -/
namespace Go.Proofs.YtcadinbahmliiaaGreatDoor
open Go.RowKit

end Go.Proofs.YtcadinbahmliiaaGreatDoor

/- Plain laws of designs: periods and folds. No program, no conditions. -/
namespace Go.Proofs.YtcadinbahmliiaaGreatDoor
open Go.RowKit

end Go.Proofs.YtcadinbahmliiaaGreatDoor

/- Plain laws of designs: a tidy list turned is turned wheel by wheel; akin designs. No program, no conditions. -/
namespace Go.Proofs.YtcadinbahmliiaaGreatDoor
open Go.RowKit

def akB (A B : List Wh) (x y : Int) : Bool := (eachOk 1 0 x false A && eachOk 1 y 0 false (eachL 1 0 x false A)) && eqL (eachL 1 y 0 false (eachL 1 0 x false A)) B
end Go.Proofs.YtcadinbahmliiaaGreatDoor

/- Two cases of a word, read as one; the program's DesignClosed. Conditions: a list of wheels. -/
namespace Go.Proofs.YtcadinbahmliiaaGreatDoor
open Go.RowKit
set_option maxRecDepth 100000

end Go.Proofs.YtcadinbahmliiaaGreatDoor

/- DesignAkin of both: their words. Conditions: two lists of wheels. -/
namespace Go.Proofs.YtcadinbahmliiaaGreatDoor
open Go.RowKit
set_option maxRecDepth 100000

def akHit (A B : List Wh) (i : Nat) : Bool := akB A B ((i / 24 : Nat) : Int) ((i % 24 : Nat) : Int)
def cdA (x : Nat) : Int := IntKind.wrap IntKind.i64 (IntKind.wrap IntKind.i64 (24 * ((x / 24 : Nat) : Int)) + ((x % 24 : Nat) : Int))
theorem cdA_eq {x : Nat} (h : x < 576) : cdA x = x := by
  unfold cdA
  rw [wr_in (x := 24 * ((x / 24 : Nat) : Int)) (by omega), wr_in (by omega)]
  omega
def fh (p : Nat → Bool) (l : List Nat) : Int := match l.find? p with
  | some x => cdA x
  | none => -1
def hasH (p : Nat → Bool) (l : List Nat) : Bool := (l.find? p).isSome
theorem hasH_snoc (p : Nat → Bool) (l : List Nat) (x : Nat) : hasH p (l ++ [x]) = (hasH p l || p x) := by
  unfold hasH
  rw [List.find?_append]
  cases l.find? p with
  | some y => rfl
  | none => cases h : p x <;> simp [h]
theorem fh_yes {p : Nat → Bool} {l : List Nat} (x : List Nat) (h : hasH p l = true) : fh p (l ++ x) = fh p l := by
  unfold hasH at h
  unfold fh
  rw [List.find?_append]
  cases e : l.find? p with
  | some y => rfl
  | none => rw [e] at h; cases h
theorem fh_new {p : Nat → Bool} {l : List Nat} {x : Nat} (h : hasH p l = false) (hx : p x = true) : fh p (l ++ [x]) = cdA x := by
  unfold hasH at h
  unfold fh
  rw [List.find?_append]
  cases e : l.find? p with
  | some y => rw [e] at h; cases h
  | none => simp [hx]
theorem fh_not {p : Nat → Bool} {l : List Nat} (h : hasH p l = false) : fh p l = -1 := by
  unfold hasH at h
  unfold fh
  cases e : l.find? p with
  | some y => rw [e] at h; cases h
  | none => rfl
theorem fh_nn {p : Nat → Bool} {l : List Nat} (hl : ∀ x ∈ l, x < 576) (h : hasH p l = true) : 0 ≤ fh p l := by
  unfold hasH at h
  unfold fh
  cases e : l.find? p with
  | some y =>
    show 0 ≤ cdA y
    rw [cdA_eq (hl y (List.mem_of_find?_eq_some e))]
    omega
  | none => rw [e] at h; cases h
theorem hasH_no {p : Nat → Bool} {k : Nat} (h : noneTo p k = true) : hasH p (List.range k) = false := by
  unfold hasH
  have : (List.range k).find? p = none := List.find?_eq_none.2 fun x hx => by
    rw [noneTo_get h (List.mem_range.1 hx)]
    simp
  rw [this]
  rfl
theorem fh_range {p : Nat → Bool} {k : Nat} (hk : k ≤ 576) (h : hasH p (List.range k) = true) : fh p (List.range 576) = fh p (List.range k) := by
  rw [show 576 = k + (576 - k) by omega, List.range_add]
  exact fh_yes _ h
theorem fh_hit {p : Nat → Bool} {i : Nat} (h : noneTo p i = true) (hp : p i = true) (hi : i < 576) : fh p (List.range 576) = i := by
  have e : hasH p (List.range (i + 1)) = true := by rw [List.range_succ, hasH_snoc, hp, Bool.or_true]
  rw [fh_range (k := i + 1) hi e, List.range_succ, fh_new (hasH_no h) hp, cdA_eq hi]
def akF (A B : List Wh) : Int := fh (akHit A B) (List.range 576)
def aY (A B : List Wh) : Bool := (yI A && yI B) && decide (0 ≤ akF (tI A) (tI B))
def aN (A B : List Wh) : Int := bif aY A B then akF (tI A) (tI B) else 0
theorem aN_no {A B : List Wh} (h : aY A B = false) : aN A B = 0 := by rw [aN, h]; rfl
def FakV (nn : List Wh → List Wh → Int) (yes : List Wh → List Wh → Bool) : List SA → Option FR
  | [.row m ga, .row n gb] => some { val := .tup [.v (i64 (nn (listW (itW ga) m) (listW (itW gb) n))), .v (.bool (yes (listW (itW ga) m) (listW (itW gb) n)))], obl := [allW m ga, allW n gb, decide (m ≤ 2 ^ 38), decide (n ≤ 2 ^ 38)] }
  | _ => none

theorem ok_l7 : SpecOk Tryz.prog 93 (specR md_ak (FakO akB)) := by
  refine specR_hr gmR3_ok Tryz.func93 rfl fun sas fr hF ho => ?_
  unfold FakO at hF
  split at hF
  · rename_i m ga n gb x y
    cases hF
    simp only [ob_cons] at ho
    obtain ⟨h1, h2, h3, h4, _⟩ := ho
    have hm := of_decide_eq_true h3
    have hn := of_decide_eq_true h4
    refine ⟨hpTr m (itW ga) n (itW gb), noLam, 100, .cons (ABeq.row fun j hj => allW_get h1 j hj) (.cons (ABeq.row fun j hj => allW_get h2 j hj) .nil), noLam' _, ?_⟩
    show GoodQ (execF Tryz.prog (gmR3 eachOk eachL eqL) noLam 100 Tryz.f93 [.sl 0 9 0 0 m none, .sl 1 9 0 0 n none, .v (i64 x), .v (i64 y)] (hpTr m (itW ga) n (itW gb)) (packK 2)) _
    have fin : ∀ b, akB (listW (itW ga) m) (listW (itW gb) n) x y = b → GoodQ (.out .ret [.v (.bool b)] [.row false m 9 (row9 (itW ga)) 75, .row false n 9 (row9 (itW gb)) 75]) (GivR (abP md_ak [.row m ga, .row n gb, .v (.int .i64 x), .v (.int .i64 y)] []) { val := .v (.bool (akB (listW (itW ga) m) (listW (itW gb) n) x y)), obl := [allW m ga, allW n gb, decide (m ≤ 2 ^ 38), decide (n ≤ 2 ^ 38)] }) := fun b hb =>
      good_out ⟨_, rfl, by rw [hb], .cons (ABeq.row fun j hj => (allW_get h1 j hj).symm) (.cons (ABeq.row fun j hj => (allW_get h2 j hj).symm) .nil)⟩
    rw [treeAk]
    simp only [row0, listW_itW]
    have l1 : (eachL 1 0 x false (listW (itW ga) m)).length ≤ 12 := eachL_len _ _ _ _ _
    rw [show listW (wfun (eachL 1 0 x false (listW (itW ga) m))) (eachL 1 0 x false (listW (itW ga) m)).length = eachL 1 0 x false (listW (itW ga) m) from listW_fun _]
    have l2 : (eachL 1 y 0 false (eachL 1 0 x false (listW (itW ga) m))).length ≤ 12 := eachL_len _ _ _ _ _
    rw [show listW (wfun (eachL 1 y 0 false (eachL 1 0 x false (listW (itW ga) m)))) (eachL 1 y 0 false (eachL 1 0 x false (listW (itW ga) m))).length = eachL 1 y 0 false (eachL 1 0 x false (listW (itW ga) m)) from listW_fun _]
    refine good_needs (by simp only [ob_cons, ob_nil, and_true, decide_eq_true_eq, Nat.ble_eq, allW_row, true_and]; omega) (good_cond (fun q => ?_) fun q => good_needs (by simp only [ob_cons, ob_nil, and_true, decide_eq_true_eq, Nat.ble_eq, allW_row, true_and]; omega) (good_cond (fun q2 => good_needs (by simp only [ob_cons, ob_nil, and_true, decide_eq_true_eq, Nat.ble_eq, allW_row, true_and]; omega) ?_) fun q2 => ?_))
    · rw [Bool.not_eq_true'] at q
      exact fin _ (by rw [akB, q]; rfl)
    · rw [Bool.not_eq_false'] at q
      exact fin _ (by rw [akB, q, q2]; rfl)
    · rw [Bool.not_eq_false'] at q
      exact fin _ (by rw [akB, q, q2]; rfl)
  · cases hF

theorem sumAk (m : Nat) (f : Nat → Nat → Int) (n : Nat) (g : Nat → Nat → Int) (A B : List Wh) (hA : A.length ≤ 12) (hB : B.length ≤ 12) :
    SumOk Tryz.prog 2 (.block 0 (.loop (loopAt 0 Tryz.f59))) (atS 39 (lvAk .normal) 2 (stAk A.length B.length 0) (hpAk m f n g A.length (wfun A) B.length (wfun B)) (fun K => cond (noneTo (akHit A B) 576) (K .normal (mkT 0 39 []) (hpTr m f n g)) (K .ret (mkT 0 39 [(4, .v (i64 (akF A B))), (5, .v (.bool true))]) (hpTr m f n g)))) := by
  refine for_at (Γ := gmAk akB) (ext_ok g0_ok ok_l7) (n := 100) (m := 2) (lv := lvAk) (fun i => stAk A.length B.length i) (fun _ => hpAk m f n g A.length (wfun A) B.length (wfun B)) (fun i => noneTo (akHit A B) i = true) 576 (fun _ => noLam) (lv3_ris rfl rfl rfl) (Nat.le_refl _) rfl fun K Q hk i hi h576 => ⟨noLam_ok _ _ _, ?_⟩
  rw [rndAk, listW_self A _ rfl, listW_self B _ rfl]
  have e1 : Int.tdiv (i : Int) 24 = ((i / 24 : Nat) : Int) := (Int.ofNat_tdiv i 24).symm
  have e2 : Int.tmod (i : Int) 24 = ((i % 24 : Nat) : Int) := (Int.ofNat_tmod i 24).symm
  rw [e1, e2, wr_in (x := ((i / 24 : Nat) : Int)) (by omega)]
  refine good_cond (fun c1 => ?_) fun c1 => ?_
  · have c1 := of_decide_eq_true c1
    have c1' : i < 576 := by omega
    refine good_needs (by simp only [ob_cons, ob_nil, and_true, decide_eq_true_eq, Nat.ble_eq, allW_row, true_and]; omega) (good_cond (fun q => ?_) fun q => ?_)
    · have q' : akHit A B i = true := q
      rw [noneTo_no c1' q'] at hk
      refine good_out ⟨_, Hsim.refl _, ?_⟩
      rw [show akF A B = (i : Int) from fh_hit hi q' c1'] at hk
      exact hk
    · rw [wr_in (x := (i : Int) + 1) (by omega)]
      exact good_out ⟨i + 1, ⟨rfl, c1', noneTo_succ hi q⟩, rfl, Hsim.refl _⟩
  · have c1 := of_decide_eq_false c1
    have : i = 576 := by omega
    subst this
    rw [hi] at hk
    refine good_out ⟨_, Hsim.refl _, ?_⟩
    rw [if_pos rfl]
    exact hk
theorem akF_pos {A B : List Wh} (h : noneTo (akHit A B) 576 = false) : 0 ≤ akF A B := by
  refine fh_nn (fun x hx => List.mem_range.1 hx) ?_
  cases e : hasH (akHit A B) (List.range 576) with
  | true => rfl
  | false =>
    have : noneTo (akHit A B) 576 = true := noneTo_iff.2 fun i hi => by
      cases e2 : akHit A B i with
      | false => rfl
      | true =>
        unfold hasH at e
        have : (List.range 576).find? (akHit A B) = none := by
          cases e3 : (List.range 576).find? (akHit A B) with
          | none => rfl
          | some y => rw [e3] at e; cases e
        have := List.find?_eq_none.1 this i (List.mem_range.2 hi)
        exact absurd e2 this
    rw [this] at h
    cases h
theorem tidyL_len12 (L : List Wh) : (tidyL L).length ≤ 12 := by
  cases h : okT L with
  | true => exact tidyL_len h
  | false => rw [tidyL_no h]; exact Nat.zero_le _
theorem ok_akS : SpecOk Tryz.prog 59 (specR md_eqWS (FakV aN aY)) := by
  refine specR_hr gmS2_ok Tryz.func59 rfl fun sas fr hF ho => ?_
  unfold FakV at hF
  split at hF
  · rename_i m ga n gb
    cases hF
    simp only [ob_cons] at ho
    obtain ⟨h1, h2, h3, h4, _⟩ := ho
    have hm := of_decide_eq_true h3
    have hn := of_decide_eq_true h4
    have fin : ∀ v b, aN (listW (itW ga) m) (listW (itW gb) n) = v → aY (listW (itW ga) m) (listW (itW gb) n) = b → GoodQ (.out .ret [.tup [.v (i64 v), .v (.bool b)]] (hpTr m (itW ga) n (itW gb))) (GivR (abP md_eqWS [.row m ga, .row n gb] []) { val := .tup [.v (i64 (aN (listW (itW ga) m) (listW (itW gb) n))), .v (.bool (aY (listW (itW ga) m) (listW (itW gb) n)))], obl := [allW m ga, allW n gb, decide (m ≤ 2 ^ 38), decide (n ≤ 2 ^ 38)] }) := fun v b hv hb =>
      good_out ⟨_, rfl, by rw [hv, hb], .cons (ABeq.row fun j hj => (allW_get h1 j hj).symm) (.cons (ABeq.row fun j hj => (allW_get h2 j hj).symm) .nil)⟩
    have bad : aY (listW (itW ga) m) (listW (itW gb) n) = false → GoodQ (.out .ret [.tup [.v (i64 0), .v (.bool false)]] (hpTr m (itW ga) n (itW gb))) _ := fun h => fin 0 false (aN_no h) h
    refine ⟨hpTr m (itW ga) n (itW gb), _, 100, .cons (ABeq.row fun j hj => allW_get h1 j hj) (.cons (ABeq.row fun j hj => allW_get h2 j hj) .nil), lam1 (by kernel_rfl) (sumAk m (itW ga) n (itW gb) (tidyL (listW (itW ga) m)) (tidyL (listW (itW gb) n)) (tidyL_len12 _) (tidyL_len12 _)), ?_⟩
    show GoodQ (execF Tryz.prog (gmS2 okD tidyL okT) (lamAk m (itW ga) n (itW gb) (tidyL (listW (itW ga) m)).length (wfun (tidyL (listW (itW ga) m))) (tidyL (listW (itW gb) n)).length (wfun (tidyL (listW (itW gb) n))) (noneTo (akHit (tidyL (listW (itW ga) m)) (tidyL (listW (itW gb) n))) 576) (akF (tidyL (listW (itW ga) m)) (tidyL (listW (itW gb) n)))) 100 Tryz.f59 [.sl 0 9 0 0 m none, .sl 1 9 0 0 n none] (hpTr m (itW ga) n (itW gb)) (packK 2)) _
    rw [treeAkS]
    simp only [row0, listW_itW]
    generalize listW (itW ga) m = A at fin bad ⊢
    generalize listW (itW gb) n = B at fin bad ⊢
    have ob : ∀ {k l : Nat} {a b : Nat → Nat → Int} {K : Nat}, l = k → k ≤ K → obls [Nat.ble (0 + k) l, allW k (row9 a), decide (k ≤ K)] = true := fun {k l a b K} e hK => by
      simp only [ob_cons, ob_nil, and_true, decide_eq_true_eq, Nat.ble_eq, allW_row, true_and]
      omega
    have noA : okD A = false → aY A B = false := fun h => by rw [aY, yI, h]; rfl
    have noA2 : okT A = false → aY A B = false := fun h => by rw [aY, yI, h, Bool.and_false]; rfl
    have noB : okD B = false → aY A B = false := fun h => by rw [aY, yI, yI, h, Bool.false_and, Bool.and_false]; rfl
    have noB2 : okT B = false → aY A B = false := fun h => by rw [aY, yI, yI, h, Bool.and_false (okD B), Bool.and_false]; rfl
    refine good_needs (by simp only [ob_cons, ob_nil, and_true, decide_eq_true_eq, Nat.ble_eq, allW_row, true_and]; omega) (good_cond (fun q => ?_) fun q => ?_)
    · rw [Bool.not_eq_true'] at q
      refine good_needs (by simp only [ob_cons, ob_nil, and_true, decide_eq_true_eq, Nat.ble_eq, allW_row, true_and]; omega) (good_cond (fun _ => bad (noA q)) fun _ => good_needs (by simp only [ob_cons, ob_nil, and_true, decide_eq_true_eq, Nat.ble_eq, allW_row, true_and]; omega) (bad (noA q)))
    · rw [Bool.not_eq_false'] at q
      refine good_needs (by simp only [ob_cons, ob_nil, and_true, decide_eq_true_eq, Nat.ble_eq, allW_row, true_and]; omega) (good_cond (fun q2 => ?_) fun q2 => ?_)
      · rw [Bool.not_eq_true'] at q2
        exact good_cond (fun _ => bad (noB q2)) fun _ => bad (noB q2)
      · rw [Bool.not_eq_false'] at q2
        refine good_needs (by simp only [ob_cons, ob_nil, and_true, decide_eq_true_eq, Nat.ble_eq, allW_row, true_and]; omega) (good_cond (fun q3 => ?_) fun q3 => good_cond (fun q4 => ?_) fun q4 => good_needs (by rw [ob_cons]; exact ⟨chk_of ⟨rfl, Hsim.refl _⟩, rfl⟩) ?_)
        · rw [Bool.not_eq_true'] at q3
          exact bad (noA2 q3)
        · rw [Bool.not_eq_true'] at q4
          exact bad (noB2 q4)
        · rw [Bool.not_eq_false'] at q3 q4
          have yA : yI A = true := by rw [yI, q, q3]; rfl
          have yB : yI B = true := by rw [yI, q2, q4]; rfl
          have tA : tI A = tidyL A := by rw [tI, yA]; rfl
          have tB : tI B = tidyL B := by rw [tI, yB]; rfl
          refine good_cond (fun c => bad ?_) fun c => fin _ _ ?_ ?_
          · rw [aY, tA, tB, show akF (tidyL A) (tidyL B) = -1 from fh_not (hasH_no c)]
            rw [show decide (0 ≤ (-1 : Int)) = false from rfl, Bool.and_false]
          · rw [aN, aY, yA, yB, tA, tB, decide_eq_true (akF_pos c)]
            rfl
          · rw [aY, yA, yB, tA, tB, decide_eq_true (akF_pos c)]
            rfl
  · cases hF

end Go.Proofs.YtcadinbahmliiaaGreatDoor

/- The program's DesignAkin: its word. Conditions: two lists of wheels. -/
namespace Go.Proofs.YtcadinbahmliiaaGreatDoor
open Go.RowKit
set_option maxRecDepth 100000

theorem gmAkI_ok : GamOk Tryz.prog (gmAkI yesTi tidyL mpTi yT yL tT tL eqL) := ext_ok gmS3_ok ok_deYTi
theorem pairs_enters : ∀ args w, (callFunc 97 args).run Tryz.prog w = .ok (.enter 97 args) w := fun args w => enters _ _ Tryz.func97 rfl args w
theorem yL_none (x : Int) : yL x noneL = false := by
  unfold yL eachOk eachP
  rw [show okD noneL = false by decide +kernel]
  rfl
def lpA (p : Nat → Bool) (A : List Wh) (pre : List Nat) : List Wh := bif hasH p pre then noneL else A
def hpP (m : Nat) (f : Nat → Nat → Int) (n : Nat) (g : Nat → Nat → Int) (A B : List Wh) (pre : List Nat) : List AB := hpAkI m f n g (lpA (akHit A B) A pre).length (wfun (lpA (akHit A B) A pre)) B.length (wfun B) (fh (akHit A B) pre)
def hxP (m : Nat) (f : Nat → Nat → Int) (n : Nat) (g : Nat → Nat → Int) (A B : List Wh) (_ : Ex) (pre : List Nat) : List AB := hpAkI m f n g A.length (wfun A) B.length (wfun B) (bif hasH (akHit A B) pre then fh (akHit A B) pre else akF A B)
def lvX : Ex → Bool
  | .exit j => Nat.beq j 0
  | _ => false
theorem roundAk (m : Nat) (f : Nat → Nat → Int) (n : Nat) (g : Nat → Nat → Int) (A B : List Wh) (hA : A.length ≤ 12) (_ : B.length ≤ 12) (pre : List Nat) (x : Nat) :
    (execC Tryz.prog (gmAkI yesTi tidyL mpTi yT yL tT tL eqL) 100 noLam akAs (parT [32, 33] (enP x) TLak) (hpP m f n g A B pre) (andK Tryz.prog (gmAkI yesTi tidyL mpTi yT yL tT tL eqL) 100 akBd 7)).ok (RoundQ lvX (hpP m f n g A B) (hxP m f n g A B) (pre ++ [x])) := by
  have rnd := rndAkI yesTi tidyL mpTi yT yL tT tL eqL m f n g
  have lens : ∀ {L : List Wh} {k : Nat}, L.length ≤ 12 → 12 ≤ k → obls [Nat.ble (0 + L.length) L.length, allW L.length fun q => row9 (wfun L) (0 + q), decide (L.length ≤ k)] = true := fun {L k} h hk => by
    simp only [row0, ob_cons, ob_nil, and_true, decide_eq_true_eq, Nat.ble_eq, allW_row, true_and]
    omega
  suffices h : GoodQ (execC Tryz.prog (gmAkI yesTi tidyL mpTi yT yL tT tL eqL) 100 noLam akAs (parT [32, 33] [i64 ((x / 24 : Nat) : Int), i64 ((x % 24 : Nat) : Int)] TLak) (hpAkI m f n g (lpA (akHit A B) A pre).length (wfun (lpA (akHit A B) A pre)) B.length (wfun B) (fh (akHit A B) pre)) (andK Tryz.prog (gmAkI yesTi tidyL mpTi yT yL tT tL eqL) 100 akBd 7)) (RoundQ lvX (hpP m f n g A B) (hxP m f n g A B) (pre ++ [x])) from h.out
  rw [rnd]
  cases hh : hasH (akHit A B) pre with
  | true =>
    have hl : lpA (akHit A B) A pre = noneL := by rw [lpA, hh]; rfl
    have hl2 : lpA (akHit A B) A (pre ++ [x]) = noneL := by rw [lpA, hasH_snoc, hh]; rfl
    rw [hl]
    simp only [row0]
    rw [show listW (itW (row9 (wfun noneL))) noneL.length = noneL from listW_self noneL _ rfl, yL_none]
    refine good_needs (by have := lens (L := noneL) (k := 274877906944) (by decide) (by omega); simpa only [row0] using this) (good_true rfl (good_out ?_))
    show Hsim _ (hpP m f n g A B (pre ++ [x]))
    unfold hpP
    rw [hl2, fh_yes _ hh]
    exact Hsim.refl _
  | false =>
    have hl : lpA (akHit A B) A pre = A := by rw [lpA, hh]; rfl
    rw [hl]
    simp only [row0]
    rw [show listW (itW (row9 (wfun A))) A.length = A from listW_self A _ rfl, show listW (itW (row9 (wfun B))) B.length = B from listW_self B _ rfl]
    have l1 : (tL ((x / 24 : Nat) : Int) A).length ≤ 12 := eachL_len _ _ _ _ _
    rw [show listW (itW (row9 (wfun (tL ((x / 24 : Nat) : Int) A)))) (tL ((x / 24 : Nat) : Int) A).length = tL ((x / 24 : Nat) : Int) A from listW_self _ _ rfl]
    have l2 : (tT ((x % 24 : Nat) : Int) (tL ((x / 24 : Nat) : Int) A)).length ≤ 12 := eachL_len _ _ _ _ _
    rw [show listW (itW (row9 (wfun (tT ((x % 24 : Nat) : Int) (tL ((x / 24 : Nat) : Int) A))))) (tT ((x % 24 : Nat) : Int) (tL ((x / 24 : Nat) : Int) A)).length = tT ((x % 24 : Nat) : Int) (tL ((x / 24 : Nat) : Int) A) from listW_self _ _ rfl]
    have non : akHit A B x = false → RoundQ lvX (hpP m f n g A B) (hxP m f n g A B) (pre ++ [x]) .normal (mkT 0 54 []) (hpAkI m f n g A.length (wfun A) B.length (wfun B) (fh (akHit A B) pre)) := fun hn => by
      have hs : hasH (akHit A B) (pre ++ [x]) = false := by rw [hasH_snoc, hh, hn]; rfl
      show Hsim _ (hpP m f n g A B (pre ++ [x]))
      unfold hpP
      rw [show lpA (akHit A B) A (pre ++ [x]) = A by rw [lpA, hs]; rfl, fh_not hs, fh_not hh]
      exact Hsim.refl _
    refine good_needs (by have := lens (L := A) (k := 274877906944) hA (by omega); simpa only [row0] using this) (good_cond (fun q => good_out (non ?_)) fun q => good_needs (by have := lens (L := tL ((x / 24 : Nat) : Int) A) (k := 274877906944) l1 (by omega); simpa only [row0] using this) (good_cond (fun q2 => good_needs ?_ (good_cond (fun q3 => good_out ?_) fun q3 => good_out (non ?_))) fun q2 => good_out (non ?_)))
    · rw [Bool.not_eq_true'] at q
      show akB A B _ _ = false
      rw [akB]
      rw [show eachOk 1 0 ((x / 24 : Nat) : Int) false A = false from q]
      rfl
    · simp only [ob_cons, ob_nil, and_true, decide_eq_true_eq, Nat.ble_eq, allW_row, true_and]
      omega
    · rw [Bool.not_eq_false'] at q
      have hn : akHit A B x = true := by
        show akB A B _ _ = true
        rw [akB, show eachOk 1 0 ((x / 24 : Nat) : Int) false A = true from q, show eachOk 1 ((x % 24 : Nat) : Int) 0 false (eachL 1 0 ((x / 24 : Nat) : Int) false A) = true from q2]
        exact q3
      refine ⟨rfl, ?_⟩
      unfold hxP
      have hs : hasH (akHit A B) (pre ++ [x]) = true := by rw [hasH_snoc, hn, Bool.or_true]
      rw [hs, cond_true, fh_new hh hn]
      exact Hsim.refl _
    · rw [Bool.not_eq_false'] at q
      show akB A B _ _ = false
      rw [akB, show eachOk 1 0 ((x / 24 : Nat) : Int) false A = true from q, show eachOk 1 ((x % 24 : Nat) : Int) 0 false (eachL 1 0 ((x / 24 : Nat) : Int) false A) = true from q2]
      exact q3
    · rw [Bool.not_eq_false'] at q
      show akB A B _ _ = false
      rw [akB, show eachOk 1 0 ((x / 24 : Nat) : Int) false A = true from q, show eachOk 1 ((x % 24 : Nat) : Int) 0 false (eachL 1 0 ((x / 24 : Nat) : Int) false A) = false from q2]
      rfl

def FakY (nn : List Wh → List Wh → Int) (yes : List Wh → List Wh → Bool) : List SA → Option FR
  | [.row m ga, .row n gb] => some { val := .tup [.v (i64 (nn (listW (itW ga) m) (listW (itW gb) n))), .v (.bool (yes (listW (itW ga) m) (listW (itW gb) n)))], obl := [allW m ga, allW n gb, decide (m ≤ 2 ^ 38), decide (n ≤ 2 ^ 38), yI (listW (itW ga) m), yI (listW (itW gb) n)] }
  | _ => none
theorem ok_akY : SpecOk Tryz.prog 34 (specR md_eqWS (FakY aN aY)) := by
  refine specR_calls enters Tryz.func34 rfl fun sas fr hF ho => ?_
  unfold FakY at hF
  split at hF
  · rename_i m ga n gb
    cases hF
    simp only [ob_cons] at ho
    obtain ⟨h1, h2, h3, h4, yA, yB, _⟩ := ho
    have hm := of_decide_eq_true h3
    have hn := of_decide_eq_true h4
    refine ⟨hpTr m (itW ga) n (itW gb), .cons (ABeq.row fun j hj => allW_get h1 j hj) (.cons (ABeq.row fun j hj => allW_get h2 j hj) .nil), ?_⟩
    have fin : ∀ v b, aN (listW (itW ga) m) (listW (itW gb) n) = v → aY (listW (itW ga) m) (listW (itW gb) n) = b → GoodQ (.out .ret [.tup [.v (i64 v), .v (.bool b)]] (hpTr m (itW ga) n (itW gb))) (GivR (abP md_eqWS [.row m ga, .row n gb] []) { val := .tup [.v (i64 (aN (listW (itW ga) m) (listW (itW gb) n))), .v (.bool (aY (listW (itW ga) m) (listW (itW gb) n)))], obl := [allW m ga, allW n gb, decide (m ≤ 2 ^ 38), decide (n ≤ 2 ^ 38), yI (listW (itW ga) m), yI (listW (itW gb) n)] }) := fun v b hv hb =>
      good_out ⟨_, rfl, by rw [hv, hb], .cons (ABeq.row fun j hj => (allW_get h1 j hj).symm) (.cons (ABeq.row fun j hj => (allW_get h2 j hj).symm) .nil)⟩
    have tA : tI (listW (itW ga) m) = tidyL (listW (itW ga) m) := by rw [tI, yA]; rfl
    have tB : tI (listW (itW gb) n) = tidyL (listW (itW gb) n) := by rw [tI, yB]; rfl
    have lA := tidyL_len12 (listW (itW ga) m)
    have lB := tidyL_len12 (listW (itW gb) n)
    have pre := preAk yesTi tidyL mpTi yT yL tT tL eqL m (itW ga) n (itW gb)
    simp only [row0, listW_itW, map_Ti] at pre
    have eY : aY (listW (itW ga) m) (listW (itW gb) n) = decide (0 ≤ akF (tidyL (listW (itW ga) m)) (tidyL (listW (itW gb) n))) := by rw [aY, yA, yB, tA, tB]; rfl
    have eN : aN (listW (itW ga) m) (listW (itW gb) n) = bif decide (0 ≤ akF (tidyL (listW (itW ga) m)) (tidyL (listW (itW gb) n))) then akF (tidyL (listW (itW ga) m)) (tidyL (listW (itW gb) n)) else 0 := by rw [aN, eY, tA, tB]
    have sA := yesTi_eq (listW (itW ga) m)
    have sB := yesTi_eq (listW (itW gb) n)
    rw [show (okD (listW (itW ga) m) && okT (listW (itW ga) m)) = yI (listW (itW ga) m) from rfl, yA] at sA
    rw [show (okD (listW (itW gb) n) && okT (listW (itW gb) n)) = yI (listW (itW gb) n) from rfl, yB] at sB
    generalize tidyL (listW (itW ga) m) = A at lA eY eN pre
    generalize tidyL (listW (itW gb) n) = B at lB eY eN pre
    -- behind the loop, by the number found
    have stop : ∀ v : Int, v = akF A B → GoodQ (bif decide (v < 0) then Res.out .ret [.tup [.v (i64 0), .v (.bool false)]] (hpTr m (itW ga) n (itW gb)) else Res.out .ret [.tup [.v (i64 v), .v (.bool true)]] (hpTr m (itW ga) n (itW gb))) (GivR (abP md_eqWS [.row m ga, .row n gb] []) { val := .tup [.v (i64 (aN (listW (itW ga) m) (listW (itW gb) n))), .v (.bool (aY (listW (itW ga) m) (listW (itW gb) n)))], obl := [allW m ga, allW n gb, decide (m ≤ 2 ^ 38), decide (n ≤ 2 ^ 38), yI (listW (itW ga) m), yI (listW (itW gb) n)] }) := fun v hv => by
      subst hv
      refine good_cond (fun q => ?_) fun q => ?_
      · have q := of_decide_eq_true q
        have hd : decide (0 ≤ akF A B) = false := decide_eq_false (by omega)
        exact fin 0 false (by rw [eN, hd]; rfl) (by rw [eY, hd])
      · have q := of_decide_eq_false q
        have hd : decide (0 ≤ akF A B) = true := decide_eq_true (by omega)
        exact fin _ true (by rw [eN, hd]; rfl) (by rw [eY, hd])
    refine calls_rangeS (α := Nat) (n := 100) (nn := 0) gmAkI_ok mixed enters Tryz.func34 bAk_eq (by kernel_rfl) (by kernel_rfl) (by kernel_rfl) (by kernel_rfl) (by kernel_rfl) (by kernel_rfl) (lvp := lv3 [6, 8, 10, 31] [] []) (TT := TTak) (HH := hpAkI m (itW ga) n (itW gb) A.length (wfun A) B.length (wfun B) (-1))
      (encs := enP) (S := fun xs => xs = List.range 576) (Sp := fun xs => ∃ k, k ≤ 576 ∧ xs = List.range k) (N := 576) ?_ (gf := 97) (cs := []) (by kernel_rfl) TLak (by kernel_rfl) (mask_less (live := [6, 8, 10]) (by kernel_rfl)) lvX (hpP m (itW ga) n (itW gb) A B) (hxP m (itW ga) n (itW gb) A B) rfl (fun i => .inl rfl)
      pairs_enters (fun W ν1 a1 lb hS hv => ?_) (fun _ => rfl) (by decide) (fun pre x _ => ?_) (fun xs hxs => ?_) (fun e pre hne hlv hsp => ?_)
    · show (execL Tryz.prog (gmAkI yesTi tidyL mpTi yT yL tT tL eqL) 100 (akPre0 ++ (akPre ++ [akP2])) ([.sl 0 9 0 0 m none, .sl 1 9 0 0 n none] ++ List.replicate 52 (.v undef)) (hpTr m (itW ga) n (itW gb)) (leafK (lv3 [6, 8, 10, 31] [] []) 2)).ok _
      rw [pre]
      exact (good_needs (Q := fun e T' H' => e = .normal ∧ T' = TTak ∧ H' = hpAkI m (itW ga) n (itW gb) A.length (wfun A) B.length (wfun B) (-1)) (r := .out .normal TTak (hpAkI m (itW ga) n (itW gb) A.length (wfun A) B.length (wfun B) (-1))) (by simp only [ob_cons, ob_nil, decide_eq_true_eq, and_true, allW_row, Nat.ble_eq, true_and, sA, sB]; omega) ⟨⟨rfl, rfl, rfl⟩⟩).out
    · cases lb with
      | nil => exact pairs_stops hS.heap.tab
      | cons y ys => simp only [VRs] at hv
    · exact roundAk m (itW ga) n (itW gb) A B lA lB pre x
    · subst hxs
      show (behind Tryz.prog (gmAkI yesTi tidyL mpTi yT yL tT tL eqL) 100 fAk 0 akRest (packK 2) .normal TLak (hpAkI m (itW ga) n (itW gb) (lpA (akHit A B) A (List.range 576)).length (wfun (lpA (akHit A B) A (List.range 576))) B.length (wfun B) (fh (akHit A B) (List.range 576)))).ok _
      rw [endAkN]
      exact (stop _ rfl).out
    · obtain ⟨k, hk, rfl⟩ := hsp
      cases e with
      | normal => exact (hne rfl).elim
      | ret => cases hlv
      | exit j =>
        have hj : j = 0 := Nat.eq_of_beq_eq_true hlv
        subst hj
        show (behind Tryz.prog (gmAkI yesTi tidyL mpTi yT yL tT tL eqL) 100 fAk 0 akRest (packK 2) (.exit 0) TLak (hpAkI m (itW ga) n (itW gb) A.length (wfun A) B.length (wfun B) (bif hasH (akHit A B) (List.range k) then fh (akHit A B) (List.range k) else akF A B))).ok _
        rw [endAkX]
        refine (stop _ ?_).out
        cases hh : hasH (akHit A B) (List.range k) with
        | true => exact (fh_range hk hh).symm
        | false => rfl
  · cases hF

def FakN (yI : List Wh → Bool) : List SA → Option FR
  | [.row m ga, .row n gb] => some { val := .tup [.v (i64 0), .v (.bool false)], obl := [allW m ga, allW n gb, decide (m ≤ 2 ^ 38), decide (n ≤ 2 ^ 38), !(yI (listW (itW ga) m) && yI (listW (itW gb) n))] }
  | _ => none
def gmTi (yI : List Wh → Bool) (tI : List Wh → List Wh) : Gam := ext g0 46 (specU md_ws (UO0 yI tI))
theorem treeAkN (yI : List Wh → Bool) (tI : List Wh → List Wh) (m : Nat) (f : Nat → Nat → Int) (n : Nat) (g : Nat → Nat → Int) : execF Tryz.prog (gmTi yI tI) noLam 100 fAk [.sl 0 9 0 0 m none, .sl 1 9 0 0 n none] (hpTr m f n g) (packK 2)
    = needs [Nat.ble ((0 : Nat) + m) m, allW m fun q ↦ row9 f ((0 : Nat) + q), decide (m ≤ (274877906944 : Nat)), Nat.ble ((0 : Nat) + n) n, allW n fun q ↦ row9 g ((0 : Nat) + q), decide (n ≤ (274877906944 : Nat))] (bif !yI (listW (itW fun q ↦ row9 f ((0 : Nat) + q)) m) then Res.out .ret [AV.tup [AV.v (.int .i64 0), AV.v (.bool false)]] [AB.row false m 9 (row9 f) 75, AB.row false n 9 (row9 g) 75] else needs [!yI (listW (itW fun q ↦ row9 g ((0 : Nat) + q)) n)] (Res.out .ret [AV.tup [AV.v (.int .i64 0), AV.v (.bool false)]] [AB.row false m 9 (row9 f) 75, AB.row false n 9 (row9 g) 75])) := by kernel_rfl

theorem ok_akN : SpecOk Tryz.prog 34 (specR md_eqWS (FakN yI)) := by
  refine specR_hr (ext_ok g0_ok ok_UTi) Tryz.func34 rfl fun sas fr hF ho => ?_
  unfold FakN at hF
  split at hF
  · rename_i m ga n gb
    cases hF
    simp only [ob_cons] at ho
    obtain ⟨h1, h2, h3, h4, h5, _⟩ := ho
    have hm := of_decide_eq_true h3
    have hn := of_decide_eq_true h4
    refine ⟨hpTr m (itW ga) n (itW gb), noLam, 100, .cons (ABeq.row fun j hj => allW_get h1 j hj) (.cons (ABeq.row fun j hj => allW_get h2 j hj) .nil), noLam' _, ?_⟩
    show GoodQ (execF Tryz.prog (gmTi yI tI) noLam 100 fAk [.sl 0 9 0 0 m none, .sl 1 9 0 0 n none] (hpTr m (itW ga) n (itW gb)) (packK 2)) _
    have fin : GoodQ (.out .ret [.tup [.v (i64 0), .v (.bool false)]] (hpTr m (itW ga) n (itW gb))) (GivR (abP md_eqWS [.row m ga, .row n gb] []) { val := .tup [.v (i64 0), .v (.bool false)], obl := [allW m ga, allW n gb, decide (m ≤ 2 ^ 38), decide (n ≤ 2 ^ 38), !(yI (listW (itW ga) m) && yI (listW (itW gb) n))] }) :=
      good_out ⟨_, rfl, rfl, .cons (ABeq.row fun j hj => (allW_get h1 j hj).symm) (.cons (ABeq.row fun j hj => (allW_get h2 j hj).symm) .nil)⟩
    rw [treeAkN]
    simp only [row0, listW_itW]
    cases yA : yI (listW (itW ga) m) with
    | false =>
      refine good_needs (by simp only [ob_cons, ob_nil, and_true, decide_eq_true_eq, Nat.ble_eq, allW_row, true_and]; omega) ?_
      simp only [Bool.not_false, cond_true]
      exact fin
    | true =>
      rw [yA, Bool.true_and] at h5
      refine good_needs (by simp only [ob_cons, ob_nil, and_true, decide_eq_true_eq, Nat.ble_eq, allW_row, true_and]; omega) ?_
      simp only [Bool.not_true, cond_false, h5]
      exact fin
  · cases hF
theorem ok_akI : SpecOk Tryz.prog 34 (specR md_eqWS (FakV aN aY)) := by
  refine specR_two ok_akY ok_akN fun sas fr hF ho => ?_
  unfold FakV at hF
  split at hF
  · rename_i m ga n gb
    cases hF
    simp only [ob_cons] at ho
    obtain ⟨h1, h2, h3, h4, _⟩ := ho
    cases hv : (yI (listW (itW ga) m) && yI (listW (itW gb) n)) with
    | true =>
      rw [Bool.and_eq_true] at hv
      refine .inl ⟨[allW m ga, allW n gb, decide (m ≤ 2 ^ 38), decide (n ≤ 2 ^ 38), yI (listW (itW ga) m), yI (listW (itW gb) n)], rfl, ?_⟩
      simp only [ob_cons, ob_nil, and_true]
      exact ⟨h1, h2, h3, h4, hv.1, hv.2⟩
    | false =>
      have eY : aY (listW (itW ga) m) (listW (itW gb) n) = false := by rw [aY, hv]; rfl
      refine .inr ⟨[allW m ga, allW n gb, decide (m ≤ 2 ^ 38), decide (n ≤ 2 ^ 38), !(yI (listW (itW ga) m) && yI (listW (itW gb) n))], ?_, ?_⟩
      · rw [aN_no eY, eY]
        rfl
      · simp only [ob_cons, ob_nil, and_true]
        exact ⟨h1, h2, h3, h4, by rw [hv]; rfl⟩
  · cases hF

end Go.Proofs.YtcadinbahmliiaaGreatDoor

/- DesignMirrored of both: their words. Conditions: a list of wheels. -/
namespace Go.Proofs.YtcadinbahmliiaaGreatDoor
open Go.RowKit
set_option maxRecDepth 100000

end Go.Proofs.YtcadinbahmliiaaGreatDoor

/- A callee that leaves what it reads as it was: its word, by its view, without a way back for its memory. No conditions. -/
namespace Go.Proofs.YtcadinbahmliiaaGreatDoor
open Go.RowKit

mutual
def posA : AV → Bool
  | .sl _ _ _ _ len _ => Nat.blt 0 len
  | .agg cs => posAs cs
  | .tup cs => posAs cs
  | .fn _ cs => posAs cs
  | _ => true
def posAs : List AV → Bool
  | [] => true
  | a :: al => posA a && posAs al
end
def posB : AB → Bool
  | .cells cs _ => posAs cs
  | _ => true
mutual
theorem VR.unren {keep : List Nat} {ν ν' : Nu} (h : ∀ j b, keepNu keep ν j = some b → ν' j = some b) : ∀ {a a' : AV} {x y : Value}, renA keep a = some a' → posA a = true → VR ν a x → VR ν' a' y → VR ν a y
  | .v _, a', _, _, hs, _, _, hv => by
    simp only [renA, Option.some.injEq] at hs
    subst hs
    simpa only [VR] using hv
  | .ptr .., a', _, _, hs, _, hx, hv => by
    simp only [renA, Option.map_eq_some_iff] at hs
    obtain ⟨q, hq, rfl⟩ := hs
    simp only [VR] at hx hv ⊢
    obtain ⟨b, h1, h2⟩ := hv
    obtain ⟨c, h3, _⟩ := hx
    have := h q c (by simp [keepNu, idxOf_get hq, h3])
    rw [h1, Option.some.injEq] at this
    subst this
    exact ⟨b, h3, h2⟩
  | .sl .., a', _, _, hs, hp, hx, hv => by
    simp only [renA, Option.map_eq_some_iff] at hs
    obtain ⟨q, hq, rfl⟩ := hs
    simp only [posA, Nat.blt_eq] at hp
    simp only [VR] at hx hv ⊢
    obtain ⟨p, c, h1, h2, h3, h4⟩ := hv
    obtain ⟨_, c0, _, _, g3, g4⟩ := hx
    refine ⟨p, c, h1, h2, h3, fun hc => ?_⟩
    obtain ⟨b, h5, h6⟩ := h4 hc
    obtain ⟨b0, g5, _⟩ := g4 (by omega)
    have := h q b0 (by simp [keepNu, idxOf_get hq, g5])
    rw [h5, Option.some.injEq] at this
    subst this
    exact ⟨b, g5, h6⟩
  | .own .., a', _, _, hs, _, hx, hv => by
    simp only [renA, Option.map_eq_some_iff] at hs
    obtain ⟨q, hq, rfl⟩ := hs
    simp only [VR] at hx hv ⊢
    obtain ⟨b, h1, h2⟩ := hv
    obtain ⟨c, h3, _⟩ := hx
    have := h q c (by simp [keepNu, idxOf_get hq, h3])
    rw [h1, Option.some.injEq] at this
    subst this
    exact ⟨b, h3, h2⟩
  | .agg _, a', _, _, hs, hp, hx, hv => by
    simp only [renA, Option.map_eq_some_iff] at hs
    obtain ⟨q, hq, rfl⟩ := hs
    simp only [posA] at hp
    simp only [VR] at hx hv ⊢
    obtain ⟨l, h1, h2⟩ := hv
    obtain ⟨l0, _, h3⟩ := hx
    exact ⟨l, h1, VRs.unren h hq hp h3 h2⟩
  | .tup _, a', _, _, hs, hp, hx, hv => by
    simp only [renA, Option.map_eq_some_iff] at hs
    obtain ⟨q, hq, rfl⟩ := hs
    simp only [posA] at hp
    simp only [VR] at hx hv ⊢
    obtain ⟨l, h1, h2⟩ := hv
    obtain ⟨l0, _, h3⟩ := hx
    exact ⟨l, h1, VRs.unren h hq hp h3 h2⟩
  | .fn _ _, a', _, _, hs, hp, hx, hv => by
    simp only [renA, Option.map_eq_some_iff] at hs
    obtain ⟨q, hq, rfl⟩ := hs
    simp only [posA] at hp
    simp only [VR] at hx hv ⊢
    obtain ⟨l, h1, h2⟩ := hv
    obtain ⟨l0, _, h3⟩ := hx
    exact ⟨l, h1, VRs.unren h hq hp h3 h2⟩
  | .err _, _, _, _, hs, _, _, hv => by
    simp only [renA, Option.some.injEq] at hs
    subst hs
    simpa only [VR] using hv
  | .dead, _, _, _, _, _, _, _ => by simp only [VR]
theorem VRs.unren {keep : List Nat} {ν ν' : Nu} (h : ∀ j b, keepNu keep ν j = some b → ν' j = some b) : ∀ {al al' : List AV} {xs ys : List Value}, renAs keep al = some al' → posAs al = true → VRs ν al xs → VRs ν' al' ys → VRs ν al ys
  | [], al', _, ys, hs, _, _, hv => by
    simp only [renAs, Option.some.injEq] at hs
    subst hs
    cases ys with
    | nil => simp only [VRs]
    | cons => simp only [VRs] at hv
  | a :: al, al', xs, ys, hs, hp, hx, hv => by
    simp only [renAs] at hs
    split at hs
    case h_2 => cases hs
    rename_i x xs' h1 h2
    cases hs
    cases ys with
    | nil => simp only [VRs] at hv
    | cons y ys =>
      cases xs with
      | nil => simp only [VRs] at hx
      | cons x0 xs =>
        simp only [VRs] at hx hv ⊢
        simp only [posAs, Bool.and_eq_true] at hp
        exact ⟨VR.unren h h1 hp.1 hx.1 hv.1, VRs.unren h h2 hp.2 hx.2 hv.2⟩
end

structure QRd where
  val : AV
  obl : List Bool := []
def specQ (ros : List Bool) (F : List AV → List AB → Option QRd) : Spec := fun avs H _ =>
  match viewH ros avs H with
  | some q => match F q.2.1 q.2.2 with
    | some kr => match mapA (fun _ => none) kr.val with
      | some v => some { val := v, rd := q.1, put := putH q.1 q.2.2 (q.1.map fun i => H.getD i .gone), new := [], obl := kr.obl ++ q.1.map fun i => posB (H.getD i .gone) }
      | none => none
    | none => none
  | none => none
def GivQ (kr : QRd) (H : List AB) : Ex → List AV → List AB → Prop := fun _ l He => l = [kr.val] ∧ Hsim He H
theorem specQ_ok {Γ : Gam} (hΓ : GamOk Tryz.prog Γ) {f : FuncId} {fn : Func} {ros : List Bool} {F : List AV → List AB → Option QRd} (hf : Tryz.prog.funcs[f]? = some fn) (hb : fn.body.isSome = true)
    (h : ∀ avs H kr, F avs H = some kr → obls kr.obl = true → ∃ (H0 : List AB) (Λ : Nat → Option Sum) (n : Nat), Hsim H H0 ∧ (∀ c, fn.body = some c → LamOk Tryz.prog H0.length Λ c) ∧ GoodQ (execF Tryz.prog Γ Λ n fn avs H0 (packK H0.length)) (GivQ kr H)) : SpecOk Tryz.prog f (specQ ros F) := by
  refine ⟨fun args w => enters f fn hf hb args w, fun avs H base δ ν vals w hS ho hv hbr hlt hfree hsep htab => ?_⟩
  unfold specQ at hS
  split at hS
  case h_2 => cases hS
  rename_i q hq
  split at hS
  case h_2 => cases hS
  rename_i hr hF
  split at hS
  case h_2 => cases hS
  rename_i v hval
  simp only [Option.some.injEq] at hS
  subst hS
  unfold viewH at hq
  generalize reach H 400 [] (idxAs avs) = keep at *
  split at hq
  case h_2 => cases hq
  rename_i avs' H1 hra hrb
  cases hnd : nodupB keep with
  | false => rw [hnd] at hq; cases hq
  | true =>
  rw [hnd] at hq
  simp only [cond_true, Option.some.injEq] at hq
  subst hq
  simp only at hval hF hbr hsep ho hfree ⊢
  have ho2 : obls hr.obl = true ∧ obls (keep.map fun i => posB (H.getD i .gone)) = true := by
    unfold obls at ho ⊢
    rw [List.all_append, Bool.and_eq_true] at ho
    exact ho
  obtain ⟨ho, hpos⟩ := ho2
  obtain ⟨hl1, hg1⟩ := renBs_get hrb
  have hlHc : (roL ros H1).length = keep.length := by rw [roL_length, hl1]
  have nuAt : ∀ {j i}, keep[j]? = some i → keepNu keep ν j = ν i := fun hj => by simp [keepNu, hj]
  have ofNu : ∀ {j b}, keepNu keep ν j = some b → ∃ i, keep[j]? = some i ∧ ν i = some b := by
    intro j b hb
    unfold keepNu at hb
    split at hb
    · rename_i i hi; exact ⟨i, hi, hb⟩
    · cases hb
  have ren_marks : ∀ {b b' : AB}, renB keep b = some b' → b'.wr = b.wr ∧ b'.live = b.live := by
    intro b b' hb
    cases b with
    | cells cs t => simp only [renB, Option.map_eq_some_iff] at hb; obtain ⟨q, _, rfl⟩ := hb; exact ⟨rfl, rfl⟩
    | row => simp only [renB, Option.some.injEq] at hb; subst hb; exact ⟨rfl, rfl⟩
    | gone => simp only [renB, Option.some.injEq] at hb; subst hb; exact ⟨rfl, rfl⟩
  -- the callee's block j is the caller's block keep j
  have view : ∀ {j i}, keep[j]? = some i → ∃ b1, H1[j]? = some b1 ∧ renB keep (H.getD i .gone) = some b1 ∧ (roL ros H1)[j]? = some (roB (ros.getD j false) b1) := by
    intro j i hj
    obtain ⟨b1, e1, e2⟩ := hg1 j i hj
    exact ⟨b1, e1, e2, by rw [roL_get, e1]; rfl⟩
  have wrOf : ∀ {j i}, keep[j]? = some i → ((roL ros H1).getD j .gone).wr = true → (H.getD i .gone).wr = true := by
    intro j i hj hw
    obtain ⟨b1, _, e2, e3⟩ := view hj
    have : (roL ros H1).getD j .gone = roB (ros.getD j false) b1 := by simp [List.getD_eq_getElem?_getD, e3]
    rw [this] at hw
    rw [← (ren_marks e2).1]
    exact roB_wr hw
  have liveOf : ∀ {j i}, keep[j]? = some i → ((roL ros H1).getD j .gone).live = true → (H.getD i .gone).live = true := by
    intro j i hj hw
    obtain ⟨b1, _, e2, e3⟩ := view hj
    have : (roL ros H1).getD j .gone = roB (ros.getD j false) b1 := by simp [List.getD_eq_getElem?_getD, e3]
    rw [this, roB_live] at hw
    rw [← (ren_marks e2).2]
    exact hw
  have roSame : ∀ {r : Bool} {b : AB}, (roB r b).wr = true → roB r b = b := by
    intro r b hw
    cases b with
    | cells => cases r <;> rfl
    | gone => cases r <;> rfl
    | row rw n wd g t => cases r <;> cases rw <;> first | rfl | cases hw
  have inPut : ∀ {j i}, keep[j]? = some i → ((roL ros H1).getD j .gone).wr = true → (i, H.getD i .gone) ∈ putH keep (roL ros H1) (keep.map fun i => H.getD i .gone) := by
    intro j i hj hw
    have hjl : j < keep.length := (List.getElem?_eq_some_iff.1 hj).1
    have hh : (roL ros H1)[j]? = some ((roL ros H1)[j]'(by omega)) := List.getElem?_eq_getElem _
    refine putH_of hj hh (by rw [List.getElem?_map, hj]; rfl) ?_
    have : (roL ros H1).getD j .gone = (roL ros H1)[j]'(by omega) := by simp [List.getD_eq_getElem?_getD, hh]
    rw [← this]; exact hw
  let M : Nat → Prop := fun k => w.heap.size ≤ k ∨ ∃ j b, ((roL ros H1).getD j .gone).wr = true ∧ keepNu keep ν j = some b ∧ b.n = k
  have hRH : RH M (keepNu keep ν) (fun b => (roL ros H1).getD b .gone) w := by
    refine ⟨fun j => ?_, fun i j b b' hne hw hlv hb hb' => ?_, fun i b hw hb => .inr ⟨i, b, hw, hb, rfl⟩, fun i b hb => ?_, htab.mono ?_⟩
    · cases hj : keep[j]? with
      | none =>
        have : (roL ros H1).getD j .gone = .gone := by
          rw [List.getD_eq_getElem?_getD, List.getElem?_eq_none]
          · rfl
          · rw [hlHc]
            exact List.getElem?_eq_none_iff.1 hj
        simp only [this]
        trivial
      | some i =>
        obtain ⟨b1, e1, e2, e3⟩ := view hj
        have : (roL ros H1).getD j .gone = roB (ros.getD j false) b1 := by simp [List.getD_eq_getElem?_getD, e3]
        simp only [this]
        refine roB_br ?_
        have hbi := hbr i (List.mem_of_getElem? hj)
        have hν := nuAt hj
        cases hi : H.getD i .gone with
        | cells cs t =>
          rw [hi] at e2 hbi
          simp only [renB, Option.map_eq_some_iff] at e2
          obtain ⟨cs', h1, h2⟩ := e2
          rw [← h2]
          obtain ⟨b, l, g1, g2, g3, g4⟩ := hbi
          exact ⟨b, l, by rw [hν]; exact g1, g2, g3, g4.ren h1⟩
        | row rw' n wd g t =>
          rw [hi] at e2 hbi
          simp only [renB, Option.some.injEq] at e2
          rw [← e2]
          rcases hbi with ⟨g1, g2, g3⟩ | ⟨b, l, t', fz, g1, g2⟩
          · exact .inl ⟨g1, g2, by rw [hν]; exact g3⟩
          · exact .inr ⟨b, l, t', fz, by rw [hν]; exact g1, g2⟩
        | gone =>
          rw [hi] at e2
          simp only [renB, Option.some.injEq] at e2
          rw [← e2]
          trivial
    · obtain ⟨i', hi, e1⟩ := ofNu hb
      obtain ⟨j', hj, e2⟩ := ofNu hb'
      have hp := inPut hi hw
      refine hsep i' _ j' b b' hp (List.mem_of_getElem? hj) (fun e => ?_) (liveOf hj hlv) e1 e2
      subst e
      exact hne (nodupB_ne hnd i j i' hi hj)
    · obtain ⟨i', _, e1⟩ := ofNu hb
      exact hlt i' b e1
    · rintro k _ (hk | ⟨j, b, hw, hb, rfl⟩)
      · exact .inl hk
      · obtain ⟨i', hi, e1⟩ := ofNu hb
        have hp := inPut hi hw
        exact .inr ⟨i', b, _, hp, e1, rfl⟩
  obtain ⟨H0, Λ, n, hsim, hL, hG⟩ := h avs' (roL ros H1) hr hF ho
  have hl0 : H0.length = keep.length := by rw [← hsim.length, hlHc]
  have hdom0 : ∀ i b, keepNu keep ν i = some b → i < H0.length := by
    intro i b hb
    obtain ⟨i', hi, _⟩ := ofNu hb
    rw [hl0]
    exact (List.getElem?_eq_some_iff.1 hi).1
  refine (calls_pack hΓ mixed enters hf hL (fun k hk => Or.inl hk) hG.out (hv.ren hra) (hRH.sim hsim) hdom0).mono ?_
  rintro e w' ⟨vv, av, He, ν', rfl, ⟨hav, hHe⟩, hvr, hRH', hfr, hle, hdom'⟩
  simp only [List.cons.injEq, and_true] at hav
  subst hav
  have hRH2 := hRH'.sim hHe
  -- a block that may be written has a place
  have wrNu : ∀ {j : Nat}, ((roL ros H1).getD j .gone).wr = true → ∃ b, keepNu keep ν j = some b := by
    intro j hw
    have : BR (keepNu keep ν) j ((roL ros H1).getD j .gone) w := hRH.br j
    cases hb : (roL ros H1).getD j .gone with
    | cells cs t => rw [hb] at this; obtain ⟨b, l, e1, _⟩ := this; exact ⟨b, e1⟩
    | row rw' n wd g t =>
      rw [hb] at this hw
      rcases this with ⟨e1, _⟩ | ⟨b, l, t', fz, e1, _⟩
      · simp only [AB.wr] at hw
        rw [e1] at hw
        cases hw
      · exact ⟨b, e1⟩
    | gone => rw [hb] at hw; cases hw
  have mp : ∀ i i' b, (fun _ : Nat => (none : Option Nat)) i = some i' → ν' i = some b → ν i' = some b := fun i i' b h1 _ => by cases h1
  refine ⟨vv, ν, rfl, ⟨fun i b hb => hb, fun i h1 h2 => (h2 h1).elim, hvr.map mp hval, fun i b hl => ?_, fun j b hj => by simp at hj, hfr.os, hfr.tape, hfr.output, hfr.size, fun k hk hne => ?_, fun j b hj _ => absurd hj (Nat.not_lt_zero _), fun j j' b b' hne hj => absurd hj (Nat.not_lt_zero _)⟩⟩
  · obtain ⟨j, hh, e1, e2, e3, e4⟩ := putH_mem (lookB_mem hl)
    rw [List.getElem?_map, e1] at e3
    simp only [Option.map_some, Option.some.injEq] at e3
    subst e3
    obtain ⟨b1, _, v2, v3⟩ := view e1
    rw [e2, Option.some.injEq] at v3
    subst v3
    have hb1 := roSame e4
    rw [hb1] at e2
    have hout : BR ν' j b1 w' := by
      have := hRH2.br j
      simp only [List.getD_eq_getElem?_getD, e2, Option.getD_some] at this
      exact this
    have hin := hbr i (List.mem_of_getElem? e1)
    have hp : posB (H.getD i .gone) = true := by
      unfold obls at hpos
      rw [List.all_eq_true] at hpos
      exact hpos _ (List.mem_map.2 ⟨i, List.mem_of_getElem? e1, rfl⟩)
    rw [hb1] at e4
    have back : ∀ {b}, ν i = some b → ν' j = some b := fun hb => hle _ _ (by rw [nuAt e1]; exact hb)
    cases hi : H.getD i .gone with
    | cells cs t =>
      rw [hi] at v2 hin hp
      simp only [renB, Option.map_eq_some_iff] at v2
      obtain ⟨cs', h1, h2⟩ := v2
      rw [← h2] at hout
      obtain ⟨b, l, g1, g2, g3, g4⟩ := hin
      obtain ⟨b', l', f1, f2, f3, f4⟩ := hout
      have := back g1
      rw [f1, Option.some.injEq] at this
      subst this
      exact ⟨b', l', g1, f2, f3, VRs.unren hle h1 hp g4 f4⟩
    | row rw' n wd g t =>
      rw [hi] at v2 hin
      simp only [renB, Option.some.injEq] at v2
      rw [← v2] at hout e4
      simp only [AB.wr] at e4
      rcases hin with ⟨g1, _⟩ | ⟨b, l, t', fz, g1, _⟩
      · rw [g1] at e4; cases e4
      · rcases hout with ⟨f1, _⟩ | ⟨b', l', t2, fz2, f1, f2⟩
        · rw [f1] at e4; cases e4
        · have := back g1
          rw [f1, Option.some.injEq] at this
          subst this
          exact .inr ⟨b', l', t2, fz2, g1, f2⟩
    | gone =>
      rw [hi] at v2
      simp only [renB, Option.some.injEq] at v2
      rw [← v2] at e4
      cases e4
  · refine hfr.block k hk fun hM => ?_
    rcases hM with hM | ⟨j, b, hw, hb, e⟩
    · omega
    · obtain ⟨i, hi, e1⟩ := ofNu hb
      exact hne _ b (inPut hi hw) e1 e

end Go.Proofs.YtcadinbahmliiaaGreatDoor

/- Rows of entries; BookFind of both: trees. Conditions: entries, a list of wheels. -/
namespace Go.Proofs.YtcadinbahmliiaaGreatDoor
open Go.RowKit
set_option maxRecDepth 100000

abbrev rowE (ft : Nat → ByteArray) (fc : Nat → Int) : Nat → List Value := fun j => [.string (ft j), .int .u32 (fc j)]
def isE : List Value → Bool
  | [.string _, .int .u32 _] => true
  | _ => false
def stOf : Value → ByteArray
  | .string s => s
  | _ => ⟨#[]⟩
def u3Of : Value → Int
  | .int .u32 n => n
  | _ => 0
def itT (g : Nat → List Value) (j : Nat) : ByteArray := stOf ((g j).getD 0 undef)
def itC (g : Nat → List Value) (j : Nat) : Int := u3Of ((g j).getD 1 undef)
def allE (m : Nat) (g : Nat → List Value) : Bool := (List.range m).all fun j => isE (g j)
theorem allE_get {m : Nat} {g : Nat → List Value} (h : allE m g = true) (j : Nat) (hj : j < m) : g j = rowE (itT g) (itC g) j := by
  have := List.all_eq_true.1 h j (by simpa using hj)
  simp only [rowE, itT, itC]
  unfold isE at this
  split at this
  · rename_i e; rw [e]; rfl
  · cases this
theorem allE_of {m : Nat} {ft : Nat → ByteArray} {fc : Nat → Int} {g : Nat → List Value} (h : ∀ j, j < m → g j = rowE ft fc j) : allE m g = true := List.all_eq_true.2 fun j hj => by
  rw [h j (by simpa using hj)]; rfl
theorem allE_row (m : Nat) (ft : Nat → ByteArray) (fc : Nat → Int) : allE m (rowE ft fc) = true := allE_of (ft := ft) (fc := fc) fun _ _ => rfl
theorem itT_row (ft : Nat → ByteArray) (fc : Nat → Int) : itT (rowE ft fc) = ft := rfl
theorem itC_row (ft : Nat → ByteArray) (fc : Nat → Int) : itC (rowE ft fc) = fc := rfl

def hitE (er : ByteArray → Int → Bool) (tr : ByteArray → List Wh) (ak : List Wh → List Wh → Bool) (ft : Nat → ByteArray) (fc : Nat → Int) (D : List Wh) (j : Nat) : Bool := er (ft j) (fc j) && ak (tr (ft j)) D

noncomputable abbrev fIFE : Func := Tryz.f61
def gmBf (yr : ByteArray → Bool) (tr : ByteArray → List Wh) (cv : List Wh → Int) (cy : List Wh → Bool) (an : List Wh → List Wh → Int) (ak : List Wh → List Wh → Bool) : Gam := ext (gmErI yr tr cv cy) 34 (specR md_eqWS (FakV an ak))
abbrev lvBf : Ex → List Nat := lv3 [0, 1, 7, 8] [] [4]
abbrev fnBf : AV := .fn 62 [.ptr 1 0 0 0]
abbrev hpBf (m' : Nat) (ft : Nat → ByteArray) (fc : Nat → Int) (n : Nat) (h : Nat → Nat → Int) (t1 t2 t3 : TypeId) : List AB := [.row true m' 2 (rowE ft fc) t1, .cells [.own 2 n] t2, .row true n 9 (row9 h) t3]
abbrev hpBw (m' : Nat) (ft : Nat → ByteArray) (fc : Nat → Int) (n : Nat) (h : Nat → Nat → Int) (t1 t3 : TypeId) : List AB := [.row true m' 2 (rowE ft fc) t1, .row true n 9 (row9 h) t3]
theorem rndBfO_h (yr : ByteArray → Bool) (tr : ByteArray → List Wh) (cv : List Wh → Int) (cy : List Wh → Bool) (an : List Wh → List Wh → Int) (ak : List Wh → List Wh → Bool) (_co : Option Nat) (m m' : Nat) (ft : Nat → ByteArray) (fc : Nat → Int) (n : Nat) (h : Nat → Nat → Int) (t1 t2 t3 : TypeId) (i : Nat) (u1 : _) (hu1 : [AB.row true m' 2 (rowE ft fc) t1, AB.cells [AV.own 2 n] t2, AB.row true n 9 (row9 h) t3] = u1) (u4 : _) (hu4 : (↑i : Int) = u4) (u8 : _) (hu8 : (0 : Nat) = u8) (u0 : _) (hu0 : [AV.own u8 m, AV.fn (62 : FuncId) [AV.ptr (1 : Nat) u8 u8 u8], AV.v (.int .i64 (m : Int)), AV.v (.int .i64 (IntKind.wrap .i64 (u4 + (1 : Int))))] = u0) (u2 : _) (hu2 : (tr (ft (Int.toNat u4))) = u2) (u3 : _) (hu3 : (listW (itW fun q ↦ row9 (wfun u2) (u8 + q)) (List.length u2)) = u3) (u5 : _) (hu5 : (allW (List.length u2) fun q ↦ row9 (wfun u2) (u8 + q)) = u5) (u6 : _) (hu6 : (Nat.ble (u8 + List.length u2) (List.length u2)) = u6) (u7 : _) (hu7 : (decide (List.length u2 ≤ (274877906944 : Nat))) = u7) : execC Tryz.prog (gmBf yr tr cv cy an ak) 100 noLam (loopAt 0 fIFE) (mkT 0 19 ((lvBf .normal).zip [.own 0 m, fnBf, .v (i64 m), .v (i64 i)])) (hpBf m' ft fc n h t1 t2 t3) (leafV 19 lvBf 3)
    = bif decide (u4 < (m : Int)) then needs [decide (u4 < (m : Int)), decide (Int.toNat u4 < m'), u6, u5, u7] (bif yr (ft (Int.toNat u4)) then bif cy u3 then bif !cv u3 == fc (Int.toNat u4) then Res.out .normal u0 u1 else needs [u6, Nat.ble n n, u5, allW n (row9 h), u7, decide (n ≤ (274877906944 : Nat))] (bif ak u3 (listW (itW (row9 h)) n) then Res.out .ret [AV.v (.int .i64 u4)] u1 else Res.out .normal u0 u1) else Res.out .normal u0 u1 else Res.out .normal u0 u1) else Res.out (Ex.exit u8) [] u1 := by
  subst hu7 hu6 hu5 hu3 hu2 hu0 hu8 hu4 hu1
  kernel_rfl
theorem rndBfO (yr : ByteArray → Bool) (tr : ByteArray → List Wh) (cv : List Wh → Int) (cy : List Wh → Bool) (an : List Wh → List Wh → Int) (ak : List Wh → List Wh → Bool) (_co : Option Nat) (m m' : Nat) (ft : Nat → ByteArray) (fc : Nat → Int) (n : Nat) (h : Nat → Nat → Int) (t1 t2 t3 : TypeId) (i : Nat) : type_of% (rndBfO_h yr tr cv cy an ak _co m m' ft fc n h t1 t2 t3 i _ rfl _ rfl _ rfl _ rfl _ rfl _ rfl _ rfl _ rfl _ rfl) := rndBfO_h yr tr cv cy an ak _co m m' ft fc n h t1 t2 t3 i _ rfl _ rfl _ rfl _ rfl _ rfl _ rfl _ rfl _ rfl _ rfl

noncomputable abbrev lamBfO (_co : Option Nat) (m m' : Nat) (ft : Nat → ByteArray) (fc : Nat → Int) (n : Nat) (h : Nat → Nat → Int) (t1 t2 t3 : TypeId) (hit : Nat → Bool) : Nat → Option Sum := oneL 0 (atS 19 (lvBf .normal) 3 [.own 0 m, fnBf, .v (i64 m), .v (i64 (0 : Nat))] (hpBf m' ft fc n h t1 t2 t3) (fun K => cond (noneTo hit m) (K .normal (mkT 0 19 []) (hpBf m' ft fc n h t1 t2 t3)) (K .ret (mkT 0 19 [(4, .v (i64 (fstAt hit m)))]) (hpBf m' ft fc n h t1 t2 t3))))
theorem treeBfO (yr : ByteArray → Bool) (tr : ByteArray → List Wh) (cv : List Wh → Int) (cy : List Wh → Bool) (an : List Wh → List Wh → Int) (ak : List Wh → List Wh → Bool) (_co : Option Nat) (m m' : Nat) (ft : Nat → ByteArray) (fc : Nat → Int) (n : Nat) (h : Nat → Nat → Int) (t1 t2 t3 : TypeId) (hit : Nat → Bool) : execF Tryz.prog (gmBf yr tr cv cy an ak) (lamBfO _co m m' ft fc n h t1 t2 t3 hit) 100 fIFE [.own 0 m, fnBf] (hpBf m' ft fc n h t1 t2 t3) (packK 3)
    = needs [chk ([AV.own 0 m, AV.fn (62 : FuncId) [AV.ptr (1 : Nat) (0 : Nat) (0 : Nat) (0 : Nat)], AV.v (.int .i64 (m : Int)), AV.v (.int .i64 0)] = [AV.own 0 m, fnBf, AV.v (.int .i64 (m : Int)), AV.v (.int .i64 0)] ∧ Hsim [AB.row true m' 2 (rowE ft fc) t1, AB.cells [AV.own 2 n] t2, AB.row true n 9 (row9 h) t3] (hpBf m' ft fc n h t1 t2 t3))] (bif noneTo hit m then Res.out .ret [AV.v (.int .i64 (-1 : Int))] [AB.row true m' 2 (rowE ft fc) t1, AB.cells [AV.own 2 n] t2, AB.row true n 9 (row9 h) t3] else Res.out .ret [AV.v (.int .i64 (fstAt hit m))] [AB.row true m' 2 (rowE ft fc) t1, AB.cells [AV.own 2 n] t2, AB.row true n 9 (row9 h) t3]) := by kernel_rfl

theorem rndBfL_h (yr : ByteArray → Bool) (tr : ByteArray → List Wh) (cv : List Wh → Int) (cy : List Wh → Bool) (an : List Wh → List Wh → Int) (ak : List Wh → List Wh → Bool) (co : Option Nat) (m m' : Nat) (ft : Nat → ByteArray) (fc : Nat → Int) (n : Nat) (h : Nat → Nat → Int) (t1 t2 t3 : TypeId) (i : Nat) (u2 : _) (hu2 : [AB.row true m' 2 (rowE ft fc) t1, AB.cells [AV.own 2 n] t2, AB.row true n 9 (row9 h) t3] = u2) (u4 : _) (hu4 : (0 : Nat) = u4) (u5 : _) (hu5 : (↑i : Int) = u5) (u0 : _) (hu0 : [AV.sl u4 (2 : Nat) u4 u4 m co, AV.fn (62 : FuncId) [AV.ptr (1 : Nat) u4 u4 u4], AV.v (.int .i64 (m : Int)), AV.v (.int .i64 (IntKind.wrap .i64 (u5 + (1 : Int))))] = u0) (u1 : _) (hu1 : (tr (ft (u4 + Int.toNat u5))) = u1) (u6 : _) (hu6 : (List.length u1) = u6) (u7 : _) (hu7 : (decide (List.length u1 ≤ (274877906944 : Nat))) = u7) (u8 : _) (hu8 : (allW u6 fun q ↦ row9 (wfun u1) (u4 + q)) = u8) (u3 : _) (hu3 : (listW (itW fun q ↦ row9 (wfun u1) (u4 + q)) u6) = u3) : execC Tryz.prog (gmBf yr tr cv cy an ak) 100 noLam (loopAt 0 fIFE) (mkT 0 19 ((lvBf .normal).zip [.sl 0 2 0 0 m co, fnBf, .v (i64 m), .v (i64 i)])) (hpBf m' ft fc n h t1 t2 t3) (leafV 19 lvBf 3)
    = bif decide (u5 < (m : Int)) then needs [decide (u5 < (m : Int)), decide (u4 + Int.toNat u5 < m'), Nat.ble (u4 + List.length u1) u6, u8, u7] (bif yr (ft (u4 + Int.toNat u5)) then bif cy u3 then bif !cv u3 == fc (u4 + Int.toNat u5) then Res.out .normal u0 u2 else needs [Nat.ble (u4 + List.length u1) u6, Nat.ble n n, u8, allW n (row9 h), u7, decide (n ≤ (274877906944 : Nat))] (bif ak u3 (listW (itW (row9 h)) n) then Res.out .ret [AV.v (.int .i64 u5)] u2 else Res.out .normal u0 u2) else Res.out .normal u0 u2 else Res.out .normal u0 u2) else Res.out (Ex.exit u4) [] u2 := by
  subst hu3 hu8 hu7 hu6 hu1 hu0 hu5 hu4 hu2
  kernel_rfl
theorem rndBfL (yr : ByteArray → Bool) (tr : ByteArray → List Wh) (cv : List Wh → Int) (cy : List Wh → Bool) (an : List Wh → List Wh → Int) (ak : List Wh → List Wh → Bool) (co : Option Nat) (m m' : Nat) (ft : Nat → ByteArray) (fc : Nat → Int) (n : Nat) (h : Nat → Nat → Int) (t1 t2 t3 : TypeId) (i : Nat) : type_of% (rndBfL_h yr tr cv cy an ak co m m' ft fc n h t1 t2 t3 i _ rfl _ rfl _ rfl _ rfl _ rfl _ rfl _ rfl _ rfl _ rfl) := rndBfL_h yr tr cv cy an ak co m m' ft fc n h t1 t2 t3 i _ rfl _ rfl _ rfl _ rfl _ rfl _ rfl _ rfl _ rfl _ rfl

noncomputable abbrev lamBfL (co : Option Nat) (m m' : Nat) (ft : Nat → ByteArray) (fc : Nat → Int) (n : Nat) (h : Nat → Nat → Int) (t1 t2 t3 : TypeId) (hit : Nat → Bool) : Nat → Option Sum := oneL 0 (atS 19 (lvBf .normal) 3 [.sl 0 2 0 0 m co, fnBf, .v (i64 m), .v (i64 (0 : Nat))] (hpBf m' ft fc n h t1 t2 t3) (fun K => cond (noneTo hit m) (K .normal (mkT 0 19 []) (hpBf m' ft fc n h t1 t2 t3)) (K .ret (mkT 0 19 [(4, .v (i64 (fstAt hit m)))]) (hpBf m' ft fc n h t1 t2 t3))))
theorem treeBfL (yr : ByteArray → Bool) (tr : ByteArray → List Wh) (cv : List Wh → Int) (cy : List Wh → Bool) (an : List Wh → List Wh → Int) (ak : List Wh → List Wh → Bool) (co : Option Nat) (m m' : Nat) (ft : Nat → ByteArray) (fc : Nat → Int) (n : Nat) (h : Nat → Nat → Int) (t1 t2 t3 : TypeId) (hit : Nat → Bool) : execF Tryz.prog (gmBf yr tr cv cy an ak) (lamBfL co m m' ft fc n h t1 t2 t3 hit) 100 fIFE [.sl 0 2 0 0 m co, fnBf] (hpBf m' ft fc n h t1 t2 t3) (packK 3)
    = needs [chk ([AV.sl 0 (2 : Nat) (0 : Nat) (0 : Nat) m co, AV.fn (62 : FuncId) [AV.ptr (1 : Nat) (0 : Nat) (0 : Nat) (0 : Nat)], AV.v (.int .i64 (m : Int)), AV.v (.int .i64 0)] = [AV.sl 0 (2 : Nat) (0 : Nat) (0 : Nat) m co, fnBf, AV.v (.int .i64 (m : Int)), AV.v (.int .i64 0)] ∧ Hsim [AB.row true m' 2 (rowE ft fc) t1, AB.cells [AV.own 2 n] t2, AB.row true n 9 (row9 h) t3] (hpBf m' ft fc n h t1 t2 t3))] (bif noneTo hit m then Res.out .ret [AV.v (.int .i64 (-1 : Int))] [AB.row true m' 2 (rowE ft fc) t1, AB.cells [AV.own 2 n] t2, AB.row true n 9 (row9 h) t3] else Res.out .ret [AV.v (.int .i64 (fstAt hit m))] [AB.row true m' 2 (rowE ft fc) t1, AB.cells [AV.own 2 n] t2, AB.row true n 9 (row9 h) t3]) := by kernel_rfl

def FifE (hit : (Nat → ByteArray) → (Nat → Int) → List Wh → Nat → Bool) : List AV → List AB → Option QRd
  | [.own 0 m, .fn 62 [.ptr 1 0 0 0]], [.row true m' 2 g _, .cells [.own 2 n] _, .row true n' 9 h _] => some { val := .v (i64 (fstAt (hit (itT g) (itC g) (listW (itW h) n)) m)), obl := [Nat.ble m m', Nat.beq n n', allE m' g, allW n h, decide (m ≤ 2 ^ 38), decide (n ≤ 2 ^ 38)] }
  | [.sl 0 2 0 0 m _, .fn 62 [.ptr 1 0 0 0]], [.row true m' 2 g _, .cells [.own 2 n] _, .row true n' 9 h _] => some { val := .v (i64 (fstAt (hit (itT g) (itC g) (listW (itW h) n)) m)), obl := [Nat.ble m m', Nat.beq n n', allE m' g, allW n h, decide (m ≤ 2 ^ 38), decide (n ≤ 2 ^ 38)] }
  | _, _ => none
def gmBF (hit : (Nat → ByteArray) → (Nat → Int) → List Wh → Nat → Bool) : Gam := ext g0 61 (specQ [] (FifE hit))
theorem treeBFO (hit : (Nat → ByteArray) → (Nat → Int) → List Wh → Nat → Bool) (_co : Option Nat) (m m' : Nat) (ft : Nat → ByteArray) (fc : Nat → Int) (n : Nat) (h : Nat → Nat → Int) (t1 t3 : TypeId) : execF Tryz.prog (gmBF hit) noLam 100 Tryz.f31 [.own 0 m, .own 1 n] (hpBw m' ft fc n h t1 t3) (packK 2)
    = needs [Nat.ble m m', Nat.beq n n, allE m' (rowE ft fc), allW n (row9 h), decide (m ≤ (274877906944 : Nat)), decide (n ≤ (274877906944 : Nat))] (Res.out .ret [AV.v (.int .i64 (fstAt (hit (itT (rowE ft fc)) (itC (rowE ft fc)) (listW (itW (row9 h)) n)) m))] [AB.row true m' 2 (rowE ft fc) t1, AB.row true n 9 (row9 h) t3]) := by kernel_rfl

theorem treeBFL (hit : (Nat → ByteArray) → (Nat → Int) → List Wh → Nat → Bool) (co : Option Nat) (m m' : Nat) (ft : Nat → ByteArray) (fc : Nat → Int) (n : Nat) (h : Nat → Nat → Int) (t1 t3 : TypeId) : execF Tryz.prog (gmBF hit) noLam 100 Tryz.f31 [.sl 0 2 0 0 m co, .own 1 n] (hpBw m' ft fc n h t1 t3) (packK 2)
    = needs [Nat.ble m m', Nat.beq n n, allE m' (rowE ft fc), allW n (row9 h), decide (m ≤ (274877906944 : Nat)), decide (n ≤ (274877906944 : Nat))] (Res.out .ret [AV.v (.int .i64 (fstAt (hit (itT (rowE ft fc)) (itC (rowE ft fc)) (listW (itW (row9 h)) n)) m))] [AB.row true m' 2 (rowE ft fc) t1, AB.row true n 9 (row9 h) t3]) := by kernel_rfl


def gmBs (er : ByteArray → Int → Bool) (yr : ByteArray → Bool) (tr : ByteArray → List Wh) (an : List Wh → List Wh → Int) (ak : List Wh → List Wh → Bool) : Gam := ext (ext (ext g0 11 (specR [.val] (FerO er))) 35 (specR [.val] (FreO yr tr))) 59 (specR md_eqWS (FakV an ak))
abbrev lvBs : Ex → List Nat := lv3 [0, 1, 5] [] [4]
theorem rndBsO_h (er : ByteArray → Int → Bool) (yr : ByteArray → Bool) (tr : ByteArray → List Wh) (an : List Wh → List Wh → Int) (ak : List Wh → List Wh → Bool) (_co : Option Nat) (m m' : Nat) (ft : Nat → ByteArray) (fc : Nat → Int) (n : Nat) (h : Nat → Nat → Int) (t1 t3 : TypeId) (i : Nat) (u0 : _) (hu0 : [AB.row true m' 2 (rowE ft fc) t1, AB.row true n 9 (row9 h) t3] = u0) (u3 : _) (hu3 : (↑i : Int) = u3) (u1 : _) (hu1 : (tr (ft (Int.toNat u3))) = u1) (u2 : _) (hu2 : [AV.own 0 m, AV.own 1 n, AV.v (.int .i64 (IntKind.wrap .i64 (u3 + (1 : Int))))] = u2) (u4 : _) (hu4 : (List.length u1) = u4) : execC Tryz.prog (gmBs er yr tr an ak) 100 noLam (loopAt 0 Tryz.f29) (mkT 0 39 ((lvBs .normal).zip [.own 0 m, .own 1 n, .v (i64 i)])) (hpBw m' ft fc n h t1 t3) (leafV 39 lvBs 2)
    = bif decide (u3 < (m : Int)) then needs [decide (u3 < (m : Int)), decide (Int.toNat u3 < m')] (bif !er (ft (Int.toNat u3)) (fc (Int.toNat u3)) then Res.out .normal u2 u0 else needs [decide (u3 < (m : Int)), decide (Int.toNat u3 < m'), Nat.ble u4 u4, Nat.ble n n, allW u4 (row9 (wfun u1)), allW n (row9 h), decide (List.length u1 ≤ (274877906944 : Nat)), decide (n ≤ (274877906944 : Nat))] (bif ak (listW (itW (row9 (wfun u1))) u4) (listW (itW (row9 h)) n) then Res.out .ret [AV.v (.int .i64 u3)] u0 else Res.out .normal u2 u0)) else Res.out (Ex.exit (0 : Nat)) [] u0 := by
  subst hu4 hu2 hu1 hu3 hu0
  kernel_rfl
theorem rndBsO (er : ByteArray → Int → Bool) (yr : ByteArray → Bool) (tr : ByteArray → List Wh) (an : List Wh → List Wh → Int) (ak : List Wh → List Wh → Bool) (_co : Option Nat) (m m' : Nat) (ft : Nat → ByteArray) (fc : Nat → Int) (n : Nat) (h : Nat → Nat → Int) (t1 t3 : TypeId) (i : Nat) : type_of% (rndBsO_h er yr tr an ak _co m m' ft fc n h t1 t3 i _ rfl _ rfl _ rfl _ rfl _ rfl) := rndBsO_h er yr tr an ak _co m m' ft fc n h t1 t3 i _ rfl _ rfl _ rfl _ rfl _ rfl

noncomputable abbrev lamBsO (_co : Option Nat) (m m' : Nat) (ft : Nat → ByteArray) (fc : Nat → Int) (n : Nat) (h : Nat → Nat → Int) (t1 t3 : TypeId) (hit : Nat → Bool) : Nat → Option Sum := oneL 0 (atS 39 (lvBs .normal) 2 [.own 0 m, .own 1 n, .v (i64 (0 : Nat))] (hpBw m' ft fc n h t1 t3) (fun K => cond (noneTo hit m) (K .normal (mkT 0 39 []) (hpBw m' ft fc n h t1 t3)) (K .ret (mkT 0 39 [(4, .v (i64 (fstAt hit m)))]) (hpBw m' ft fc n h t1 t3))))
theorem treeBsO (er : ByteArray → Int → Bool) (yr : ByteArray → Bool) (tr : ByteArray → List Wh) (an : List Wh → List Wh → Int) (ak : List Wh → List Wh → Bool) (_co : Option Nat) (m m' : Nat) (ft : Nat → ByteArray) (fc : Nat → Int) (n : Nat) (h : Nat → Nat → Int) (t1 t3 : TypeId) (hit : Nat → Bool) : execF Tryz.prog (gmBs er yr tr an ak) (lamBsO _co m m' ft fc n h t1 t3 hit) 100 Tryz.f29 [.own 0 m, .own 1 n] (hpBw m' ft fc n h t1 t3) (packK 2)
    = needs [chk ([AV.own 0 m, AV.own 1 n, AV.v (.int .i64 0)] = [AV.own 0 m, AV.own 1 n, AV.v (.int .i64 0)] ∧ Hsim [AB.row true m' 2 (rowE ft fc) t1, AB.row true n 9 (row9 h) t3] (hpBw m' ft fc n h t1 t3))] (bif noneTo hit m then Res.out .ret [AV.v (.int .i64 (-1 : Int))] [AB.row true m' 2 (rowE ft fc) t1, AB.row true n 9 (row9 h) t3] else Res.out .ret [AV.v (.int .i64 (fstAt hit m))] [AB.row true m' 2 (rowE ft fc) t1, AB.row true n 9 (row9 h) t3]) := by kernel_rfl

theorem rndBsL_h (er : ByteArray → Int → Bool) (yr : ByteArray → Bool) (tr : ByteArray → List Wh) (an : List Wh → List Wh → Int) (ak : List Wh → List Wh → Bool) (co : Option Nat) (m m' : Nat) (ft : Nat → ByteArray) (fc : Nat → Int) (n : Nat) (h : Nat → Nat → Int) (t1 t3 : TypeId) (i : Nat) (u1 : _) (hu1 : [AB.row true m' 2 (rowE ft fc) t1, AB.row true n 9 (row9 h) t3] = u1) (u3 : _) (hu3 : (↑i : Int) = u3) (u5 : _) (hu5 : (0 : Nat) = u5) (u0 : _) (hu0 : (ft (u5 + Int.toNat u3)) = u0) (u2 : _) (hu2 : [AV.sl u5 (2 : Nat) u5 u5 m co, AV.own 1 n, AV.v (.int .i64 (IntKind.wrap .i64 (u3 + (1 : Int))))] = u2) (u4 : _) (hu4 : (List.length (tr u0)) = u4) : execC Tryz.prog (gmBs er yr tr an ak) 100 noLam (loopAt 0 Tryz.f29) (mkT 0 39 ((lvBs .normal).zip [.sl 0 2 0 0 m co, .own 1 n, .v (i64 i)])) (hpBw m' ft fc n h t1 t3) (leafV 39 lvBs 2)
    = bif decide (u3 < (m : Int)) then needs [decide (u3 < (m : Int)), decide (u5 + Int.toNat u3 < m')] (bif !er u0 (fc (u5 + Int.toNat u3)) then Res.out .normal u2 u1 else needs [decide (u3 < (m : Int)), decide (u5 + Int.toNat u3 < m'), Nat.ble u4 u4, Nat.ble n n, allW u4 (row9 (wfun (tr u0))), allW n (row9 h), decide (List.length (tr u0) ≤ (274877906944 : Nat)), decide (n ≤ (274877906944 : Nat))] (bif ak (listW (itW (row9 (wfun (tr u0)))) u4) (listW (itW (row9 h)) n) then Res.out .ret [AV.v (.int .i64 u3)] u1 else Res.out .normal u2 u1)) else Res.out (Ex.exit u5) [] u1 := by
  subst hu4 hu2 hu0 hu5 hu3 hu1
  kernel_rfl
theorem rndBsL (er : ByteArray → Int → Bool) (yr : ByteArray → Bool) (tr : ByteArray → List Wh) (an : List Wh → List Wh → Int) (ak : List Wh → List Wh → Bool) (co : Option Nat) (m m' : Nat) (ft : Nat → ByteArray) (fc : Nat → Int) (n : Nat) (h : Nat → Nat → Int) (t1 t3 : TypeId) (i : Nat) : type_of% (rndBsL_h er yr tr an ak co m m' ft fc n h t1 t3 i _ rfl _ rfl _ rfl _ rfl _ rfl _ rfl) := rndBsL_h er yr tr an ak co m m' ft fc n h t1 t3 i _ rfl _ rfl _ rfl _ rfl _ rfl _ rfl

noncomputable abbrev lamBsL (co : Option Nat) (m m' : Nat) (ft : Nat → ByteArray) (fc : Nat → Int) (n : Nat) (h : Nat → Nat → Int) (t1 t3 : TypeId) (hit : Nat → Bool) : Nat → Option Sum := oneL 0 (atS 39 (lvBs .normal) 2 [.sl 0 2 0 0 m co, .own 1 n, .v (i64 (0 : Nat))] (hpBw m' ft fc n h t1 t3) (fun K => cond (noneTo hit m) (K .normal (mkT 0 39 []) (hpBw m' ft fc n h t1 t3)) (K .ret (mkT 0 39 [(4, .v (i64 (fstAt hit m)))]) (hpBw m' ft fc n h t1 t3))))
theorem treeBsL (er : ByteArray → Int → Bool) (yr : ByteArray → Bool) (tr : ByteArray → List Wh) (an : List Wh → List Wh → Int) (ak : List Wh → List Wh → Bool) (co : Option Nat) (m m' : Nat) (ft : Nat → ByteArray) (fc : Nat → Int) (n : Nat) (h : Nat → Nat → Int) (t1 t3 : TypeId) (hit : Nat → Bool) : execF Tryz.prog (gmBs er yr tr an ak) (lamBsL co m m' ft fc n h t1 t3 hit) 100 Tryz.f29 [.sl 0 2 0 0 m co, .own 1 n] (hpBw m' ft fc n h t1 t3) (packK 2)
    = needs [chk ([AV.sl 0 (2 : Nat) (0 : Nat) (0 : Nat) m co, AV.own 1 n, AV.v (.int .i64 0)] = [AV.sl 0 (2 : Nat) (0 : Nat) (0 : Nat) m co, AV.own 1 n, AV.v (.int .i64 0)] ∧ Hsim [AB.row true m' 2 (rowE ft fc) t1, AB.row true n 9 (row9 h) t3] (hpBw m' ft fc n h t1 t3))] (bif noneTo hit m then Res.out .ret [AV.v (.int .i64 (-1 : Int))] [AB.row true m' 2 (rowE ft fc) t1, AB.row true n 9 (row9 h) t3] else Res.out .ret [AV.v (.int .i64 (fstAt hit m))] [AB.row true m' 2 (rowE ft fc) t1, AB.row true n 9 (row9 h) t3]) := by kernel_rfl


end Go.Proofs.YtcadinbahmliiaaGreatDoor

/- BookFind of both: their words. Conditions: entries, a list of wheels. -/
namespace Go.Proofs.YtcadinbahmliiaaGreatDoor
open Go.RowKit
set_option maxRecDepth 100000

def hitB (ft : Nat → ByteArray) (fc : Nat → Int) (D : List Wh) (j : Nat) : Bool := hitE erB tRI aY ft fc D j
def FbfO (hit : (Nat → ByteArray) → (Nat → Int) → List Wh → Nat → Bool) : List AV → List AB → Option QRd
  | [.own 0 m, .own 1 n], [.row true m' 2 g _, .row true n' 9 h _] => some { val := .v (i64 (fstAt (hit (itT g) (itC g) (listW (itW h) n)) m)), obl := [Nat.ble m m', Nat.beq n n', allE m' g, allW n h, decide (m ≤ 2 ^ 38), decide (n ≤ 2 ^ 38)] }
  | [.sl 0 2 0 0 m _, .own 1 n], [.row true m' 2 g _, .row true n' 9 h _] => some { val := .v (i64 (fstAt (hit (itT g) (itC g) (listW (itW h) n)) m)), obl := [Nat.ble m m', Nat.beq n n', allE m' g, allW n h, decide (m ≤ 2 ^ 38), decide (n ≤ 2 ^ 38)] }
  | _, _ => none

theorem gmBf_ok : GamOk Tryz.prog (gmBf yRI tRI ckV ckY aN aY) := ext_ok gmErI_ok ok_akI
theorem sumBfO (_co : Option Nat) (m m' : Nat) (ft : Nat → ByteArray) (fc : Nat → Int) (n : Nat) (h : Nat → Nat → Int) (t1 t2 t3 : TypeId) (hmm : m ≤ m') (hm : m ≤ 2 ^ 38) (hn : n ≤ 2 ^ 38) :
    SumOk Tryz.prog 3 (.block 0 (.loop (loopAt 0 fIFE))) (atS 19 (lvBf .normal) 3 [.own 0 m, fnBf, .v (i64 m), .v (i64 (0 : Nat))] (hpBf m' ft fc n h t1 t2 t3) (fun K => cond (noneTo (hitB ft fc (listW h n)) m) (K .normal (mkT 0 19 []) (hpBf m' ft fc n h t1 t2 t3)) (K .ret (mkT 0 19 [(4, .v (i64 (fstAt (hitB ft fc (listW h n)) m)))]) (hpBf m' ft fc n h t1 t2 t3)))) := by
  refine for_at gmBf_ok (n := 100) (m := 3) (lv := lvBf) (fun i => [.own 0 m, fnBf, .v (i64 m), .v (i64 (i : Nat))]) (fun _ => hpBf m' ft fc n h t1 t2 t3) (fun i => noneTo (hitB ft fc (listW h n)) i = true) m (fun _ => noLam) (lv3_ris rfl rfl rfl) (Nat.le_refl _) rfl fun K Q hk i hi him => ⟨noLam_ok _ _ _, ?_⟩
  rw [rndBfO (_co := none)]
  refine good_cond (fun c1 => ?_) fun c1 => ?_
  · have c1 := of_decide_eq_true c1
    have c1' : i < m := by omega
    rw [Int.toNat_natCast, wr_in (x := (i : Int) + 1) (by omega)]
    have hl := tRI_len (ft i)
    simp only [row0]
    rw [listW_me (tRI (ft i)), show listW (itW (row9 h)) n = listW h n from rfl]
    have no : hitB ft fc (listW h n) i = false → RoundV 19 0 lvBf (fun i => [.own 0 m, fnBf, .v (i64 m), .v (i64 (i : Nat))]) (fun _ => hpBf m' ft fc n h t1 t2 t3) (fun s' => s' = i + 1 ∧ i < m ∧ noneTo (hitB ft fc (listW h n)) (i + 1) = true) K Q .normal [.own 0 m, fnBf, .v (i64 m), .v (i64 ((i : Int) + 1))] (hpBf m' ft fc n h t1 t2 t3) := fun q =>
      ⟨i + 1, ⟨rfl, c1', noneTo_succ hi q⟩, rfl, Hsim.refl _⟩
    refine good_needs (by simp only [ob_cons, ob_nil, and_true, decide_eq_true_eq, Nat.ble_eq, allW_row, true_and]; omega) (good_cond (fun q1 => good_cond (fun q2 => good_cond (fun q3 => good_out (no ?_)) fun q3 => good_needs (by simp only [ob_cons, ob_nil, and_true, decide_eq_true_eq, Nat.ble_eq, allW_row, true_and]; omega) (good_cond (fun q4 => good_out ?_) fun q4 => good_out (no ?_))) fun q2 => good_out (no ?_)) fun q1 => good_out (no ?_))
    · rw [Bool.not_eq_true'] at q3
      rw [hitB, hitE, erB, q1, q2, q3]; rfl
    · rw [Bool.not_eq_false'] at q3
      have hh : hitB ft fc (listW h n) i = true := by rw [hitB, hitE, erB, q1, q2, q3, q4]; rfl
      refine ⟨_, Hsim.refl _, ?_⟩
      rw [noneTo_no c1' hh, fstAt_at hi c1' hh] at hk
      exact hk
    · rw [hitB, hitE, q4, Bool.and_false]
    · rw [hitB, hitE, erB, q2]; simp
    · rw [hitB, hitE, erB, q1]; rfl
  · have c1 := of_decide_eq_false c1
    have : i = m := by omega
    subst this
    refine good_out ⟨_, Hsim.refl _, ?_⟩
    rw [if_pos rfl]
    rw [hi] at hk
    exact hk
theorem sumBfL (co : Option Nat) (m m' : Nat) (ft : Nat → ByteArray) (fc : Nat → Int) (n : Nat) (h : Nat → Nat → Int) (t1 t2 t3 : TypeId) (hmm : m ≤ m') (hm : m ≤ 2 ^ 38) (hn : n ≤ 2 ^ 38) :
    SumOk Tryz.prog 3 (.block 0 (.loop (loopAt 0 fIFE))) (atS 19 (lvBf .normal) 3 [.sl 0 2 0 0 m co, fnBf, .v (i64 m), .v (i64 (0 : Nat))] (hpBf m' ft fc n h t1 t2 t3) (fun K => cond (noneTo (hitB ft fc (listW h n)) m) (K .normal (mkT 0 19 []) (hpBf m' ft fc n h t1 t2 t3)) (K .ret (mkT 0 19 [(4, .v (i64 (fstAt (hitB ft fc (listW h n)) m)))]) (hpBf m' ft fc n h t1 t2 t3)))) := by
  refine for_at gmBf_ok (n := 100) (m := 3) (lv := lvBf) (fun i => [.sl 0 2 0 0 m co, fnBf, .v (i64 m), .v (i64 (i : Nat))]) (fun _ => hpBf m' ft fc n h t1 t2 t3) (fun i => noneTo (hitB ft fc (listW h n)) i = true) m (fun _ => noLam) (lv3_ris rfl rfl rfl) (Nat.le_refl _) rfl fun K Q hk i hi him => ⟨noLam_ok _ _ _, ?_⟩
  rw [rndBfL]
  refine good_cond (fun c1 => ?_) fun c1 => ?_
  · have c1 := of_decide_eq_true c1
    have c1' : i < m := by omega
    rw [Int.toNat_natCast, show 0 + i = i from Nat.zero_add i, wr_in (x := (i : Int) + 1) (by omega)]
    have hl := tRI_len (ft i)
    simp only [row0]
    rw [listW_me (tRI (ft i)), show listW (itW (row9 h)) n = listW h n from rfl]
    have no : hitB ft fc (listW h n) i = false → RoundV 19 0 lvBf (fun i => [.sl 0 2 0 0 m co, fnBf, .v (i64 m), .v (i64 (i : Nat))]) (fun _ => hpBf m' ft fc n h t1 t2 t3) (fun s' => s' = i + 1 ∧ i < m ∧ noneTo (hitB ft fc (listW h n)) (i + 1) = true) K Q .normal [.sl 0 2 0 0 m co, fnBf, .v (i64 m), .v (i64 ((i : Int) + 1))] (hpBf m' ft fc n h t1 t2 t3) := fun q =>
      ⟨i + 1, ⟨rfl, c1', noneTo_succ hi q⟩, rfl, Hsim.refl _⟩
    refine good_needs (by simp only [ob_cons, ob_nil, and_true, decide_eq_true_eq, Nat.ble_eq, allW_row, true_and]; omega) (good_cond (fun q1 => good_cond (fun q2 => good_cond (fun q3 => good_out (no ?_)) fun q3 => good_needs (by simp only [ob_cons, ob_nil, and_true, decide_eq_true_eq, Nat.ble_eq, allW_row, true_and]; omega) (good_cond (fun q4 => good_out ?_) fun q4 => good_out (no ?_))) fun q2 => good_out (no ?_)) fun q1 => good_out (no ?_))
    · rw [Bool.not_eq_true'] at q3
      rw [hitB, hitE, erB, q1, q2, q3]; rfl
    · rw [Bool.not_eq_false'] at q3
      have hh : hitB ft fc (listW h n) i = true := by rw [hitB, hitE, erB, q1, q2, q3, q4]; rfl
      refine ⟨_, Hsim.refl _, ?_⟩
      rw [noneTo_no c1' hh, fstAt_at hi c1' hh] at hk
      exact hk
    · rw [hitB, hitE, q4, Bool.and_false]
    · rw [hitB, hitE, erB, q2]; simp
    · rw [hitB, hitE, erB, q1]; rfl
  · have c1 := of_decide_eq_false c1
    have : i = m := by omega
    subst this
    refine good_out ⟨_, Hsim.refl _, ?_⟩
    rw [if_pos rfl]
    rw [hi] at hk
    exact hk
theorem ok_ifE : SpecOk Tryz.prog 61 (specQ [] (FifE hitB)) := by
  refine specQ_ok gmBf_ok Tryz.func61 rfl fun avs H kr hF ho => ?_
  unfold FifE at hF
  split at hF
  · rename_i m m' g t1 n t2 n' h t3
    cases hF
    simp only [ob_cons, decide_eq_true_eq, Nat.ble_eq, Nat.beq_eq] at ho
    obtain ⟨h1, rfl, h3, h4, h5, h6, _⟩ := ho
    have e : Hsim [AB.row true m' 2 g t1, .cells [.own 2 n] t2, .row true n 9 h t3] (hpBf m' (itT g) (itC g) n (itW h) t1 t2 t3) := .cons (ABeq.row fun j hj => allE_get h3 j hj) (.cons (ABeq.refl _) (.cons (ABeq.row fun j hj => allW_get h4 j hj) .nil))
    have e' : Hsim (hpBf m' (itT g) (itC g) n (itW h) t1 t2 t3) [AB.row true m' 2 g t1, .cells [.own 2 n] t2, .row true n 9 h t3] := .cons (ABeq.row fun j hj => (allE_get h3 j hj).symm) (.cons (ABeq.refl _) (.cons (ABeq.row fun j hj => (allW_get h4 j hj).symm) .nil))
    refine ⟨hpBf m' (itT g) (itC g) n (itW h) t1 t2 t3, lamBfO none m m' (itT g) (itC g) n (itW h) t1 t2 t3 (hitB (itT g) (itC g) (listW (itW h) n)), 100, e, lam1 (by kernel_rfl) (sumBfO none m m' (itT g) (itC g) n (itW h) t1 t2 t3 h1 h5 h6), ?_⟩
    show GoodQ (execF Tryz.prog (gmBf yRI tRI ckV ckY aN aY) (lamBfO none m m' (itT g) (itC g) n (itW h) t1 t2 t3 (hitB (itT g) (itC g) (listW (itW h) n))) 100 fIFE [.own 0 m, fnBf] (hpBf m' (itT g) (itC g) n (itW h) t1 t2 t3) (packK 3)) _
    rw [treeBfO (_co := none)]
    refine good_needs (by simp only [ob_cons, ob_nil, and_true]; exact chk_of ⟨trivial, Hsim.refl _⟩) (good_cond (fun q => good_out ⟨?_, e'⟩) fun q => good_out ⟨rfl, e'⟩)
    rw [fstAt_no q]
  · rename_i m co m' g t1 n t2 n' h t3
    cases hF
    simp only [ob_cons, decide_eq_true_eq, Nat.ble_eq, Nat.beq_eq] at ho
    obtain ⟨h1, rfl, h3, h4, h5, h6, _⟩ := ho
    have e : Hsim [AB.row true m' 2 g t1, .cells [.own 2 n] t2, .row true n 9 h t3] (hpBf m' (itT g) (itC g) n (itW h) t1 t2 t3) := .cons (ABeq.row fun j hj => allE_get h3 j hj) (.cons (ABeq.refl _) (.cons (ABeq.row fun j hj => allW_get h4 j hj) .nil))
    have e' : Hsim (hpBf m' (itT g) (itC g) n (itW h) t1 t2 t3) [AB.row true m' 2 g t1, .cells [.own 2 n] t2, .row true n 9 h t3] := .cons (ABeq.row fun j hj => (allE_get h3 j hj).symm) (.cons (ABeq.refl _) (.cons (ABeq.row fun j hj => (allW_get h4 j hj).symm) .nil))
    refine ⟨hpBf m' (itT g) (itC g) n (itW h) t1 t2 t3, lamBfL co m m' (itT g) (itC g) n (itW h) t1 t2 t3 (hitB (itT g) (itC g) (listW (itW h) n)), 100, e, lam1 (by kernel_rfl) (sumBfL co m m' (itT g) (itC g) n (itW h) t1 t2 t3 h1 h5 h6), ?_⟩
    show GoodQ (execF Tryz.prog (gmBf yRI tRI ckV ckY aN aY) (lamBfL co m m' (itT g) (itC g) n (itW h) t1 t2 t3 (hitB (itT g) (itC g) (listW (itW h) n))) 100 fIFE [.sl 0 2 0 0 m co, fnBf] (hpBf m' (itT g) (itC g) n (itW h) t1 t2 t3) (packK 3)) _
    rw [treeBfL]
    refine good_needs (by simp only [ob_cons, ob_nil, and_true]; exact chk_of ⟨trivial, Hsim.refl _⟩) (good_cond (fun q => good_out ⟨?_, e'⟩) fun q => good_out ⟨rfl, e'⟩)
    rw [fstAt_no q]
  · cases hF
theorem gmBF_ok : GamOk Tryz.prog (gmBF hitB) := ext_ok g0_ok ok_ifE
theorem ok_bfI : SpecOk Tryz.prog 31 (specQ [] (FbfO hitB)) := by
  refine specQ_ok gmBF_ok Tryz.func31 rfl fun avs H kr hF ho => ?_
  unfold FbfO at hF
  split at hF
  · rename_i m n m' g t1 n' h t3
    cases hF
    simp only [ob_cons, decide_eq_true_eq, Nat.ble_eq, Nat.beq_eq] at ho
    obtain ⟨h1, rfl, h3, h4, h5, h6, _⟩ := ho
    have e : Hsim [AB.row true m' 2 g t1, .row true n 9 h t3] (hpBw m' (itT g) (itC g) n (itW h) t1 t3) := .cons (ABeq.row fun j hj => allE_get h3 j hj) (.cons (ABeq.row fun j hj => allW_get h4 j hj) .nil)
    have e' : Hsim (hpBw m' (itT g) (itC g) n (itW h) t1 t3) [AB.row true m' 2 g t1, .row true n 9 h t3] := .cons (ABeq.row fun j hj => (allE_get h3 j hj).symm) (.cons (ABeq.row fun j hj => (allW_get h4 j hj).symm) .nil)
    refine ⟨hpBw m' (itT g) (itC g) n (itW h) t1 t3, noLam, 100, e, noLam' _, ?_⟩
    show GoodQ (execF Tryz.prog (gmBF hitB) noLam 100 Tryz.f31 [.own 0 m, .own 1 n] (hpBw m' (itT g) (itC g) n (itW h) t1 t3) (packK 2)) _
    rw [treeBFO (_co := none)]
    refine good_needs (by simp only [ob_cons, ob_nil, and_true, Nat.ble_eq, Nat.beq_eq, decide_eq_true_eq, allE_row, allW_row, true_and]; exact ⟨h1, h5, h6⟩) (good_out ⟨rfl, e'⟩)
  · rename_i m co n m' g t1 n' h t3
    cases hF
    simp only [ob_cons, decide_eq_true_eq, Nat.ble_eq, Nat.beq_eq] at ho
    obtain ⟨h1, rfl, h3, h4, h5, h6, _⟩ := ho
    have e : Hsim [AB.row true m' 2 g t1, .row true n 9 h t3] (hpBw m' (itT g) (itC g) n (itW h) t1 t3) := .cons (ABeq.row fun j hj => allE_get h3 j hj) (.cons (ABeq.row fun j hj => allW_get h4 j hj) .nil)
    have e' : Hsim (hpBw m' (itT g) (itC g) n (itW h) t1 t3) [AB.row true m' 2 g t1, .row true n 9 h t3] := .cons (ABeq.row fun j hj => (allE_get h3 j hj).symm) (.cons (ABeq.row fun j hj => (allW_get h4 j hj).symm) .nil)
    refine ⟨hpBw m' (itT g) (itC g) n (itW h) t1 t3, noLam, 100, e, noLam' _, ?_⟩
    show GoodQ (execF Tryz.prog (gmBF hitB) noLam 100 Tryz.f31 [.sl 0 2 0 0 m co, .own 1 n] (hpBw m' (itT g) (itC g) n (itW h) t1 t3) (packK 2)) _
    rw [treeBFL]
    refine good_needs (by simp only [ob_cons, ob_nil, and_true, Nat.ble_eq, Nat.beq_eq, decide_eq_true_eq, allE_row, allW_row, true_and]; exact ⟨h1, h5, h6⟩) (good_out ⟨rfl, e'⟩)
  · cases hF
theorem gmBs_ok : GamOk Tryz.prog (gmBs erB yRI tRI aN aY) := by
  have e1 : yRS = yRI := funext fun s => (re_rs s).1
  have e2 : tRS = tRI := funext fun s => (re_rs s).2
  have := ok_reS
  rw [e1, e2] at this
  exact ext_ok (ext_ok (ext_ok g0_ok ok_erS) this) ok_akS
theorem sumBsO (_co : Option Nat) (m m' : Nat) (ft : Nat → ByteArray) (fc : Nat → Int) (n : Nat) (h : Nat → Nat → Int) (t1 t3 : TypeId) (hmm : m ≤ m') (hm : m ≤ 2 ^ 38) (hn : n ≤ 2 ^ 38) :
    SumOk Tryz.prog 2 (.block 0 (.loop (loopAt 0 Tryz.f29))) (atS 39 (lvBs .normal) 2 [.own 0 m, .own 1 n, .v (i64 (0 : Nat))] (hpBw m' ft fc n h t1 t3) (fun K => cond (noneTo (hitB ft fc (listW h n)) m) (K .normal (mkT 0 39 []) (hpBw m' ft fc n h t1 t3)) (K .ret (mkT 0 39 [(4, .v (i64 (fstAt (hitB ft fc (listW h n)) m)))]) (hpBw m' ft fc n h t1 t3)))) := by
  refine for_at gmBs_ok (n := 100) (m := 2) (lv := lvBs) (fun i => [.own 0 m, .own 1 n, .v (i64 (i : Nat))]) (fun _ => hpBw m' ft fc n h t1 t3) (fun i => noneTo (hitB ft fc (listW h n)) i = true) m (fun _ => noLam) (lv3_ris rfl rfl rfl) (Nat.le_refl _) rfl fun K Q hk i hi him => ⟨noLam_ok _ _ _, ?_⟩
  rw [rndBsO (_co := none)]
  refine good_cond (fun c1 => ?_) fun c1 => ?_
  · have c1 := of_decide_eq_true c1
    have c1' : i < m := by omega
    rw [Int.toNat_natCast, wr_in (x := (i : Int) + 1) (by omega)]
    have hl := tRI_len (ft i)
    rw [listW_me (tRI (ft i)), show listW (itW (row9 h)) n = listW h n from rfl]
    have no : hitB ft fc (listW h n) i = false → RoundV 39 0 lvBs (fun i => [.own 0 m, .own 1 n, .v (i64 (i : Nat))]) (fun _ => hpBw m' ft fc n h t1 t3) (fun s' => s' = i + 1 ∧ i < m ∧ noneTo (hitB ft fc (listW h n)) (i + 1) = true) K Q .normal [.own 0 m, .own 1 n, .v (i64 ((i : Int) + 1))] (hpBw m' ft fc n h t1 t3) := fun q =>
      ⟨i + 1, ⟨rfl, c1', noneTo_succ hi q⟩, rfl, Hsim.refl _⟩
    refine good_needs (by simp only [ob_cons, ob_nil, and_true, decide_eq_true_eq]; omega) (good_cond (fun q1 => good_out (no ?_)) fun q1 => good_needs (by simp only [ob_cons, ob_nil, and_true, decide_eq_true_eq, Nat.ble_eq, allW_row, true_and]; omega) (good_cond (fun q4 => good_out ?_) fun q4 => good_out (no ?_)))
    · rw [Bool.not_eq_true'] at q1
      rw [hitB, hitE, q1]; rfl
    · rw [Bool.not_eq_false'] at q1
      have hh : hitB ft fc (listW h n) i = true := by rw [hitB, hitE, q1, q4]; rfl
      refine ⟨_, Hsim.refl _, ?_⟩
      rw [noneTo_no c1' hh, fstAt_at hi c1' hh] at hk
      exact hk
    · rw [hitB, hitE, q4, Bool.and_false]
  · have c1 := of_decide_eq_false c1
    have : i = m := by omega
    subst this
    refine good_out ⟨_, Hsim.refl _, ?_⟩
    rw [if_pos rfl]
    rw [hi] at hk
    exact hk
theorem sumBsL (co : Option Nat) (m m' : Nat) (ft : Nat → ByteArray) (fc : Nat → Int) (n : Nat) (h : Nat → Nat → Int) (t1 t3 : TypeId) (hmm : m ≤ m') (hm : m ≤ 2 ^ 38) (hn : n ≤ 2 ^ 38) :
    SumOk Tryz.prog 2 (.block 0 (.loop (loopAt 0 Tryz.f29))) (atS 39 (lvBs .normal) 2 [.sl 0 2 0 0 m co, .own 1 n, .v (i64 (0 : Nat))] (hpBw m' ft fc n h t1 t3) (fun K => cond (noneTo (hitB ft fc (listW h n)) m) (K .normal (mkT 0 39 []) (hpBw m' ft fc n h t1 t3)) (K .ret (mkT 0 39 [(4, .v (i64 (fstAt (hitB ft fc (listW h n)) m)))]) (hpBw m' ft fc n h t1 t3)))) := by
  refine for_at gmBs_ok (n := 100) (m := 2) (lv := lvBs) (fun i => [.sl 0 2 0 0 m co, .own 1 n, .v (i64 (i : Nat))]) (fun _ => hpBw m' ft fc n h t1 t3) (fun i => noneTo (hitB ft fc (listW h n)) i = true) m (fun _ => noLam) (lv3_ris rfl rfl rfl) (Nat.le_refl _) rfl fun K Q hk i hi him => ⟨noLam_ok _ _ _, ?_⟩
  rw [rndBsL]
  refine good_cond (fun c1 => ?_) fun c1 => ?_
  · have c1 := of_decide_eq_true c1
    have c1' : i < m := by omega
    rw [Int.toNat_natCast, show 0 + i = i from Nat.zero_add i, wr_in (x := (i : Int) + 1) (by omega)]
    have hl := tRI_len (ft i)
    rw [listW_me (tRI (ft i)), show listW (itW (row9 h)) n = listW h n from rfl]
    have no : hitB ft fc (listW h n) i = false → RoundV 39 0 lvBs (fun i => [.sl 0 2 0 0 m co, .own 1 n, .v (i64 (i : Nat))]) (fun _ => hpBw m' ft fc n h t1 t3) (fun s' => s' = i + 1 ∧ i < m ∧ noneTo (hitB ft fc (listW h n)) (i + 1) = true) K Q .normal [.sl 0 2 0 0 m co, .own 1 n, .v (i64 ((i : Int) + 1))] (hpBw m' ft fc n h t1 t3) := fun q =>
      ⟨i + 1, ⟨rfl, c1', noneTo_succ hi q⟩, rfl, Hsim.refl _⟩
    refine good_needs (by simp only [ob_cons, ob_nil, and_true, decide_eq_true_eq]; omega) (good_cond (fun q1 => good_out (no ?_)) fun q1 => good_needs (by simp only [ob_cons, ob_nil, and_true, decide_eq_true_eq, Nat.ble_eq, allW_row, true_and]; omega) (good_cond (fun q4 => good_out ?_) fun q4 => good_out (no ?_)))
    · rw [Bool.not_eq_true'] at q1
      rw [hitB, hitE, q1]; rfl
    · rw [Bool.not_eq_false'] at q1
      have hh : hitB ft fc (listW h n) i = true := by rw [hitB, hitE, q1, q4]; rfl
      refine ⟨_, Hsim.refl _, ?_⟩
      rw [noneTo_no c1' hh, fstAt_at hi c1' hh] at hk
      exact hk
    · rw [hitB, hitE, q4, Bool.and_false]
  · have c1 := of_decide_eq_false c1
    have : i = m := by omega
    subst this
    refine good_out ⟨_, Hsim.refl _, ?_⟩
    rw [if_pos rfl]
    rw [hi] at hk
    exact hk
theorem ok_bfS : SpecOk Tryz.prog 29 (specQ [] (FbfO hitB)) := by
  refine specQ_ok gmBs_ok Tryz.func29 rfl fun avs H kr hF ho => ?_
  unfold FbfO at hF
  split at hF
  · rename_i m n m' g t1 n' h t3
    cases hF
    simp only [ob_cons, decide_eq_true_eq, Nat.ble_eq, Nat.beq_eq] at ho
    obtain ⟨h1, rfl, h3, h4, h5, h6, _⟩ := ho
    have e : Hsim [AB.row true m' 2 g t1, .row true n 9 h t3] (hpBw m' (itT g) (itC g) n (itW h) t1 t3) := .cons (ABeq.row fun j hj => allE_get h3 j hj) (.cons (ABeq.row fun j hj => allW_get h4 j hj) .nil)
    have e' : Hsim (hpBw m' (itT g) (itC g) n (itW h) t1 t3) [AB.row true m' 2 g t1, .row true n 9 h t3] := .cons (ABeq.row fun j hj => (allE_get h3 j hj).symm) (.cons (ABeq.row fun j hj => (allW_get h4 j hj).symm) .nil)
    refine ⟨hpBw m' (itT g) (itC g) n (itW h) t1 t3, lamBsO none m m' (itT g) (itC g) n (itW h) t1 t3 (hitB (itT g) (itC g) (listW (itW h) n)), 100, e, lam1 (by kernel_rfl) (sumBsO none m m' (itT g) (itC g) n (itW h) t1 t3 h1 h5 h6), ?_⟩
    show GoodQ (execF Tryz.prog (gmBs erB yRI tRI aN aY) (lamBsO none m m' (itT g) (itC g) n (itW h) t1 t3 (hitB (itT g) (itC g) (listW (itW h) n))) 100 Tryz.f29 [.own 0 m, .own 1 n] (hpBw m' (itT g) (itC g) n (itW h) t1 t3) (packK 2)) _
    rw [treeBsO (_co := none)]
    refine good_needs (by simp only [ob_cons, ob_nil, and_true]; exact chk_of ⟨trivial, Hsim.refl _⟩) (good_cond (fun q => good_out ⟨?_, e'⟩) fun q => good_out ⟨rfl, e'⟩)
    rw [fstAt_no q]
  · rename_i m co n m' g t1 n' h t3
    cases hF
    simp only [ob_cons, decide_eq_true_eq, Nat.ble_eq, Nat.beq_eq] at ho
    obtain ⟨h1, rfl, h3, h4, h5, h6, _⟩ := ho
    have e : Hsim [AB.row true m' 2 g t1, .row true n 9 h t3] (hpBw m' (itT g) (itC g) n (itW h) t1 t3) := .cons (ABeq.row fun j hj => allE_get h3 j hj) (.cons (ABeq.row fun j hj => allW_get h4 j hj) .nil)
    have e' : Hsim (hpBw m' (itT g) (itC g) n (itW h) t1 t3) [AB.row true m' 2 g t1, .row true n 9 h t3] := .cons (ABeq.row fun j hj => (allE_get h3 j hj).symm) (.cons (ABeq.row fun j hj => (allW_get h4 j hj).symm) .nil)
    refine ⟨hpBw m' (itT g) (itC g) n (itW h) t1 t3, lamBsL co m m' (itT g) (itC g) n (itW h) t1 t3 (hitB (itT g) (itC g) (listW (itW h) n)), 100, e, lam1 (by kernel_rfl) (sumBsL co m m' (itT g) (itC g) n (itW h) t1 t3 h1 h5 h6), ?_⟩
    show GoodQ (execF Tryz.prog (gmBs erB yRI tRI aN aY) (lamBsL co m m' (itT g) (itC g) n (itW h) t1 t3 (hitB (itT g) (itC g) (listW (itW h) n))) 100 Tryz.f29 [.sl 0 2 0 0 m co, .own 1 n] (hpBw m' (itT g) (itC g) n (itW h) t1 t3) (packK 2)) _
    rw [treeBsL]
    refine good_needs (by simp only [ob_cons, ob_nil, and_true]; exact chk_of ⟨trivial, Hsim.refl _⟩) (good_cond (fun q => good_out ⟨?_, e'⟩) fun q => good_out ⟨rfl, e'⟩)
    rw [fstAt_no q]
  · cases hF
end Go.Proofs.YtcadinbahmliiaaGreatDoor

/- pick, where there are no bytes; the lengths of rows. No conditions. -/
namespace Go.Proofs.YtcadinbahmliiaaGreatDoor
open Go.RowKit
set_option maxRecDepth 100000

theorem treePk0 (q : Option Addr) (c : Nat) (p n : Int) (tr : TypeId) : execF Tryz.prog g0 noLam 100 Tryz.f58 [.ptr 0 0 0 0, .v (i64 n)] [.cells [.v (.slice q 0 c), .v (i64 p)] tr] (packK 1)
    = bif decide (n < (1 : Int)) then Res.out .ret [AV.v (.int .i64 0)] [AB.cells [AV.v (Value.slice q (0 : Nat) c), AV.v (.int .i64 (IntKind.wrap .i64 (p + (1 : Int))))] tr] else Res.out .ret [AV.v (.int .i64 0)] [AB.cells [AV.v (Value.slice q (0 : Nat) c), AV.v (.int .i64 (IntKind.wrap .i64 (p + (1 : Int))))] tr] := by kernel_rfl

def Fpk0 : List AV → List AB → Option HR
  | [.ptr 0 0 0 0, .v (.int .i64 _)], [.cells [.v (.slice q 0 c), .v (.int .i64 p)] tr] => some { val := .v (.int .i64 0), out := [.cells [.v (.slice q 0 c), .v (.int .i64 (p + 1))] tr], obl := [decide (0 ≤ p), decide (p ≤ 2 ^ 30)] }
  | _, _ => none
theorem ok_pick0 : SpecOk Tryz.prog 58 (specK [] Fpk0) := by
  refine specK_ok g0_ok Tryz.func58 rfl fun avs H hr hF ho => ?_
  unfold Fpk0 at hF
  split at hF
  · rename_i n q c p tr
    cases hF
    simp only [ob_cons, decide_eq_true_eq] at ho
    obtain ⟨h1, h2, _⟩ := ho
    refine ⟨[.cells [.v (.slice q 0 c), .v (i64 p)] tr], noLam, 100, Hsim.refl _, noLam' _, ?_⟩
    rw [show execF Tryz.prog g0 noLam 100 Tryz.f58 [.ptr 0 0 0 0, .v (.int .i64 n)] [.cells [.v (.slice q 0 c), .v (i64 p)] tr] (packK [AB.cells [AV.v (.slice q 0 c), .v (i64 p)] tr].length) = _ from treePk0 q c p n tr]
    rw [wr_in (x := p + 1) (by omega)]
    exact good_cond (fun _ => good_out ⟨rfl, Hsim.refl _⟩) fun _ => good_out ⟨rfl, Hsim.refl _⟩
  · cases hF
def gmPk0 : Gam := ext g0 58 (specK [] Fpk0)
theorem gmPk0_ok : GamOk Tryz.prog gmPk0 := ext_ok g0_ok ok_pick0
end Go.Proofs.YtcadinbahmliiaaGreatDoor

/- What is drawn: entries and a design: trees. Conditions: bytes. -/
namespace Go.Proofs.YtcadinbahmliiaaGreatDoor
open Go.RowKit
set_option maxRecDepth 100000

def gmDB (dt : Nat → (Nat → Int) → Int → ByteArray) (ds dp : Nat → (Nat → Int) → Int → Int) (dl : Nat → (Nat → Int) → Int → List Wh) (dq : Nat → (Nat → Int) → Int → Int) (pk : Nat → (Nat → Int) → Int → Int → Int) (yr : ByteArray → Bool) (tr : ByteArray → List Wh) (ok : Int → Int → Int → Bool → List Wh → Bool) (el : Int → Int → Int → Bool → List Wh → List Wh) (q : Int) : Gam :=
  ext (ext (ext (ext (ext g0 58 (specK [] (FpkJ pk 3 q))) 43 (specK [] (FenO dt ds dp))) 38 (specK [] (FehO dl dq))) 35 (specR [.val] (FreO yr tr))) 96 (specR md_ea (FeaO ok el))
theorem treeDB0 (dt : Nat → (Nat → Int) → Int → ByteArray) (ds dp : Nat → (Nat → Int) → Int → Int) (dl : Nat → (Nat → Int) → Int → List Wh) (dq : Nat → (Nat → Int) → Int → Int) (pk : Nat → (Nat → Int) → Int → Int → Int) (yr : ByteArray → Bool) (tr : ByteArray → List Wh) (ok : Int → Int → Int → Bool → List Wh → Bool) (el : Int → Int → Int → Bool → List Wh → List Wh) (m : Nat) (b : Nat → Int) : execF Tryz.prog (gmDB dt ds dp dl dq pk yr tr ok el 0) noLam 100 Tryz.f33 [.sl 0 1 0 0 m none] [.row false m 1 (rowB b) 5] (packK 1)
    = bif decide ((m : Int) > (2000 : Int)) then needs [decide ((2000 : Int) ≤ (m : Int)), decide ((m : Int) ≤ (m : Int)), okB m (rowB b), decide (Int.toNat (2000 - 0) ≤ m), decide (pk (Int.toNat (2000 - 0)) (itB (rowB b)) (0 : Int) (3 : Int) = (0 : Int)), decide ((0 : Nat) < m), okB m (rowB b), decide (Int.toNat (2000 - 0) ≤ m), decide ((0 : Nat) < m), decide ((0 : Nat) < m)] (Res.out .ret [AV.tup [AV.own 1 (0 : Nat), AV.own 2 (List.length (dl (Int.toNat (2000 - 0)) (itB (rowB b)) (1 : Int)))]] [AB.row false m 1 (rowB b) 5, AB.row true (0 : Nat) (2 : Nat) (fun _ ↦ []) (27 : Nat), AB.row true (List.length (dl (Int.toNat (2000 - 0)) (itB (rowB b)) (1 : Int))) (9 : Nat) (row9 (wfun (dl (Int.toNat (2000 - 0)) (itB (rowB b)) (1 : Int)))) 75]) else needs [okB m (rowB b), decide (m ≤ m), decide (pk m (itB (rowB b)) (0 : Int) (3 : Int) = (0 : Int)), decide ((0 : Nat) < m), okB m (rowB b), decide (m ≤ m), decide ((0 : Nat) < m), decide ((0 : Nat) < m)] (Res.out .ret [AV.tup [AV.own 1 (0 : Nat), AV.own 2 (List.length (dl m (itB (rowB b)) (1 : Int)))]] [AB.row false m 1 (rowB b) 5, AB.row true (0 : Nat) (2 : Nat) (fun _ ↦ []) (27 : Nat), AB.row true (List.length (dl m (itB (rowB b)) (1 : Int))) (9 : Nat) (row9 (wfun (dl m (itB (rowB b)) (1 : Int)))) 75]) := by kernel_rfl

theorem treeDB1_h (dt : Nat → (Nat → Int) → Int → ByteArray) (ds dp : Nat → (Nat → Int) → Int → Int) (dl : Nat → (Nat → Int) → Int → List Wh) (dq : Nat → (Nat → Int) → Int → Int) (pk : Nat → (Nat → Int) → Int → Int → Int) (yr : ByteArray → Bool) (tr : ByteArray → List Wh) (ok : Int → Int → Int → Bool → List Wh → Bool) (el : Int → Int → Int → Bool → List Wh → List Wh) (m : Nat) (b : Nat → Int) (u1 : _) (hu1 : (itB (rowB b)) = u1) (u2 : _) (hu2 : (1 : Int) = u2) (u4 : _) (hu4 : (decide ((0 : Nat) < m)) = u4) (u11 : _) (hu11 : (AB.row false m 1 (rowB b) 5) = u11) (u12 : _) (hu12 : (okB m (rowB b)) = u12) (u13 : _) (hu13 : (0 : Int) = u13) (u17 : _) (hu17 : (AV.own 1 (1 : Nat)) = u17) (u18 : _) (hu18 : (tr (dt m u1 u2)) = u18) (u19 : _) (hu19 : (decide (m ≤ m)) = u19) (u21 : _) (hu21 : (1073741824 : Int) = u21) (u23 : _) (hu23 : (dp m u1 u2 + u2) = u23) (u24 : _) (hu24 : (dl m u1 (dp m u1 u2 + u2 + u2 + u2)) = u24) (u26 : _) (hu26 : (List.length u18) = u26) (u27 : _) (hu27 : 75 = u27) (u29 : _) (hu29 : (bif u2 == (3 : Int) then u2 else pk m u1 u23 u2) = u29) (u30 : _) (hu30 : (2 : Nat) = u30) (u33 : _) (hu33 : (pk m u1 (dp m u1 u2 + u2 + u2) (24 : Int)) = u33) (u34 : _) (hu34 : (67108864 : Int) = u34) (u0 : _) (hu0 : (Int.toNat ((2000 : Int) - u13)) = u0) (u6 : _) (hu6 : (decide (Int.toNat ((2000 : Int) - u13) ≤ m)) = u6) (u8 : _) (hu8 : (el u2 u33 u13 false (listW (itW (row9 (wfun u18))) u26)) = u8) (u9 : _) (hu9 : (AB.row true (1 : Nat) u30 (fun _ ↦ [Value.string (dt u0 u1 u2), Value.int .u32 (ds u0 u1 u2)]) (27 : Nat)) = u9) (u10 : _) (hu10 : (AB.row true (1 : Nat) u30 (fun _ ↦ [Value.string (dt m u1 u2), Value.int .u32 (ds m u1 u2)]) (27 : Nat)) = u10) (u14 : _) (hu14 : [u12, u19, decide (u13 ≤ dp m u1 u2 + u2 + u2 + u2), decide (dp m u1 u2 + u2 + u2 + u2 ≤ u34), u4, u4] = u14) (u15 : _) (hu15 : (tr (dt u0 u1 u2)) = u15) (u16 : _) (hu16 : [u12, u6, decide (u13 ≤ dp u0 u1 u2 + u2 + u2 + u2), decide (dp u0 u1 u2 + u2 + u2 + u2 ≤ u34), u4, u4] = u16) (u20 : _) (hu20 : (dp u0 u1 u2 + u2) = u20) (u22 : _) (hu22 : (dl u0 u1 (dp u0 u1 u2 + u2 + u2 + u2)) = u22) (u25 : _) (hu25 : (List.length u15) = u25) (u28 : _) (hu28 : (bif u2 == (3 : Int) then u2 else pk u0 u1 u20 u2) = u28) (u31 : _) (hu31 : (pk u0 u1 (dp u0 u1 u2 + u2 + u2) (24 : Int)) = u31) (u3 : _) (hu3 : (Res.out .ret [AV.tup [u17, AV.own u30 (List.length u22)]] [u11, u9, AB.row true (List.length u22) (9 : Nat) (row9 (wfun u22)) u27]) = u3) (u5 : _) (hu5 : (Res.out .ret [AV.tup [u17, AV.own u30 (List.length u24)]] [u11, u10, AB.row true (List.length u24) (9 : Nat) (row9 (wfun u24)) u27]) = u5) (u7 : _) (hu7 : (el u2 u31 u13 false (listW (itW (row9 (wfun u15))) u25)) = u7) : execF Tryz.prog (gmDB dt ds dp dl dq pk yr tr ok el 1) noLam 100 Tryz.f33 [.sl 0 1 0 0 m none] [.row false m 1 (rowB b) 5] (packK 1)
    = bif decide ((m : Int) > (2000 : Int)) then needs [decide ((2000 : Int) ≤ (m : Int)), decide ((m : Int) ≤ (m : Int)), u12, u6, decide (pk u0 u1 u13 (3 : Int) = u2), u4, u12, u6, u4, u4, u12, u6, decide (u13 ≤ dp u0 u1 u2), decide (dp u0 u1 u2 ≤ u21), u4] (bif pk u0 u1 (dp u0 u1 u2) (2 : Int) == u13 then needs [u12, u6, decide (u13 ≤ dp u0 u1 u2 + u2), decide (dp u0 u1 u2 + u2 ≤ u21), u4, decide (u13 ≤ bif u2 == (3 : Int) then u2 else pk u0 u1 u20 u2), decide (u28 < u2), decide (Int.toNat u28 < (1 : Nat)), u12, u6, decide (u13 ≤ dp u0 u1 u2 + u2 + u2), decide (dp u0 u1 u2 + u2 + u2 ≤ u21), u4, Nat.ble u25 u25, allW u25 (row9 (wfun u15)), decide (List.length u15 ≤ (274877906944 : Nat))] (bif yr (dt u0 u1 u2) then bif ok u2 u31 u13 false (listW (itW (row9 (wfun u15))) u25) then Res.out .ret [AV.tup [u17, AV.own u30 (List.length u7)]] [u11, u9, AB.row true (List.length u7) (9 : Nat) (row9 (wfun u7)) u27] else needs u16 u3 else needs u16 u3) else needs [u12, u6, decide (u13 ≤ dp u0 u1 u2 + u2), decide (dp u0 u1 u2 + u2 ≤ u34), u4, u4] (Res.out .ret [AV.tup [u17, AV.own u30 (List.length (dl u0 u1 u20))]] [u11, u9, AB.row true (List.length (dl u0 u1 u20)) (9 : Nat) (row9 (wfun (dl u0 u1 u20))) u27])) else needs [u12, u19, decide (pk m u1 u13 (3 : Int) = u2), u4, u12, u19, u4, u4, u12, u19, decide (u13 ≤ dp m u1 u2), decide (dp m u1 u2 ≤ u21), u4] (bif pk m u1 (dp m u1 u2) (2 : Int) == u13 then needs [u12, u19, decide (u13 ≤ dp m u1 u2 + u2), decide (dp m u1 u2 + u2 ≤ u21), u4, decide (u13 ≤ bif u2 == (3 : Int) then u2 else pk m u1 u23 u2), decide (u29 < u2), decide (Int.toNat u29 < (1 : Nat)), u12, u19, decide (u13 ≤ dp m u1 u2 + u2 + u2), decide (dp m u1 u2 + u2 + u2 ≤ u21), u4, Nat.ble u26 u26, allW u26 (row9 (wfun u18)), decide (List.length u18 ≤ (274877906944 : Nat))] (bif yr (dt m u1 u2) then bif ok u2 u33 u13 false (listW (itW (row9 (wfun u18))) u26) then Res.out .ret [AV.tup [u17, AV.own u30 (List.length u8)]] [u11, u10, AB.row true (List.length u8) (9 : Nat) (row9 (wfun u8)) u27] else needs u14 u5 else needs u14 u5) else needs [u12, u19, decide (u13 ≤ dp m u1 u2 + u2), decide (dp m u1 u2 + u2 ≤ u34), u4, u4] (Res.out .ret [AV.tup [u17, AV.own u30 (List.length (dl m u1 u23))]] [u11, u10, AB.row true (List.length (dl m u1 u23)) (9 : Nat) (row9 (wfun (dl m u1 u23))) u27])) := by
  subst hu7 hu5 hu3 hu31 hu28 hu25 hu22 hu20 hu16 hu15 hu14 hu10 hu9 hu8 hu6 hu0 hu34 hu33 hu30 hu29 hu27 hu26 hu24 hu23 hu21 hu19 hu18 hu17 hu13 hu12 hu11 hu4 hu2 hu1
  kernel_rfl
theorem treeDB1 (dt : Nat → (Nat → Int) → Int → ByteArray) (ds dp : Nat → (Nat → Int) → Int → Int) (dl : Nat → (Nat → Int) → Int → List Wh) (dq : Nat → (Nat → Int) → Int → Int) (pk : Nat → (Nat → Int) → Int → Int → Int) (yr : ByteArray → Bool) (tr : ByteArray → List Wh) (ok : Int → Int → Int → Bool → List Wh → Bool) (el : Int → Int → Int → Bool → List Wh → List Wh) (m : Nat) (b : Nat → Int) : type_of% (treeDB1_h dt ds dp dl dq pk yr tr ok el m b _ rfl _ rfl _ rfl _ rfl _ rfl _ rfl _ rfl _ rfl _ rfl _ rfl _ rfl _ rfl _ rfl _ rfl _ rfl _ rfl _ rfl _ rfl _ rfl _ rfl _ rfl _ rfl _ rfl _ rfl _ rfl _ rfl _ rfl _ rfl _ rfl _ rfl _ rfl _ rfl _ rfl _ rfl) := treeDB1_h dt ds dp dl dq pk yr tr ok el m b _ rfl _ rfl _ rfl _ rfl _ rfl _ rfl _ rfl _ rfl _ rfl _ rfl _ rfl _ rfl _ rfl _ rfl _ rfl _ rfl _ rfl _ rfl _ rfl _ rfl _ rfl _ rfl _ rfl _ rfl _ rfl _ rfl _ rfl _ rfl _ rfl _ rfl _ rfl _ rfl _ rfl _ rfl

theorem treeDB2_h (dt : Nat → (Nat → Int) → Int → ByteArray) (ds dp : Nat → (Nat → Int) → Int → Int) (dl : Nat → (Nat → Int) → Int → List Wh) (dq : Nat → (Nat → Int) → Int → Int) (pk : Nat → (Nat → Int) → Int → Int → Int) (yr : ByteArray → Bool) (tr : ByteArray → List Wh) (ok : Int → Int → Int → Bool → List Wh → Bool) (el : Int → Int → Int → Bool → List Wh → List Wh) (m : Nat) (b : Nat → Int) (u1 : _) (hu1 : (itB (rowB b)) = u1) (u4 : _) (hu4 : (1 : Int) = u4) (u7 : _) (hu7 : (decide ((0 : Nat) < m)) = u7) (u14 : _) (hu14 : (dp m u1 u4) = u14) (u16 : _) (hu16 : (okB m (rowB b)) = u16) (u17 : _) (hu17 : (2 : Int) = u17) (u18 : _) (hu18 : (0 : Int) = u18) (u24 : _) (hu24 : (decide (m ≤ m)) = u24) (u25 : _) (hu25 : (1073741824 : Int) = u25) (u29 : _) (hu29 : (2 : Nat) = u29) (u30 : _) (hu30 : (dl m u1 (dp m u1 u14 + u4 + u4 + u4)) = u30) (u31 : _) (hu31 : (67108864 : Int) = u31) (u34 : _) (hu34 : (dp m u1 u14 + u4) = u34) (u35 : _) (hu35 : 75 = u35) (u37 : _) (hu37 : (1 : Nat) = u37) (u38 : _) (hu38 : (pk m u1 (dp m u1 u14 + u4 + u4) (24 : Int)) = u38) (u0 : _) (hu0 : (Int.toNat ((2000 : Int) - u18)) = u0) (u6 : _) (hu6 : (AB.row true u29 u29 (fun q ↦ [Value.string (bif Nat.blt q u37 then dt m u1 u4 else dt m u1 u14), Value.int .u32 (bif Nat.blt q u37 then ds m u1 u4 else ds m u1 u14)]) (27 : Nat)) = u6) (u8 : _) (hu8 : (decide (Int.toNat ((2000 : Int) - u18) ≤ m)) = u8) (u11 : _) (hu11 : (dp u0 u1 u4) = u11) (u15 : _) (hu15 : (AB.row false m u37 (rowB b) 5) = u15) (u20 : _) (hu20 : [u16, u24, decide (u18 ≤ dp m u1 u14 + u4 + u4 + u4), decide (dp m u1 u14 + u4 + u4 + u4 ≤ u31), u7, u7] = u20) (u21 : _) (hu21 : (bif u17 == (3 : Int) then u17 else pk m u1 u34 u17) = u21) (u22 : _) (hu22 : [u16, u8, decide (u18 ≤ dp u0 u1 u11 + u4 + u4 + u4), decide (dp u0 u1 u11 + u4 + u4 + u4 ≤ u31), u7, u7] = u22) (u23 : _) (hu23 : (AV.own u37 u29) = u23) (u26 : _) (hu26 : (dl u0 u1 (dp u0 u1 u11 + u4 + u4 + u4)) = u26) (u33 : _) (hu33 : (dp u0 u1 u11 + u4) = u33) (u36 : _) (hu36 : (pk u0 u1 (dp u0 u1 u11 + u4 + u4) (24 : Int)) = u36) (u3 : _) (hu3 : (bif Nat.blt (Int.toNat u21) u37 then dt m u1 u4 else dt m u1 u14) = u3) (u5 : _) (hu5 : (AB.row true u29 u29 (fun q ↦ [Value.string (bif Nat.blt q u37 then dt u0 u1 u4 else dt u0 u1 u11), Value.int .u32 (bif Nat.blt q u37 then ds u0 u1 u4 else ds u0 u1 u11)]) (27 : Nat)) = u5) (u9 : _) (hu9 : (Res.out .ret [AV.tup [u23, AV.own u29 (List.length u26)]] [u15, u5, AB.row true (List.length u26) (9 : Nat) (row9 (wfun u26)) u35]) = u9) (u10 : _) (hu10 : (Res.out .ret [AV.tup [u23, AV.own u29 (List.length u30)]] [u15, u6, AB.row true (List.length u30) (9 : Nat) (row9 (wfun u30)) u35]) = u10) (u19 : _) (hu19 : (bif u17 == (3 : Int) then u17 else pk u0 u1 u33 u17) = u19) (u28 : _) (hu28 : (List.length (tr u3)) = u28) (u2 : _) (hu2 : (bif Nat.blt (Int.toNat u19) u37 then dt u0 u1 u4 else dt u0 u1 u11) = u2) (u12 : _) (hu12 : (el u4 u38 u18 false (listW (itW (row9 (wfun (tr u3)))) u28)) = u12) (u27 : _) (hu27 : (List.length (tr u2)) = u27) (u13 : _) (hu13 : (el u4 u36 u18 false (listW (itW (row9 (wfun (tr u2)))) u27)) = u13) : execF Tryz.prog (gmDB dt ds dp dl dq pk yr tr ok el 2) noLam 100 Tryz.f33 [.sl 0 1 0 0 m none] [.row false m 1 (rowB b) 5] (packK 1)
    = bif decide ((m : Int) > (2000 : Int)) then needs [decide ((2000 : Int) ≤ (m : Int)), decide ((m : Int) ≤ (m : Int)), u16, u8, decide (pk u0 u1 u18 (3 : Int) = u17), u7, u16, u8, u7, u7, u16, u8, decide (u18 ≤ dp u0 u1 u4), decide (dp u0 u1 u4 ≤ u31), u7, u7, u16, u8, decide (u18 ≤ dp u0 u1 u11), decide (dp u0 u1 u11 ≤ u25), u7] (bif pk u0 u1 (dp u0 u1 u11) u17 == u18 then needs [u16, u8, decide (u18 ≤ dp u0 u1 u11 + u4), decide (dp u0 u1 u11 + u4 ≤ u25), u7, decide (u18 ≤ bif u17 == (3 : Int) then u17 else pk u0 u1 u33 u17), decide (u19 < u17), decide (Int.toNat u19 < u29), u16, u8, decide (u18 ≤ dp u0 u1 u11 + u4 + u4), decide (dp u0 u1 u11 + u4 + u4 ≤ u25), u7, Nat.ble u27 u27, allW u27 (row9 (wfun (tr u2))), decide (List.length (tr u2) ≤ (274877906944 : Nat))] (bif yr u2 then bif ok u4 u36 u18 false (listW (itW (row9 (wfun (tr u2)))) u27) then Res.out .ret [AV.tup [u23, AV.own u29 (List.length u13)]] [u15, u5, AB.row true (List.length u13) (9 : Nat) (row9 (wfun u13)) u35] else needs u22 u9 else needs u22 u9) else needs [u16, u8, decide (u18 ≤ dp u0 u1 u11 + u4), decide (dp u0 u1 u11 + u4 ≤ u31), u7, u7] (Res.out .ret [AV.tup [u23, AV.own u29 (List.length (dl u0 u1 u33))]] [u15, u5, AB.row true (List.length (dl u0 u1 u33)) (9 : Nat) (row9 (wfun (dl u0 u1 u33))) u35])) else needs [u16, u24, decide (pk m u1 u18 (3 : Int) = u17), u7, u16, u24, u7, u7, u16, u24, decide (u18 ≤ dp m u1 u4), decide (dp m u1 u4 ≤ u31), u7, u7, u16, u24, decide (u18 ≤ dp m u1 u14), decide (dp m u1 u14 ≤ u25), u7] (bif pk m u1 (dp m u1 u14) u17 == u18 then needs [u16, u24, decide (u18 ≤ dp m u1 u14 + u4), decide (dp m u1 u14 + u4 ≤ u25), u7, decide (u18 ≤ bif u17 == (3 : Int) then u17 else pk m u1 u34 u17), decide (u21 < u17), decide (Int.toNat u21 < u29), u16, u24, decide (u18 ≤ dp m u1 u14 + u4 + u4), decide (dp m u1 u14 + u4 + u4 ≤ u25), u7, Nat.ble u28 u28, allW u28 (row9 (wfun (tr u3))), decide (List.length (tr u3) ≤ (274877906944 : Nat))] (bif yr u3 then bif ok u4 u38 u18 false (listW (itW (row9 (wfun (tr u3)))) u28) then Res.out .ret [AV.tup [u23, AV.own u29 (List.length u12)]] [u15, u6, AB.row true (List.length u12) (9 : Nat) (row9 (wfun u12)) u35] else needs u20 u10 else needs u20 u10) else needs [u16, u24, decide (u18 ≤ dp m u1 u14 + u4), decide (dp m u1 u14 + u4 ≤ u31), u7, u7] (Res.out .ret [AV.tup [u23, AV.own u29 (List.length (dl m u1 u34))]] [u15, u6, AB.row true (List.length (dl m u1 u34)) (9 : Nat) (row9 (wfun (dl m u1 u34))) u35])) := by
  subst hu13 hu27 hu12 hu2 hu28 hu19 hu10 hu9 hu5 hu3 hu36 hu33 hu26 hu23 hu22 hu21 hu20 hu15 hu11 hu8 hu6 hu0 hu38 hu37 hu35 hu34 hu31 hu30 hu29 hu25 hu24 hu18 hu17 hu16 hu14 hu7 hu4 hu1
  kernel_rfl
theorem treeDB2 (dt : Nat → (Nat → Int) → Int → ByteArray) (ds dp : Nat → (Nat → Int) → Int → Int) (dl : Nat → (Nat → Int) → Int → List Wh) (dq : Nat → (Nat → Int) → Int → Int) (pk : Nat → (Nat → Int) → Int → Int → Int) (yr : ByteArray → Bool) (tr : ByteArray → List Wh) (ok : Int → Int → Int → Bool → List Wh → Bool) (el : Int → Int → Int → Bool → List Wh → List Wh) (m : Nat) (b : Nat → Int) : type_of% (treeDB2_h dt ds dp dl dq pk yr tr ok el m b _ rfl _ rfl _ rfl _ rfl _ rfl _ rfl _ rfl _ rfl _ rfl _ rfl _ rfl _ rfl _ rfl _ rfl _ rfl _ rfl _ rfl _ rfl _ rfl _ rfl _ rfl _ rfl _ rfl _ rfl _ rfl _ rfl _ rfl _ rfl _ rfl _ rfl _ rfl _ rfl _ rfl _ rfl _ rfl _ rfl _ rfl _ rfl) := treeDB2_h dt ds dp dl dq pk yr tr ok el m b _ rfl _ rfl _ rfl _ rfl _ rfl _ rfl _ rfl _ rfl _ rfl _ rfl _ rfl _ rfl _ rfl _ rfl _ rfl _ rfl _ rfl _ rfl _ rfl _ rfl _ rfl _ rfl _ rfl _ rfl _ rfl _ rfl _ rfl _ rfl _ rfl _ rfl _ rfl _ rfl _ rfl _ rfl _ rfl _ rfl _ rfl _ rfl

theorem treeDBn_h (q : Option Addr) (c : Nat) (g : Nat → List Value) (u0 : _) (hu0 : (Value.int .i64 0) = u0) : execF Tryz.prog gmPk0 noLam 100 Tryz.f33 [.v (.slice q 0 c)] [.row false 0 1 g 5] (packK 1)
    = Res.out .ret [AV.tup [AV.own 1 (0 : Nat), AV.own 2 (1 : Nat)]] [AB.row false (0 : Nat) (1 : Nat) g 5, AB.row true (0 : Nat) (2 : Nat) (fun _ ↦ []) (27 : Nat), AB.row true (1 : Nat) (9 : Nat) (fun _ ↦ [Value.int .i64 1001, u0, u0, u0, u0, u0, u0, u0, u0]) (75 : Nat)] := by
  subst hu0
  kernel_rfl
theorem treeDBn (q : Option Addr) (c : Nat) (g : Nat → List Value) : type_of% (treeDBn_h q c g _ rfl) := treeDBn_h q c g _ rfl

end Go.Proofs.YtcadinbahmliiaaGreatDoor

/- The laws' helpers on lists of wheels: trees. Conditions: a list of wheels. -/
namespace Go.Proofs.YtcadinbahmliiaaGreatDoor
open Go.RowKit
set_option maxRecDepth 100000

end Go.Proofs.YtcadinbahmliiaaGreatDoor

/- The laws' helpers on lists of wheels. Conditions: those that the words name. -/
namespace Go.Proofs.YtcadinbahmliiaaGreatDoor
open Go.RowKit
set_option maxRecDepth 100000

end Go.Proofs.YtcadinbahmliiaaGreatDoor

/- The laws' helpers on lists of entries: trees. Conditions: entries. -/
namespace Go.Proofs.YtcadinbahmliiaaGreatDoor
open Go.RowKit
set_option maxRecDepth 100000

end Go.Proofs.YtcadinbahmliiaaGreatDoor

/- The laws' helpers on lists of entries: their words. Conditions: those that the words name. -/
namespace Go.Proofs.YtcadinbahmliiaaGreatDoor
open Go.RowKit
set_option maxRecDepth 100000

end Go.Proofs.YtcadinbahmliiaaGreatDoor

/- The laws' helpers on lists of wheels: their table. Conditions: a list of wheels. -/
namespace Go.Proofs.YtcadinbahmliiaaGreatDoor
open Go.RowKit

end Go.Proofs.YtcadinbahmliiaaGreatDoor

/- The laws on found entries: trees. Conditions: bytes; entries and a list of wheels. -/
namespace Go.Proofs.YtcadinbahmliiaaGreatDoor
open Go.RowKit
set_option maxRecDepth 100000

def frDB' (k : Nat) (ft : Nat → ByteArray) (fc : Nat → Int) (D : List Wh) : FR := { val := .tup [.own 0 k, .own 1 D.length], new := [.row true k 2 (rowE ft fc) 27, .row true D.length 9 (row9 (wfun D)) 75] }
def gmLFi (dk : Nat → (Nat → Int) → Nat) (dt : Nat → (Nat → Int) → Nat → ByteArray) (dc : Nat → (Nat → Int) → Nat → Int) (dl : Nat → (Nat → Int) → List Wh) (hit : (Nat → ByteArray) → (Nat → Int) → List Wh → Nat → Bool) (er : ByteArray → Int → Bool) (yr : ByteArray → Bool) (tr : ByteArray → List Wh) (an : List Wh → List Wh → Int) (ak : List Wh → List Wh → Bool) : Gam :=
  ext (ext (ext (ext (ext (ext g0 33 (specR md_co (FdrO fun m b => frDB' (dk m b) (dt m b) (dc m b) (dl m b)))) 31 (specQ [] (FbfO hit))) 29 (specQ [] (FbfO hit))) 18 (specU [.val] (UreO yr tr))) 34 (specR md_eqWS (FakV an ak))) 13 (specR [.val] (FerO er))
theorem lawFi_h (dk : Nat → (Nat → Int) → Nat) (dt : Nat → (Nat → Int) → Nat → ByteArray) (dc : Nat → (Nat → Int) → Nat → Int) (dl : Nat → (Nat → Int) → List Wh) (hit : (Nat → ByteArray) → (Nat → Int) → List Wh → Nat → Bool) (er : ByteArray → Int → Bool) (yr : ByteArray → Bool) (tr : ByteArray → List Wh) (an : List Wh → List Wh → Int) (ak : List Wh → List Wh → Bool) (m : Nat) (b : Nat → Int) (u0 : _) (hu0 : (itB fun q ↦ rowB b ((0 : Nat) + q)) = u0) (u3 : _) (hu3 : [AB.row false m 1 (rowB b) 5] = u3) (u4 : _) (hu4 : (List.length (dl m u0)) = u4) (u5 : _) (hu5 : (dk m u0) = u5) (u7 : _) (hu7 : (row9 (wfun (dl m u0))) = u7) (u8 : _) (hu8 : (rowE (dt m u0) (dc m u0)) = u8) (u9 : _) (hu9 : (274877906944 : Nat) = u9) (u12 : _) (hu12 : [AV.v (.bool false)] = u12) (u14 : _) (hu14 : (↑u5 : Int) = u14) (u1 : _) (hu1 : (hit (itT u8) (itC u8) (listW (itW u7) u4)) = u1) (u2 : _) (hu2 : (dt m u0 (Int.toNat (fstAt u1 u5))) = u2) (u6 : _) (hu6 : (decide (List.length (dl m u0) ≤ u9)) = u6) (u10 : _) (hu10 : (decide ((0 : Int) ≤ fstAt u1 u5)) = u10) (u11 : _) (hu11 : [AV.v (.bool (fstAt u1 u5 == fstAt u1 u5))] = u11) (u13 : _) (hu13 : (fstAt u1 u5 - (0 : Int)) = u13) (u15 : _) (hu15 : (decide (Int.toNat (fstAt u1 u5) < dk m u0)) = u15) : execF Tryz.prog (gmLFi dk dt dc dl hit er yr tr an ak) noLam 100 Tryz.f9 [.sl 0 1 0 0 m none] [.row false m 1 (rowB b) 5] (packK 1)
    = bif decide ((m : Int) > (1048576 : Int)) then Res.out .ret [AV.v (.bool true)] u3 else needs [Nat.ble ((0 : Nat) + m) m, okB m fun q ↦ rowB b ((0 : Nat) + q), decide (m ≤ (2097152 : Nat)), Nat.ble u5 u5, Nat.beq u4 u4, allE u5 u8, allW u4 u7, decide (dk m u0 ≤ u9), u6, Nat.ble u5 u5, Nat.beq u4 u4, allE u5 u8, allW u4 u7, decide (dk m u0 ≤ u9), u6] (bif fstAt u1 u5 != fstAt u1 u5 then Res.out .ret u11 u3 else bif decide (fstAt u1 u5 < (0 : Int)) then Res.out .ret u11 u3 else needs [u10, decide (fstAt u1 u5 < u14), u15, Nat.ble ((0 : Nat) + List.length (tr u2)) (List.length (tr u2)), Nat.ble u4 u4, allW (List.length (tr u2)) fun q ↦ row9 (wfun (tr u2)) ((0 : Nat) + q), allW u4 u7, decide (List.length (tr u2) ≤ u9), u6] (bif yr u2 then bif ak (listW (itW fun q ↦ row9 (wfun (tr u2)) ((0 : Nat) + q)) (List.length (tr u2))) (listW (itW u7) u4) then needs [u10, decide (fstAt u1 u5 < u14), u15] (bif er u2 (dc m u0 (Int.toNat (fstAt u1 u5))) then needs [u10, decide (fstAt u1 u5 ≤ u14), decide (u14 ≤ u14), Nat.ble u5 u5, Nat.ble (Int.toNat u13) u5, Nat.beq u4 u4, allE u5 u8, allW u4 u7, decide (Int.toNat u13 ≤ u9), u6] (Res.out .ret [AV.v (.bool (fstAt u1 (Int.toNat u13) == (-1 : Int)))] u3) else Res.out .ret u12 u3) else Res.out .ret u12 u3 else Res.out .ret u12 u3)) := by
  subst hu15 hu13 hu11 hu10 hu6 hu2 hu1 hu14 hu12 hu9 hu8 hu7 hu5 hu4 hu3 hu0
  kernel_rfl
theorem lawFi (dk : Nat → (Nat → Int) → Nat) (dt : Nat → (Nat → Int) → Nat → ByteArray) (dc : Nat → (Nat → Int) → Nat → Int) (dl : Nat → (Nat → Int) → List Wh) (hit : (Nat → ByteArray) → (Nat → Int) → List Wh → Nat → Bool) (er : ByteArray → Int → Bool) (yr : ByteArray → Bool) (tr : ByteArray → List Wh) (an : List Wh → List Wh → Int) (ak : List Wh → List Wh → Bool) (m : Nat) (b : Nat → Int) : type_of% (lawFi_h dk dt dc dl hit er yr tr an ak m b _ rfl _ rfl _ rfl _ rfl _ rfl _ rfl _ rfl _ rfl _ rfl _ rfl _ rfl _ rfl _ rfl _ rfl _ rfl _ rfl) := lawFi_h dk dt dc dl hit er yr tr an ak m b _ rfl _ rfl _ rfl _ rfl _ rfl _ rfl _ rfl _ rfl _ rfl _ rfl _ rfl _ rfl _ rfl _ rfl _ rfl _ rfl

end Go.Proofs.YtcadinbahmliiaaGreatDoor

/- What is drawn: entries and a design. The laws FnFind, FnExactBookFind return true. Conditions: bytes; entries and a list of wheels. -/
namespace Go.Proofs.YtcadinbahmliiaaGreatDoor
open Go.RowKit
set_option maxRecDepth 100000

noncomputable def dbD (l : Nat) (b : Nat → Int) (p : Int) (t : ByteArray) : List Wh := bif pkV l b p 2 == 0 then (bif yRI t then (bif eachOk 1 (pkV l b (p + 1 + 1) 24) 0 false (tRI t) then eachL 1 (pkV l b (p + 1 + 1) 24) 0 false (tRI t) else ehL l b (p + 1 + 1 + 1)) else ehL l b (p + 1 + 1 + 1)) else ehL l b (p + 1)
noncomputable def dbX (l : Nat) (b : Nat → Int) : ByteArray := bif Nat.blt (Int.toNat (pkV l b (eyP l b (eyP l b 1) + 1) 2)) 1 then eyT l b 1 else eyT l b (eyP l b 1)
noncomputable def dbW (l : Nat) (b : Nat → Int) : List Wh := if pkV l b 0 3 = 0 then ehL l b 1 else if pkV l b 0 3 = 1 then dbD l b (eyP l b 1) (eyT l b 1) else dbD l b (eyP l b (eyP l b 1)) (dbX l b)
noncomputable def dbN (l : Nat) (b : Nat → Int) : Nat := (pkV l b 0 3).toNat
noncomputable def dbT (l : Nat) (b : Nat → Int) (j : Nat) : ByteArray := bif Nat.blt j 1 then eyT l b 1 else eyT l b (eyP l b 1)
noncomputable def dbS (l : Nat) (b : Nat → Int) (j : Nat) : Int := bif Nat.blt j 1 then eyS l b 1 else eyS l b (eyP l b 1)
noncomputable def bfN (m : Nat) (b : Nat → Int) : Nat := if m = 0 then 0 else dbN (lnB m) b
noncomputable def bfT (m : Nat) (b : Nat → Int) : Nat → ByteArray := dbT (lnB m) b
noncomputable def bfC (m : Nat) (b : Nat → Int) : Nat → Int := dbS (lnB m) b
noncomputable def bfL (m : Nat) (b : Nat → Int) : List Wh := if m = 0 then noneL else dbW (lnB m) b
theorem dbD_len (l : Nat) (b : Nat → Int) (p : Int) (t : ByteArray) : (dbD l b p t).length ≤ 12 := by
  unfold dbD
  cases pkV l b p 2 == 0 with
  | false => exact ehL_len _ _ _
  | true =>
    cases yRI t with
    | false => exact ehL_len _ _ _
    | true =>
      simp only [cond_true]
      cases eachOk 1 (pkV l b (p + 1 + 1) 24) 0 false (tRI t) with
      | false => exact ehL_len _ _ _
      | true => exact eachL_len _ _ _ _ _
theorem bfL_len (m : Nat) (b : Nat → Int) : (bfL m b).length ≤ 12 := by
  unfold bfL dbW
  split
  · show 1 ≤ 12; omega
  · split
    · exact ehL_len _ _ _
    · split
      · exact dbD_len _ _ _ _
      · exact dbD_len _ _ _ _
theorem bfN_le (m : Nat) (b : Nat → Int) : bfN m b ≤ 2 := by
  unfold bfN dbN
  have := pkV_lt (lnB m) b 0 (n := 3) (by omega)
  split <;> omega
theorem dbOne (x z : AB) (l : Nat) (b : Nat → Int) : Hsim [x, .row true 1 2 (fun _ => [.string (eyT l b 1), .int .u32 (eyS l b 1)]) 27, z] [x, .row true 1 2 (rowE (dbT l b) (dbS l b)) 27, z] := .cons (ABeq.refl _) (.cons (ABeq.row fun j hj => by
  have : j = 0 := by omega
  subst this; rfl) (Hsim.refl _))
theorem gmDB_ok (q : Int) : GamOk Tryz.prog (gmDB eyT eyS eyP ehL ehP pkV yRI tRI eachOk eachL q) := by
  have e1 : yRS = yRI := funext fun s => (re_rs s).1
  have e2 : tRS = tRI := funext fun s => (re_rs s).2
  have := ok_reS
  rw [e1, e2] at this
  exact ext_ok (ext_ok (ext_ok (ext_ok (ext_ok g0_ok (ok_pickJ _ _)) ok_entry) ok_design2) this) ok_each
theorem ok_drBf : SpecOk Tryz.prog 33 (specR md_co (FdrO fun m b => frDB' (bfN m b) (bfT m b) (bfC m b) (bfL m b))) := by
  refine draw_ok Tryz.func33 rfl (fun m b h0 hm hb => ⟨_, gmDB_ok (pkV (lnB m) b 0 3), ?_⟩) fun q c g b => ⟨_, gmPk0_ok, ?_⟩
  · have e : bfN m b = dbN (lnB m) b := by unfold bfN; rw [if_neg (by omega)]
    have e2 : bfL m b = dbW (lnB m) b := by unfold bfL; rw [if_neg (by omega)]
    have q0 := pkV_nn (lnB m) b 0 3
    have q1 := pkV_lt (lnB m) b 0 (n := 3) (by omega)
    have p1 := eyP_in (lnB m) b 1
    have p2 := eyP_in (lnB m) b (eyP (lnB m) b 1)
    have pn := pkV_nn (lnB m) b (eyP (lnB m) b 1 + 1) 1
    have pl := pkV_lt (lnB m) b (eyP (lnB m) b 1 + 1) (n := 1) (by omega)
    have pn2 := pkV_nn (lnB m) b (eyP (lnB m) b (eyP (lnB m) b 1) + 1) 2
    have pl2 := pkV_lt (lnB m) b (eyP (lnB m) b (eyP (lnB m) b 1) + 1) (n := 2) (by omega)
    have hl := fun t => tRI_len t
    rw [e, e2, bfT, bfC]
    generalize hq : pkV (lnB m) b 0 3 = q at q0 q1 ⊢
    rcases (by omega : q = 0 ∨ q = 1 ∨ q = 2) with rfl | rfl | rfl
    · have w : dbW (lnB m) b = ehL (lnB m) b 1 := by unfold dbW; rw [if_pos hq]
      have k : dbN (lnB m) b = 0 := by unfold dbN; rw [hq]; rfl
      rw [w, k]
      rw [treeDB0, itB_row]
      refine good_ln (fun e1 hc => ?_) fun e1 hc => ?_
      · rw [e1] at hq ⊢
        rw [show Int.toNat ((2000 : Int) - 0) = 2000 from rfl]
        exact ⟨by simp only [ob_cons, ob_nil, and_true, decide_eq_true_eq, hb, true_and]; omega, good_out ⟨_, rfl, rfl, .cons (ABeq.refl _) (.cons (ABeq.row fun j hj => absurd hj (Nat.not_lt_zero j)) (Hsim.refl _))⟩⟩
      · rw [e1] at hq ⊢
        exact ⟨by simp only [ob_cons, ob_nil, and_true, decide_eq_true_eq, hb, true_and]; omega, good_out ⟨_, rfl, rfl, .cons (ABeq.refl _) (.cons (ABeq.row fun j hj => absurd hj (Nat.not_lt_zero j)) (Hsim.refl _))⟩⟩
    · have w : dbW (lnB m) b = dbD (lnB m) b (eyP (lnB m) b 1) (eyT (lnB m) b 1) := by unfold dbW; rw [if_neg (by omega), if_pos hq]
      have k : dbN (lnB m) b = 1 := by unfold dbN; rw [hq]; rfl
      rw [w, k]
      have hl := tRI_len (eyT (lnB m) b 1)
      rw [treeDB1, itB_row]
      refine good_ln (fun e1 hc => ?_) fun e1 hc => ?_
      all_goals
        rw [e1] at hq p1 p2 pn pl hl ⊢
        try rw [show Int.toNat ((2000 : Int) - 0) = 2000 from rfl]
        rw [listW_me]
        simp only [show ∀ x : Int, (bif (1 : Int) == (3 : Int) then (1 : Int) else x) = x from fun _ => rfl]
        refine ⟨by simp only [ob_cons, ob_nil, and_true, decide_eq_true_eq, hb, true_and]; omega, ?_⟩
        refine good_cond (fun c2 => good_needs (by simp only [ob_cons, ob_nil, and_true, decide_eq_true_eq, Nat.ble_eq, allW_row, hb, true_and]; omega) (good_cond (fun c3 => good_cond (fun c4 => good_out ⟨_, rfl, ?_, ?_⟩) fun c4 => good_needs (by simp only [ob_cons, ob_nil, and_true, decide_eq_true_eq, hb, true_and]; omega) (good_out ⟨_, rfl, ?_, ?_⟩)) fun c3 => good_needs (by simp only [ob_cons, ob_nil, and_true, decide_eq_true_eq, hb, true_and]; omega) (good_out ⟨_, rfl, ?_, ?_⟩))) fun c2 => good_needs (by simp only [ob_cons, ob_nil, and_true, decide_eq_true_eq, hb, true_and]; omega) (good_out ⟨_, rfl, ?_, ?_⟩)
        · rw [dbD, c2, c3, c4]; rfl
        · rw [dbD, c2, c3, c4]; exact dbOne _ _ _ _
        · rw [dbD, c2, c3, c4]; rfl
        · rw [dbD, c2, c3, c4]; exact dbOne _ _ _ _
        · rw [dbD, c2, c3]; rfl
        · rw [dbD, c2, c3]; exact dbOne _ _ _ _
        · rw [dbD, c2]; rfl
        · rw [dbD, c2]; exact dbOne _ _ _ _
    · have w : dbW (lnB m) b = dbD (lnB m) b (eyP (lnB m) b (eyP (lnB m) b 1)) (dbX (lnB m) b) := by unfold dbW; rw [if_neg (by omega), if_neg (by omega)]
      have k : dbN (lnB m) b = 2 := by unfold dbN; rw [hq]; rfl
      rw [w, k]
      have hl := tRI_len (dbX (lnB m) b)
      rw [treeDB2, itB_row]
      refine good_ln (fun e1 hc => ?_) fun e1 hc => ?_
      all_goals
        rw [e1] at hq p1 p2 pn2 pl2 hl ⊢
        try rw [show Int.toNat ((2000 : Int) - 0) = 2000 from rfl]
        rw [listW_me]
        simp only [show ∀ x : Int, (bif (2 : Int) == (3 : Int) then (2 : Int) else x) = x from fun _ => rfl]
        rw [dbX] at hl ⊢
        refine ⟨by simp only [ob_cons, ob_nil, and_true, decide_eq_true_eq, hb, true_and]; omega, ?_⟩
        refine good_cond (fun c2 => good_needs (by simp only [ob_cons, ob_nil, and_true, decide_eq_true_eq, Nat.ble_eq, allW_row, hb, true_and]; omega) (good_cond (fun c3 => good_cond (fun c4 => good_out ⟨_, rfl, ?_, ?_⟩) fun c4 => good_needs (by simp only [ob_cons, ob_nil, and_true, decide_eq_true_eq, hb, true_and]; omega) (good_out ⟨_, rfl, ?_, ?_⟩)) fun c3 => good_needs (by simp only [ob_cons, ob_nil, and_true, decide_eq_true_eq, hb, true_and]; omega) (good_out ⟨_, rfl, ?_, ?_⟩))) fun c2 => good_needs (by simp only [ob_cons, ob_nil, and_true, decide_eq_true_eq, hb, true_and]; omega) (good_out ⟨_, rfl, ?_, ?_⟩)
        · rw [dbD, c2, c3, c4]; rfl
        · rw [dbD, c2, c3, c4]; exact Hsim.refl _
        · rw [dbD, c2, c3, c4]; rfl
        · rw [dbD, c2, c3, c4]; exact Hsim.refl _
        · rw [dbD, c2, c3]; rfl
        · rw [dbD, c2, c3]; exact Hsim.refl _
        · rw [dbD, c2]; rfl
        · rw [dbD, c2]; exact Hsim.refl _
  · rw [treeDBn]
    exact good_out ⟨_, rfl, rfl, .cons (ABeq.refl _) (.cons (ABeq.row fun j hj => absurd hj (Nat.not_lt_zero j)) (.cons (ABeq.row fun j hj => none_row j hj) .nil))⟩

theorem gmLFi_ok : GamOk Tryz.prog (gmLFi bfN bfT bfC bfL hitB erB yRI tRI aN aY) := ext_ok (ext_ok (ext_ok (ext_ok (ext_ok (ext_ok g0_ok ok_drBf) ok_bfI) ok_bfS) ok_Ure) ok_akI) ok_erI
theorem yes_fin (m : Nat) (b : Nat → Int) (_ : m ≤ 9223372036854775807) (hb : okB m (rowB b) = true) : ∃ Γ n Λ, GamOk Tryz.prog Γ ∧ (∀ cc, (Tryz.f9).body = some cc → LamOk Tryz.prog 1 Λ cc) ∧ GoodQ (execF Tryz.prog Γ Λ n Tryz.f9 [.sl 0 1 0 0 m none] [.row false m 1 (rowB b) 5] (packK 1)) SaysYes := by
  refine ⟨_, 100, noLam, gmLFi_ok, noLam' _, ?_⟩
  rw [lawFi]
  refine good_cond (fun _ => good_out rfl) fun c => ?_
  have c := of_decide_eq_false c
  simp only [Nat.zero_add, itB_row, itT_row, itC_row, listW_me]
  have hl := bfL_len m b
  have hn := bfN_le m b
  generalize bfL m b = D at hl ⊢
  generalize bfN m b = k at hn ⊢
  generalize bfT m b = ft
  generalize bfC m b = fc
  have b21 : decide (m ≤ 2097152) = true := decide_eq_true (by omega)
  have k38 : decide (k ≤ 274877906944) = true := decide_eq_true (by omega)
  simp only [hb, b21, k38, b38 hl, ble_me, beq_me, allE_row, allW_row, needs_t, needs_nil, bne_self_eq_false, cond_false]
  refine good_cond (fun _ => good_out (by rw [beq_self_eq_true]; rfl)) fun h1 => ?_
  have h1 := of_decide_eq_false h1
  rcases fstAt_cases (hitB ft fc D) k with ⟨_, h⟩ | ⟨i, hi, hno, hit, _, h⟩
  · rw [h] at h1; omega
  · rw [h]
    have e0 : (((i : Nat) : Int) - 0).toNat = i := by omega
    rw [e0, Int.toNat_natCast]
    have hit' := hit
    rw [hitB, hitE, Bool.and_eq_true] at hit'
    obtain ⟨r1, _, _, _⟩ := right_made hit'.1
    have ht := tRI_len (ft i)
    refine good_needs (by simp only [ob_cons, ob_nil, and_true, decide_eq_true_eq, true_and]; omega) ?_
    rw [r1, hit'.2, hit'.1]
    simp only [cond_true]
    refine good_needs (by simp only [ob_cons, ob_nil, and_true, decide_eq_true_eq]; omega) (good_needs (by simp only [ob_cons, ob_nil, and_true, decide_eq_true_eq, Nat.ble_eq, true_and]; omega) (good_out ?_))
    rw [fstAt_no hno]
    rfl

end Go.Proofs.YtcadinbahmliiaaGreatDoor

/- The frame of a law over an entry. No conditions. -/
namespace Go.Proofs.YtcadinbahmliiaaGreatDoor
open Go.ChangeShapes Go.WideShapes Go.ChangeAt Go.RowKit Go.Deep
set_option maxRecDepth 100000

section
variable {H : Type} {enc : TypeId × Value → H} {W : World}
theorem entry_elem (n : Nat) (cs : List Value) (x : DataW H × List MemPlace) (hl : cs.length = 2) (h : DataW.trod enc Tryz.prog W 0 (fun _ => true) true n 24 cs = some x) :
    ∃ (s : ByteArray) (c : Int), s.size ≤ maxLen ∧ cs = [.string s, .int .u32 c] := by
  obtain ⟨xs, n', _, _, _, hlen, hg⟩ := DataW.trod_struct Tryz.underlying24 h
  have h0 : DataW.trod enc Tryz.prog W 0 (fun _ => true) true n' 9 ((cs.drop 0).take (Tryz.prog.cellsOf 9)) = xs[0]? := hg 0 _ rfl
  have h1 : DataW.trod enc Tryz.prog W 0 (fun _ => true) true n' 22 ((cs.drop 1).take (Tryz.prog.cellsOf 22)) = xs[1]? := hg 1 _ rfl
  have c0 : Tryz.prog.cellsOf 9 = 1 := by kernel_rfl
  have c1 : Tryz.prog.cellsOf 22 = 1 := by kernel_rfl
  have hx0 : xs[0]? = some (xs[0]'(by rw [hlen]; decide)) := List.getElem?_eq_getElem _
  have hx1 : xs[1]? = some (xs[1]'(by rw [hlen]; decide)) := List.getElem?_eq_getElem _
  rw [hx0, c0] at h0
  rw [hx1, c1] at h1
  obtain ⟨s, e0, _, hs⟩ := DataW.trod_string Tryz.underlying9 h0
  obtain ⟨k, e1, _, _⟩ := DataW.trod_int Tryz.underlying22 h1
  match cs, hl with
  | [a, b], _ =>
    simp at e0 e1
    subst e0 e1
    exact ⟨s, k, hs, rfl⟩
theorem entry_val {b0 : Nat} {v : Value} {d : DataW H} {p : List MemPlace} (hv : Value.okWide Tryz.prog W .any b0 24 v) (h : DataW.Trod enc Tryz.prog W 0 (fun _ => true) true 24 v d p) :
    ∃ (s : ByteArray) (c : Int), s.size ≤ maxLen ∧ v = .agg #[.string s, .int .u32 c] := by
  unfold Value.okWide at hv
  rw [Tryz.underlying24] at hv
  obtain ⟨cs, rfl, hsz, _⟩ := hv
  obtain ⟨n, hn⟩ := h
  have hc : Tryz.prog.cellsOf 24 = 2 := by kernel_rfl
  obtain ⟨s, c, hs, e⟩ := entry_elem n cs.toList _ (by rw [Array.length_toList, hsz, hc]) (by simpa [Value.cells] using hn)
  refine ⟨s, c, hs, ?_⟩
  congr 1
  exact Array.ext' e
end

theorem contractE {f : FuncId} {fn : Func} {spec : ChangeSpec} (hf : Tryz.prog.funcs[f]? = some fn) (hp : fn.params = #[24]) (hr : fn.resultTypes = #[4]) (hvars : spec.vars = []) (hspec : ∀ (H : Type) (d : DataW H), spec.fn H [d] = { results := [.lit (.bool true)], args := [d] })
    (yes : ∀ (s : ByteArray) (c : Int), s.size ≤ maxLen → ∃ Γ, GamOk Tryz.prog Γ ∧ GoodQ (execF Tryz.prog Γ noLam 100 fn [.v (.agg ⟨[.string s, .int .u32 c]⟩)] [] (packK 0)) SaysYes)
    (H : Type) (enc : TypeId × Value → H) (W : World) (base : Nat) (args : Array Value) (ds gs : List (DataW H)) (before : List MemPlace)
    (hval : ∀ (j : Nat) t v, fn.params[j]? = some t → args[j]? = some v → Value.okWide Tryz.prog W .any base t v)
    (hW : DataW.Whole enc Tryz.prog fn.params.toList spec.vars false W args.toList ds gs before) (htab : TabOk (fun k => W.heap.size ≤ k) W) :
    Calls Tryz.prog f args W fun e W' => ∃ v, e = .returned v ∧ spec.post enc Tryz.prog fn false true false false W args v W' := by
  have hW' := hW
  obtain ⟨p, q, hA0, hV, rfl, hfz, hnd⟩ := hW
  have hA : DataW.TrodAll enc Tryz.prog W 0 (fun _ => true) true fn.params.toList args.toList ds p := hA0
  rw [hp] at hA hval
  rw [hvars] at hV
  obtain ⟨v0, vs0, d0, ds0, p0, q0, hargs, rfl, rfl, h0, r0⟩ := trodAll_cons hA
  obtain ⟨rfl, rfl, rfl⟩ := trodAll_nil r0
  obtain rfl : args = #[v0] := by cases args; simp_all
  obtain ⟨rfl, rfl⟩ := trodVars_none hV
  clear hA0 hA r0
  obtain ⟨s, c, hs, rfl⟩ := entry_val (hval 0 24 v0 rfl rfl) h0
  obtain ⟨Γ, hΓ, hgood⟩ := yes s c hs
  have hRH : RH (fun k => W.heap.size ≤ k) (fun _ => none) (fun b => ([] : List AB).getD b .gone) W := ⟨fun i => trivial, fun i j b b' _ h => by simp [AB.wr] at h, fun i b h => by simp [AB.wr] at h, (fun i b h => by cases h), htab⟩
  have hcall := yes_calls hΓ (n := 100) (vals := [.agg #[.string s, .int .u32 c]]) (w := W) hf (Λ := noLam) (H := []) (fun c _ => noLam_ok _ _ _) hgood (by simp only [VRs, VR, and_true]) hRH (fun i b h => by cases h)
  refine hcall.mono fun e W' ⟨he, hb⟩ => ?_
  subst he
  have hlt : ∀ x ∈ p0, x.block < W.heap.size := fun x hx => by simpa using hW'.lt x (by simpa using hx)
  refine ⟨_, rfl, post_below (pa := p0) (pv := []) hW' ?_ ?_ ?_ (by simp) hb ?_⟩
  · intro b sp hd
    rw [hr]
    simp only [List.append_nil, hspec]
    exact trodAll_cons_mk (shut_bool Tryz.underlying4 _) trodAll_mk0
  · intro sp hsp
    rw [hp]
    simp only [List.append_nil, hspec]
    refine trodAll_mk1 (WideElems.Trod_stays laidOut (by kernel_rfl) (of_decide_eq_true (by kernel_rfl)) h0 (fun x hx => hb.same (hlt x hx)) fun x hx => hsp x (by simpa using hx))
  · intro sp _
    rw [hvars]
    simp only [List.append_nil, hspec]
    rfl
  · exact ok_one hr rfl (okWide_bool_mk Tryz.underlying4 _)

end Go.Proofs.YtcadinbahmliiaaGreatDoor

/- A list of wheels that came in. No conditions. -/
namespace Go.Proofs.YtcadinbahmliiaaGreatDoor
open Go.ChangeShapes Go.WideShapes Go.ChangeAt Go.RowKit Go.Deep
set_option maxRecDepth 100000

section
variable {H : Type} {enc : TypeId × Value → H} {W : World}
theorem cyc_elemL (n : Nat) (cs : List Value) (x : DataW H × List MemPlace) (hl : cs.length = 8) (h : DataW.trod enc Tryz.prog W 0 (fun _ => true) true n 94 cs = some x) :
    ∃ f : Nat → Int, cs = [i64 (f 0), i64 (f 1), i64 (f 2), i64 (f 3), i64 (f 4), i64 (f 5), i64 (f 6), i64 (f 7)] := by
  obtain ⟨xs, n', _, _, _, hlen, hg⟩ := DataW.trod_struct Tryz.underlying94 h
  have h0 : DataW.trod enc Tryz.prog W 0 (fun _ => true) true n' 71 ((cs.drop 0).take (Tryz.prog.cellsOf 71)) = xs[0]? := hg 0 _ rfl
  have hx0 : xs[0]? = some (xs[0]'(by rw [hlen]; decide)) := List.getElem?_eq_getElem _
  rw [hx0] at h0
  obtain ⟨ys, n2, _, _, _, hlen2, hg2⟩ := DataW.trod_array Tryz.underlying71 h0
  have c44 : Tryz.prog.cellsOf 71 = 8 := by kernel_rfl
  have c3 : Tryz.prog.cellsOf 3 = 1 := by kernel_rfl
  simp only [c44, c3, List.drop_zero, Nat.mul_one, List.take_of_length_le (Nat.le_of_eq hl)] at hg2
  have each : ∀ i, i < 8 → ∃ k, (cs.drop i).take 1 = [i64 k] := by
    intro i hi
    have h1 := hg2 i hi
    have hy : ys[i]? = some (ys[i]'(by omega)) := List.getElem?_eq_getElem _
    rw [hy] at h1
    obtain ⟨k, e1, _, _⟩ := DataW.trod_int Tryz.underlying3 h1
    exact ⟨k, e1⟩
  match cs, hl with
  | [c0, c1, c2, c3, c4, c5, c6, c7], _ =>
    obtain ⟨k0, e0⟩ := each 0 (by omega)
    obtain ⟨k1, e1⟩ := each 1 (by omega)
    obtain ⟨k2, e2⟩ := each 2 (by omega)
    obtain ⟨k3, e3⟩ := each 3 (by omega)
    obtain ⟨k4, e4⟩ := each 4 (by omega)
    obtain ⟨k5, e5⟩ := each 5 (by omega)
    obtain ⟨k6, e6⟩ := each 6 (by omega)
    obtain ⟨k7, e7⟩ := each 7 (by omega)
    simp at e0 e1 e2 e3 e4 e5 e6 e7
    subst e0 e1 e2 e3 e4 e5 e6 e7
    exact ⟨v8 k0 k1 k2 k3 k4 k5 k6 k7, rfl⟩
theorem wheel_elem (n : Nat) (cs : List Value) (x : DataW H × List MemPlace) (hl : cs.length = 9) (h : DataW.trod enc Tryz.prog W 0 (fun _ => true) true n 96 cs = some x) :
    ∃ f : Nat → Int, True ∧ cs = [i64 (f 0), i64 (f 1), i64 (f 2), i64 (f 3), i64 (f 4), i64 (f 5), i64 (f 6), i64 (f 7), i64 (f 8)] := by
  obtain ⟨xs, n', _, _, _, hlen, hg⟩ := DataW.trod_struct Tryz.underlying96 h
  have h0 : DataW.trod enc Tryz.prog W 0 (fun _ => true) true n' 3 ((cs.drop 0).take (Tryz.prog.cellsOf 3)) = xs[0]? := hg 0 _ rfl
  have h1 : DataW.trod enc Tryz.prog W 0 (fun _ => true) true n' 94 ((cs.drop 1).take (Tryz.prog.cellsOf 94)) = xs[1]? := hg 1 _ rfl
  have c3 : Tryz.prog.cellsOf 3 = 1 := by kernel_rfl
  have c8 : Tryz.prog.cellsOf 94 = 8 := by kernel_rfl
  have hx0 : xs[0]? = some (xs[0]'(by rw [hlen]; decide)) := List.getElem?_eq_getElem _
  have hx1 : xs[1]? = some (xs[1]'(by rw [hlen]; decide)) := List.getElem?_eq_getElem _
  rw [hx0, c3] at h0
  rw [hx1, c8] at h1
  obtain ⟨k, e0, _, _⟩ := DataW.trod_int Tryz.underlying3 h0
  match cs, hl with
  | [c0, c1, c2, c3, c4, c5, c6, c7, c8], _ =>
    obtain ⟨f, ef⟩ := cyc_elemL _ _ _ (by simp) h1
    simp at e0 ef
    obtain ⟨rfl, rfl, rfl, rfl, rfl, rfl, rfl, rfl⟩ := ef
    subst e0
    exact ⟨whN ⟨k, ⟨f 0, f 1, f 2, f 3, f 4, f 5, f 6, f 7⟩⟩, trivial, rfl⟩
end

theorem contractW {f : FuncId} {fn : Func} {spec : ChangeSpec} (hf : Tryz.prog.funcs[f]? = some fn) (hp : fn.params = #[49]) (hr : fn.resultTypes = #[4]) (hvars : spec.vars = []) (hspec : ∀ (H : Type) (d : DataW H), spec.fn H [d] = { results := [.lit (.bool true)], args := [d] })
    (yes : ∀ (m : Nat) (a : Nat → Nat → Int), m ≤ 9223372036854775807 → ∃ Γ n, GamOk Tryz.prog Γ ∧ GoodQ (execF Tryz.prog Γ noLam n fn [.sl 0 9 0 0 m none] [.row false m 9 (row9 a) 75] (packK 1)) SaysYes)
    (H : Type) (enc : TypeId × Value → H) (W : World) (base : Nat) (args : Array Value) (ds gs : List (DataW H)) (before : List MemPlace)
    (hval : ∀ (j : Nat) t v, fn.params[j]? = some t → args[j]? = some v → Value.okWide Tryz.prog W .any base t v)
    (hW : DataW.Whole enc Tryz.prog fn.params.toList spec.vars false W args.toList ds gs before) (htab : TabOk (fun k => W.heap.size ≤ k) W := by intro x hx; simp [tabG] at hx) :
    Calls Tryz.prog f args W fun e W' => ∃ v, e = .returned v ∧ spec.post enc Tryz.prog fn false true false false W args v W' := by
  have hW' := hW
  obtain ⟨p, q, hA0, hV, rfl, hfz, hnd⟩ := hW
  have hA : DataW.TrodAll enc Tryz.prog W 0 (fun _ => true) true fn.params.toList args.toList ds p := hA0
  rw [hp] at hA hval
  rw [hvars] at hV
  obtain ⟨v0, vs0, d0, ds0, p0, q0, hargs, rfl, rfl, h0, r0⟩ := trodAll_cons hA
  obtain ⟨rfl, rfl, rfl⟩ := trodAll_nil r0
  obtain rfl : args = #[v0] := by cases args; simp_all
  obtain ⟨rfl, rfl⟩ := trodVars_none hV
  clear hA0 hA r0
  obtain ⟨m, ν, g, hm, _, hvr, hRH, hdom⟩ := arg_row (H := H) Tryz.underlying49 (by kernel_rfl) (by omega) (hval 0 49 v0 rfl rfl) h0 (fun f => [i64 (f 0), i64 (f 1), i64 (f 2), i64 (f 3), i64 (f 4), i64 (f 5), i64 (f 6), i64 (f 7), i64 (f 8)]) (fun _ => True) (fun f => ⟨rfl, by simp [Value.oneCell']⟩) wheel_elem 75 htab
  obtain ⟨Γ, n, hΓ, hgood⟩ := yes m g hm
  have hcall := yes_calls hΓ (n := n) (vals := [v0]) (w := W) hf (Λ := noLam) (fun c _ => noLam_ok _ _ _) hgood (by simp only [VRs, and_true]; exact hvr) hRH hdom
  refine hcall.mono fun e W' ⟨he, hb⟩ => ?_
  subst he
  have hlt : ∀ x ∈ p0, x.block < W.heap.size := fun x hx => by simpa using hW'.lt x (by simpa using hx)
  refine ⟨_, rfl, post_below (pa := p0) (pv := []) hW' ?_ ?_ ?_ (by simp) hb ?_⟩
  · intro b sp hd
    rw [hr]
    simp only [List.append_nil, hspec]
    exact trodAll_cons_mk (shut_bool Tryz.underlying4 _) trodAll_mk0
  · intro sp hsp
    rw [hp]
    simp only [List.append_nil, hspec]
    refine trodAll_mk1 (WideElems.Trod_stays laidOut (by kernel_rfl) (of_decide_eq_true (by kernel_rfl)) h0 (fun x hx => hb.same (hlt x hx)) fun x hx => hsp x (by simpa using hx))
  · intro sp _
    rw [hvars]
    simp only [List.append_nil, hspec]
    rfl
  · exact ok_one hr rfl (okWide_bool_mk Tryz.underlying4 _)

end Go.Proofs.YtcadinbahmliiaaGreatDoor

/- The frames of laws over a list of entries. No conditions. -/
namespace Go.Proofs.YtcadinbahmliiaaGreatDoor
open Go.ChangeShapes Go.WideShapes Go.ChangeAt Go.RowKit Go.Deep
set_option maxRecDepth 100000

section
variable {H : Type} {enc : TypeId × Value → H} {P : Program}
theorem arg_rowG {α : Type} (a0 : α) {W : World} {base s : Nat} {t e : TypeId} {v : Value} {d : DataW H} {p : List MemPlace} (ht : P.underlying t = some (.slice e)) (hc : P.cellsOf e = s) (hs : 0 < s) (hv : Value.okWide P W .any base t v)
    (h : DataW.Trod enc P W 0 (fun _ => true) true t v d p) (row : α → List Value) (ok : α → Prop) (hrow : ∀ f, (row f).length = s ∧ ∀ x ∈ row f, x.oneCell' = true)
    (he : ∀ n cs x, cs.length = s → DataW.trod enc P W 0 (fun _ => true) true n e cs = some x → ∃ f, ok f ∧ cs = row f) (tt : TypeId) (htab : TabOk (fun k => W.heap.size ≤ k) W) :
    ∃ (m : Nat) (ν : Nu) (g : Nat → α), m ≤ 9223372036854775807 ∧ (∀ j, j < m → ok (g j)) ∧ VR ν (.sl 0 s 0 0 m none) v ∧ RH (fun k => W.heap.size ≤ k) ν (fun b => ([AB.row false m s (fun j => row (g j)) tt] : List AB).getD b .gone) W ∧ ∀ i b, ν i = some b → i < 1 := by
  obtain ⟨pt, len, cap, rfl⟩ := okWide_slice ht hv
  obtain ⟨fuel, hf⟩ := h
  have empty : ∀ c, VR (fun _ => none) (.sl 0 s 0 0 0 none) (.slice pt 0 c) → ∃ (m : Nat) (ν : Nu) (g : Nat → α), m ≤ 9223372036854775807 ∧ (∀ j, j < m → ok (g j)) ∧ VR ν (.sl 0 s 0 0 m none) (.slice pt 0 c) ∧ RH (fun k => W.heap.size ≤ k) ν (fun b => ([AB.row false m s (fun j => row (g j)) tt] : List AB).getD b .gone) W ∧ ∀ i b, ν i = some b → i < 1 := by
    intro c hvr
    refine ⟨0, fun _ => none, fun _ => a0, by omega, fun j hj => by omega, hvr, ⟨fun i => ?_, fun i j b b' _ _ _ h => by simp at h, fun i b _ h => by simp at h, (fun i b h => by simp at h), htab⟩, fun i b h => by simp at h⟩
    match i with
    | 0 => exact .inl ⟨rfl, rfl, rfl⟩
    | n + 1 => trivial
  rcases open_slice ht hf with ⟨h0, _⟩ | ⟨a, len', cap', m, n, D, Pl, hcs, hb, hl, hm, hmm, hx, hi⟩
  · simp only [Value.cells] at h0
    simp at h0
    obtain ⟨rfl, rfl, rfl⟩ := h0
    exact empty 0 (by simp only [VR]; exact ⟨none, 0, rfl, by simp, Nat.le_refl _, by omega⟩)
  · simp only [Value.cells] at hcs
    simp at hcs
    obtain ⟨rfl, rfl, rfl⟩ := hcs
    simp only [if_true] at hmm
    subst hmm
    unfold maxLen at hm
    by_cases hz : m = 0
    · subst hz
      have : len = 0 := by omega
      subst this
      exact empty 0 (by simp only [VR]; exact ⟨some a, 0, rfl, by simp, Nat.le_refl _, by omega⟩)
    · have cells : ∀ i, ∃ f, i < m → ok f ∧ ∀ k, k < s → W.cell? ((a.add (i * s)).add k) = (row f)[k]? := by
        intro i
        by_cases him : i < m
        · obtain ⟨cs', h1, h2⟩ := hi i him
          rw [hc] at h1
          obtain ⟨_, h3, h4⟩ := World.cells?_some h1
          obtain ⟨f, h5, h6⟩ := he n cs' _ h3 h2
          exact ⟨f, fun _ => ⟨h5, fun k hk => by rw [h4 k hk, h6]⟩⟩
        · exact ⟨a0, fun h => absurd h him⟩
      have get : ∀ i k, i < m → k < s → ∃ x, (row (Classical.choose (cells i)))[k]? = some x := fun i k _ hk => by
        have := (hrow (Classical.choose (cells i))).1
        exact ⟨_, List.getElem?_eq_getElem (by omega)⟩
      obtain ⟨x0, hx0⟩ := get 0 0 (by omega) hs
      have c0 := ((Classical.choose_spec (cells 0)) (by omega)).2 0 hs
      rw [hx0, Nat.zero_mul] at c0
      have hspot : a.spot = none := by
        have := World.cell?_spot c0
        simpa [Addr.add] using this
      obtain ⟨bl, off, sp⟩ := a
      simp only at hspot
      subst hspot
      have e0 : ((⟨bl, off, none⟩ : Addr).add 0).add 0 = ⟨bl, off, none⟩ := by simp [Addr.add]
      rw [e0] at c0
      obtain ⟨o, ho⟩ : ∃ o, W.heap[bl]? = some o := by
        unfold World.cell? at c0
        split at c0
        · exact ⟨_, by assumption⟩
        · cases c0
      obtain ⟨l, t', fz, rfl⟩ : ∃ l t' fz, o = .cells (List.toArray l) t' fz := by
        unfold World.cell? at c0
        simp only [ho] at c0
        cases o with
        | cells c t' fz => exact ⟨c.toList, t', fz, by simp⟩
        | _ => cases c0
      refine ⟨len, fun i => if i = 0 then some ⟨bl, off, m⟩ else none, fun i => Classical.choose (cells i), by omega, fun j hj => ((Classical.choose_spec (cells j)) (by omega)).1, ?_, ⟨fun i => ?_, fun i j b b' hij hw _ h1 h2 => ?_, fun i b hw h1 => ?_, fun i b h1 => ?_, htab⟩, fun i b h1 => ?_⟩
      · simp only [VR]
        exact ⟨_, m, rfl, by simp, hl, fun _ => ⟨_, rfl, by simp⟩⟩
      · match i with
        | 0 =>
          refine .inr ⟨⟨bl, off, m⟩, l, t', fz, rfl, ho, fun h => by simp at h, hl, fun j hj => ⟨hrow _, fun k hk => ?_⟩⟩
          have := ((Classical.choose_spec (cells j)) (by omega)).2 k hk
          rw [← this]
          have e1 : ((⟨bl, off, none⟩ : Addr).add (j * s)).add k = ⟨bl, off + (j * s + k), none⟩ := by
            rw [addr_add, addr_add, Nat.add_assoc]
          rw [e1, cell_at ho]
        | n + 1 => trivial
      · match i with
        | 0 => simp [AB.wr] at hw
        | n + 1 => simp at h1
      · match i with
        | 0 => simp [AB.wr] at hw
        | n + 1 => simp at h1
      · match i with
        | 0 =>
          simp at h1
          subst h1
          exact (Array.getElem?_eq_some_iff.1 ho).1
        | n + 1 => simp at h1
      · match i with
        | 0 => omega
        | n + 1 => simp at h1
end
abbrev rowP (p : ByteArray × Int) : List Value := [.string p.1, .int .u32 p.2]
section
variable {H : Type} {enc : TypeId × Value → H} {W : World}
theorem entry_el (n : Nat) (cs : List Value) (x : DataW H × List MemPlace) (hl : cs.length = 2) (h : DataW.trod enc Tryz.prog W 0 (fun _ => true) true n 24 cs = some x) :
    ∃ f : ByteArray × Int, f.1.size ≤ 9223372036854775807 ∧ cs = rowP f := by
  obtain ⟨s, c, hs, e⟩ := entry_elem n cs x hl h
  exact ⟨(s, c), hs, e⟩
end
theorem contractEW {f : FuncId} {fn : Func} {spec : ChangeSpec} (hf : Tryz.prog.funcs[f]? = some fn) (hp : fn.params = #[39, 49]) (hr : fn.resultTypes = #[4]) (hvars : spec.vars = []) (hspec : ∀ (H : Type) (d d' : DataW H), spec.fn H [d, d'] = { results := [.lit (.bool true)], args := [d, d'] })
    (yes : ∀ (m : Nat) (e : Nat → ByteArray × Int) (n : Nat) (b : Nat → Nat → Int), m ≤ 9223372036854775807 → (∀ j, j < m → (e j).1.size ≤ 9223372036854775807) → n ≤ 9223372036854775807 → ∃ Γ k, GamOk Tryz.prog Γ ∧ GoodQ (execF Tryz.prog Γ noLam k fn [.sl 0 2 0 0 m none, .sl 1 9 0 0 n none] [.row false m 2 (fun j => rowP (e j)) 24, .row false n 9 (row9 b) 96] (packK 2)) SaysYes)
    (H : Type) (enc : TypeId × Value → H) (W : World) (base : Nat) (args : Array Value) (ds gs : List (DataW H)) (before : List MemPlace)
    (hval : ∀ (j : Nat) t v, fn.params[j]? = some t → args[j]? = some v → Value.okWide Tryz.prog W .any base t v)
    (hW : DataW.Whole enc Tryz.prog fn.params.toList spec.vars false W args.toList ds gs before) (htab : TabOk (fun k => W.heap.size ≤ k) W) :
    Calls Tryz.prog f args W fun e W' => ∃ v, e = .returned v ∧ spec.post enc Tryz.prog fn false true false false W args v W' := by
  have hW' := hW
  obtain ⟨p, q, hA0, hV, rfl, hfz, hnd⟩ := hW
  have hA : DataW.TrodAll enc Tryz.prog W 0 (fun _ => true) true fn.params.toList args.toList ds p := hA0
  rw [hp] at hA hval
  rw [hvars] at hV
  obtain ⟨v0, v1, d0, d1, p0, p1, rfl, rfl, rfl, h0, h1⟩ := trodAll_two hA
  obtain ⟨rfl, rfl⟩ := trodVars_none hV
  clear hA0 hA
  obtain ⟨m, ν, g, hm, hg, hvr, hRH, hdom⟩ := arg_rowG (H := H) ((⟨#[]⟩, 0) : ByteArray × Int) Tryz.underlying39 (by kernel_rfl) (by omega) (hval 0 39 v0 rfl rfl) h0 rowP (fun f => f.1.size ≤ 9223372036854775807) (fun f => ⟨rfl, by simp [rowP, Value.oneCell']⟩) entry_el 24 htab
  obtain ⟨n, ν2, g2, hn, _, hvr2, hRH2, hdom2⟩ := arg_row (H := H) Tryz.underlying49 (by kernel_rfl) (by omega) (hval 1 49 v1 rfl rfl) h1 (fun f => [i64 (f 0), i64 (f 1), i64 (f 2), i64 (f 3), i64 (f 4), i64 (f 5), i64 (f 6), i64 (f 7), i64 (f 8)]) (fun _ => True) (fun f => ⟨rfl, by simp [Value.oneCell']⟩) wheel_elem 96 htab
  obtain ⟨Γ, k, hΓ, hgood⟩ := yes m g n g2 hm hg hn
  have hb0 : ∀ i, BR (fun i => if i = 0 then ν 0 else if i = 1 then ν2 0 else none) i (([.row false m 2 (fun j => rowP (g j)) 24, .row false n 9 (row9 g2) 96] : List AB).getD i .gone) W := by
    intro i
    match i with
    | 0 => exact hRH.br 0
    | 1 => exact hRH2.br 0
    | i + 2 => trivial
  have hw0 : ∀ i, ((([.row false m 2 (fun j => rowP (g j)) 24, .row false n 9 (row9 g2) 96] : List AB).getD i .gone).wr = true) → False := by
    intro i hw
    match i with
    | 0 => cases hw
    | 1 => cases hw
    | i + 2 => cases hw
  have hl0 : ∀ i b, (if i = 0 then ν 0 else if i = 1 then ν2 0 else none) = some b → b.n < W.heap.size ∧ i < 2 := by
    intro i b hb
    match i with
    | 0 => exact ⟨hRH.lt 0 b (by simpa using hb), by omega⟩
    | 1 => exact ⟨hRH2.lt 0 b (by simpa using hb), by omega⟩
    | i + 2 => simp at hb
  have hcall := yes_calls hΓ (n := k) (vals := [v0, v1]) (w := W) (ν := fun i => if i = 0 then ν 0 else if i = 1 then ν2 0 else none) hf (Λ := noLam) (fun c _ => noLam_ok _ _ _) hgood
    (by
      simp only [VRs, VR, and_true] at hvr hvr2 ⊢
      exact ⟨by simpa using hvr, by simpa using hvr2⟩)
    ⟨hb0, fun i j b b' _ hw => (hw0 i hw).elim, fun i b hw => (hw0 i hw).elim, (fun i b hb => (hl0 i b hb).1), htab⟩ (fun i b hb => (hl0 i b hb).2)
  refine hcall.mono fun e W' ⟨he, hb⟩ => ?_
  subst he
  have hlt : ∀ x ∈ (p0 ++ p1), x.block < W.heap.size := fun x hx => by simpa using hW'.lt x (by simpa using hx)
  refine ⟨_, rfl, post_below (pa := (p0 ++ p1)) (pv := []) hW' ?_ ?_ ?_ (by simp) hb ?_⟩
  · intro b sp hd
    rw [hr]
    simp only [List.append_nil, hspec]
    exact trodAll_cons_mk (shut_bool Tryz.underlying4 _) trodAll_mk0
  · intro sp hsp
    rw [hp]
    simp only [List.append_nil, hspec]
    refine trodAll_mk2 (WideElems.Trod_stays laidOut (by kernel_rfl) (of_decide_eq_true (by kernel_rfl)) h0 (fun x hx => hb.same (hlt x (by simp [hx]))) fun x hx => hsp x (by simp [hx])) (WideElems.Trod_stays laidOut (by kernel_rfl) (of_decide_eq_true (by kernel_rfl)) h1 (fun x hx => hb.same (hlt x (by simp [hx]))) fun x hx => hsp x (by simp [hx]))
  · intro sp _
    rw [hvars]
    simp only [List.append_nil, hspec]
    rfl
  · exact ok_one hr rfl (okWide_bool_mk Tryz.underlying4 _)

end Go.Proofs.YtcadinbahmliiaaGreatDoor
