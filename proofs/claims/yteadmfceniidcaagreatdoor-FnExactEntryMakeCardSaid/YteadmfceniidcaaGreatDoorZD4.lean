/- The laws' helpers on lists of wheels: their table. Conditions: a list of wheels. -/
import Derived.Test.YteadmfceniidcaaGreatDoorZD0
import Derived.Test.YteadmfceniidcaaGreatDoorZD1
import Derived.Test.YteadmfceniidcaaGreatDoorZD2
import Derived.Test.YteadmfceniidcaaGreatDoorZD3
/- The text of a tidy design, the reference's side. Conditions: a valid list of wheels. -/
namespace Go.Proofs.YteadmfceniidcaaGreatDoor
open Go.RowKit
set_option maxRecDepth 100000

def inD (n : Int) : Bool := decide (-9223372036854775807 ≤ n ∧ n ≤ 9223372036854775807)
theorem gmDec_ok : GamOk Tryz.prog (gmDec decB inD) := ext_ok g0_ok ok_dec
theorem swB_eq (a0 a1 a2 a3 a4 a5 a6 a7 a8 : Int) : catB (catB (catB (catB (catB (catB (catB (catB (catB (catB (catB (catB (catB (catB (catB (catB (decB a0) (ByteArray.mk (Array.mk [58]))) (decB a1)) (ByteArray.mk (Array.mk [44]))) (decB a2)) (ByteArray.mk (Array.mk [44]))) (decB a3)) (ByteArray.mk (Array.mk [44]))) (decB a4)) (ByteArray.mk (Array.mk [44]))) (decB a5)) (ByteArray.mk (Array.mk [44]))) (decB a6)) (ByteArray.mk (Array.mk [44]))) (decB a7)) (ByteArray.mk (Array.mk [44]))) (decB a8) = wtx ⟨a0, ⟨a1, a2, a3, a4, a5, a6, a7, a8⟩⟩ := by
  have c58 : (ByteArray.mk (Array.mk [58])) = ⟨[(58 : UInt8)].toArray⟩ := rfl
  have c44 : (ByteArray.mk (Array.mk [44])) = ⟨[(44 : UInt8)].toArray⟩ := rfl
  simp only [decB, c58, c44, catB_mk, wtx, wtxL, Lib.join_cons]
  simp [Lib.joinTail]
theorem ok_sw : SpecOk Tryz.prog 60 (specV (fWtO wtx okw)) := by
  refine mkV (n := 200) gmDec_ok Tryz.func60 rfl fun vs x ob hF ho => ?_
  unfold fWtO at hF
  split at hF
  · rename_i a0 a1 a2 a3 a4 a5 a6 a7 a8
    simp only [Option.some.injEq, Prod.mk.injEq] at hF
    obtain ⟨rfl, rfl⟩ := hF
    have hw : okw ⟨a0, ⟨a1, a2, a3, a4, a5, a6, a7, a8⟩⟩ = true := by simpa [obls] using ho
    have h9 := okw_9 hw
    simp only [List.forall_mem_cons, List.not_mem_nil, false_imp_iff, implies_true, and_true] at h9
    obtain ⟨⟨p1, p2⟩, ⟨b1, b2⟩, ⟨c1, c2⟩, ⟨d1, d2⟩, ⟨e1, e2⟩, ⟨f1, f2⟩, ⟨g1, g2⟩, ⟨i1, i2⟩, ⟨j1, j2⟩⟩ := h9
    have q0 := decB_size (n := a0) (by omega) (by omega); have q1 := decB_size (n := a1) (by omega) (by omega); have q2 := decB_size (n := a2) (by omega) (by omega)
    have q3 := decB_size (n := a3) (by omega) (by omega); have q4 := decB_size (n := a4) (by omega) (by omega); have q5 := decB_size (n := a5) (by omega) (by omega)
    have q6 := decB_size (n := a6) (by omega) (by omega); have q7 := decB_size (n := a7) (by omega) (by omega); have q8 := decB_size (n := a8) (by omega) (by omega)
    have s58 : (ByteArray.mk (Array.mk [58])).size = 1 := rfl
    have s44 : (ByteArray.mk (Array.mk [44])).size = 1 := rfl
    suffices h : GoodQ _ (Gives (.string (wtx ⟨a0, ⟨a1, a2, a3, a4, a5, a6, a7, a8⟩⟩))) from ⟨h.out⟩
    show GoodQ (execF Tryz.prog (gmDec decB inD) noLam 200 Tryz.f60 [.v (.agg ⟨[i64 a0, i64 a1, i64 a2, i64 a3, i64 a4, i64 a5, i64 a6, i64 a7, i64 a8]⟩)] [] valK) _
    rw [treeSw]
    refine good_needs ?_ (good_out ⟨_, rfl, ?_⟩)
    · simp only [ob_cons, ob_nil, and_true, Nat.ble_eq, catB_size, s58, s44, inD, decide_eq_true_eq]
      omega
    · rw [swB_eq]
      rfl
  · cases hF

theorem gmSx_ok : GamOk Tryz.prog (gmSx wtx okw) := ext_ok g0_ok ok_sw
/-- The text of the first i wheels. -/
def accS (f : Nat → Nat → Int) (i : Nat) : ByteArray := ⟨(textL (listW f i)).toArray⟩
theorem textL_snoc (L : List Wh) (w : Wh) (h : L ≠ []) : textL (L ++ [w]) = textL L ++ [32] ++ wtxL w := by
  cases L with
  | nil => exact absurd rfl h
  | cons x L =>
    simp only [textL, List.cons_append, List.map_cons, List.map_append, List.map_nil, Lib.join_cons]
    simp [Lib.joinTail]
theorem accS_succ (f : Nat → Nat → Int) (i : Nat) (h : 0 < i) : catB (catB (accS f i) (ByteArray.mk (Array.mk [32]))) (wtx (whOf (f i))) = accS f (i + 1) := by
  have c32 : (ByteArray.mk (Array.mk [32])) = ⟨[(32 : UInt8)].toArray⟩ := rfl
  rw [accS, accS, c32, wtx, catB_mk, catB_mk, listW_succ, textL_snoc _ _ (fun e => by have := congrArg List.length e; rw [listW_length] at this; simp at this; omega)]
theorem accS_one (f : Nat → Nat → Int) : catB (accS f 0) (wtx (whOf (f 0))) = accS f 1 := by
  rw [accS, accS, wtx, catB_mk, listW_succ]
  have e1 : textL (listW f 0) = [] := rfl
  rw [e1]
  simp [textL, listW, Lib.join_one]
theorem accS_size {f : Nat → Nat → Int} {m i : Nat} (hok : ∀ w ∈ listW f m, okw w = true) (hi : i ≤ m) : (accS f i).size ≤ i * 201 := by
  rw [accS, mk_size]
  have := textL_size (L := listW f i) fun w hw => by
    obtain ⟨j, hj, rfl⟩ := List.mem_map.1 hw
    exact hok _ (List.mem_map.2 ⟨j, List.mem_range.2 (by have := List.mem_range.1 hj; omega), rfl⟩)
  rwa [listW_length] at this
theorem sumSx (m : Nat) (f : Nat → Nat → Int) (t : TypeId) (hm : m ≤ 12) (hok : ∀ w ∈ listW f m, okw w = true) :
    SumOk Tryz.prog 1 (.block 0 (.loop (loopAt 0 Tryz.f36))) (atS 26 (lvSx .normal) 1 (stSx m ⟨#[]⟩ 0) (hpSx m f t) (fun K => K .normal (mkT 0 26 [(3, .v (.string (accS f m)))]) (hpSx m f t))) := by
  refine for_at gmSx_ok (n := 100) (m := 1) (lv := lvSx) (fun i => stSx m (accS f i) i) (fun _ => hpSx m f t) (fun _ => True) m (fun _ => noLam) (lv3_ris rfl rfl rfl) (Nat.le_refl _) trivial fun K Q hk i hi him => ⟨noLam_ok _ _ _, ?_⟩
  rw [rndSx]
  refine good_cond (fun c1 => ?_) fun c1 => ?_
  · have c1 := of_decide_eq_true c1
    have c1' : i < m := by omega
    have hw : okw (whOf (f i)) = true := hok _ (List.mem_of_getElem? (listW_get f c1'))
    have hz := wtx_size hw
    have ha := accS_size hok (i := i) (by omega)
    have s32 : (ByteArray.mk (Array.mk [32])).size = 1 := rfl
    rw [Int.toNat_natCast, Nat.zero_add, wr_in (x := (i : Int) + 1) (by omega)]
    show GoodQ (cond _ (needs [_, _, _, okw (whOf (f i)), _] _) (needs [_, _, okw (whOf (f i)), _] _)) _
    refine good_cond (fun c2 => ?_) fun c2 => ?_
    · have c2 := of_decide_eq_true c2
      refine good_needs ?_ (good_out ⟨i + 1, ⟨rfl, c1', trivial⟩, ?_, Hsim.refl _⟩)
      · show obls [_, _, _, _, Nat.ble (_ + (wtx (whOf (f i))).size) _] = true
        simp only [ob_cons, ob_nil, and_true, decide_eq_true_eq, Nat.ble_eq, catB_size, s32, hw, true_and]
        omega
      · show [_, AV.v (.string (catB (catB (accS f i) _) (wtx (whOf (f i))))), _] = _
        rw [accS_succ f i (by omega)]
        rfl
    · have c2 := of_decide_eq_false c2
      have : i = 0 := by omega
      subst this
      refine good_needs ?_ (good_out ⟨0 + 1, ⟨rfl, c1', trivial⟩, ?_, Hsim.refl _⟩)
      · show obls [_, _, _, Nat.ble (_ + (wtx (whOf (f 0))).size) _] = true
        simp only [ob_cons, ob_nil, and_true, decide_eq_true_eq, Nat.ble_eq, hw, true_and]
        omega
      · show [_, AV.v (.string (catB (accS f 0) (wtx (whOf (f 0))))), _] = _
        rw [accS_one f]
        rfl
  · have c1 := of_decide_eq_false c1
    have : i = m := by omega
    subst this
    refine good_out ⟨_, Hsim.refl _, ?_⟩
    rw [if_pos rfl]
    exact hk
theorem ok_sx : SpecOk Tryz.prog 36 (specR md_ws (FtxO textB okD)) := by
  refine specR_hr gmSx_ok Tryz.func36 rfl fun sas fr hF ho => ?_
  unfold FtxO at hF
  split at hF
  · rename_i m g
    cases hF
    simp only [ob_cons] at ho
    obtain ⟨h1, h2, _⟩ := ho
    have hok := okD_okw h2
    have hm := okD_len h2
    rw [listW_length] at hm
    have hl : (listW (itW g) m).length = m := listW_length _ _
    refine ⟨[.row false m 9 (row9 (itW g)) 53], lamSx m (itW g) 53 (accS (itW g) m), 100, .cons (ABeq.row fun j hj => allW_get h1 j hj) .nil, lam1 (by kernel_rfl) (sumSx m (itW g) 53 hm hok), ?_⟩
    show GoodQ (execF Tryz.prog (gmSx wtx okw) (lamSx m (itW g) 53 (accS (itW g) m)) 100 Tryz.f36 [.sl 0 9 0 0 m none] [.row false m 9 (row9 (itW g)) 53] (packK 1)) _
    rw [treeSx]
    refine good_cond (fun c0 => ?_) fun c0 => good_needs ?_ ?_
    · have c0 : m = 0 := by simpa using c0
      subst c0
      exact good_out ⟨_, rfl, rfl, .cons (ABeq.row fun j hj => (allW_get h1 j hj).symm) .nil⟩
    · rw [ob_cons]
      exact ⟨chk_of ⟨rfl, Hsim.refl _⟩, rfl⟩
    · have c0 : m ≠ 0 := by simpa using c0
      refine good_out ⟨_, rfl, ?_, .cons (ABeq.row fun j hj => (allW_get h1 j hj).symm) .nil⟩
      have : (listW (itW g) m).isEmpty = false := by
        cases hL : listW (itW g) m with
        | nil => rw [hL] at hl; exact absurd hl.symm c0
        | cons => rfl
      rw [textB, this]
      rfl
  · cases hF

end Go.Proofs.YteadmfceniidcaaGreatDoor

/- The program's designs changed: DesignTidy, DesignTurned, DesignLater, DesignBack, DesignMirror. Conditions: a list of wheels. -/
namespace Go.Proofs.YteadmfceniidcaaGreatDoor
open Go.RowKit
set_option maxRecDepth 100000

/-- The list is a design, and what comes of it too. -/
def yesTi (L : List Wh) : Bool := (okD L && okT (L.map chTi))
def FdeYTi (yes : List Wh → Bool) (ti : List Wh → List Wh) (mp : List Wh → List Wh) : List SA → Option FR
  | [.row m g] => some { val := valY (ti (mp (listW (itW g) m))), new := newY (ti (mp (listW (itW g) m))), obl := [allW m g, decide (m ≤ 2 ^ 38), yes (listW (itW g) m)] }
  | _ => none
def FdeNTi (yes : List Wh → Bool) : List SA → Option FR
  | [.row m g] => some { val := valN, obl := [allW m g, decide (m ≤ 2 ^ 38), !yes (listW (itW g) m)] }
  | _ => none
theorem treeDYTi (okd : List Wh → Bool) (ti : List Wh → List Wh) (okt : List Wh → Bool) (mp : List Wh → List Wh) (m : Nat) (f : Nat → Nat → Int) : execF Tryz.prog (ext gm_within 54 (specH [true] (FchYTi okd ti okt mp))) noLam 100 Tryz.f33 [.sl 0 9 0 0 m none] [.row false m 9 (row9 f) 53] (packK 1)
    = needs [Nat.beq m m, allW m (row9 f), decide (m ≤ (274877906944 : Nat)), okd (listW (itW (row9 f)) m) && okt (mp (listW (itW (row9 f)) m))] (Res.out Ex.ret [AV.tup [AV.sl (1 : Nat) (9 : Nat) (0 : Nat) (0 : Nat) (List.length (ti (mp (listW (itW (row9 f)) m)))) (some (List.length (ti (mp (listW (itW (row9 f)) m))))), AV.v (Value.bool true)]] [AB.row false m (9 : Nat) (row9 f) (53 : TypeId), AB.row true (List.length (ti (mp (listW (itW (row9 f)) m)))) (9 : Nat) (row9 (wfun (ti (mp (listW (itW (row9 f)) m))))) (53 : TypeId)]) := by kernel_rfl

theorem treeDNTi (okd : List Wh → Bool) (okt : List Wh → Bool) (mp : List Wh → List Wh) (m : Nat) (f : Nat → Nat → Int) : execF Tryz.prog (ext gm_within 54 (specH [true] (FchNTi okd okt mp))) noLam 100 Tryz.f33 [.sl 0 9 0 0 m none] [.row false m 9 (row9 f) 53] (packK 1)
    = needs [Nat.beq m m, allW m (row9 f), decide (m ≤ (274877906944 : Nat)), !(okd (listW (itW (row9 f)) m) && okt (mp (listW (itW (row9 f)) m)))] (Res.out Ex.ret [AV.tup [AV.v (Value.slice none (0 : Nat) (0 : Nat)), AV.v (Value.bool false)]] [AB.row false m (9 : Nat) (row9 f) (53 : TypeId)]) := by kernel_rfl

theorem ok_deYTi : SpecOk Tryz.prog 33 (specR md_ws (FdeYTi yesTi tidyL mpTi)) := by
  refine specR_hr (ext_ok gm_within_ok ok_chYTi) Tryz.func33 rfl fun sas fr hF ho => ?_
  unfold FdeYTi at hF
  split at hF
  · rename_i m g
    cases hF
    simp only [ob_cons] at ho
    obtain ⟨h1, h2, h3, _⟩ := ho
    have hm := of_decide_eq_true h2
    refine ⟨[.row false m 9 (row9 (itW g)) 53], noLam, 100, .cons (ABeq.row fun j hj => allW_get h1 j hj) .nil, noLam' _, ?_⟩
    show GoodQ (execF Tryz.prog (ext gm_within 54 (specH [true] (FchYTi okD tidyL okT mpTi))) noLam 100 Tryz.f33 [.sl 0 9 0 0 m none] [.row false m 9 (row9 (itW g)) 53] (packK 1)) _
    rw [treeDYTi]
    rw [yesTi] at h3
    exact good_needs (by simp only [ob_cons, ob_nil, and_true, beq_me, allW_row, listW_itW, true_and]; exact ⟨decide_eq_true hm, h3⟩) (good_out ⟨_, rfl, rfl, .cons (ABeq.row fun j hj => (allW_get h1 j hj).symm) (Hsim.refl _)⟩)
  · cases hF
theorem ok_deNTi : SpecOk Tryz.prog 33 (specR md_ws (FdeNTi yesTi)) := by
  refine specR_hr (ext_ok gm_within_ok ok_chNTi) Tryz.func33 rfl fun sas fr hF ho => ?_
  unfold FdeNTi at hF
  split at hF
  · rename_i m g
    cases hF
    simp only [ob_cons] at ho
    obtain ⟨h1, h2, h3, _⟩ := ho
    have hm := of_decide_eq_true h2
    refine ⟨[.row false m 9 (row9 (itW g)) 53], noLam, 100, .cons (ABeq.row fun j hj => allW_get h1 j hj) .nil, noLam' _, ?_⟩
    show GoodQ (execF Tryz.prog (ext gm_within 54 (specH [true] (FchNTi okD okT mpTi))) noLam 100 Tryz.f33 [.sl 0 9 0 0 m none] [.row false m 9 (row9 (itW g)) 53] (packK 1)) _
    rw [treeDNTi]
    rw [yesTi] at h3
    exact good_needs (by simp only [ob_cons, ob_nil, and_true, beq_me, allW_row, listW_itW, true_and]; exact ⟨decide_eq_true hm, h3⟩) (good_out ⟨_, rfl, rfl, .cons (ABeq.row fun j hj => (allW_get h1 j hj).symm) .nil⟩)
  · cases hF

/-- The list is a design, and what comes of it too. -/
def yesTu (x : Int) (L : List Wh) : Bool := inR x 0 23 && (okD L && okT (L.map (chTu x)))
def FdeYTu (yes : Int → List Wh → Bool) (ti : List Wh → List Wh) (mp : Int → List Wh → List Wh) : List SA → Option FR
  | [.row m g, .v (.int .i64 x)] => some { val := valY (ti (mp x (listW (itW g) m))), new := newY (ti (mp x (listW (itW g) m))), obl := [allW m g, decide (m ≤ 2 ^ 38), yes x (listW (itW g) m)] }
  | _ => none
def FdeNTu (yes : Int → List Wh → Bool) : List SA → Option FR
  | [.row m g, .v (.int .i64 x)] => some { val := valN, obl := [allW m g, decide (m ≤ 2 ^ 38), !yes x (listW (itW g) m)] }
  | _ => none
/-- The list is a design, and what comes of it too. -/
def yesLa (x : Int) (L : List Wh) : Bool := inR x 0 23 && (okD L && okT (L.map (chLa x)))
def FdeYLa (yes : Int → List Wh → Bool) (ti : List Wh → List Wh) (mp : Int → List Wh → List Wh) : List SA → Option FR
  | [.row m g, .v (.int .i64 x)] => some { val := valY (ti (mp x (listW (itW g) m))), new := newY (ti (mp x (listW (itW g) m))), obl := [allW m g, decide (m ≤ 2 ^ 38), yes x (listW (itW g) m)] }
  | _ => none
def FdeNLa (yes : Int → List Wh → Bool) : List SA → Option FR
  | [.row m g, .v (.int .i64 x)] => some { val := valN, obl := [allW m g, decide (m ≤ 2 ^ 38), !yes x (listW (itW g) m)] }
  | _ => none
/-- The list is a design, and what comes of it too. -/
def yesBa (L : List Wh) : Bool := (okD L && okT (L.map chBa))
def FdeYBa (yes : List Wh → Bool) (ti : List Wh → List Wh) (mp : List Wh → List Wh) : List SA → Option FR
  | [.row m g] => some { val := valY (ti (mp (listW (itW g) m))), new := newY (ti (mp (listW (itW g) m))), obl := [allW m g, decide (m ≤ 2 ^ 38), yes (listW (itW g) m)] }
  | _ => none
def FdeNBa (yes : List Wh → Bool) : List SA → Option FR
  | [.row m g] => some { val := valN, obl := [allW m g, decide (m ≤ 2 ^ 38), !yes (listW (itW g) m)] }
  | _ => none
/-- The list is a design, and what comes of it too. -/
def yesMi (L : List Wh) : Bool := (okD L && okT (L.map chMi))
def FdeYMi (yes : List Wh → Bool) (ti : List Wh → List Wh) (mp : List Wh → List Wh) : List SA → Option FR
  | [.row m g] => some { val := valY (ti (mp (listW (itW g) m))), new := newY (ti (mp (listW (itW g) m))), obl := [allW m g, decide (m ≤ 2 ^ 38), yes (listW (itW g) m)] }
  | _ => none
def FdeNMi (yes : List Wh → Bool) : List SA → Option FR
  | [.row m g] => some { val := valN, obl := [allW m g, decide (m ≤ 2 ^ 38), !yes (listW (itW g) m)] }
  | _ => none
end Go.Proofs.YteadmfceniidcaaGreatDoor

/- l5At and DesignAt, the reference's: their words. Conditions: a list of wheels. -/
namespace Go.Proofs.YteadmfceniidcaaGreatDoor
open Go.RowKit
set_option maxRecDepth 100000

def fMd (md : Int → Int) : List Value → Option (Value × List Bool)
  | [.int .i64 n] => some (.int .i64 (md n), [])
  | _ => none
def FtuO (tu : (Nat → Int) → Int → Nat → Int) : List SA → Option FR
  | [.v (.agg ⟨[.int .i64 a0, .int .i64 a1, .int .i64 a2, .int .i64 a3, .int .i64 a4, .int .i64 a5, .int .i64 a6, .int .i64 a7]⟩), .v (.int .i64 n)] => some { val := .agg (cyC (tu (v8 a0 a1 a2 a3 a4 a5 a6 a7) n)), obl := [decide (n ≤ 2 ^ 40)] }
  | _ => none
def gmAt (md : Int → Int) (tu : (Nat → Int) → Int → Nat → Int) (ad : (Nat → Int) → Int → (Nat → Int) → Nat → Int) : Gam := ext (ext (ext g0 98 (specV (fMd md))) 97 (specR [.val, .val] (FtuO tu))) 96 (specV (fAdd3 ad))
abbrev lvAt : Ex → List Nat := lv3 [0, 1, 4, 5, 6] [4, 5] [4]
abbrev hpAt (m : Nat) (f : Nat → Nat → Int) (t : TypeId) (a : Nat → Int) : List AB := [.row false m 9 (row9 f) t, .cells (cyC fun _ => 0) 51, .cells (cyC a) 51]
abbrev stAt (m : Nat) (n : Int) (i : Nat) : List AV := [.sl 0 9 0 0 m none, .v (i64 n), .ptr 1 0 0 0, .ptr 2 0 0 0, .v (i64 i)]
theorem rndAt (md : Int → Int) (tu : (Nat → Int) → Int → Nat → Int) (ad : (Nat → Int) → Int → (Nat → Int) → Nat → Int) (m : Nat) (f : Nat → Nat → Int) (t : TypeId) (a : Nat → Int) (n : Int) (i : Nat) : execC Tryz.prog (gmAt md tu ad) 100 noLam (loopAt 0 Tryz.f63) (mkT 0 31 ((lvAt .normal).zip (stAt m n i))) (hpAt m f t a) (leafV 31 lvAt 1)
    = bif decide ((↑i : Int) < (↑m : Int)) then needs [decide ((↑i : Int) < (↑m : Int)), decide ((0 : Nat) + Int.toNat (↑i : Int) < m), decide ((↑i : Int) < (↑m : Int)), decide ((0 : Nat) + Int.toNat (↑i : Int) < m), decide (md (IntKind.wrap IntKind.i64 (n * f ((0 : Nat) + Int.toNat (↑i : Int)) (0 : Nat))) ≤ (1099511627776 : Int))] (Res.out Ex.normal [AV.sl (0 : Nat) (9 : Nat) (0 : Nat) (0 : Nat) m none, AV.v (Value.int IntKind.i64 n), AV.ptr (1 : Nat) (0 : Nat) (0 : Nat) (0 : Nat), AV.ptr (2 : Nat) (0 : Nat) (0 : Nat) (0 : Nat), AV.v (Value.int IntKind.i64 (IntKind.wrap IntKind.i64 ((↑i : Int) + (1 : Int))))] [AB.row false m (9 : Nat) (row9 f) t, AB.cells [AV.v (Value.int IntKind.i64 (0 : Int)), AV.v (Value.int IntKind.i64 (0 : Int)), AV.v (Value.int IntKind.i64 (0 : Int)), AV.v (Value.int IntKind.i64 (0 : Int)), AV.v (Value.int IntKind.i64 (0 : Int)), AV.v (Value.int IntKind.i64 (0 : Int)), AV.v (Value.int IntKind.i64 (0 : Int)), AV.v (Value.int IntKind.i64 (0 : Int))] (51 : TypeId), AB.cells [AV.v (Value.int IntKind.i64 (ad (w8 a) (1 : Int) (w8 (tu (v8 (f ((0 : Nat) + Int.toNat (↑i : Int)) (1 : Nat)) (f ((0 : Nat) + Int.toNat (↑i : Int)) (2 : Nat)) (f ((0 : Nat) + Int.toNat (↑i : Int)) (3 : Nat)) (f ((0 : Nat) + Int.toNat (↑i : Int)) (4 : Nat)) (f ((0 : Nat) + Int.toNat (↑i : Int)) (5 : Nat)) (f ((0 : Nat) + Int.toNat (↑i : Int)) (6 : Nat)) (f ((0 : Nat) + Int.toNat (↑i : Int)) (7 : Nat)) (f ((0 : Nat) + Int.toNat (↑i : Int)) (8 : Nat))) (md (IntKind.wrap IntKind.i64 (n * f ((0 : Nat) + Int.toNat (↑i : Int)) (0 : Nat)))))) (0 : Nat))), AV.v (Value.int IntKind.i64 (ad (w8 a) (1 : Int) (w8 (tu (v8 (f ((0 : Nat) + Int.toNat (↑i : Int)) (1 : Nat)) (f ((0 : Nat) + Int.toNat (↑i : Int)) (2 : Nat)) (f ((0 : Nat) + Int.toNat (↑i : Int)) (3 : Nat)) (f ((0 : Nat) + Int.toNat (↑i : Int)) (4 : Nat)) (f ((0 : Nat) + Int.toNat (↑i : Int)) (5 : Nat)) (f ((0 : Nat) + Int.toNat (↑i : Int)) (6 : Nat)) (f ((0 : Nat) + Int.toNat (↑i : Int)) (7 : Nat)) (f ((0 : Nat) + Int.toNat (↑i : Int)) (8 : Nat))) (md (IntKind.wrap IntKind.i64 (n * f ((0 : Nat) + Int.toNat (↑i : Int)) (0 : Nat)))))) (1 : Nat))), AV.v (Value.int IntKind.i64 (ad (w8 a) (1 : Int) (w8 (tu (v8 (f ((0 : Nat) + Int.toNat (↑i : Int)) (1 : Nat)) (f ((0 : Nat) + Int.toNat (↑i : Int)) (2 : Nat)) (f ((0 : Nat) + Int.toNat (↑i : Int)) (3 : Nat)) (f ((0 : Nat) + Int.toNat (↑i : Int)) (4 : Nat)) (f ((0 : Nat) + Int.toNat (↑i : Int)) (5 : Nat)) (f ((0 : Nat) + Int.toNat (↑i : Int)) (6 : Nat)) (f ((0 : Nat) + Int.toNat (↑i : Int)) (7 : Nat)) (f ((0 : Nat) + Int.toNat (↑i : Int)) (8 : Nat))) (md (IntKind.wrap IntKind.i64 (n * f ((0 : Nat) + Int.toNat (↑i : Int)) (0 : Nat)))))) (2 : Nat))), AV.v (Value.int IntKind.i64 (ad (w8 a) (1 : Int) (w8 (tu (v8 (f ((0 : Nat) + Int.toNat (↑i : Int)) (1 : Nat)) (f ((0 : Nat) + Int.toNat (↑i : Int)) (2 : Nat)) (f ((0 : Nat) + Int.toNat (↑i : Int)) (3 : Nat)) (f ((0 : Nat) + Int.toNat (↑i : Int)) (4 : Nat)) (f ((0 : Nat) + Int.toNat (↑i : Int)) (5 : Nat)) (f ((0 : Nat) + Int.toNat (↑i : Int)) (6 : Nat)) (f ((0 : Nat) + Int.toNat (↑i : Int)) (7 : Nat)) (f ((0 : Nat) + Int.toNat (↑i : Int)) (8 : Nat))) (md (IntKind.wrap IntKind.i64 (n * f ((0 : Nat) + Int.toNat (↑i : Int)) (0 : Nat)))))) (3 : Nat))), AV.v (Value.int IntKind.i64 (ad (w8 a) (1 : Int) (w8 (tu (v8 (f ((0 : Nat) + Int.toNat (↑i : Int)) (1 : Nat)) (f ((0 : Nat) + Int.toNat (↑i : Int)) (2 : Nat)) (f ((0 : Nat) + Int.toNat (↑i : Int)) (3 : Nat)) (f ((0 : Nat) + Int.toNat (↑i : Int)) (4 : Nat)) (f ((0 : Nat) + Int.toNat (↑i : Int)) (5 : Nat)) (f ((0 : Nat) + Int.toNat (↑i : Int)) (6 : Nat)) (f ((0 : Nat) + Int.toNat (↑i : Int)) (7 : Nat)) (f ((0 : Nat) + Int.toNat (↑i : Int)) (8 : Nat))) (md (IntKind.wrap IntKind.i64 (n * f ((0 : Nat) + Int.toNat (↑i : Int)) (0 : Nat)))))) (4 : Nat))), AV.v (Value.int IntKind.i64 (ad (w8 a) (1 : Int) (w8 (tu (v8 (f ((0 : Nat) + Int.toNat (↑i : Int)) (1 : Nat)) (f ((0 : Nat) + Int.toNat (↑i : Int)) (2 : Nat)) (f ((0 : Nat) + Int.toNat (↑i : Int)) (3 : Nat)) (f ((0 : Nat) + Int.toNat (↑i : Int)) (4 : Nat)) (f ((0 : Nat) + Int.toNat (↑i : Int)) (5 : Nat)) (f ((0 : Nat) + Int.toNat (↑i : Int)) (6 : Nat)) (f ((0 : Nat) + Int.toNat (↑i : Int)) (7 : Nat)) (f ((0 : Nat) + Int.toNat (↑i : Int)) (8 : Nat))) (md (IntKind.wrap IntKind.i64 (n * f ((0 : Nat) + Int.toNat (↑i : Int)) (0 : Nat)))))) (5 : Nat))), AV.v (Value.int IntKind.i64 (ad (w8 a) (1 : Int) (w8 (tu (v8 (f ((0 : Nat) + Int.toNat (↑i : Int)) (1 : Nat)) (f ((0 : Nat) + Int.toNat (↑i : Int)) (2 : Nat)) (f ((0 : Nat) + Int.toNat (↑i : Int)) (3 : Nat)) (f ((0 : Nat) + Int.toNat (↑i : Int)) (4 : Nat)) (f ((0 : Nat) + Int.toNat (↑i : Int)) (5 : Nat)) (f ((0 : Nat) + Int.toNat (↑i : Int)) (6 : Nat)) (f ((0 : Nat) + Int.toNat (↑i : Int)) (7 : Nat)) (f ((0 : Nat) + Int.toNat (↑i : Int)) (8 : Nat))) (md (IntKind.wrap IntKind.i64 (n * f ((0 : Nat) + Int.toNat (↑i : Int)) (0 : Nat)))))) (6 : Nat))), AV.v (Value.int IntKind.i64 (ad (w8 a) (1 : Int) (w8 (tu (v8 (f ((0 : Nat) + Int.toNat (↑i : Int)) (1 : Nat)) (f ((0 : Nat) + Int.toNat (↑i : Int)) (2 : Nat)) (f ((0 : Nat) + Int.toNat (↑i : Int)) (3 : Nat)) (f ((0 : Nat) + Int.toNat (↑i : Int)) (4 : Nat)) (f ((0 : Nat) + Int.toNat (↑i : Int)) (5 : Nat)) (f ((0 : Nat) + Int.toNat (↑i : Int)) (6 : Nat)) (f ((0 : Nat) + Int.toNat (↑i : Int)) (7 : Nat)) (f ((0 : Nat) + Int.toNat (↑i : Int)) (8 : Nat))) (md (IntKind.wrap IntKind.i64 (n * f ((0 : Nat) + Int.toNat (↑i : Int)) (0 : Nat)))))) (7 : Nat)))] (51 : TypeId)]) else Res.out (Ex.exit (0 : Nat)) [AV.ptr (1 : Nat) (0 : Nat) (0 : Nat) (0 : Nat), AV.ptr (2 : Nat) (0 : Nat) (0 : Nat) (0 : Nat)] [AB.row false m (9 : Nat) (row9 f) t, AB.cells [AV.v (Value.int IntKind.i64 (0 : Int)), AV.v (Value.int IntKind.i64 (0 : Int)), AV.v (Value.int IntKind.i64 (0 : Int)), AV.v (Value.int IntKind.i64 (0 : Int)), AV.v (Value.int IntKind.i64 (0 : Int)), AV.v (Value.int IntKind.i64 (0 : Int)), AV.v (Value.int IntKind.i64 (0 : Int)), AV.v (Value.int IntKind.i64 (0 : Int))] (51 : TypeId), AB.cells [AV.v (Value.int IntKind.i64 (a (0 : Nat))), AV.v (Value.int IntKind.i64 (a (1 : Nat))), AV.v (Value.int IntKind.i64 (a (2 : Nat))), AV.v (Value.int IntKind.i64 (a (3 : Nat))), AV.v (Value.int IntKind.i64 (a (4 : Nat))), AV.v (Value.int IntKind.i64 (a (5 : Nat))), AV.v (Value.int IntKind.i64 (a (6 : Nat))), AV.v (Value.int IntKind.i64 (a (7 : Nat)))] (51 : TypeId)] := by kernel_rfl

noncomputable abbrev lamAt (m : Nat) (f : Nat → Nat → Int) (t : TypeId) (n : Int) (b : Nat → Int) : Nat → Option Sum := oneL 0 (atS 31 (lvAt .normal) 1 (stAt m n 0) (hpAt m f t fun _ => 0) (fun K => K .normal (mkT 0 31 [(4, .ptr 1 0 0 0), (5, .ptr 2 0 0 0)]) (hpAt m f t b)))
theorem treeAt (m : Nat) (f : Nat → Nat → Int) (t : TypeId) (n : Int) (b : Nat → Int) : execF Tryz.prog g0 (lamAt m f t n b) 100 Tryz.f63 [.sl 0 9 0 0 m none, .v (i64 n)] [.row false m 9 (row9 f) t] (packK 1)
    = needs [chk ([AV.sl (0 : Nat) (9 : Nat) (0 : Nat) (0 : Nat) m none, AV.v (Value.int IntKind.i64 n), AV.ptr (1 : Nat) (0 : Nat) (0 : Nat) (0 : Nat), AV.ptr (2 : Nat) (0 : Nat) (0 : Nat) (0 : Nat), AV.v (Value.int IntKind.i64 (0 : Int))] = stAt m n (0 : Nat) ∧ Hsim [AB.row false m (9 : Nat) (row9 f) t, AB.cells [AV.v (Value.int IntKind.i64 (0 : Int)), AV.v (Value.int IntKind.i64 (0 : Int)), AV.v (Value.int IntKind.i64 (0 : Int)), AV.v (Value.int IntKind.i64 (0 : Int)), AV.v (Value.int IntKind.i64 (0 : Int)), AV.v (Value.int IntKind.i64 (0 : Int)), AV.v (Value.int IntKind.i64 (0 : Int)), AV.v (Value.int IntKind.i64 (0 : Int))] (51 : Nat), AB.cells [AV.v (Value.int IntKind.i64 (0 : Int)), AV.v (Value.int IntKind.i64 (0 : Int)), AV.v (Value.int IntKind.i64 (0 : Int)), AV.v (Value.int IntKind.i64 (0 : Int)), AV.v (Value.int IntKind.i64 (0 : Int)), AV.v (Value.int IntKind.i64 (0 : Int)), AV.v (Value.int IntKind.i64 (0 : Int)), AV.v (Value.int IntKind.i64 (0 : Int))] (51 : Nat)] (hpAt m f t fun _ ↦ (0 : Int)))] (Res.out Ex.ret [AV.agg [AV.v (Value.int IntKind.i64 (b (0 : Nat))), AV.v (Value.int IntKind.i64 (b (1 : Nat))), AV.v (Value.int IntKind.i64 (b (2 : Nat))), AV.v (Value.int IntKind.i64 (b (3 : Nat))), AV.v (Value.int IntKind.i64 (b (4 : Nat))), AV.v (Value.int IntKind.i64 (b (5 : Nat))), AV.v (Value.int IntKind.i64 (b (6 : Nat))), AV.v (Value.int IntKind.i64 (b (7 : Nat)))]] [AB.row false m (9 : Nat) (row9 f) t]) := by kernel_rfl

theorem fMd_eq : fMd (fun n => n % 24) = f_l1Mod := by
  funext l
  rfl
theorem FtuO_eq : FtuO (fun a n => turnedF a n.toNat) = F_turned := by
  funext l
  rfl
theorem gmAt_ok : GamOk Tryz.prog (gmAt (fun n => n % 24) (fun a n => turnedF a n.toNat) sumF) := by
  unfold gmAt
  rw [fMd_eq, FtuO_eq, fAdd3_eq]
  exact ext_ok (ext_ok (ext_ok g0_ok ok_l1Mod) ok_turnedS) ok_l2Sum
/-- The sum of the turned radii. -/
def atF (f : Nat → Nat → Int) (n : Int) : Nat → Nat → Int
  | 0 => fun _ => 0
  | i + 1 => sumF (atF f n i) 1 (turnedF (v8 (f i 1) (f i 2) (f i 3) (f i 4) (f i 5) (f i 6) (f i 7) (f i 8)) (IntKind.wrap IntKind.i64 (n * f i 0) % 24).toNat)
theorem sumAt (m : Nat) (f : Nat → Nat → Int) (t : TypeId) (n : Int) (hm : m ≤ 2 ^ 40) :
    SumOk Tryz.prog 1 (.block 0 (.loop (loopAt 0 Tryz.f63))) (atS 31 (lvAt .normal) 1 (stAt m n 0) (hpAt m f t fun _ => 0) (fun K => K .normal (mkT 0 31 [(4, .ptr 1 0 0 0), (5, .ptr 2 0 0 0)]) (hpAt m f t (atF f n m)))) := by
  refine for_at gmAt_ok (n := 100) (m := 1) (lv := lvAt) (fun i => stAt m n i) (fun i => hpAt m f t (atF f n i)) (fun _ => True) m (fun _ => noLam) (lv3_ris rfl rfl rfl) (Nat.le_refl _) trivial fun K Q hk i hi him => ⟨noLam_ok _ _ _, ?_⟩
  rw [rndAt]
  refine good_cond (fun c1 => ?_) fun c1 => ?_
  · have c1 := of_decide_eq_true c1
    have c1' : i < m := by omega
    rw [Int.toNat_natCast, Nat.zero_add, wr_in (x := (i : Int) + 1) (by omega)]
    refine good_needs (by simp only [ob_cons, ob_nil, and_true, decide_eq_true_eq]; omega) (good_out ⟨i + 1, ⟨rfl, c1', trivial⟩, rfl, Hsim.refl _⟩)
  · have c1 := of_decide_eq_false c1
    have : i = m := by omega
    subst this
    refine good_out ⟨_, Hsim.refl _, ?_⟩
    rw [if_pos rfl]
    exact hk

def FatO (at_ : (Nat → Nat → Int) → Int → Nat → Nat → Int) : List SA → Option FR
  | [.row m g, .v (.int .i64 n)] => some { val := .agg (cyC (at_ (itW g) n m)), obl := [allW m g, decide (m ≤ 2 ^ 38)] }
  | _ => none
theorem atF_row (g : Nat → Nat → Int) (n : Int) (m : Nat) : atF (itW (row9 g)) n m = atF g n m := by
  induction m with
  | zero => rfl
  | succ m ih => rw [atF, ih]; rfl
theorem ok_l5At : SpecOk Tryz.prog 63 (specR md_wv (FatO atF)) := by
  refine specR_hr g0_ok Tryz.func63 rfl fun sas fr hF ho => ?_
  unfold FatO at hF
  split at hF
  · rename_i m g n
    cases hF
    simp only [ob_cons] at ho
    obtain ⟨h1, h2, _⟩ := ho
    have hm := of_decide_eq_true h2
    refine ⟨[.row false m 9 (row9 (itW g)) 53], lamAt m (itW g) 53 n (atF (itW g) n m), 100, .cons (ABeq.row fun j hj => allW_get h1 j hj) .nil, lam1 (by kernel_rfl) (sumAt m (itW g) 53 n (by omega)), ?_⟩
    show GoodQ (execF Tryz.prog g0 (lamAt m (itW g) 53 n (atF (itW g) n m)) 100 Tryz.f63 [.sl 0 9 0 0 m none, .v (i64 n)] [.row false m 9 (row9 (itW g)) 53] (packK 1)) _
    rw [treeAt]
    exact good_needs (by rw [ob_cons]; exact ⟨chk_of ⟨rfl, Hsim.refl _⟩, rfl⟩) (good_out ⟨_, rfl, rfl, .cons (ABeq.row fun j hj => (allW_get h1 j hj).symm) .nil⟩)
  · cases hF

def FdoO (dn : (Nat → Int) → Nat → Int) (ok : (Nat → Int) → Bool) : List SA → Option FR
  | [.v (.agg ⟨[.int .i64 a0, .int .i64 a1, .int .i64 a2, .int .i64 a3, .int .i64 a4, .int .i64 a5, .int .i64 a6, .int .i64 a7]⟩)] => some { val := .tup [.agg (cyC (dn (v8 a0 a1 a2 a3 a4 a5 a6 a7))), .v (.bool (ok (v8 a0 a1 a2 a3 a4 a5 a6 a7)))] }
  | _ => none
theorem FdoO_eq : FdoO doneC (fun v => cyOk (cyOf v)) = F_l2Done := by
  funext l
  rfl
def gmDA (at_ : (Nat → Nat → Int) → Int → Nat → Nat → Int) (dn : (Nat → Int) → Nat → Int) (ok : (Nat → Int) → Bool) : Gam := ext (ext (ext (ext g0 58 (specR md_ws F_dv)) 61 (specV f_l1Is)) 63 (specR md_wv (FatO at_))) 62 (specR [.val] (FdoO dn ok))
theorem treeDA (at_ : (Nat → Nat → Int) → Int → Nat → Nat → Int) (dn : (Nat → Int) → Nat → Int) (ok : (Nat → Int) → Bool) (m : Nat) (f : Nat → Nat → Int) (t : TypeId) (n : Int) : execF Tryz.prog (gmDA at_ dn ok) noLam 100 Tryz.f37 [.sl 0 9 0 0 m none, .v (i64 n)] [.row false m 9 (row9 f) t] (packK 1)
    = needs [Nat.ble ((0 : Nat) + m) m, allW m fun q ↦ row9 f ((0 : Nat) + q), decide (m ≤ (549755813888 : Nat))] (bif !okD (listW (itW fun q ↦ row9 f ((0 : Nat) + q)) m) then Res.out Ex.ret [AV.tup [AV.agg [AV.v (Value.int IntKind.i64 (0 : Int)), AV.v (Value.int IntKind.i64 (0 : Int)), AV.v (Value.int IntKind.i64 (0 : Int)), AV.v (Value.int IntKind.i64 (0 : Int)), AV.v (Value.int IntKind.i64 (0 : Int)), AV.v (Value.int IntKind.i64 (0 : Int)), AV.v (Value.int IntKind.i64 (0 : Int)), AV.v (Value.int IntKind.i64 (0 : Int))], AV.v (Value.bool false)]] [AB.row false m (9 : Nat) (row9 f) t] else bif !inR n (0 : Int) (23 : Int) then Res.out Ex.ret [AV.tup [AV.agg [AV.v (Value.int IntKind.i64 (0 : Int)), AV.v (Value.int IntKind.i64 (0 : Int)), AV.v (Value.int IntKind.i64 (0 : Int)), AV.v (Value.int IntKind.i64 (0 : Int)), AV.v (Value.int IntKind.i64 (0 : Int)), AV.v (Value.int IntKind.i64 (0 : Int)), AV.v (Value.int IntKind.i64 (0 : Int)), AV.v (Value.int IntKind.i64 (0 : Int))], AV.v (Value.bool false)]] [AB.row false m (9 : Nat) (row9 f) t] else needs [Nat.ble ((0 : Nat) + m) m, allW m fun q ↦ row9 f ((0 : Nat) + q), decide (m ≤ (274877906944 : Nat))] (Res.out Ex.ret [AV.tup [AV.agg [AV.v (Value.int IntKind.i64 (dn (w8 (at_ (itW fun q ↦ row9 f ((0 : Nat) + q)) n m)) (0 : Nat))), AV.v (Value.int IntKind.i64 (dn (w8 (at_ (itW fun q ↦ row9 f ((0 : Nat) + q)) n m)) (1 : Nat))), AV.v (Value.int IntKind.i64 (dn (w8 (at_ (itW fun q ↦ row9 f ((0 : Nat) + q)) n m)) (2 : Nat))), AV.v (Value.int IntKind.i64 (dn (w8 (at_ (itW fun q ↦ row9 f ((0 : Nat) + q)) n m)) (3 : Nat))), AV.v (Value.int IntKind.i64 (dn (w8 (at_ (itW fun q ↦ row9 f ((0 : Nat) + q)) n m)) (4 : Nat))), AV.v (Value.int IntKind.i64 (dn (w8 (at_ (itW fun q ↦ row9 f ((0 : Nat) + q)) n m)) (5 : Nat))), AV.v (Value.int IntKind.i64 (dn (w8 (at_ (itW fun q ↦ row9 f ((0 : Nat) + q)) n m)) (6 : Nat))), AV.v (Value.int IntKind.i64 (dn (w8 (at_ (itW fun q ↦ row9 f ((0 : Nat) + q)) n m)) (7 : Nat)))], AV.v (Value.bool (ok (w8 (at_ (itW fun q ↦ row9 f ((0 : Nat) + q)) n m))))]] [AB.row false m (9 : Nat) (row9 f) t])) := by kernel_rfl

end Go.Proofs.YteadmfceniidcaaGreatDoor

/- l5Each, the reference's. Conditions: a list of wheels. -/
namespace Go.Proofs.YteadmfceniidcaaGreatDoor
open Go.RowKit
set_option maxRecDepth 100000

def fIsO (ok : Int → Bool) : List Value → Option (Value × List Bool)
  | [.int .i64 n] => some (.bool (ok n), [])
  | _ => none
def FtidyO (ti : List Wh → List Wh) (okt : List Wh → Bool) : List SA → Option FR
  | [.row m g] => some { val := .tup [.own 0 (ti (listW (itW g) m)).length, .v (.bool (okt (listW (itW g) m)))], new := [.row true (ti (listW (itW g) m)).length 9 (row9 (wfun (ti (listW (itW g) m)))) 53], obl := [allW m g, decide (m ≤ 2 ^ 38)] }
  | _ => none
abbrev lvEa : Ex → List Nat := lv3 [0, 1, 2, 3, 4, 12, 13] [12] [10, 11]
abbrev stEa (m : Nat) (sp tn la : Int) (mir : Bool) (n i : Nat) : List AV := [.sl 0 9 0 0 m none, .v (i64 sp), .v (i64 tn), .v (i64 la), .v (.bool mir), .own 1 n, .v (i64 i)]
noncomputable abbrev lamEa (m : Nat) (f : Nat → Nat → Int) (t : TypeId) (sp tn la : Int) (mir : Bool) (n : Nat) (h : Nat → Nat → Int) : Nat → Option Sum := oneL 0 (atS 71 (lvEa .normal) 1 (stEa m sp tn la mir 0 0) (hpTI m f t 0 (wfun [])) (fun K => K .normal (mkT 0 71 [(12, .own 1 n)]) (hpTI m f t n h)))
def gmE2 (okd : List Wh → Bool) (is : Int → Bool) (ti : List Wh → List Wh) (okt : List Wh → Bool) : Gam := ext (ext (ext g0 58 (specR md_ws (FdvO okd))) 61 (specV (fIsO is))) 59 (specR md_ws (FtidyO ti okt))
theorem fIsO_eq : fIsO (fun n => inR n 0 23) = f_l1Is := by
  funext l
  rfl
theorem FtidyO_eq : FtidyO tidyL okT = F_tidy := by
  funext l
  rfl
theorem gmE2_ok : GamOk Tryz.prog (gmE2 okD (fun n => inR n 0 23) tidyL okT) := by
  unfold gmE2
  rw [fIsO_eq, FtidyO_eq, FdvO_eq]
  exact ext_ok (ext_ok (ext_ok g0_ok ok_dv) ok_l1Is) ok_tidyS
/-- One wheel, changed by the reference. -/
def chE (sp tn la : Int) (mir : Bool) (w : Wh) : Wh := ⟨IntKind.wrap IntKind.i64 (sp * w.s), cyOf (turnedF (bif mir then w8 (mirF w.r.f) else w.r.f) ((IntKind.wrap IntKind.i64 (tn + IntKind.wrap IntKind.i64 (la * w.s))) % 24).toNat)⟩
def eachP (tn la : Int) (L : List Wh) : Bool := okD L && (inR tn 0 23 && inR la 0 23)
def eachOk (sp tn la : Int) (mir : Bool) (L : List Wh) : Bool := eachP tn la L && okT (L.map (chE sp tn la mir))
def eachL (sp tn la : Int) (mir : Bool) (L : List Wh) : List Wh := bif eachP tn la L then tidyL (L.map (chE sp tn la mir)) else []
def FeaO (ok : Int → Int → Int → Bool → List Wh → Bool) (el : Int → Int → Int → Bool → List Wh → List Wh) : List SA → Option FR
  | [.row m g, .v (.int .i64 sp), .v (.int .i64 tn), .v (.int .i64 la), .v (.bool mir)] => some { val := .tup [.own 0 (el sp tn la mir (listW (itW g) m)).length, .v (.bool (ok sp tn la mir (listW (itW g) m)))], new := [.row true (el sp tn la mir (listW (itW g) m)).length 9 (row9 (wfun (el sp tn la mir (listW (itW g) m)))) 53], obl := [allW m g, decide (m ≤ 2 ^ 38)] }
  | _ => none
def md_ea : List Md := [.rd 9 53, .val, .val, .val, .val]
/-- Two lists of one length. -/
abbrev hpQW (m : Nat) (f h : Nat → Nat → Int) : List AB := [.row false m 9 (row9 f) 53, .row false m 9 (row9 h) 53]

end Go.Proofs.YteadmfceniidcaaGreatDoor

/- Helpers on what l5Each and the changes come to. No conditions. -/
namespace Go.Proofs.YteadmfceniidcaaGreatDoor
open Go.RowKit
set_option maxRecDepth 100000

def md_eqWS : List Md := [.rd 9 53, .rd 9 53]
theorem ble_me (n : Nat) : Nat.ble n n = true := by simp
theorem needs_nil (r : Res) : needs [] r = r := rfl
theorem needs_t (l : List Bool) (r : Res) : needs (true :: l) r = needs l r := rfl
theorem le_b {m n : Nat} (h : m ≤ n) : decide (m ≤ n) = true := decide_eq_true h
theorem itW_row (f : Nat → Nat → Int) (j : Nat) : ∀ k, k < 9 → itW (row9 f) j k = f j k := by
  intro k hk
  rcases (by omega : k = 0 ∨ k = 1 ∨ k = 2 ∨ k = 3 ∨ k = 4 ∨ k = 5 ∨ k = 6 ∨ k = 7 ∨ k = 8) with rfl | rfl | rfl | rfl | rfl | rfl | rfl | rfl | rfl <;> rfl
theorem map_same {c d : Wh → Wh} {L : List Wh} (h : ∀ w ∈ L, c w = d w) : L.map c = L.map d := List.map_congr_left h
theorem tidyL_no {L : List Wh} (h : okT L = false) : tidyL L = [] := by
  unfold okT at h
  unfold tidyL
  cases e : tidyS L with
  | none => rfl
  | some T => rw [e] at h; cases h
theorem tidyL_len {L : List Wh} (h : okT L = true) : (tidyL L).length ≤ 12 := by
  unfold okT at h
  unfold tidyL
  cases e : tidyS L with
  | none => rw [e] at h; cases h
  | some T =>
    unfold tidyS at e
    split at e
    · split at e
      · rename_i hv
        cases e
        rw [dValid, Bool.and_eq_true] at hv
        exact of_decide_eq_true hv.1
      · cases e
    · cases e
/-- Where the lists agree, so do the tidy ones. -/
theorem each_yes {sp tn la : Int} {mir : Bool} {L M : List Wh} (hp : eachP tn la L = true) (hM : L.map (chE sp tn la mir) = M) (ht : okT M = true) : eachL sp tn la mir L = tidyL M ∧ eachOk sp tn la mir L = true := by
  subst hM
  refine ⟨?_, ?_⟩
  · rw [eachL, hp]; rfl
  · rw [eachOk, hp, ht]; rfl
theorem each_no {sp tn la : Int} {mir : Bool} {L : List Wh} (h : eachP tn la L = true → okT (L.map (chE sp tn la mir)) = false) : eachL sp tn la mir L = [] ∧ eachOk sp tn la mir L = false := by
  cases hp : eachP tn la L with
  | false => exact ⟨by rw [eachL, hp]; rfl, by rw [eachOk, hp]; rfl⟩
  | true => exact ⟨by rw [eachL, hp]; exact tidyL_no (h hp), by rw [eachOk, hp, h hp]; rfl⟩
theorem wr_w (x : Int) : IntKind.wrap IntKind.i64 (IntKind.wrap IntKind.i64 x) = IntKind.wrap IntKind.i64 x := w64_w64 x
theorem chMi_same (w : Wh) : chMi w = chE (-1) 0 0 true w := by
  have e1 : (-1 : Int) * w.s = 0 - w.s := by omega
  have e2 : (IntKind.wrap IntKind.i64 ((0 : Int) + IntKind.wrap IntKind.i64 (0 * w.s)) % 24).toNat = 0 := by rw [Int.zero_mul]; rfl
  rw [chMi, chE, e1, e2]
  rfl

theorem chTu_same {x : Int} (hx : inR x 0 23 = true) {w : Wh} (h1 : -1000 ≤ w.s ∧ w.s ≤ 1000) : chTu x w = chE 1 x 0 false w := by
  have hx := inR_iff.1 hx
  have e1 : IntKind.wrap IntKind.i64 (1 * w.s) = w.s := by rw [Int.one_mul, wr_in (by omega)]
  have e2 : IntKind.wrap IntKind.i64 (x + IntKind.wrap IntKind.i64 (0 * w.s)) = x := by
    rw [Int.zero_mul, wr_in (x := 0) (by omega), Int.add_zero, wr_in (by omega)]
  rw [chTu, chE, e1, e2]
  rfl
theorem chLa_same {x : Int} (hx : inR x 0 23 = true) {w : Wh} (h1 : -1000 ≤ w.s ∧ w.s ≤ 1000) : chLa x w = chE 1 0 x false w := by
  have hx := inR_iff.1 hx
  have e1 : IntKind.wrap IntKind.i64 (1 * w.s) = w.s := by rw [Int.one_mul, wr_in (by omega)]
  have e2 : IntKind.wrap IntKind.i64 (0 + IntKind.wrap IntKind.i64 (x * w.s)) = IntKind.wrap IntKind.i64 (x * w.s) := by
    rw [Int.zero_add, wr_w]
  rw [chLa, chE, e1, e2]
  rfl

end Go.Proofs.YteadmfceniidcaaGreatDoor

/- DesignAt, the reference's: its word. Conditions: a list of wheels. -/
namespace Go.Proofs.YteadmfceniidcaaGreatDoor
open Go.RowKit
set_option maxRecDepth 100000

theorem gmDA_ok : GamOk Tryz.prog (gmDA atF doneC (fun v => cyOk (cyOf v))) := by
  unfold gmDA
  rw [FdoO_eq]
  exact ext_ok (ext_ok (ext_ok (ext_ok g0_ok ok_dv) ok_l1Is) ok_l5At) ok_l2Done
theorem zero_row9 (f : Nat → Nat → Int) : (fun q => row9 f (0 + q)) = row9 f := by
  funext q
  rw [Nat.zero_add]
def daOk (f : Nat → Nat → Int) (n : Int) (m : Nat) : Bool := okD (listW f m) && inR n 0 23 && cyOk (cyOf (atF f n m))
def daV (f : Nat → Nat → Int) (n : Int) (m : Nat) : Nat → Int := bif daOk f n m then atF f n m else fun _ => 0
def F_DA : List SA → Option FR
  | [.row m g, .v (.int .i64 n)] => some { val := .tup [.agg (cyC (daV (itW g) n m)), .v (.bool (daOk (itW g) n m))], obl := [allW m g, decide (m ≤ 2 ^ 38)] }
  | _ => none
theorem ok_DA : SpecOk Tryz.prog 37 (specR md_wv F_DA) := by
  refine specR_hr gmDA_ok Tryz.func37 rfl fun sas fr hF ho => ?_
  unfold F_DA at hF
  split at hF
  · rename_i m g n
    cases hF
    simp only [ob_cons] at ho
    obtain ⟨h1, h2, _⟩ := ho
    have hm := of_decide_eq_true h2
    refine ⟨[.row false m 9 (row9 (itW g)) 53], noLam, 100, .cons (ABeq.row fun j hj => allW_get h1 j hj) .nil, noLam' _, ?_⟩
    show GoodQ (execF Tryz.prog (gmDA atF doneC (fun v => cyOk (cyOf v))) noLam 100 Tryz.f37 [.sl 0 9 0 0 m none, .v (i64 n)] [.row false m 9 (row9 (itW g)) 53] (packK 1)) _
    rw [treeDA, zero_row9, listW_itW, atF_row]
    have fin : ∀ (c : Bool) (b : Nat → Int), daOk (itW g) n m = c → cyC b = cyC (bif c then atF (itW g) n m else fun _ => 0) → GoodQ (.out .ret [.tup [.agg (cyC b), .v (.bool c)]] [.row false m 9 (row9 (itW g)) 53])
        (GivR (abP md_wv [.row m g, .v (.int .i64 n)] []) { val := .tup [.agg (cyC (daV (itW g) n m)), .v (.bool (daOk (itW g) n m))], obl := [allW m g, decide (m ≤ 2 ^ 38)] }) := by
      rintro c b rfl hb
      refine good_out ⟨_, rfl, ?_, .cons (ABeq.row fun j hj => (allW_get h1 j hj).symm) .nil⟩
      rw [hb]
      rfl
    have ob : ∀ k : Nat, m ≤ k → obls [Nat.ble (0 + m) m, allW m (row9 (itW g)), decide (m ≤ k)] = true := fun k hk => by
      simp only [ob_cons, ob_nil, and_true, decide_eq_true_eq, Nat.ble_eq, allW_row, true_and, Nat.zero_add, Nat.le_refl]
      exact hk
    refine good_needs (ob _ (by omega)) (good_cond (fun q => ?_) fun q => ?_)
    · have q : okD (listW (itW g) m) = false := by simpa using q
      exact fin false (fun _ => 0) (by unfold daOk; rw [q]; rfl) rfl
    · have q : okD (listW (itW g) m) = true := by simpa using q
      refine good_cond (fun q2 => ?_) fun q2 => ?_
      · have q2 : inR n 0 23 = false := by simpa using q2
        exact fin false (fun _ => 0) (by unfold daOk; rw [q, q2]; rfl) rfl
      · have q2 : inR n 0 23 = true := by simpa using q2
        refine good_needs (ob _ (by omega)) ?_
        refine fin (cyOk (cyOf (atF (itW g) n m))) (doneC (w8 (atF (itW g) n m))) (by unfold daOk; rw [q, q2]; rfl) ?_
        have e : cyOf (w8 (atF (itW g) n m)) = cyOf (atF (itW g) n m) := rfl
        unfold doneC
        rw [e]
        cases cyOk (cyOf (atF (itW g) n m)) <;> rfl
  · cases hF

end Go.Proofs.YteadmfceniidcaaGreatDoor

/- impl.at and the program's DesignAt: the reference's word. Conditions: a list of wheels. -/
namespace Go.Proofs.YteadmfceniidcaaGreatDoor
open Go.RowKit
set_option maxRecDepth 100000

def gmAI (tu : (Nat → Int) → Int → Nat → Int) (ad : (Nat → Int) → (Nat → Int) → Nat → Int) : Gam := ext (ext g0 104 (specR [.val, .val] (FtuI tu))) 103 (specV (fAdd2 ad))
abbrev lvAI : Ex → List Nat := lv3 [1, 4, 5, 8, 9, 10] [4, 5] [4]
abbrev stAI (m : Nat) (n : Int) (i : Nat) : List AV := [.v (i64 n), .ptr 1 0 0 0, .ptr 2 0 0 0, .sl 0 9 0 0 m none, .v (i64 m), .v (i64 i)]
theorem rndAI (tu : (Nat → Int) → Int → Nat → Int) (ad : (Nat → Int) → (Nat → Int) → Nat → Int) (m : Nat) (f : Nat → Nat → Int) (t : TypeId) (n : Int) (a : Nat → Int) (i : Nat) : execC Tryz.prog (gmAI tu ad) 100 noLam (loopAt 0 Tryz.f69) (mkT 0 25 ((lvAI .normal).zip (stAI m n i))) (hpAt m f t a) (leafV 25 lvAI 1)
    = bif decide ((↑i : Int) < (↑m : Int)) then needs [decide ((↑i : Int) < (↑m : Int)), decide ((0 : Nat) + Int.toNat (↑i : Int) < m), inB (v8 (f ((0 : Nat) + Int.toNat (↑i : Int)) (1 : Nat)) (f ((0 : Nat) + Int.toNat (↑i : Int)) (2 : Nat)) (f ((0 : Nat) + Int.toNat (↑i : Int)) (3 : Nat)) (f ((0 : Nat) + Int.toNat (↑i : Int)) (4 : Nat)) (f ((0 : Nat) + Int.toNat (↑i : Int)) (5 : Nat)) (f ((0 : Nat) + Int.toNat (↑i : Int)) (6 : Nat)) (f ((0 : Nat) + Int.toNat (↑i : Int)) (7 : Nat)) (f ((0 : Nat) + Int.toNat (↑i : Int)) (8 : Nat))), inR (IntKind.wrap IntKind.i64 (n * f ((0 : Nat) + Int.toNat (↑i : Int)) (0 : Nat))) (-9223372036854775808 : Int) (9223372036854775807 : Int)] (Res.out Ex.normal [AV.v (Value.int IntKind.i64 n), AV.ptr (1 : Nat) (0 : Nat) (0 : Nat) (0 : Nat), AV.ptr (2 : Nat) (0 : Nat) (0 : Nat) (0 : Nat), AV.sl (0 : Nat) (9 : Nat) (0 : Nat) (0 : Nat) m none, AV.v (Value.int IntKind.i64 (↑m : Int)), AV.v (Value.int IntKind.i64 (IntKind.wrap IntKind.i64 ((↑i : Int) + (1 : Int))))] [AB.row false m (9 : Nat) (row9 f) t, AB.cells [AV.v (Value.int IntKind.i64 (0 : Int)), AV.v (Value.int IntKind.i64 (0 : Int)), AV.v (Value.int IntKind.i64 (0 : Int)), AV.v (Value.int IntKind.i64 (0 : Int)), AV.v (Value.int IntKind.i64 (0 : Int)), AV.v (Value.int IntKind.i64 (0 : Int)), AV.v (Value.int IntKind.i64 (0 : Int)), AV.v (Value.int IntKind.i64 (0 : Int))] (51 : TypeId), AB.cells [AV.v (Value.int IntKind.i64 (ad (w8 a) (w8 (tu (v8 (f ((0 : Nat) + Int.toNat (↑i : Int)) (1 : Nat)) (f ((0 : Nat) + Int.toNat (↑i : Int)) (2 : Nat)) (f ((0 : Nat) + Int.toNat (↑i : Int)) (3 : Nat)) (f ((0 : Nat) + Int.toNat (↑i : Int)) (4 : Nat)) (f ((0 : Nat) + Int.toNat (↑i : Int)) (5 : Nat)) (f ((0 : Nat) + Int.toNat (↑i : Int)) (6 : Nat)) (f ((0 : Nat) + Int.toNat (↑i : Int)) (7 : Nat)) (f ((0 : Nat) + Int.toNat (↑i : Int)) (8 : Nat))) (IntKind.wrap IntKind.i64 (n * f ((0 : Nat) + Int.toNat (↑i : Int)) (0 : Nat))))) (0 : Nat))), AV.v (Value.int IntKind.i64 (ad (w8 a) (w8 (tu (v8 (f ((0 : Nat) + Int.toNat (↑i : Int)) (1 : Nat)) (f ((0 : Nat) + Int.toNat (↑i : Int)) (2 : Nat)) (f ((0 : Nat) + Int.toNat (↑i : Int)) (3 : Nat)) (f ((0 : Nat) + Int.toNat (↑i : Int)) (4 : Nat)) (f ((0 : Nat) + Int.toNat (↑i : Int)) (5 : Nat)) (f ((0 : Nat) + Int.toNat (↑i : Int)) (6 : Nat)) (f ((0 : Nat) + Int.toNat (↑i : Int)) (7 : Nat)) (f ((0 : Nat) + Int.toNat (↑i : Int)) (8 : Nat))) (IntKind.wrap IntKind.i64 (n * f ((0 : Nat) + Int.toNat (↑i : Int)) (0 : Nat))))) (1 : Nat))), AV.v (Value.int IntKind.i64 (ad (w8 a) (w8 (tu (v8 (f ((0 : Nat) + Int.toNat (↑i : Int)) (1 : Nat)) (f ((0 : Nat) + Int.toNat (↑i : Int)) (2 : Nat)) (f ((0 : Nat) + Int.toNat (↑i : Int)) (3 : Nat)) (f ((0 : Nat) + Int.toNat (↑i : Int)) (4 : Nat)) (f ((0 : Nat) + Int.toNat (↑i : Int)) (5 : Nat)) (f ((0 : Nat) + Int.toNat (↑i : Int)) (6 : Nat)) (f ((0 : Nat) + Int.toNat (↑i : Int)) (7 : Nat)) (f ((0 : Nat) + Int.toNat (↑i : Int)) (8 : Nat))) (IntKind.wrap IntKind.i64 (n * f ((0 : Nat) + Int.toNat (↑i : Int)) (0 : Nat))))) (2 : Nat))), AV.v (Value.int IntKind.i64 (ad (w8 a) (w8 (tu (v8 (f ((0 : Nat) + Int.toNat (↑i : Int)) (1 : Nat)) (f ((0 : Nat) + Int.toNat (↑i : Int)) (2 : Nat)) (f ((0 : Nat) + Int.toNat (↑i : Int)) (3 : Nat)) (f ((0 : Nat) + Int.toNat (↑i : Int)) (4 : Nat)) (f ((0 : Nat) + Int.toNat (↑i : Int)) (5 : Nat)) (f ((0 : Nat) + Int.toNat (↑i : Int)) (6 : Nat)) (f ((0 : Nat) + Int.toNat (↑i : Int)) (7 : Nat)) (f ((0 : Nat) + Int.toNat (↑i : Int)) (8 : Nat))) (IntKind.wrap IntKind.i64 (n * f ((0 : Nat) + Int.toNat (↑i : Int)) (0 : Nat))))) (3 : Nat))), AV.v (Value.int IntKind.i64 (ad (w8 a) (w8 (tu (v8 (f ((0 : Nat) + Int.toNat (↑i : Int)) (1 : Nat)) (f ((0 : Nat) + Int.toNat (↑i : Int)) (2 : Nat)) (f ((0 : Nat) + Int.toNat (↑i : Int)) (3 : Nat)) (f ((0 : Nat) + Int.toNat (↑i : Int)) (4 : Nat)) (f ((0 : Nat) + Int.toNat (↑i : Int)) (5 : Nat)) (f ((0 : Nat) + Int.toNat (↑i : Int)) (6 : Nat)) (f ((0 : Nat) + Int.toNat (↑i : Int)) (7 : Nat)) (f ((0 : Nat) + Int.toNat (↑i : Int)) (8 : Nat))) (IntKind.wrap IntKind.i64 (n * f ((0 : Nat) + Int.toNat (↑i : Int)) (0 : Nat))))) (4 : Nat))), AV.v (Value.int IntKind.i64 (ad (w8 a) (w8 (tu (v8 (f ((0 : Nat) + Int.toNat (↑i : Int)) (1 : Nat)) (f ((0 : Nat) + Int.toNat (↑i : Int)) (2 : Nat)) (f ((0 : Nat) + Int.toNat (↑i : Int)) (3 : Nat)) (f ((0 : Nat) + Int.toNat (↑i : Int)) (4 : Nat)) (f ((0 : Nat) + Int.toNat (↑i : Int)) (5 : Nat)) (f ((0 : Nat) + Int.toNat (↑i : Int)) (6 : Nat)) (f ((0 : Nat) + Int.toNat (↑i : Int)) (7 : Nat)) (f ((0 : Nat) + Int.toNat (↑i : Int)) (8 : Nat))) (IntKind.wrap IntKind.i64 (n * f ((0 : Nat) + Int.toNat (↑i : Int)) (0 : Nat))))) (5 : Nat))), AV.v (Value.int IntKind.i64 (ad (w8 a) (w8 (tu (v8 (f ((0 : Nat) + Int.toNat (↑i : Int)) (1 : Nat)) (f ((0 : Nat) + Int.toNat (↑i : Int)) (2 : Nat)) (f ((0 : Nat) + Int.toNat (↑i : Int)) (3 : Nat)) (f ((0 : Nat) + Int.toNat (↑i : Int)) (4 : Nat)) (f ((0 : Nat) + Int.toNat (↑i : Int)) (5 : Nat)) (f ((0 : Nat) + Int.toNat (↑i : Int)) (6 : Nat)) (f ((0 : Nat) + Int.toNat (↑i : Int)) (7 : Nat)) (f ((0 : Nat) + Int.toNat (↑i : Int)) (8 : Nat))) (IntKind.wrap IntKind.i64 (n * f ((0 : Nat) + Int.toNat (↑i : Int)) (0 : Nat))))) (6 : Nat))), AV.v (Value.int IntKind.i64 (ad (w8 a) (w8 (tu (v8 (f ((0 : Nat) + Int.toNat (↑i : Int)) (1 : Nat)) (f ((0 : Nat) + Int.toNat (↑i : Int)) (2 : Nat)) (f ((0 : Nat) + Int.toNat (↑i : Int)) (3 : Nat)) (f ((0 : Nat) + Int.toNat (↑i : Int)) (4 : Nat)) (f ((0 : Nat) + Int.toNat (↑i : Int)) (5 : Nat)) (f ((0 : Nat) + Int.toNat (↑i : Int)) (6 : Nat)) (f ((0 : Nat) + Int.toNat (↑i : Int)) (7 : Nat)) (f ((0 : Nat) + Int.toNat (↑i : Int)) (8 : Nat))) (IntKind.wrap IntKind.i64 (n * f ((0 : Nat) + Int.toNat (↑i : Int)) (0 : Nat))))) (7 : Nat)))] (51 : TypeId)]) else Res.out (Ex.exit (0 : Nat)) [AV.ptr (1 : Nat) (0 : Nat) (0 : Nat) (0 : Nat), AV.ptr (2 : Nat) (0 : Nat) (0 : Nat) (0 : Nat)] [AB.row false m (9 : Nat) (row9 f) t, AB.cells [AV.v (Value.int IntKind.i64 (0 : Int)), AV.v (Value.int IntKind.i64 (0 : Int)), AV.v (Value.int IntKind.i64 (0 : Int)), AV.v (Value.int IntKind.i64 (0 : Int)), AV.v (Value.int IntKind.i64 (0 : Int)), AV.v (Value.int IntKind.i64 (0 : Int)), AV.v (Value.int IntKind.i64 (0 : Int)), AV.v (Value.int IntKind.i64 (0 : Int))] (51 : TypeId), AB.cells [AV.v (Value.int IntKind.i64 (a (0 : Nat))), AV.v (Value.int IntKind.i64 (a (1 : Nat))), AV.v (Value.int IntKind.i64 (a (2 : Nat))), AV.v (Value.int IntKind.i64 (a (3 : Nat))), AV.v (Value.int IntKind.i64 (a (4 : Nat))), AV.v (Value.int IntKind.i64 (a (5 : Nat))), AV.v (Value.int IntKind.i64 (a (6 : Nat))), AV.v (Value.int IntKind.i64 (a (7 : Nat)))] (51 : TypeId)] := by kernel_rfl

noncomputable abbrev lamAI (m : Nat) (f : Nat → Nat → Int) (t : TypeId) (n : Int) (b : Nat → Int) : Nat → Option Sum := oneL 0 (atS 25 (lvAI .normal) 1 (stAI m n 0) (hpAt m f t fun _ => 0) (fun K => K .normal (mkT 0 25 [(4, .ptr 1 0 0 0), (5, .ptr 2 0 0 0)]) (hpAt m f t b)))
theorem treeAI (m : Nat) (f : Nat → Nat → Int) (t : TypeId) (n : Int) (b : Nat → Int) : execF Tryz.prog g0 (lamAI m f t n b) 100 Tryz.f69 [.sl 0 9 0 0 m none, .v (i64 n)] [.row false m 9 (row9 f) t] (packK 1)
    = needs [chk ([AV.v (Value.int IntKind.i64 n), AV.ptr (1 : Nat) (0 : Nat) (0 : Nat) (0 : Nat), AV.ptr (2 : Nat) (0 : Nat) (0 : Nat) (0 : Nat), AV.sl (0 : Nat) (9 : Nat) (0 : Nat) (0 : Nat) m none, AV.v (Value.int IntKind.i64 (↑m : Int)), AV.v (Value.int IntKind.i64 (0 : Int))] = stAI m n (0 : Nat) ∧ Hsim [AB.row false m (9 : Nat) (row9 f) t, AB.cells [AV.v (Value.int IntKind.i64 (0 : Int)), AV.v (Value.int IntKind.i64 (0 : Int)), AV.v (Value.int IntKind.i64 (0 : Int)), AV.v (Value.int IntKind.i64 (0 : Int)), AV.v (Value.int IntKind.i64 (0 : Int)), AV.v (Value.int IntKind.i64 (0 : Int)), AV.v (Value.int IntKind.i64 (0 : Int)), AV.v (Value.int IntKind.i64 (0 : Int))] (51 : Nat), AB.cells [AV.v (Value.int IntKind.i64 (0 : Int)), AV.v (Value.int IntKind.i64 (0 : Int)), AV.v (Value.int IntKind.i64 (0 : Int)), AV.v (Value.int IntKind.i64 (0 : Int)), AV.v (Value.int IntKind.i64 (0 : Int)), AV.v (Value.int IntKind.i64 (0 : Int)), AV.v (Value.int IntKind.i64 (0 : Int)), AV.v (Value.int IntKind.i64 (0 : Int))] (51 : Nat)] (hpAt m f t fun _ ↦ (0 : Int)))] (Res.out Ex.ret [AV.agg [AV.v (Value.int IntKind.i64 (b (0 : Nat))), AV.v (Value.int IntKind.i64 (b (1 : Nat))), AV.v (Value.int IntKind.i64 (b (2 : Nat))), AV.v (Value.int IntKind.i64 (b (3 : Nat))), AV.v (Value.int IntKind.i64 (b (4 : Nat))), AV.v (Value.int IntKind.i64 (b (5 : Nat))), AV.v (Value.int IntKind.i64 (b (6 : Nat))), AV.v (Value.int IntKind.i64 (b (7 : Nat)))]] [AB.row false m (9 : Nat) (row9 f) t]) := by kernel_rfl

def FatI (at_ : (Nat → Nat → Int) → Int → Nat → Nat → Int) (okd : List Wh → Bool) : List SA → Option FR
  | [.row m g, .v (.int .i64 n)] => some { val := .agg (cyC (at_ (itW g) n m)), obl := [allW m g, decide (m ≤ 2 ^ 38), okd (listW (itW g) m)] }
  | _ => none
def gmDI (at_ : (Nat → Nat → Int) → Int → Nat → Nat → Int) (okd : List Wh → Bool) (ok : (Nat → Int) → Bool) : Gam := ext (ext (ext gm_within 69 (specR md_wv (FatI at_ okd))) 67 (specR md_ws (FdvO okd))) 102 (specV (fOkc ok))
theorem treeDI (at_ : (Nat → Nat → Int) → Int → Nat → Nat → Int) (okd : List Wh → Bool) (ok : (Nat → Int) → Bool) (m : Nat) (f : Nat → Nat → Int) (t : TypeId) (n : Int) : execF Tryz.prog (gmDI at_ okd ok) noLam 100 Tryz.f41 [.sl 0 9 0 0 m none, .v (i64 n)] [.row false m 9 (row9 f) t] (packK 1)
    = needs [Nat.ble ((0 : Nat) + m) m, allW m fun q ↦ row9 f ((0 : Nat) + q), decide (m ≤ (549755813888 : Nat))] (bif !okd (listW (itW fun q ↦ row9 f ((0 : Nat) + q)) m) then Res.out Ex.ret [AV.tup [AV.agg [AV.v (Value.int IntKind.i64 (0 : Int)), AV.v (Value.int IntKind.i64 (0 : Int)), AV.v (Value.int IntKind.i64 (0 : Int)), AV.v (Value.int IntKind.i64 (0 : Int)), AV.v (Value.int IntKind.i64 (0 : Int)), AV.v (Value.int IntKind.i64 (0 : Int)), AV.v (Value.int IntKind.i64 (0 : Int)), AV.v (Value.int IntKind.i64 (0 : Int))], AV.v (Value.bool false)]] [AB.row false m (9 : Nat) (row9 f) t] else bif !inR n (0 : Int) (23 : Int) then Res.out Ex.ret [AV.tup [AV.agg [AV.v (Value.int IntKind.i64 (0 : Int)), AV.v (Value.int IntKind.i64 (0 : Int)), AV.v (Value.int IntKind.i64 (0 : Int)), AV.v (Value.int IntKind.i64 (0 : Int)), AV.v (Value.int IntKind.i64 (0 : Int)), AV.v (Value.int IntKind.i64 (0 : Int)), AV.v (Value.int IntKind.i64 (0 : Int)), AV.v (Value.int IntKind.i64 (0 : Int))], AV.v (Value.bool false)]] [AB.row false m (9 : Nat) (row9 f) t] else needs [Nat.ble ((0 : Nat) + m) m, allW m fun q ↦ row9 f ((0 : Nat) + q), decide (m ≤ (274877906944 : Nat)), okd (listW (itW fun q ↦ row9 f ((0 : Nat) + q)) m)] (bif !ok (w8 (at_ (itW fun q ↦ row9 f ((0 : Nat) + q)) n m)) then Res.out Ex.ret [AV.tup [AV.agg [AV.v (Value.int IntKind.i64 (0 : Int)), AV.v (Value.int IntKind.i64 (0 : Int)), AV.v (Value.int IntKind.i64 (0 : Int)), AV.v (Value.int IntKind.i64 (0 : Int)), AV.v (Value.int IntKind.i64 (0 : Int)), AV.v (Value.int IntKind.i64 (0 : Int)), AV.v (Value.int IntKind.i64 (0 : Int)), AV.v (Value.int IntKind.i64 (0 : Int))], AV.v (Value.bool false)]] [AB.row false m (9 : Nat) (row9 f) t] else Res.out Ex.ret [AV.tup [AV.agg [AV.v (Value.int IntKind.i64 (at_ (itW fun q ↦ row9 f ((0 : Nat) + q)) n m (0 : Nat))), AV.v (Value.int IntKind.i64 (at_ (itW fun q ↦ row9 f ((0 : Nat) + q)) n m (1 : Nat))), AV.v (Value.int IntKind.i64 (at_ (itW fun q ↦ row9 f ((0 : Nat) + q)) n m (2 : Nat))), AV.v (Value.int IntKind.i64 (at_ (itW fun q ↦ row9 f ((0 : Nat) + q)) n m (3 : Nat))), AV.v (Value.int IntKind.i64 (at_ (itW fun q ↦ row9 f ((0 : Nat) + q)) n m (4 : Nat))), AV.v (Value.int IntKind.i64 (at_ (itW fun q ↦ row9 f ((0 : Nat) + q)) n m (5 : Nat))), AV.v (Value.int IntKind.i64 (at_ (itW fun q ↦ row9 f ((0 : Nat) + q)) n m (6 : Nat))), AV.v (Value.int IntKind.i64 (at_ (itW fun q ↦ row9 f ((0 : Nat) + q)) n m (7 : Nat)))], AV.v (Value.bool true)]] [AB.row false m (9 : Nat) (row9 f) t])) := by kernel_rfl

def FDAo (dv : (Nat → Nat → Int) → Int → Nat → Nat → Int) (dk : (Nat → Nat → Int) → Int → Nat → Bool) : List SA → Option FR
  | [.row m g, .v (.int .i64 n)] => some { val := .tup [.agg (cyC (dv (itW g) n m)), .v (.bool (dk (itW g) n m))], obl := [allW m g, decide (m ≤ 2 ^ 38)] }
  | _ => none
theorem gmAI_ok : GamOk Tryz.prog (gmAI tuF plusF) := by
  unfold gmAI
  rw [fAdd2_eq]
  exact ext_ok (ext_ok g0_ok ok_tuI) ok_plus
theorem atF_next (f : Nat → Nat → Int) (n : Int) (i : Nat) : atF f n (i + 1) = plusF (atF f n i) (tuF (v8 (f i 1) (f i 2) (f i 3) (f i 4) (f i 5) (f i 6) (f i 7) (f i 8)) (IntKind.wrap IntKind.i64 (n * f i 0))) := by
  funext k
  show W (atF f n i k + 1 * _) = W (atF f n i k + _)
  rw [Int.one_mul]
theorem sumAI (m : Nat) (f : Nat → Nat → Int) (t : TypeId) (n : Int) (hm : m ≤ 2 ^ 40) (hok : ∀ w ∈ listW f m, inB w.r.f = true) :
    SumOk Tryz.prog 1 (.block 0 (.loop (loopAt 0 Tryz.f69))) (atS 25 (lvAI .normal) 1 (stAI m n 0) (hpAt m f t fun _ => 0) (fun K => K .normal (mkT 0 25 [(4, .ptr 1 0 0 0), (5, .ptr 2 0 0 0)]) (hpAt m f t (atF f n m)))) := by
  refine for_at gmAI_ok (n := 100) (m := 1) (lv := lvAI) (fun i => stAI m n i) (fun i => hpAt m f t (atF f n i)) (fun _ => True) m (fun _ => noLam) (lv3_ris rfl rfl rfl) (Nat.le_refl _) trivial fun K Q hk i hi him => ⟨noLam_ok _ _ _, ?_⟩
  rw [rndAI]
  refine good_cond (fun c1 => ?_) fun c1 => ?_
  · have c1 := of_decide_eq_true c1
    have c1' : i < m := by omega
    rw [Int.toNat_natCast, Nat.zero_add, wr_in (x := (i : Int) + 1) (by omega)]
    refine good_needs ?_ (good_out ⟨i + 1, ⟨rfl, c1', trivial⟩, rfl, ?_⟩)
    · simp only [ob_cons, ob_nil, and_true, decide_eq_true_eq]
      exact ⟨by omega, by omega, hok _ (List.mem_of_getElem? (listW_get f c1')), inR_iff.2 (w64_range _)⟩
    · show Hsim _ (hpAt m f t (atF f n (i + 1)))
      rw [atF_next]
      exact Hsim.refl _
  · have c1 := of_decide_eq_false c1
    have : i = m := by omega
    subst this
    refine good_out ⟨_, Hsim.refl _, ?_⟩
    rw [if_pos rfl]
    exact hk
theorem ok_atI : SpecOk Tryz.prog 69 (specR md_wv (FatI atF okD)) := by
  refine specR_hr g0_ok Tryz.func69 rfl fun sas fr hF ho => ?_
  unfold FatI at hF
  split at hF
  · rename_i m g n
    cases hF
    simp only [ob_cons] at ho
    obtain ⟨h1, h2, h3, _⟩ := ho
    have hm := of_decide_eq_true h2
    refine ⟨[.row false m 9 (row9 (itW g)) 53], lamAI m (itW g) 53 n (atF (itW g) n m), 100, .cons (ABeq.row fun j hj => allW_get h1 j hj) .nil, lam1 (by kernel_rfl) (sumAI m (itW g) 53 n (by omega) fun w hw => valid_inB h3 hw), ?_⟩
    show GoodQ (execF Tryz.prog g0 (lamAI m (itW g) 53 n (atF (itW g) n m)) 100 Tryz.f69 [.sl 0 9 0 0 m none, .v (i64 n)] [.row false m 9 (row9 (itW g)) 53] (packK 1)) _
    rw [treeAI]
    exact good_needs (by rw [ob_cons]; exact ⟨chk_of ⟨rfl, Hsim.refl _⟩, rfl⟩) (good_out ⟨_, rfl, rfl, .cons (ABeq.row fun j hj => (allW_get h1 j hj).symm) .nil⟩)
  · cases hF
theorem gmDI_ok : GamOk Tryz.prog (gmDI atF okD (fun v => cyOk (cyOf v))) := by
  unfold gmDI
  rw [fOkc_eq, FdvO_eq]
  exact ext_ok (ext_ok (ext_ok gm_within_ok ok_atI) ok_dvI) ok_cvI
theorem FDAo_eq : FDAo daV daOk = F_DA := by
  funext l
  rfl
theorem ok_DAI : SpecOk Tryz.prog 41 (specR md_wv (FDAo daV daOk)) := by
  refine specR_hr gmDI_ok Tryz.func41 rfl fun sas fr hF ho => ?_
  unfold FDAo at hF
  split at hF
  · rename_i m g n
    cases hF
    simp only [ob_cons] at ho
    obtain ⟨h1, h2, _⟩ := ho
    have hm := of_decide_eq_true h2
    refine ⟨[.row false m 9 (row9 (itW g)) 53], noLam, 100, .cons (ABeq.row fun j hj => allW_get h1 j hj) .nil, noLam' _, ?_⟩
    show GoodQ (execF Tryz.prog (gmDI atF okD (fun v => cyOk (cyOf v))) noLam 100 Tryz.f41 [.sl 0 9 0 0 m none, .v (i64 n)] [.row false m 9 (row9 (itW g)) 53] (packK 1)) _
    rw [treeDI, row0, listW_itW, atF_row]
    have fin : ∀ (c : Bool) (b : Nat → Int), daOk (itW g) n m = c → cyC b = cyC (bif c then atF (itW g) n m else fun _ => 0) → GoodQ (.out .ret [.tup [.agg (cyC b), .v (.bool c)]] [.row false m 9 (row9 (itW g)) 53])
        (GivR (abP md_wv [.row m g, .v (.int .i64 n)] []) { val := .tup [.agg (cyC (daV (itW g) n m)), .v (.bool (daOk (itW g) n m))], obl := [allW m g, decide (m ≤ 2 ^ 38)] }) := by
      rintro c b rfl hb
      refine good_out ⟨_, rfl, ?_, .cons (ABeq.row fun j hj => (allW_get h1 j hj).symm) .nil⟩
      rw [hb]
      rfl
    refine good_needs (by simp only [ob_cons, ob_nil, and_true, decide_eq_true_eq, Nat.ble_eq, allW_row, true_and]; omega) (good_cond (fun q => ?_) fun q => ?_)
    · have q' : (!okD (listW (itW g) m)) = true := q
      have q2 : okD (listW (itW g) m) = false := by simpa using q'
      exact fin false (fun _ => 0) (by unfold daOk; rw [q2]; rfl) rfl
    · have q' : (!okD (listW (itW g) m)) = false := q
      have qd : okD (listW (itW g) m) = true := by simpa using q'
      refine good_cond (fun q2 => ?_) fun q2 => ?_
      · have q2 : inR n 0 23 = false := by simpa using q2
        exact fin false (fun _ => 0) (by unfold daOk; rw [qd, q2]; rfl) rfl
      · have q2 : inR n 0 23 = true := by simpa using q2
        refine good_needs (by simp only [ob_cons, ob_nil, and_true, decide_eq_true_eq, Nat.ble_eq, allW_row, true_and]; exact ⟨by omega, hm, qd⟩) (good_cond (fun q3 => ?_) fun q3 => ?_)
        · have q3' : (!cyOk (cyOf (atF (itW g) n m))) = true := q3
          have q4 : cyOk (cyOf (atF (itW g) n m)) = false := by simpa using q3'
          exact fin false (fun _ => 0) (by unfold daOk; rw [qd, q2, q4]; rfl) rfl
        · have q3' : (!cyOk (cyOf (atF (itW g) n m))) = false := q3
          have q4 : cyOk (cyOf (atF (itW g) n m)) = true := by simpa using q3'
          exact fin true (atF (itW g) n m) (by unfold daOk; rw [qd, q2, q4]; rfl) rfl
  · cases hF

theorem daOk_row (f : Nat → Nat → Int) (n : Int) (m : Nat) : daOk (itW (row9 f)) n m = daOk f n m := by unfold daOk; rw [listW_itW, atF_row]
theorem daV_row (f : Nat → Nat → Int) (n : Int) (m : Nat) : daV (itW (row9 f)) n m = daV f n m := by unfold daV; rw [daOk_row, atF_row]
theorem daV_in (f : Nat → Nat → Int) (n : Int) (m : Nat) : inB (w8 (daV f n m)) = true := by
  refine smallF_iff.2 fun k hk => ?_
  have e : w8 (daV f n m) k = daV f n m k := by
    rcases (by omega : k = 0 ∨ k = 1 ∨ k = 2 ∨ k = 3 ∨ k = 4 ∨ k = 5 ∨ k = 6 ∨ k = 7) with rfl | rfl | rfl | rfl | rfl | rfl | rfl | rfl <;> rfl
  rw [e]
  unfold daV
  cases h : daOk f n m with
  | false => show (-9223372036854775808 : Int) ≤ 0 ∧ (0 : Int) ≤ 9223372036854775807; omega
  | true =>
    unfold daOk at h
    rw [Bool.and_eq_true] at h
    have := smallF_iff.1 h.2 k hk
    rw [cyOf_f8 _ k hk] at this
    show -9223372036854775808 ≤ atF f n m k ∧ atF f n m k ≤ 9223372036854775807
    omega

end Go.Proofs.YteadmfceniidcaaGreatDoor

/- Single points of both. Conditions: a point. -/
namespace Go.Proofs.YteadmfceniidcaaGreatDoor
open Go.RowKit
set_option maxRecDepth 100000

/-- The roots, as single numbers. -/
def rtR : Nat → Nat
  | 0 => 1065353216
  | 1 => 1064781546
  | 2 => 1063105495
  | 3 => 1060439283
  | 4 => 1056964608
  | 5 => 1048871918
  | 6 => 0
  | _ => 3196355566
def rtM : Nat → Nat
  | 0 => 0
  | 1 => 1048871918
  | 2 => 1056964608
  | 3 => 1060439283
  | 4 => 1063105495
  | 5 => 1064781546
  | 6 => 1065353216
  | _ => 1064781546
def pdR (a : Nat → Int) (k : Nat) : Option Nat := FloatKind.f32.format.mul (FloatKind.f32.nearest (a k)) (rtR k)
def pdM (a : Nat → Int) (k : Nat) : Option Nat := FloatKind.f32.format.mul (FloatKind.f32.nearest (a k)) (rtM k)
def smR (a : Nat → Int) : Nat → Nat
  | 0 => 0
  | k + 1 => (FloatKind.f32.format.add (smR a k) ((pdR a k).getD 0)).getD 0
def smM (a : Nat → Int) : Nat → Nat
  | 0 => 0
  | k + 1 => (FloatKind.f32.format.add (smM a k) ((pdM a k).getD 0)).getD 0
def obS (a : Nat → Int) : List Bool := (List.range 8).flatMap fun k => [(pdR a k).isSome, (pdM a k).isSome, (FloatKind.f32.format.add (smR a k) ((pdR a k).getD 0)).isSome, (FloatKind.f32.format.add (smM a k) ((pdM a k).getD 0)).isSome]
theorem exSg (a : Nat → Int) : execF Tryz.prog g0 noLam 100 Tryz.f42 [.v (cyv a)] [] valK = needs (obS a) (.out .ret [.v (.complex .f32 (smR a 8) (smM a 8))] []) := by kernel_rfl
def gmCv (ok : (Nat → Int) → Bool) : Gam := ext g0 64 (specV (fOkc ok))
theorem exSp (ok : (Nat → Int) → Bool) (a : Nat → Int) : execF Tryz.prog (gmCv ok) noLam 100 Tryz.f38 [.v (cyv a)] [] (packK 0) = cond (!ok (w8 a)) (.out .ret [.tup [.v (.complex .f32 0 0), .v (.bool false)]] []) (needs (obS a) (.out .ret [.tup [.v (.complex .f32 (smR a 8) (smM a 8)), .v (.bool true)]] [])) := by kernel_rfl

end Go.Proofs.YteadmfceniidcaaGreatDoor

/- Single numbers that stay finite: sums and products of small ones. No program, no conditions. -/
namespace Go.Proofs.YteadmfceniidcaaGreatDoor
open Go.RowKit

/-- A word that stands for a number below 2 to e + 1. -/
def Fin32 (x : Nat) (e : Int) : Prop := ∃ s m i, FloatKind.f32.format.read x = .number s m i ∧ i + (m.log2 : Int) ≤ e
theorem Fin32.mono {x : Nat} {e d : Int} (h : Fin32 x e) (hd : e ≤ d) : Fin32 x d := by
  obtain ⟨s, m, i, h1, h2⟩ := h
  exact ⟨s, m, i, h1, by omega⟩
def finB (x : Nat) (e : Int) : Bool := match FloatKind.f32.format.read x with
  | .number _ m i => decide (i + (m.log2 : Int) ≤ e)
  | _ => false
theorem fin_of {x : Nat} {e : Int} (h : finB x e = true) : Fin32 x e := by
  unfold finB at h
  split at h
  · rename_i s m i hr
    exact ⟨s, m, i, hr, of_decide_eq_true h⟩
  · cases h
theorem log2_lt (n : Nat) : n < 2 ^ (n.log2 + 1) := Nat.lt_log2_self
theorem log2_le {n k : Nat} (h : n < 2 ^ (k + 1)) : n.log2 ≤ k := by
  rcases Nat.eq_zero_or_pos n with rfl | h0
  · rw [show Nat.log2 0 = 0 by decide]
    omega
  · have := (Nat.log2_lt (by omega)).2 h
    omega
theorem f32_binade : FloatKind.f32.format.binade = 8388608 := by decide
theorem f32_inf : FloatKind.f32.format.infRung = 2139095040 := by decide
theorem f32_sign : FloatKind.f32.format.signWeight = 2147483648 := by decide
theorem f32_least : FloatKind.f32.format.leastPlace = -149 := by decide
theorem f32_frac : FloatKind.f32.format.fractionBits = 23 := rfl
theorem cut_le (s : Bool) (n drop : Nat) : Ieee.Toward.even.cut s n drop ≤ n / 2 ^ min drop (n.log2 + 2) + 1 := by
  unfold Ieee.Toward.cut
  simp only [Nat.shiftLeft_eq, Nat.one_mul]
  have : ∀ b : Bool, b.toNat ≤ 1 := fun b => by cases b <;> decide
  exact Nat.add_le_add_left (this _) _
theorem kept_le {s : Bool} {m : Nat} {i last : Int} (hl : i + (m.log2 : Int) - 23 ≤ last) : Ieee.Toward.even.cut s (m <<< (i - last).toNat) (last - i).toNat ≤ 16777216 := by
  refine Nat.le_trans (cut_le _ _ _) ?_
  suffices h : m <<< (i - last).toNat / 2 ^ min (last - i).toNat ((m <<< (i - last).toNat).log2 + 2) < 16777216 by omega
  rw [Nat.shiftLeft_eq]
  have hm := log2_lt m
  by_cases hc : last ≤ i
  · have h1 : (last - i).toNat = 0 := by omega
    rw [h1, Nat.zero_min, Nat.pow_zero, Nat.div_one]
    calc m * 2 ^ (i - last).toNat < 2 ^ (m.log2 + 1) * 2 ^ (i - last).toNat := Nat.mul_lt_mul_of_pos_right hm (Nat.two_pow_pos _)
      _ = 2 ^ (m.log2 + 1 + (i - last).toNat) := (Nat.pow_add ..).symm
      _ ≤ 2 ^ 24 := Nat.pow_le_pow_right (by omega) (by omega)
  · have h1 : (i - last).toNat = 0 := by omega
    rw [h1, Nat.pow_zero, Nat.mul_one]
    rw [Nat.div_lt_iff_lt_mul (Nat.two_pow_pos _)]
    by_cases hd : (last - i).toNat ≤ m.log2 + 2
    · rw [Nat.min_eq_left hd]
      calc m < 2 ^ (m.log2 + 1) := hm
        _ ≤ 2 ^ (24 + (last - i).toNat) := Nat.pow_le_pow_right (by omega) (by omega)
        _ = 16777216 * 2 ^ (last - i).toNat := by rw [Nat.pow_add]
    · rw [Nat.min_eq_right (by omega)]
      calc m < 2 ^ (m.log2 + 1) := hm
        _ ≤ 2 ^ (24 + (m.log2 + 2)) := Nat.pow_le_pow_right (by omega) (by omega)
        _ = 16777216 * 2 ^ (m.log2 + 2) := by rw [Nat.pow_add]
theorem read_word (s : Bool) {R : Nat} (hR : R < 2139095040) : ∃ m i, FloatKind.f32.format.read (FloatKind.f32.format.word s R) = .number s m i ∧ i + (m.log2 : Int) ≤ max ((R / 8388608 : Nat) : Int) 1 - 127 := by
  have e1 : FloatKind.f32.format.word s R % 2147483648 = R := by
    unfold Ieee.Format.word
    rw [f32_sign]
    cases s
    · simp only [Bool.false_eq_true, if_false]; omega
    · simp only [if_true]; omega
  have e2 : (FloatKind.f32.format.word s R / 2147483648 % 2 == 1) = s := by
    unfold Ieee.Format.word
    rw [f32_sign]
    cases s
    · simp only [Bool.false_eq_true, if_false]
      rw [show R / 2147483648 = 0 by omega]
      rfl
    · simp only [if_true]
      rw [show (2147483648 + R) / 2147483648 = 1 by omega]
      rfl
  unfold Ieee.Format.read
  simp only [f32_sign, f32_binade, f32_inf, f32_least, e1, e2]
  by_cases h1 : R < 8388608
  · rw [if_pos h1]
    refine ⟨_, _, rfl, ?_⟩
    have : R.log2 ≤ 22 := log2_le (by omega)
    omega
  · rw [if_neg h1, if_pos hR]
    refine ⟨_, _, rfl, ?_⟩
    have : (8388608 + R % 8388608).log2 ≤ 23 := log2_le (by omega)
    omega
theorem nearest_fin (s : Bool) (m : Nat) (i : Int) {e : Int} (h : i + (m.log2 : Int) ≤ e) (h0 : -120 ≤ e) (h1 : e ≤ 100) : Fin32 (FloatKind.f32.format.nearest s m i) (e + 1) := by
  unfold Ieee.Format.nearest
  by_cases hm : m = 0
  · rw [if_pos hm]
    obtain ⟨m', i', e1, e2⟩ := read_word s (R := 0) (by omega)
    exact ⟨s, m', i', e1, by omega⟩
  · rw [if_neg hm]
    simp only [f32_frac, f32_least, f32_binade, f32_inf]
    have hk : Ieee.Toward.even.cut s (m <<< (i - max (i + (m.log2 : Int) - ((23 : Nat) : Int)) (-149)).toNat) (max (i + (m.log2 : Int) - ((23 : Nat) : Int)) (-149) - i).toNat ≤ 16777216 := kept_le (by omega)
    generalize hl : max (i + (m.log2 : Int) - ((23 : Nat) : Int)) (-149) = last at hk ⊢
    generalize Ieee.Toward.even.cut s (m <<< (i - last).toNat) (last - i).toNat = kept at hk ⊢
    have hlast : -149 ≤ last ∧ last ≤ 77 ∧ last ≤ max (e - 23) (-149) := by omega
    have hmin : min ((last - -149).toNat * 8388608 + kept) 2139095040 = (last - -149).toNat * 8388608 + kept := by omega
    rw [hmin]
    obtain ⟨m', i', e1, e2⟩ := read_word s (R := (last - -149).toNat * 8388608 + kept) (by omega)
    refine ⟨s, m', i', e1, ?_⟩
    have : ((last - -149).toNat * 8388608 + kept) / 8388608 ≤ (last - -149).toNat + 2 := by omega
    omega
theorem mul_fin {x y : Nat} {e d : Int} (hx : Fin32 x e) (hy : Fin32 y d) (h0 : -120 ≤ e + d + 1) (h1 : e + d + 1 ≤ 100) : (FloatKind.f32.format.mul x y).isSome = true ∧ Fin32 ((FloatKind.f32.format.mul x y).getD 0) (e + d + 2) := by
  obtain ⟨s, m, i, r1, b1⟩ := hx
  obtain ⟨t, n, j, r2, b2⟩ := hy
  have hm : FloatKind.f32.format.mul x y = some (FloatKind.f32.format.nearest (s ^^ t) (m * n) (i + j)) := by
    unfold Ieee.Format.mul
    rw [r1, r2]
    rfl
  rw [hm]
  refine ⟨rfl, ?_⟩
  have hl : (m * n).log2 ≤ m.log2 + n.log2 + 1 := log2_le (by
    calc m * n < 2 ^ (m.log2 + 1) * 2 ^ (n.log2 + 1) := Nat.mul_lt_mul'' (log2_lt m) (log2_lt n)
      _ = 2 ^ (m.log2 + n.log2 + 1 + 1) := by rw [← Nat.pow_add]; congr 1; omega)
  have := nearest_fin (s ^^ t) (m * n) (i + j) (e := e + d + 1) (by omega) h0 h1
  rwa [show e + d + 1 + 1 = e + d + 2 by omega] at this
theorem signed_abs (s : Bool) (m u : Nat) : (Ieee.signed s m u).natAbs = m * 2 ^ u := by
  unfold Ieee.signed
  rw [Nat.shiftLeft_eq]
  cases s
  · exact Int.natAbs_natCast _
  · exact (Int.natAbs_neg _).trans (Int.natAbs_natCast _)
theorem part_lt {m : Nat} {i base e : Int} (h : i + (m.log2 : Int) ≤ e) (hb : base ≤ i) : m * 2 ^ (i - base).toNat < 2 ^ ((e - base).toNat + 1) := by
  calc m * 2 ^ (i - base).toNat < 2 ^ (m.log2 + 1) * 2 ^ (i - base).toNat := Nat.mul_lt_mul_of_pos_right (log2_lt m) (Nat.two_pow_pos _)
    _ = 2 ^ (m.log2 + 1 + (i - base).toNat) := (Nat.pow_add ..).symm
    _ ≤ 2 ^ ((e - base).toNat + 1) := Nat.pow_le_pow_right (by omega) (by omega)
theorem add_fin {x y : Nat} {e : Int} (hx : Fin32 x e) (hy : Fin32 y e) (h0 : -120 ≤ e + 1) (h1 : e + 1 ≤ 100) : (FloatKind.f32.format.add x y).isSome = true ∧ Fin32 ((FloatKind.f32.format.add x y).getD 0) (e + 2) := by
  obtain ⟨s, m, i, r1, b1⟩ := hx
  obtain ⟨t, n, j, r2, b2⟩ := hy
  have hm : ∃ u, FloatKind.f32.format.add x y = some (FloatKind.f32.format.nearest u (Ieee.signed s m (i - min i j).toNat + Ieee.signed t n (j - min i j).toNat).natAbs (min i j)) := by
    unfold Ieee.Format.add
    rw [r1, r2]
    exact ⟨_, rfl⟩
  obtain ⟨u, hm⟩ := hm
  rw [hm]
  refine ⟨rfl, ?_⟩
  have hl : (Ieee.signed s m (i - min i j).toNat + Ieee.signed t n (j - min i j).toNat).natAbs.log2 ≤ (e - min i j).toNat + 1 := log2_le (by
    have h2 := Int.natAbs_add_le (Ieee.signed s m (i - min i j).toNat) (Ieee.signed t n (j - min i j).toNat)
    rw [signed_abs, signed_abs] at h2
    have h3 := part_lt b1 (base := min i j) (by omega)
    have h4 := part_lt b2 (base := min i j) (by omega)
    have h5 : 2 ^ ((e - min i j).toNat + 1 + 1) = 2 ^ ((e - min i j).toNat + 1) + 2 ^ ((e - min i j).toNat + 1) := by rw [Nat.pow_succ]; omega
    omega)
  have := nearest_fin u (Ieee.signed s m (i - min i j).toNat + Ieee.signed t n (j - min i j).toNat).natAbs (min i j) (e := e + 1) (by omega) h0 h1
  rwa [show e + 1 + 1 = e + 2 by omega] at this
theorem int_fin {n : Int} (h : -1000000 ≤ n ∧ n ≤ 1000000) : Fin32 (FloatKind.f32.nearest n) 21 := by
  have : n.natAbs.log2 ≤ 19 := log2_le (by omega)
  exact nearest_fin _ _ 0 (e := 20) (by omega) (by omega) (by omega)
theorem rtR_fin : ∀ k, k < 8 → Fin32 (rtR k) 1 := fun k hk => fin_of ((by decide +kernel : ∀ k, k < 8 → finB (rtR k) 1 = true) k hk)
theorem rtM_fin : ∀ k, k < 8 → Fin32 (rtM k) 1 := fun k hk => fin_of ((by decide +kernel : ∀ k, k < 8 → finB (rtM k) 1 = true) k hk)
theorem sm_fin {a : Nat → Int} (h : ∀ k, k < 8 → -1000000 ≤ a k ∧ a k ≤ 1000000) : ∀ k : Nat, k ≤ 8 → Fin32 (smR a k) (24 + 2 * (k : Int)) ∧ Fin32 (smM a k) (24 + 2 * (k : Int))
  | 0, _ => ⟨fin_of (show finB 0 (24 + 2 * ((0 : Nat) : Int)) = true by decide +kernel), fin_of (show finB 0 (24 + 2 * ((0 : Nat) : Int)) = true by decide +kernel)⟩
  | k + 1, hk => by
    obtain ⟨i1, i2⟩ := sm_fin h k (by omega)
    have p1 := mul_fin (int_fin (h k (by omega))) (rtR_fin k (by omega)) (by omega) (by omega)
    have p2 := mul_fin (int_fin (h k (by omega))) (rtM_fin k (by omega)) (by omega) (by omega)
    have a1 := (add_fin i1 (p1.2.mono (by omega)) (by omega) (by omega)).2
    have a2 := (add_fin i2 (p2.2.mono (by omega)) (by omega) (by omega)).2
    exact ⟨a1.mono (by omega), a2.mono (by omega)⟩
theorem obS_ok {a : Nat → Int} (h : ∀ k, k < 8 → -1000000 ≤ a k ∧ a k ≤ 1000000) : obls (obS a) = true := by
  unfold obls obS
  rw [List.all_flatMap]
  refine List.all_eq_true.2 fun k hk => ?_
  have hk := List.mem_range.1 hk
  obtain ⟨i1, i2⟩ := sm_fin h k (by omega)
  have p1 := mul_fin (int_fin (h k hk)) (rtR_fin k hk) (by omega) (by omega)
  have p2 := mul_fin (int_fin (h k hk)) (rtM_fin k hk) (by omega) (by omega)
  have a1 := add_fin i1 (p1.2.mono (by omega)) (by omega) (by omega)
  have a2 := add_fin i2 (p2.2.mono (by omega)) (by omega) (by omega)
  simp only [List.all_cons, List.all_nil, Bool.and_true, id]
  rw [show (pdR a k).isSome = true from p1.1, show (pdM a k).isSome = true from p2.1, show (FloatKind.f32.format.add (smR a k) ((pdR a k).getD 0)).isSome = true from a1.1, show (FloatKind.f32.format.add (smM a k) ((pdM a k).getD 0)).isSome = true from a2.1]
  rfl

end Go.Proofs.YteadmfceniidcaaGreatDoor

/- A word for a callee that hands back a new list or none: read as one. Conditions: those of its two cases. -/
namespace Go.Proofs.YteadmfceniidcaaGreatDoor
open Go.RowKit
set_option maxRecDepth 100000

theorem putC_nil : ∀ (is : List (Option Nat)) (bs : List AB), (∀ b ∈ bs, b.wr = false) → putC is bs = []
  | [], [], _ => rfl
  | [], _ :: _, _ => by simp [putC]
  | i :: is, [], _ => by cases i <;> simp [putC]
  | none :: is, b :: bs, h => by
    simp only [putC]
    exact putC_nil is bs fun x hx => h x (by simp [hx])
  | some i :: is, b :: bs, h => by
    have ih := putC_nil is bs fun x hx => h x (by simp [hx])
    have hb := h b (by simp)
    cases b with
    | row rw n s g t =>
      cases rw with
      | true => cases hb
      | false => simp only [putC]; exact ih
    | cells cs t => cases hb
    | gone => simp only [putC]; exact ih
theorem abP_rd : ∀ {mds : List Md} {sas : List SA} {ps : List (Nat → List Value)}, hasWr mds = false → ∀ b ∈ abP mds sas ps, b.wr = false
  | [], [], ps, _, b, hb => by simp [abP] at hb
  | .val :: ds, .v x :: r, ps, h, b, hb => abP_rd (mds := ds) (sas := r) (ps := ps) h b (by simpa only [abP] using hb)
  | .rd s t :: ds, .row m g :: r, ps, h, b, hb => by
    simp only [abP, List.mem_cons] at hb
    rcases hb with rfl | hb
    · rfl
    · exact abP_rd (mds := ds) (sas := r) (ps := ps) h b hb
  | .wr s t :: ds, _, ps, h, b, hb => by cases h
  | [], _ :: _, ps, _, b, hb => by simp [abP] at hb
  | .val :: ds, [], ps, _, b, hb => by simp [abP] at hb
  | .val :: ds, .row .. :: _, ps, _, b, hb => by simp [abP] at hb
  | .val :: ds, .own .. :: _, ps, _, b, hb => by simp [abP] at hb
  | .rd .. :: ds, [], ps, _, b, hb => by simp [abP] at hb
  | .rd .. :: ds, .v _ :: _, ps, _, b, hb => by simp [abP] at hb
  | .rd .. :: ds, .own .. :: _, ps, _, b, hb => by simp [abP] at hb

/-- The list, or none. -/
structure UR where
  b : Bool
  T : List Wh
  obl : List Bool
def specU (mds : List Md) (U : List SA → Option UR) : Spec := fun avs H base =>
  match saAll H mds avs with
  | some xs => match U (xs.map (·.sa)) with
    | some u => some { val := .tup [.sl base 9 0 0 u.T.length (some u.T.length), .v (.bool u.b)], rd := (ixC mds xs).filterMap id, put := [], new := [.row false u.T.length 9 (row9 (wfun u.T)) 53], obl := xs.flatMap (·.ob) ++ u.obl }
    | none => none
  | none => none

theorem specU_ok {P : Program} {f : FuncId} {mds : List Md} {FY FN : List SA → Option FR} {U : List SA → Option UR} (hw : hasWr mds = false) (hY : SpecOk P f (specR mds FY)) (hN : SpecOk P f (specR mds FN))
    (h : ∀ sas u, U sas = some u → obls u.obl = true → Nat.beq (abP mds sas []).length (abC mds sas).length = true ∧ ((u.b = true ∧ ∃ ob, FY sas = some { val := valY u.T, new := newY u.T, obl := ob } ∧ obls ob = true) ∨ (u.b = false ∧ u.T = [] ∧ ∃ ob, FN sas = some { val := valN, obl := ob } ∧ obls ob = true))) : SpecOk P f (specU mds U) := by
  refine ⟨hY.1, fun avs H base δ ν vals w hS ho hv hr hlt hfree hsep htab => ?_⟩
  unfold specU at hS
  split at hS
  case h_2 => cases hS
  rename_i xs hxs
  split at hS
  case h_2 => cases hS
  rename_i u hu
  simp only [Option.some.injEq] at hS
  subst hS
  have ho' : obls (xs.flatMap (·.ob)) = true ∧ obls u.obl = true := by simpa [obls, List.all_append] using ho
  obtain ⟨hl, hc⟩ := h _ _ hu ho'.2
  have hput : putC (ixC mds xs) (abP mds (xs.map (·.sa)) []) = [] := putC_nil _ _ fun b hb => abP_rd hw b hb
  rcases hc with ⟨hb, ob, e1, e2⟩ | ⟨hb, hT, ob, e1, e2⟩
  · have hS2 : specR mds FY avs H base = some { val := .tup [.sl base 9 0 0 u.T.length (some u.T.length), .v (.bool true)], rd := (ixC mds xs).filterMap id, put := [], new := newY u.T, obl := xs.flatMap (·.ob) ++ ob } := by
      unfold specR
      rw [hxs]
      simp only [e1]
      show cond _ _ _ = _
      rw [hw, hl, hput]
      rfl
    refine (hY.2 avs H base _ ν vals w hS2 (by simpa [obls, List.all_append] using And.intro ho'.1 e2) hv hr hlt hfree (fun i o j b b' hp => by cases hp) (htab.call fun x hx => by first | exact hx | cases hx)).mono ?_
    rintro e w' ⟨v, ν', rfl, d⟩
    refine ⟨v, ν', rfl, d.le, d.dom, by rw [hb]; exact d.val, fun i b hl => (by cases hl), fun j b hj => ?_, d.os, d.tape, d.output, d.size, d.block, d.fresh, d.apart⟩
    match j with
    | 0 =>
      simp only [List.getElem?_cons_zero, Option.some.injEq] at hj
      subst hj
      have := d.new 0 _ rfl
      rcases this with ⟨h1, _, _⟩ | ⟨k, l, t', fz, h1, h2, _, h4, h5⟩
      · cases h1
      · exact .inr ⟨k, l, t', fz, h1, h2, fun h => (by cases h), h4, h5⟩
    | j + 1 => simp at hj
  · have hS2 : specR mds FN avs H base = some { val := valN, rd := (ixC mds xs).filterMap id, put := [], new := [], obl := xs.flatMap (·.ob) ++ ob } := by
      unfold specR
      rw [hxs]
      simp only [e1]
      show cond _ _ _ = _
      rw [hw, hl, hput]
      rfl
    refine (hN.2 avs H base _ ν vals w hS2 (by simpa [obls, List.all_append] using And.intro ho'.1 e2) hv hr hlt (fun j hj => absurd hj (Nat.not_lt_zero _)) (fun i o j b b' hp => by cases hp) (htab.call fun x hx => by first | exact hx | cases hx)).mono ?_
    rintro e w' ⟨v, ν', rfl, d⟩
    have hnone : ν' base = none := by
      have h0 : ν base = none := hfree 0 (Nat.zero_lt_one)
      cases hq : ν' base with
      | none => rfl
      | some b =>
        have := d.dom base h0 (by rw [hq]; simp)
        simp at this
    have hv0 : VR ν' (.tup [.sl base 9 0 0 0 (some 0), .v (.bool false)]) v := by
      have := d.val
      simp only [VR] at this ⊢
      obtain ⟨l, e1, e2⟩ := this
      match l, e2 with
      | [a, b], ⟨ha, hbb, _⟩ => exact ⟨[a, b], e1, ⟨none, 0, ha, fun c' hc' => by simpa using hc', Nat.le_refl _, fun hc => absurd hc (Nat.lt_irrefl 0)⟩, hbb, trivial⟩
    refine ⟨v, ν', rfl, d.le, fun i h1 h2 => ?_, by rw [hb, hT]; exact hv0, fun i b hl => (by cases hl), fun j b hj => ?_, d.os, d.tape, d.output, d.size, d.block, fun j b hj hq => ?_, fun j j' b b' hne hj hj' => ?_⟩
    · have := d.dom i h1 h2
      simp at this
      omega
    · match j with
      | 0 =>
        simp only [List.getElem?_cons_zero, Option.some.injEq] at hj
        subst hj
        rw [hT]
        exact .inl ⟨rfl, rfl, hnone⟩
      | j + 1 => simp at hj
    · have hj : j < 1 := hj
      have : j = 0 := by omega
      subst this
      rw [Nat.add_zero, hnone] at hq
      cases hq
    · have hj : j < 1 := hj
      have hj' : j' < 1 := hj'
      omega

end Go.Proofs.YteadmfceniidcaaGreatDoor

/- Changed designs as a list or none, read as one. Conditions: a list of wheels. -/
namespace Go.Proofs.YteadmfceniidcaaGreatDoor
open Go.RowKit
set_option maxRecDepth 100000

def FeqB (eq : List Wh → List Wh → Bool) : List SA → Option FR
  | [.row m g, .row n g2] => some { val := .v (.bool (eq (listW (itW g) m) (listW (itW g2) n))), obl := [allW m g, allW n g2, decide (m ≤ 2 ^ 38)] }
  | _ => none
def UO1 (yes : Int → List Wh → Bool) (tl : Int → List Wh → List Wh) : List SA → Option UR
  | [.row m g, .v (.int .i64 x)] => some ⟨yes x (listW (itW g) m), tl x (listW (itW g) m), [allW m g, decide (m ≤ 2 ^ 38)]⟩
  | _ => none
def eqL (A B : List Wh) : Bool := decide (A = B)
theorem eqL_comm (A B : List Wh) : eqL A B = eqL B A := by
  unfold eqL
  rw [Bool.eq_iff_iff, decide_eq_true_eq, decide_eq_true_eq]
  exact ⟨Eq.symm, Eq.symm⟩
def badE (f h : Nat → Nat → Int) (i : Nat) : Bool := !decide (whOf (f i) = whOf (h i))
theorem eqL_list (f h : Nat → Nat → Int) (m : Nat) : eqL (listW f m) (listW h m) = noneTo (badE f h) m := by
  rw [Bool.eq_iff_iff, noneTo_iff, eqL, decide_eq_true_eq]
  refine ⟨fun e i hi => ?_, fun e => ?_⟩
  · have h1 := listW_get f hi
    rw [e, listW_get h hi, Option.some.injEq] at h1
    simp [badE, h1]
  · exact List.map_congr_left fun i hi => by
      have := e i (by simpa using hi)
      simpa [badE] using this
theorem eqL_len {A B : List Wh} (h : A.length ≠ B.length) : eqL A B = false := decide_eq_false fun e => h (by rw [e])
def yT (x : Int) (L : List Wh) : Bool := eachOk 1 x 0 false L
def tT (x : Int) (L : List Wh) : List Wh := eachL 1 x 0 false L
def yL (x : Int) (L : List Wh) : Bool := eachOk 1 0 x false L
def tL (x : Int) (L : List Wh) : List Wh := eachL 1 0 x false L
end Go.Proofs.YteadmfceniidcaaGreatDoor

/- The program's DesignTidy, DesignBack, DesignMirror, as a list or none, read as one. Conditions: a list of wheels. -/
namespace Go.Proofs.YteadmfceniidcaaGreatDoor
open Go.RowKit
set_option maxRecDepth 100000

def UO0 (yes : List Wh → Bool) (tl : List Wh → List Wh) : List SA → Option UR
  | [.row m g] => some ⟨yes (listW (itW g) m), tl (listW (itW g) m), [allW m g, decide (m ≤ 2 ^ 38)]⟩
  | _ => none
theorem mpTi_self (L : List Wh) : mpTi L = L := by
  show L.map chTi = L
  rw [show chTi = id from rfl, List.map_id]
def yI (L : List Wh) : Bool := okD L && okT L
def tI (L : List Wh) : List Wh := bif yI L then tidyL L else []
theorem ok_UTi : SpecOk Tryz.prog 33 (specU md_ws (UO0 yI tI)) := by
  refine specU_ok rfl ok_deYTi ok_deNTi fun sas u hu ho => ?_
  unfold UO0 at hu
  split at hu
  · rename_i m g
    cases hu
    simp only [ob_cons] at ho
    obtain ⟨h1, h2, _⟩ := ho
    refine ⟨rfl, ?_⟩
    have hy : yesTi (listW (itW g) m) = yI (listW (itW g) m) := by
      unfold yesTi yI
      rw [show (listW (itW g) m).map chTi = listW (itW g) m from mpTi_self _]
    cases hv : yI (listW (itW g) m) with
    | true =>
      left
      refine ⟨rfl, [allW m g, decide (m ≤ 2 ^ 38), yesTi (listW (itW g) m)], ?_, ?_⟩
      · show FdeYTi yesTi tidyL mpTi [.row m g] = some { val := valY (tI (listW (itW g) m)), new := newY (tI (listW (itW g) m)), obl := [allW m g, decide (m ≤ 2 ^ 38), yesTi (listW (itW g) m)] }
        rw [tI, hv, cond_true]
        show some _ = some _
        rw [mpTi_self]
      · simp only [ob_cons, ob_nil, and_true]
        exact ⟨h1, h2, hy.trans hv⟩
    | false =>
      right
      refine ⟨rfl, by show tI (listW (itW g) m) = []; rw [tI, hv]; rfl, [allW m g, decide (m ≤ 2 ^ 38), !yesTi (listW (itW g) m)], rfl, ?_⟩
      simp only [ob_cons, ob_nil, and_true]
      exact ⟨h1, h2, by rw [hy, hv]; rfl⟩
  · cases hu
theorem chBa_same {w : Wh} : chBa w = chE (-1) 0 0 false w := by
  have e1 : (-1 : Int) * w.s = 0 - w.s := by omega
  have e2 : (IntKind.wrap IntKind.i64 ((0 : Int) + IntKind.wrap IntKind.i64 (0 * w.s)) % 24).toNat = 0 := by rw [Int.zero_mul]; rfl
  rw [chBa, chE, e1, e2]
  rfl
def yB (L : List Wh) : Bool := eachOk (-1) 0 0 false L
def tB (L : List Wh) : List Wh := eachL (-1) 0 0 false L
def yM (L : List Wh) : Bool := eachOk (-1) 0 0 true L
def tM (L : List Wh) : List Wh := eachL (-1) 0 0 true L
end Go.Proofs.YteadmfceniidcaaGreatDoor

/- The reference's DesignTidy: its word. Conditions: a list of wheels. -/
namespace Go.Proofs.YteadmfceniidcaaGreatDoor
open Go.RowKit
set_option maxRecDepth 100000

def gmZ1 (okd : List Wh → Bool) (ti : List Wh → List Wh) (okt : List Wh → Bool) : Gam := ext (ext g0 58 (specR md_ws (FdvO okd))) 59 (specR md_ws (FtidyO ti okt))
theorem gmZ1_ok : GamOk Tryz.prog (gmZ1 okD tidyL okT) := by
  unfold gmZ1
  rw [FtidyO_eq, FdvO_eq]
  exact ext_ok (ext_ok g0_ok ok_dv) ok_tidyS
theorem treeTiS (okd : List Wh → Bool) (ti : List Wh → List Wh) (okt : List Wh → Bool) (m : Nat) (f : Nat → Nat → Int) : execF Tryz.prog (gmZ1 okd ti okt) noLam 100 Tryz.f35 [.sl 0 9 0 0 m none] [.row false m 9 (row9 f) 53] (packK 1)
    = needs [Nat.ble ((0 : Nat) + m) m, allW m fun q ↦ row9 f ((0 : Nat) + q), decide (m ≤ (549755813888 : Nat))] (bif !okd (listW (itW fun q ↦ row9 f ((0 : Nat) + q)) m) then Res.out Ex.ret [AV.tup [AV.own (1 : Nat) (0 : Nat), AV.v (Value.bool false)]] [AB.row false m (9 : Nat) (row9 f) (53 : TypeId), AB.row true (0 : Nat) (9 : Nat) (fun _ ↦ []) (53 : Nat)] else needs [Nat.ble ((0 : Nat) + m) m, allW m fun q ↦ row9 f ((0 : Nat) + q), decide (m ≤ (274877906944 : Nat))] (Res.out Ex.ret [AV.tup [AV.own (1 : Nat) (List.length (ti (listW (itW fun q ↦ row9 f ((0 : Nat) + q)) m))), AV.v (Value.bool (okt (listW (itW fun q ↦ row9 f ((0 : Nat) + q)) m)))]] [AB.row false m (9 : Nat) (row9 f) (53 : TypeId), AB.row true (List.length (ti (listW (itW fun q ↦ row9 f ((0 : Nat) + q)) m))) (9 : Nat) (row9 (wfun (ti (listW (itW fun q ↦ row9 f ((0 : Nat) + q)) m)))) (53 : TypeId)])) := by kernel_rfl

/-- A list of wheels and whether it is one, of one list. -/
def FOw (yes : List Wh → Bool) (tl : List Wh → List Wh) : List SA → Option FR
  | [.row m g] => some { val := .tup [.own 0 (tl (listW (itW g) m)).length, .v (.bool (yes (listW (itW g) m)))], new := [.row true (tl (listW (itW g) m)).length 9 (row9 (wfun (tl (listW (itW g) m)))) 53], obl := [allW m g, decide (m ≤ 2 ^ 38)] }
  | _ => none
theorem tI_no {L : List Wh} (h : yI L = false) : tI L = [] := by rw [tI, h]; rfl
theorem ok_tiS : SpecOk Tryz.prog 35 (specR md_ws (FOw yI tI)) := by
  refine specR_hr gmZ1_ok Tryz.func35 rfl fun sas fr hF ho => ?_
  unfold FOw at hF
  split at hF
  · rename_i m g
    cases hF
    simp only [ob_cons] at ho
    obtain ⟨h1, h2, _⟩ := ho
    have hm := of_decide_eq_true h2
    refine ⟨[.row false m 9 (row9 (itW g)) 53], noLam, 100, .cons (ABeq.row fun j hj => allW_get h1 j hj) .nil, noLam' _, ?_⟩
    show GoodQ (execF Tryz.prog (gmZ1 okD tidyL okT) noLam 100 Tryz.f35 [.sl 0 9 0 0 m none] [.row false m 9 (row9 (itW g)) 53] (packK 1)) _
    rw [treeTiS]
    simp only [row0, listW_itW]
    refine good_needs (by simp only [ob_cons, ob_nil, and_true, decide_eq_true_eq, Nat.ble_eq, allW_row, true_and]; omega) (good_cond (fun q => ?_) fun q => ?_)
    · have q2 : okD (listW (itW g) m) = false := by simpa using q
      have hy : yI (listW (itW g) m) = false := by rw [yI, q2]; rfl
      refine good_out ⟨_, rfl, ?_, .cons (ABeq.row fun j hj => (allW_get h1 j hj).symm) ?_⟩
      · rw [tI_no hy, hy]
        rfl
      · show Hsim _ [.row true (tI (listW (itW g) m)).length 9 (row9 (wfun (tI (listW (itW g) m)))) 53]
        rw [tI_no hy]
        exact .cons (ABeq.row fun j hj => absurd hj (Nat.not_lt_zero _)) .nil
    · have q2 : okD (listW (itW g) m) = true := by simpa using q
      refine good_needs (by simp only [ob_cons, ob_nil, and_true, decide_eq_true_eq, Nat.ble_eq, allW_row, true_and]; omega) (good_out ?_)
      have hT : tI (listW (itW g) m) = tidyL (listW (itW g) m) := by
        rw [tI, yI, q2, Bool.true_and]
        cases ht : okT (listW (itW g) m) with
        | true => rfl
        | false => exact (tidyL_no ht).symm
      have hY : yI (listW (itW g) m) = okT (listW (itW g) m) := by rw [yI, q2, Bool.true_and]
      refine ⟨_, rfl, ?_, .cons (ABeq.row fun j hj => (allW_get h1 j hj).symm) ?_⟩
      · rw [hT, hY]
        rfl
      · show Hsim _ [.row true (tI (listW (itW g) m)).length 9 (row9 (wfun (tI (listW (itW g) m)))) 53]
        rw [hT]
        exact Hsim.refl _
  · cases hF

end Go.Proofs.YteadmfceniidcaaGreatDoor

/- DesignCheck of both: trees. Conditions: a list of wheels. -/
namespace Go.Proofs.YteadmfceniidcaaGreatDoor
open Go.RowKit
set_option maxRecDepth 100000

/-- A single point of a point. -/
def f_sg (R M : (Nat → Int) → Nat) (ok : (Nat → Int) → Bool) : List Value → Option (Value × List Bool)
  | [.agg ⟨[.int .i64 a0, .int .i64 a1, .int .i64 a2, .int .i64 a3, .int .i64 a4, .int .i64 a5, .int .i64 a6, .int .i64 a7]⟩] => some (.complex .f32 (R (v8 a0 a1 a2 a3 a4 a5 a6 a7)) (M (v8 a0 a1 a2 a3 a4 a5 a6 a7)), [ok (v8 a0 a1 a2 a3 a4 a5 a6 a7)])
  | _ => none
/-- A single point, and whether the point is one. -/
def FspO (R M : (Nat → Int) → Nat) (ok : (Nat → Int) → Bool) : List SA → Option FR
  | [.v (.agg ⟨[.int .i64 a0, .int .i64 a1, .int .i64 a2, .int .i64 a3, .int .i64 a4, .int .i64 a5, .int .i64 a6, .int .i64 a7]⟩)] => some { val := .tup [.v (.complex .f32 (R (v8 a0 a1 a2 a3 a4 a5 a6 a7)) (M (v8 a0 a1 a2 a3 a4 a5 a6 a7))), .v (.bool (ok (v8 a0 a1 a2 a3 a4 a5 a6 a7)))] }
  | _ => none
def gmCkI (dv : (Nat → Nat → Int) → Int → Nat → Nat → Int) (dk : (Nat → Nat → Int) → Int → Nat → Bool) (R M : (Nat → Int) → Nat) (ok : (Nat → Int) → Bool) : Gam := ext (ext g0 41 (specR md_wv (FDAo dv dk))) 42 (specV (f_sg R M ok))
noncomputable abbrev fCkI : Func := Tryz.f24
abbrev lvCkI : Ex → List Nat := lv3 [4, 6, 20] [6] [2, 3]
abbrev stCkI (q : Nat) (h : Int) (i : Nat) : List AV := [.sl 1 9 0 0 q (some q), .v (.int .u32 h), .v (i64 i)]
abbrev hpCk (m : Nat) (f : Nat → Nat → Int) (q : Nat) (g : Nat → Nat → Int) : List AB := [.row false m 9 (row9 f) 53, .row false q 9 (row9 g) 53]
theorem rndCkI (dv : (Nat → Nat → Int) → Int → Nat → Nat → Int) (dk : (Nat → Nat → Int) → Int → Nat → Bool) (R M : (Nat → Int) → Nat) (ok : (Nat → Int) → Bool) (m : Nat) (f : Nat → Nat → Int) (q : Nat) (g : Nat → Nat → Int) (h : Int) (i : Nat) : execC Tryz.prog (gmCkI dv dk R M ok) 100 noLam (loopAt 0 fCkI) (mkT 0 49 ((lvCkI .normal).zip (stCkI q h i))) (hpCk m f q g) (leafV 49 lvCkI 1)
    = bif decide ((↑i : Int) < (24 : Int)) then needs [Nat.ble ((0 : Nat) + q) q, allW q fun q ↦ row9 g ((0 : Nat) + q), decide (q ≤ (274877906944 : Nat))] (bif !dk (itW fun q ↦ row9 g ((0 : Nat) + q)) (↑i : Int) q then Res.out Ex.ret [AV.v (Value.int IntKind.u32 (0 : Int)), AV.v (Value.bool false)] [AB.row false m (9 : Nat) (row9 f) (53 : TypeId)] else needs [ok (w8 (dv (itW fun q ↦ row9 g ((0 : Nat) + q)) (↑i : Int) q))] (Res.out Ex.normal [AV.sl (1 : Nat) (9 : Nat) (0 : Nat) (0 : Nat) q (some q), AV.v (Value.int IntKind.u32 (IntKind.wrap IntKind.u32 (IntKind.wrap IntKind.u32 (↑(BitVec.toNat (BitVec.ofInt (32 : Nat) (IntKind.wrap IntKind.u32 (IntKind.wrap IntKind.u32 (↑(BitVec.toNat (BitVec.ofInt (32 : Nat) h ^^^ BitVec.ofInt (32 : Nat) (↑(R (w8 (dv (itW fun q ↦ row9 g ((0 : Nat) + q)) (↑i : Int) q))) : Int))) : Int) * (16777619 : Int))) ^^^ BitVec.ofInt (32 : Nat) (↑(M (w8 (dv (itW fun q ↦ row9 g ((0 : Nat) + q)) (↑i : Int) q))) : Int))) : Int) * (16777619 : Int)))), AV.v (Value.int IntKind.i64 (IntKind.wrap IntKind.i64 ((↑i : Int) + (1 : Int))))] [AB.row false m (9 : Nat) (row9 f) (53 : TypeId), AB.row false q (9 : Nat) (row9 g) (53 : TypeId)])) else Res.out (Ex.exit (0 : Nat)) [AV.v (Value.int IntKind.u32 h)] [AB.row false m (9 : Nat) (row9 f) (53 : TypeId)] := by kernel_rfl

def gmCkS (dv : (Nat → Nat → Int) → Int → Nat → Nat → Int) (dk : (Nat → Nat → Int) → Int → Nat → Bool) (R M : (Nat → Int) → Nat) (ok : (Nat → Int) → Bool) : Gam := ext (ext g0 37 (specR md_wv (FDAo dv dk))) 38 (specR [.val] (FspO R M ok))
noncomputable abbrev fCkS : Func := Tryz.f21
abbrev lvCkS : Ex → List Nat := lv3 [4, 6, 7] [6] [2, 3]
abbrev stCkS (q : Nat) (h : Int) (i : Nat) : List AV := [.own 1 q, .v (.int .u32 h), .v (i64 i)]
abbrev hpCkS (m : Nat) (f : Nat → Nat → Int) (q : Nat) (g : Nat → Nat → Int) : List AB := [.row false m 9 (row9 f) 53, .row true q 9 (row9 g) 53]
theorem rndCkS (dv : (Nat → Nat → Int) → Int → Nat → Nat → Int) (dk : (Nat → Nat → Int) → Int → Nat → Bool) (R M : (Nat → Int) → Nat) (ok : (Nat → Int) → Bool) (m : Nat) (f : Nat → Nat → Int) (q : Nat) (g : Nat → Nat → Int) (h : Int) (i : Nat) : execC Tryz.prog (gmCkS dv dk R M ok) 100 noLam (loopAt 0 fCkS) (mkT 0 53 ((lvCkS .normal).zip (stCkS q h i))) (hpCkS m f q g) (leafV 53 lvCkS 1)
    = bif decide ((↑i : Int) < (24 : Int)) then needs [Nat.ble q q, allW q (row9 g), decide (q ≤ (274877906944 : Nat))] (bif !dk (itW (row9 g)) (↑i : Int) q then Res.out Ex.ret [AV.v (Value.int IntKind.u32 (0 : Int)), AV.v (Value.bool false)] [AB.row false m (9 : Nat) (row9 f) (53 : TypeId)] else bif !ok (w8 (dv (itW (row9 g)) (↑i : Int) q)) then Res.out Ex.ret [AV.v (Value.int IntKind.u32 (0 : Int)), AV.v (Value.bool false)] [AB.row false m (9 : Nat) (row9 f) (53 : TypeId)] else Res.out Ex.normal [AV.own (1 : Nat) q, AV.v (Value.int IntKind.u32 (IntKind.wrap IntKind.u32 (IntKind.wrap IntKind.u32 (↑(BitVec.toNat (BitVec.ofInt (32 : Nat) (IntKind.wrap IntKind.u32 (IntKind.wrap IntKind.u32 (↑(BitVec.toNat (BitVec.ofInt (32 : Nat) h ^^^ BitVec.ofInt (32 : Nat) (↑(R (w8 (dv (itW (row9 g)) (↑i : Int) q))) : Int))) : Int) * (16777619 : Int))) ^^^ BitVec.ofInt (32 : Nat) (↑(M (w8 (dv (itW (row9 g)) (↑i : Int) q))) : Int))) : Int) * (16777619 : Int)))), AV.v (Value.int IntKind.i64 (IntKind.wrap IntKind.i64 ((↑i : Int) + (1 : Int))))] [AB.row false m (9 : Nat) (row9 f) (53 : TypeId), AB.row true q (9 : Nat) (row9 g) (53 : TypeId)]) else Res.out (Ex.exit (0 : Nat)) [AV.v (Value.int IntKind.u32 h)] [AB.row false m (9 : Nat) (row9 f) (53 : TypeId)] := by kernel_rfl

end Go.Proofs.YteadmfceniidcaaGreatDoor

/- DesignCheck of both: single points, loops. Conditions: a list of wheels. -/
namespace Go.Proofs.YteadmfceniidcaaGreatDoor
open Go.RowKit
set_option maxRecDepth 100000

abbrev hpC (m : Nat) (f : Nat → Nat → Int) : List AB := [.row false m 9 (row9 f) 53]
theorem good_needsV {bs : List Bool} {r : Res} {x : Value} (h : obls bs = true) (k : Good r x) : Good (needs bs r) x := by
  induction bs with
  | nil => exact k
  | cons b bs ih =>
    have : b = true ∧ obls bs = true := by simpa [obls] using h
    rw [this.1]
    exact ⟨(ih this.2).out⟩
def spO (a : Nat → Int) : Bool := cyOk (cyOf a)
def sgR (a : Nat → Int) : Nat := bif spO a then smR a 8 else 0
def sgM (a : Nat → Int) : Nat := bif spO a then smM a 8 else 0
theorem obS_of {a : Nat → Int} (h : spO a = true) : obls (obS a) = true := obS_ok fun k hk => by
  have h1 := smallF_iff.1 h k hk
  have e : (cyOf a).f k = a k := by
    match k, hk with
    | 0, _ => rfl
    | 1, _ => rfl
    | 2, _ => rfl
    | 3, _ => rfl
    | 4, _ => rfl
    | 5, _ => rfl
    | 6, _ => rfl
    | 7, _ => rfl
  omega
theorem ok_sg : SpecOk Tryz.prog 42 (specV (f_sg sgR sgM spO)) := by
  refine mkV (n := 100) g0_ok Tryz.func42 rfl fun vs v ob hF ho => ?_
  unfold f_sg at hF
  split at hF
  · rename_i a0 a1 a2 a3 a4 a5 a6 a7
    cases hF
    rw [ob_cons] at ho
    have ho := ho.1
    show Good (execF Tryz.prog g0 noLam 100 Tryz.f42 [.v (cyv (v8 a0 a1 a2 a3 a4 a5 a6 a7))] [] valK) _
    rw [exSg]
    refine good_needsV (obS_of ho) (one ?_)
    rw [sgR, sgM, ho]
    rfl
  · cases hF
theorem ok_sp : SpecOk Tryz.prog 38 (specR [.val] (FspO sgR sgM spO)) := by
  have hg : GamOk Tryz.prog (gmCv fun v => cyOk (cyOf v)) := by
    unfold gmCv
    rw [fOkc_eq]
    exact ext_ok g0_ok ok_cv
  refine specR_hr hg Tryz.func38 rfl fun sas fr hF ho => ?_
  unfold FspO at hF
  split at hF
  · rename_i a0 a1 a2 a3 a4 a5 a6 a7
    cases hF
    refine ⟨[], noLam, 100, .nil, noLam' _, ?_⟩
    show GoodQ (execF Tryz.prog (gmCv fun v => cyOk (cyOf v)) noLam 100 Tryz.f38 [.v (cyv (v8 a0 a1 a2 a3 a4 a5 a6 a7))] [] (packK 0)) _
    rw [exSp]
    refine good_cond (fun q => ?_) fun q => ?_
    · have q : spO (v8 a0 a1 a2 a3 a4 a5 a6 a7) = false := by
        have q' : (!spO (v8 a0 a1 a2 a3 a4 a5 a6 a7)) = true := q
        simpa using q'
      refine good_out ⟨_, rfl, ?_, .nil⟩
      rw [sgR, sgM, q]
      rfl
    · have q : spO (v8 a0 a1 a2 a3 a4 a5 a6 a7) = true := by
        have q' : (!spO (v8 a0 a1 a2 a3 a4 a5 a6 a7)) = false := q
        simpa using q'
      refine good_needs (obS_of q) (good_out ⟨_, rfl, ?_, .nil⟩)
      rw [sgR, sgM, q]
      rfl
  · cases hF

/-- One step of the sum: both numbers of a point. -/
def hsh (h : Int) (R M : Nat) : Int := IntKind.wrap IntKind.u32 (IntKind.wrap IntKind.u32 (((BitVec.ofInt 32 (IntKind.wrap IntKind.u32 (IntKind.wrap IntKind.u32 (((BitVec.ofInt 32 h ^^^ BitVec.ofInt 32 (R : Int)).toNat : Nat) : Int) * 16777619)) ^^^ BitVec.ofInt 32 (M : Int)).toNat : Nat) : Int) * 16777619)
/-- The sum after i turns. -/
def ckH (f : Nat → Nat → Int) (q : Nat) : Nat → Int
  | 0 => 2166136261
  | i + 1 => hsh (ckH f q i) (sgR (w8 (daV f i q))) (sgM (w8 (daV f i q)))
def badCk (f : Nat → Nat → Int) (q : Nat) (i : Nat) : Bool := !daOk f i q
theorem cyOf_w8 (a : Nat → Int) : cyOf (w8 a) = cyOf a := rfl
theorem da_sp {f : Nat → Nat → Int} {n : Int} {m : Nat} (h : daOk f n m = true) : spO (w8 (daV f n m)) = true := by
  have h2 := h
  unfold daOk at h2
  rw [Bool.and_eq_true] at h2
  rw [spO, cyOf_w8, daV, h, cond_true]
  exact h2.2
theorem gmCkI_ok : GamOk Tryz.prog (gmCkI daV daOk sgR sgM spO) := ext_ok (ext_ok g0_ok ok_DAI) ok_sg
theorem gmCkS_ok : GamOk Tryz.prog (gmCkS daV daOk sgR sgM spO) := by
  refine ext_ok (ext_ok g0_ok ?_) ok_sp
  rw [FDAo_eq]
  exact ok_DA
theorem sumCkI (m : Nat) (f : Nat → Nat → Int) (q : Nat) (g : Nat → Nat → Int) (hq : q ≤ 12) :
    SumOk Tryz.prog 1 (.block 0 (.loop (loopAt 0 fCkI))) (atS 49 (lvCkI .normal) 1 (stCkI q 2166136261 0) (hpCk m f q g) (fun K => cond (noneTo (badCk g q) 24) (K .normal (mkT 0 49 [(6, .v (.int .u32 (ckH g q 24)))]) (hpC m f)) (K .ret (mkT 0 49 [(2, .v (.int .u32 0)), (3, .v (.bool false))]) (hpC m f)))) := by
  refine for_at gmCkI_ok (n := 100) (m := 1) (lv := lvCkI) (fun i => stCkI q (ckH g q i) i) (fun _ => hpCk m f q g) (fun i => noneTo (badCk g q) i = true) 24 (fun _ => noLam) (lv3_ris rfl rfl rfl) (Nat.le_refl _) rfl fun K Q hk i hi h24 => ⟨noLam_ok _ _ _, ?_⟩
  rw [rndCkI]
  refine good_cond (fun c1 => ?_) fun c1 => ?_
  · have c1 := of_decide_eq_true c1
    have c1' : i < 24 := by omega
    simp only [row0, daOk_row, daV_row]
    rw [wr_in (x := (i : Int) + 1) (by omega)]
    refine good_needs (by simp only [ob_cons, ob_nil, and_true, decide_eq_true_eq, Nat.ble_eq, allW_row, true_and]; omega) (good_cond (fun p => ?_) fun p => ?_)
    · refine good_out ⟨_, Hsim.refl _, ?_⟩
      have hb : badCk g q i = true := p
      rw [noneTo_no c1' hb] at hk
      exact hk
    · have hb : badCk g q i = false := p
      have hd : daOk g i q = true := by simpa [badCk] using hb
      exact good_needs (by rw [ob_cons]; exact ⟨da_sp hd, rfl⟩) (good_out ⟨i + 1, ⟨rfl, c1', noneTo_succ hi hb⟩, rfl, Hsim.refl _⟩)
  · have c1 := of_decide_eq_false c1
    have : i = 24 := by omega
    subst this
    refine good_out ⟨_, Hsim.refl _, ?_⟩
    rw [if_pos rfl]
    rw [hi] at hk
    exact hk
theorem sumCkS (m : Nat) (f : Nat → Nat → Int) (q : Nat) (g : Nat → Nat → Int) (hq : q ≤ 12) :
    SumOk Tryz.prog 1 (.block 0 (.loop (loopAt 0 fCkS))) (atS 53 (lvCkS .normal) 1 (stCkS q 2166136261 0) (hpCkS m f q g) (fun K => cond (noneTo (badCk g q) 24) (K .normal (mkT 0 53 [(6, .v (.int .u32 (ckH g q 24)))]) (hpC m f)) (K .ret (mkT 0 53 [(2, .v (.int .u32 0)), (3, .v (.bool false))]) (hpC m f)))) := by
  refine for_at gmCkS_ok (n := 100) (m := 1) (lv := lvCkS) (fun i => stCkS q (ckH g q i) i) (fun _ => hpCkS m f q g) (fun i => noneTo (badCk g q) i = true) 24 (fun _ => noLam) (lv3_ris rfl rfl rfl) (Nat.le_refl _) rfl fun K Q hk i hi h24 => ⟨noLam_ok _ _ _, ?_⟩
  rw [rndCkS]
  refine good_cond (fun c1 => ?_) fun c1 => ?_
  · have c1 := of_decide_eq_true c1
    have c1' : i < 24 := by omega
    simp only [row0, daOk_row, daV_row]
    rw [wr_in (x := (i : Int) + 1) (by omega)]
    refine good_needs (by simp only [ob_cons, ob_nil, and_true, decide_eq_true_eq, Nat.ble_eq, allW_row, true_and]; omega) (good_cond (fun p => ?_) fun p => ?_)
    · refine good_out ⟨_, Hsim.refl _, ?_⟩
      have hb : badCk g q i = true := p
      rw [noneTo_no c1' hb] at hk
      exact hk
    · have hb : badCk g q i = false := p
      have hd : daOk g i q = true := by simpa [badCk] using hb
      rw [da_sp hd]
      exact good_false rfl (good_out ⟨i + 1, ⟨rfl, c1', noneTo_succ hi hb⟩, rfl, Hsim.refl _⟩)
  · have c1 := of_decide_eq_false c1
    have : i = 24 := by omega
    subst this
    refine good_out ⟨_, Hsim.refl _, ?_⟩
    rw [if_pos rfl]
    rw [hi] at hk
    exact hk

noncomputable abbrev lamCkI (m : Nat) (f : Nat → Nat → Int) (q : Nat) (g : Nat → Nat → Int) (c : Bool) (x : Int) : Nat → Option Sum := oneL 0 (atS 49 (lvCkI .normal) 1 (stCkI q 2166136261 0) (hpCk m f q g) (fun K => cond c (K .normal (mkT 0 49 [(6, .v (.int .u32 x))]) (hpC m f)) (K .ret (mkT 0 49 [(2, .v (.int .u32 0)), (3, .v (.bool false))]) (hpC m f))))
noncomputable abbrev lamCkS (m : Nat) (f : Nat → Nat → Int) (q : Nat) (g : Nat → Nat → Int) (c : Bool) (x : Int) : Nat → Option Sum := oneL 0 (atS 53 (lvCkS .normal) 1 (stCkS q 2166136261 0) (hpCkS m f q g) (fun K => cond c (K .normal (mkT 0 53 [(6, .v (.int .u32 x))]) (hpC m f)) (K .ret (mkT 0 53 [(2, .v (.int .u32 0)), (3, .v (.bool false))]) (hpC m f))))
def gmTdI (yI : List Wh → Bool) (tI : List Wh → List Wh) : Gam := ext g0 33 (specU md_ws (UO0 yI tI))
def gmTdS (yI : List Wh → Bool) (tI : List Wh → List Wh) : Gam := ext g0 35 (specR md_ws (FOw yI tI))
theorem treeCkI (yI : List Wh → Bool) (tI : List Wh → List Wh) (m : Nat) (f : Nat → Nat → Int) (q : Nat) (g : Nat → Nat → Int) (c : Bool) (x : Int) : execF Tryz.prog (gmTdI yI tI) (lamCkI m f q g c x) 100 fCkI [.sl 0 9 0 0 m none] (hpC m f) (packK 1)
    = needs [Nat.ble ((0 : Nat) + m) m, allW m fun q ↦ row9 f ((0 : Nat) + q), decide (m ≤ (274877906944 : Nat))] (bif !yI (listW (itW fun q ↦ row9 f ((0 : Nat) + q)) m) then Res.out Ex.ret [AV.tup [AV.v (Value.int IntKind.u32 (0 : Int)), AV.v (Value.bool false)]] [AB.row false m (9 : Nat) (row9 f) (53 : TypeId)] else needs [chk ([AV.sl (1 : Nat) (9 : Nat) (0 : Nat) (0 : Nat) (List.length (tI (listW (itW fun q ↦ row9 f ((0 : Nat) + q)) m))) (some (List.length (tI (listW (itW fun q ↦ row9 f ((0 : Nat) + q)) m)))), AV.v (Value.int IntKind.u32 (2166136261 : Int)), AV.v (Value.int IntKind.i64 (0 : Int))] = stCkI q (2166136261 : Int) (0 : Nat) ∧ Hsim [AB.row false m (9 : Nat) (row9 f) (53 : TypeId), AB.row false (List.length (tI (listW (itW fun q ↦ row9 f ((0 : Nat) + q)) m))) (9 : Nat) (row9 (wfun (tI (listW (itW fun q ↦ row9 f ((0 : Nat) + q)) m)))) (53 : TypeId)] (hpCk m f q g))] (bif c then Res.out Ex.ret [AV.tup [AV.v (Value.int IntKind.u32 x), AV.v (Value.bool true)]] [AB.row false m (9 : Nat) (row9 f) (53 : TypeId)] else Res.out Ex.ret [AV.tup [AV.v (Value.int IntKind.u32 (0 : Int)), AV.v (Value.bool false)]] [AB.row false m (9 : Nat) (row9 f) (53 : TypeId)])) := by kernel_rfl

theorem treeCkS (yI : List Wh → Bool) (tI : List Wh → List Wh) (m : Nat) (f : Nat → Nat → Int) (q : Nat) (g : Nat → Nat → Int) (c : Bool) (x : Int) : execF Tryz.prog (gmTdS yI tI) (lamCkS m f q g c x) 100 fCkS [.sl 0 9 0 0 m none] (hpC m f) (packK 1)
    = needs [Nat.ble ((0 : Nat) + m) m, allW m fun q ↦ row9 f ((0 : Nat) + q), decide (m ≤ (274877906944 : Nat))] (bif !yI (listW (itW fun q ↦ row9 f ((0 : Nat) + q)) m) then Res.out Ex.ret [AV.tup [AV.v (Value.int IntKind.u32 (0 : Int)), AV.v (Value.bool false)]] [AB.row false m (9 : Nat) (row9 f) (53 : TypeId)] else needs [chk ([AV.own (1 : Nat) (List.length (tI (listW (itW fun q ↦ row9 f ((0 : Nat) + q)) m))), AV.v (Value.int IntKind.u32 (2166136261 : Int)), AV.v (Value.int IntKind.i64 (0 : Int))] = stCkS q (2166136261 : Int) (0 : Nat) ∧ Hsim [AB.row false m (9 : Nat) (row9 f) (53 : TypeId), AB.row true (List.length (tI (listW (itW fun q ↦ row9 f ((0 : Nat) + q)) m))) (9 : Nat) (row9 (wfun (tI (listW (itW fun q ↦ row9 f ((0 : Nat) + q)) m)))) (53 : TypeId)] (hpCkS m f q g))] (bif c then Res.out Ex.ret [AV.tup [AV.v (Value.int IntKind.u32 x), AV.v (Value.bool true)]] [AB.row false m (9 : Nat) (row9 f) (53 : TypeId)] else Res.out Ex.ret [AV.tup [AV.v (Value.int IntKind.u32 (0 : Int)), AV.v (Value.bool false)]] [AB.row false m (9 : Nat) (row9 f) (53 : TypeId)])) := by kernel_rfl

end Go.Proofs.YteadmfceniidcaaGreatDoor

/- DesignCheck of both: their word. Conditions: a list of wheels. -/
namespace Go.Proofs.YteadmfceniidcaaGreatDoor
open Go.RowKit
set_option maxRecDepth 100000

/-- A sum is there: the list is tidied, and has a point at each turn. -/
def ckY (L : List Wh) : Bool := yI L && noneTo (badCk (wfun (tI L)) (tI L).length) 24
def ckV (L : List Wh) : Int := bif ckY L then ckH (wfun (tI L)) (tI L).length 24 else 0
def FckO (v : List Wh → Int) (y : List Wh → Bool) : List SA → Option FR
  | [.row m g] => some { val := .tup [.v (.int .u32 (v (listW (itW g) m))), .v (.bool (y (listW (itW g) m)))], obl := [allW m g, decide (m ≤ 2 ^ 38)] }
  | _ => none
theorem tI_len12 (L : List Wh) : (tI L).length ≤ 12 := by
  cases h : yI L with
  | true =>
    rw [tI, h, cond_true]
    rw [yI, Bool.and_eq_true] at h
    exact tidyL_len h.2
  | false => rw [tI_no h]; exact Nat.zero_le _
theorem ok_ckI : SpecOk Tryz.prog 24 (specR md_ws (FckO ckV ckY)) := by
  refine specR_hr (Γ := gmTdI yI tI) (ext_ok g0_ok ok_UTi) Tryz.func24 rfl fun sas fr hF ho => ?_
  unfold FckO at hF
  split at hF
  · rename_i m g
    cases hF
    simp only [ob_cons] at ho
    obtain ⟨h1, h2, _⟩ := ho
    have hm := of_decide_eq_true h2
    have fin : ∀ v b, ckV (listW (itW g) m) = v → ckY (listW (itW g) m) = b → GoodQ (.out .ret [.tup [.v (.int .u32 v), .v (.bool b)]] (hpC m (itW g))) (GivR (abP md_ws [.row m g] []) { val := .tup [.v (.int .u32 (ckV (listW (itW g) m))), .v (.bool (ckY (listW (itW g) m)))], obl := [allW m g, decide (m ≤ 2 ^ 38)] }) := fun v b hv hb =>
      good_out ⟨_, rfl, by rw [hv, hb], .cons (ABeq.row fun j hj => (allW_get h1 j hj).symm) .nil⟩
    have no : ckY (listW (itW g) m) = false → GoodQ (.out .ret [.tup [.v (.int .u32 0), .v (.bool false)]] (hpC m (itW g))) (GivR (abP md_ws [.row m g] []) { val := .tup [.v (.int .u32 (ckV (listW (itW g) m))), .v (.bool (ckY (listW (itW g) m)))], obl := [allW m g, decide (m ≤ 2 ^ 38)] }) := fun h => fin 0 false (by rw [ckV, h]; rfl) h
    refine ⟨hpC m (itW g), lamCkI m (itW g) (tI (listW (itW g) m)).length (wfun (tI (listW (itW g) m))) (noneTo (badCk (wfun (tI (listW (itW g) m))) (tI (listW (itW g) m)).length) 24) (ckH (wfun (tI (listW (itW g) m))) (tI (listW (itW g) m)).length 24), 100, .cons (ABeq.row fun j hj => allW_get h1 j hj) .nil, lam1 (by kernel_rfl) (sumCkI m (itW g) _ _ (tI_len12 _)), ?_⟩
    show GoodQ (execF Tryz.prog (gmTdI yI tI) (lamCkI m (itW g) (tI (listW (itW g) m)).length (wfun (tI (listW (itW g) m))) (noneTo (badCk (wfun (tI (listW (itW g) m))) (tI (listW (itW g) m)).length) 24) (ckH (wfun (tI (listW (itW g) m))) (tI (listW (itW g) m)).length 24)) 100 fCkI [.sl 0 9 0 0 m none] (hpC m (itW g)) (packK 1)) _
    rw [treeCkI]
    simp only [row0, listW_itW]
    generalize listW (itW g) m = L at fin no ⊢
    refine good_needs (by simp only [ob_cons, ob_nil, and_true, decide_eq_true_eq, Nat.ble_eq, allW_row, true_and]; omega) (good_cond (fun q => ?_) fun q => good_needs (by rw [ob_cons]; exact ⟨chk_of ⟨rfl, Hsim.refl _⟩, rfl⟩) (good_cond (fun q2 => ?_) fun q2 => ?_))
    · rw [Bool.not_eq_true'] at q
      exact no (by rw [ckY, q]; rfl)
    · rw [Bool.not_eq_false'] at q
      have h : ckY L = true := by rw [ckY, q, q2]; rfl
      exact fin _ true (by rw [ckV, h]; rfl) h
    · rw [Bool.not_eq_false'] at q
      exact no (by rw [ckY, q, q2]; rfl)
  · cases hF
theorem ok_ckS : SpecOk Tryz.prog 21 (specR md_ws (FckO ckV ckY)) := by
  refine specR_hr (Γ := gmTdS yI tI) (ext_ok g0_ok ok_tiS) Tryz.func21 rfl fun sas fr hF ho => ?_
  unfold FckO at hF
  split at hF
  · rename_i m g
    cases hF
    simp only [ob_cons] at ho
    obtain ⟨h1, h2, _⟩ := ho
    have hm := of_decide_eq_true h2
    have fin : ∀ v b, ckV (listW (itW g) m) = v → ckY (listW (itW g) m) = b → GoodQ (.out .ret [.tup [.v (.int .u32 v), .v (.bool b)]] (hpC m (itW g))) (GivR (abP md_ws [.row m g] []) { val := .tup [.v (.int .u32 (ckV (listW (itW g) m))), .v (.bool (ckY (listW (itW g) m)))], obl := [allW m g, decide (m ≤ 2 ^ 38)] }) := fun v b hv hb =>
      good_out ⟨_, rfl, by rw [hv, hb], .cons (ABeq.row fun j hj => (allW_get h1 j hj).symm) .nil⟩
    have no : ckY (listW (itW g) m) = false → GoodQ (.out .ret [.tup [.v (.int .u32 0), .v (.bool false)]] (hpC m (itW g))) (GivR (abP md_ws [.row m g] []) { val := .tup [.v (.int .u32 (ckV (listW (itW g) m))), .v (.bool (ckY (listW (itW g) m)))], obl := [allW m g, decide (m ≤ 2 ^ 38)] }) := fun h => fin 0 false (by rw [ckV, h]; rfl) h
    refine ⟨hpC m (itW g), lamCkS m (itW g) (tI (listW (itW g) m)).length (wfun (tI (listW (itW g) m))) (noneTo (badCk (wfun (tI (listW (itW g) m))) (tI (listW (itW g) m)).length) 24) (ckH (wfun (tI (listW (itW g) m))) (tI (listW (itW g) m)).length 24), 100, .cons (ABeq.row fun j hj => allW_get h1 j hj) .nil, lam1 (by kernel_rfl) (sumCkS m (itW g) _ _ (tI_len12 _)), ?_⟩
    show GoodQ (execF Tryz.prog (gmTdS yI tI) (lamCkS m (itW g) (tI (listW (itW g) m)).length (wfun (tI (listW (itW g) m))) (noneTo (badCk (wfun (tI (listW (itW g) m))) (tI (listW (itW g) m)).length) 24) (ckH (wfun (tI (listW (itW g) m))) (tI (listW (itW g) m)).length 24)) 100 fCkS [.sl 0 9 0 0 m none] (hpC m (itW g)) (packK 1)) _
    rw [treeCkS]
    simp only [row0, listW_itW]
    generalize listW (itW g) m = L at fin no ⊢
    refine good_needs (by simp only [ob_cons, ob_nil, and_true, decide_eq_true_eq, Nat.ble_eq, allW_row, true_and]; omega) (good_cond (fun q => ?_) fun q => good_needs (by rw [ob_cons]; exact ⟨chk_of ⟨rfl, Hsim.refl _⟩, rfl⟩) (good_cond (fun q2 => ?_) fun q2 => ?_))
    · rw [Bool.not_eq_true'] at q
      exact no (by rw [ckY, q]; rfl)
    · rw [Bool.not_eq_false'] at q
      have h : ckY L = true := by rw [ckY, q, q2]; rfl
      exact fin _ true (by rw [ckV, h]; rfl) h
    · rw [Bool.not_eq_false'] at q
      exact no (by rw [ckY, q, q2]; rfl)
  · cases hF

end Go.Proofs.YteadmfceniidcaaGreatDoor

/- DesignText and EntryMake of both sides: trees. Conditions: a list of wheels. -/
namespace Go.Proofs.YteadmfceniidcaaGreatDoor
open Go.RowKit
set_option maxRecDepth 100000

def gmDtI (yI : List Wh → Bool) (tI : List Wh → List Wh) (tx : List Wh → ByteArray) (okd : List Wh → Bool) : Gam := ext (gmTdI yI tI) 34 (specR md_ws (FtxO tx okd))
def gmDtS (yI : List Wh → Bool) (tI : List Wh → List Wh) (tx : List Wh → ByteArray) (okd : List Wh → Bool) : Gam := ext (gmTdS yI tI) 36 (specR md_ws (FtxO tx okd))
theorem treeDtI (yI : List Wh → Bool) (tI : List Wh → List Wh) (tx : List Wh → ByteArray) (okd : List Wh → Bool) (m : Nat) (f : Nat → Nat → Int) : execF Tryz.prog (gmDtI yI tI tx okd) noLam 100 Tryz.f23 [.sl 0 9 0 0 m none] (hpC m f) (packK 1)
    = needs [Nat.ble ((0 : Nat) + m) m, allW m fun q ↦ row9 f ((0 : Nat) + q), decide (m ≤ (274877906944 : Nat))] (bif !yI (listW (itW fun q ↦ row9 f ((0 : Nat) + q)) m) then Res.out Ex.ret [AV.tup [AV.v (Value.string (ByteArray.mk (Array.mk []))), AV.v (Value.bool false)]] [AB.row false m (9 : Nat) (row9 f) (53 : TypeId)] else needs [Nat.ble ((0 : Nat) + List.length (tI (listW (itW fun q ↦ row9 f ((0 : Nat) + q)) m))) (List.length (tI (listW (itW fun q ↦ row9 f ((0 : Nat) + q)) m))), allW (List.length (tI (listW (itW fun q ↦ row9 f ((0 : Nat) + q)) m))) fun q ↦ row9 (wfun (tI (listW (itW fun q ↦ row9 f ((0 : Nat) + q)) m))) ((0 : Nat) + q), okd (listW (itW fun q ↦ row9 (wfun (tI (listW (itW fun q ↦ row9 f ((0 : Nat) + q)) m))) ((0 : Nat) + q)) (List.length (tI (listW (itW fun q ↦ row9 f ((0 : Nat) + q)) m))))] (Res.out Ex.ret [AV.tup [AV.v (Value.string (tx (listW (itW fun q ↦ row9 (wfun (tI (listW (itW fun q ↦ row9 f ((0 : Nat) + q)) m))) ((0 : Nat) + q)) (List.length (tI (listW (itW fun q ↦ row9 f ((0 : Nat) + q)) m)))))), AV.v (Value.bool true)]] [AB.row false m (9 : Nat) (row9 f) (53 : TypeId)])) := by kernel_rfl

theorem treeDtS (yI : List Wh → Bool) (tI : List Wh → List Wh) (tx : List Wh → ByteArray) (okd : List Wh → Bool) (m : Nat) (f : Nat → Nat → Int) : execF Tryz.prog (gmDtS yI tI tx okd) noLam 100 Tryz.f20 [.sl 0 9 0 0 m none] (hpC m f) (packK 1)
    = needs [Nat.ble ((0 : Nat) + m) m, allW m fun q ↦ row9 f ((0 : Nat) + q), decide (m ≤ (274877906944 : Nat))] (bif !yI (listW (itW fun q ↦ row9 f ((0 : Nat) + q)) m) then Res.out Ex.ret [AV.tup [AV.v (Value.string (ByteArray.mk (Array.mk []))), AV.v (Value.bool false)]] [AB.row false m (9 : Nat) (row9 f) (53 : TypeId)] else needs [Nat.ble (List.length (tI (listW (itW fun q ↦ row9 f ((0 : Nat) + q)) m))) (List.length (tI (listW (itW fun q ↦ row9 f ((0 : Nat) + q)) m))), allW (List.length (tI (listW (itW fun q ↦ row9 f ((0 : Nat) + q)) m))) (row9 (wfun (tI (listW (itW fun q ↦ row9 f ((0 : Nat) + q)) m)))), okd (listW (itW (row9 (wfun (tI (listW (itW fun q ↦ row9 f ((0 : Nat) + q)) m))))) (List.length (tI (listW (itW fun q ↦ row9 f ((0 : Nat) + q)) m))))] (Res.out Ex.ret [AV.tup [AV.v (Value.string (tx (listW (itW (row9 (wfun (tI (listW (itW fun q ↦ row9 f ((0 : Nat) + q)) m))))) (List.length (tI (listW (itW fun q ↦ row9 f ((0 : Nat) + q)) m)))))), AV.v (Value.bool true)]] [AB.row false m (9 : Nat) (row9 f) (53 : TypeId)])) := by kernel_rfl

def FdtO (tv : List Wh → ByteArray) (yt : List Wh → Bool) : List SA → Option FR
  | [.row m g] => some { val := .tup [.v (.string (tv (listW (itW g) m))), .v (.bool (yt (listW (itW g) m)))], obl := [allW m g, decide (m ≤ 2 ^ 38)] }
  | _ => none
def gmEmI (tv : List Wh → ByteArray) (yt : List Wh → Bool) (cv : List Wh → Int) (cy : List Wh → Bool) : Gam := ext (ext g0 23 (specR md_ws (FdtO tv yt))) 24 (specR md_ws (FckO cv cy))
def gmEmS (tv : List Wh → ByteArray) (yt : List Wh → Bool) (cv : List Wh → Int) (cy : List Wh → Bool) : Gam := ext (ext g0 20 (specR md_ws (FdtO tv yt))) 21 (specR md_ws (FckO cv cy))
theorem treeEmI (tv : List Wh → ByteArray) (yt : List Wh → Bool) (cv : List Wh → Int) (cy : List Wh → Bool) (m : Nat) (f : Nat → Nat → Int) : execF Tryz.prog (gmEmI tv yt cv cy) noLam 100 Tryz.f10 [.sl 0 9 0 0 m none] (hpC m f) (packK 1)
    = needs [Nat.ble ((0 : Nat) + m) m, allW m fun q ↦ row9 f ((0 : Nat) + q), decide (m ≤ (274877906944 : Nat)), Nat.ble ((0 : Nat) + m) m, allW m fun q ↦ row9 f ((0 : Nat) + q), decide (m ≤ (274877906944 : Nat))] (bif !yt (listW (itW fun q ↦ row9 f ((0 : Nat) + q)) m) then Res.out Ex.ret [AV.tup [AV.agg [AV.v (Value.string (ByteArray.mk (Array.mk []))), AV.v (Value.int IntKind.u32 (0 : Int))], AV.v (Value.bool false)]] [AB.row false m (9 : Nat) (row9 f) (53 : TypeId)] else bif !cy (listW (itW fun q ↦ row9 f ((0 : Nat) + q)) m) then Res.out Ex.ret [AV.tup [AV.agg [AV.v (Value.string (ByteArray.mk (Array.mk []))), AV.v (Value.int IntKind.u32 (0 : Int))], AV.v (Value.bool false)]] [AB.row false m (9 : Nat) (row9 f) (53 : TypeId)] else bif decide ((↑(ByteArray.size (tv (listW (itW fun q ↦ row9 f ((0 : Nat) + q)) m))) : Int) > (1500 : Int)) then Res.out Ex.ret [AV.tup [AV.agg [AV.v (Value.string (ByteArray.mk (Array.mk []))), AV.v (Value.int IntKind.u32 (0 : Int))], AV.v (Value.bool false)]] [AB.row false m (9 : Nat) (row9 f) (53 : TypeId)] else Res.out Ex.ret [AV.tup [AV.agg [AV.v (Value.string (tv (listW (itW fun q ↦ row9 f ((0 : Nat) + q)) m))), AV.v (Value.int IntKind.u32 (cv (listW (itW fun q ↦ row9 f ((0 : Nat) + q)) m)))], AV.v (Value.bool true)]] [AB.row false m (9 : Nat) (row9 f) (53 : TypeId)]) := by kernel_rfl

theorem treeEmS (tv : List Wh → ByteArray) (yt : List Wh → Bool) (cv : List Wh → Int) (cy : List Wh → Bool) (m : Nat) (f : Nat → Nat → Int) : execF Tryz.prog (gmEmS tv yt cv cy) noLam 100 Tryz.f8 [.sl 0 9 0 0 m none] (hpC m f) (packK 1)
    = needs [Nat.ble ((0 : Nat) + m) m, allW m fun q ↦ row9 f ((0 : Nat) + q), decide (m ≤ (274877906944 : Nat)), Nat.ble ((0 : Nat) + m) m, allW m fun q ↦ row9 f ((0 : Nat) + q), decide (m ≤ (274877906944 : Nat))] (bif !yt (listW (itW fun q ↦ row9 f ((0 : Nat) + q)) m) then Res.out Ex.ret [AV.tup [AV.agg [AV.v (Value.string (ByteArray.mk (Array.mk []))), AV.v (Value.int IntKind.u32 (0 : Int))], AV.v (Value.bool false)]] [AB.row false m (9 : Nat) (row9 f) (53 : TypeId)] else bif !cy (listW (itW fun q ↦ row9 f ((0 : Nat) + q)) m) then Res.out Ex.ret [AV.tup [AV.agg [AV.v (Value.string (ByteArray.mk (Array.mk []))), AV.v (Value.int IntKind.u32 (0 : Int))], AV.v (Value.bool false)]] [AB.row false m (9 : Nat) (row9 f) (53 : TypeId)] else bif decide ((↑(ByteArray.size (tv (listW (itW fun q ↦ row9 f ((0 : Nat) + q)) m))) : Int) > (1500 : Int)) then Res.out Ex.ret [AV.tup [AV.agg [AV.v (Value.string (ByteArray.mk (Array.mk []))), AV.v (Value.int IntKind.u32 (0 : Int))], AV.v (Value.bool false)]] [AB.row false m (9 : Nat) (row9 f) (53 : TypeId)] else Res.out Ex.ret [AV.tup [AV.agg [AV.v (Value.string (tv (listW (itW fun q ↦ row9 f ((0 : Nat) + q)) m))), AV.v (Value.int IntKind.u32 (cv (listW (itW fun q ↦ row9 f ((0 : Nat) + q)) m)))], AV.v (Value.bool true)]] [AB.row false m (9 : Nat) (row9 f) (53 : TypeId)]) := by kernel_rfl

end Go.Proofs.YteadmfceniidcaaGreatDoor

/- Plain algebra: how great products, mirrored points and parts can be. No program, no conditions. -/
namespace Go.Proofs.YteadmfceniidcaaGreatDoor
open Go.RowKit

theorem mul_bd {x y A B : Int} (h1 : -A ≤ x) (h2 : x ≤ A) (h3 : -B ≤ y) (h4 : y ≤ B) : -(A * B) ≤ x * y ∧ x * y ≤ A * B := by
  have hA : 0 ≤ A := by omega
  have hB : 0 ≤ B := by omega
  have e1 : 0 ≤ (A - x) * (B - y) := Int.mul_nonneg (by omega) (by omega)
  have e2 : 0 ≤ (A + x) * (B + y) := Int.mul_nonneg (by omega) (by omega)
  have e3 : 0 ≤ (A - x) * (B + y) := Int.mul_nonneg (by omega) (by omega)
  have e4 : 0 ≤ (A + x) * (B - y) := Int.mul_nonneg (by omega) (by omega)
  have g1 : (A - x) * (B - y) = A * B - A * y - x * B + x * y := by grind
  have g2 : (A + x) * (B + y) = A * B + A * y + x * B + x * y := by grind
  have g3 : (A - x) * (B + y) = A * B + A * y - x * B - x * y := by grind
  have g4 : (A + x) * (B - y) = A * B - A * y + x * B - x * y := by grind
  omega
/-- All eight lie between -B and B. -/
def bd8 (B : Int) (f : Nat → Int) : Prop := ∀ k, k < 8 → -B ≤ f k ∧ f k ≤ B
def bd4 (B : Int) (f : Nat → Int) : Prop := ∀ k, k < 4 → -B ≤ f k ∧ f k ≤ B

theorem conv_bd0 {a b : Nat → Int} {A B : Int} (ha : bd8 A a) (hb : bd8 B b) : -(8 * (A * B)) ≤ convF a b 0 ∧ convF a b 0 ≤ 8 * (A * B) := by
  have h0 : 0 ≤ A * B := by
    have := ha 0 (by omega); have := hb 0 (by omega)
    exact Int.mul_nonneg (by omega) (by omega)
  have p0 := mul_bd (ha 0 (by omega)).1 (ha 0 (by omega)).2 (hb 0 (by omega)).1 (hb 0 (by omega)).2
  simp only [convF]
  omega
theorem conv_bd1 {a b : Nat → Int} {A B : Int} (ha : bd8 A a) (hb : bd8 B b) : -(8 * (A * B)) ≤ convF a b 1 ∧ convF a b 1 ≤ 8 * (A * B) := by
  have h0 : 0 ≤ A * B := by
    have := ha 0 (by omega); have := hb 0 (by omega)
    exact Int.mul_nonneg (by omega) (by omega)
  have p0 := mul_bd (ha 0 (by omega)).1 (ha 0 (by omega)).2 (hb 1 (by omega)).1 (hb 1 (by omega)).2
  have p1 := mul_bd (ha 1 (by omega)).1 (ha 1 (by omega)).2 (hb 0 (by omega)).1 (hb 0 (by omega)).2
  simp only [convF]
  omega
theorem conv_bd2 {a b : Nat → Int} {A B : Int} (ha : bd8 A a) (hb : bd8 B b) : -(8 * (A * B)) ≤ convF a b 2 ∧ convF a b 2 ≤ 8 * (A * B) := by
  have h0 : 0 ≤ A * B := by
    have := ha 0 (by omega); have := hb 0 (by omega)
    exact Int.mul_nonneg (by omega) (by omega)
  have p0 := mul_bd (ha 0 (by omega)).1 (ha 0 (by omega)).2 (hb 2 (by omega)).1 (hb 2 (by omega)).2
  have p1 := mul_bd (ha 1 (by omega)).1 (ha 1 (by omega)).2 (hb 1 (by omega)).1 (hb 1 (by omega)).2
  have p2 := mul_bd (ha 2 (by omega)).1 (ha 2 (by omega)).2 (hb 0 (by omega)).1 (hb 0 (by omega)).2
  simp only [convF]
  omega
theorem conv_bd3 {a b : Nat → Int} {A B : Int} (ha : bd8 A a) (hb : bd8 B b) : -(8 * (A * B)) ≤ convF a b 3 ∧ convF a b 3 ≤ 8 * (A * B) := by
  have h0 : 0 ≤ A * B := by
    have := ha 0 (by omega); have := hb 0 (by omega)
    exact Int.mul_nonneg (by omega) (by omega)
  have p0 := mul_bd (ha 0 (by omega)).1 (ha 0 (by omega)).2 (hb 3 (by omega)).1 (hb 3 (by omega)).2
  have p1 := mul_bd (ha 1 (by omega)).1 (ha 1 (by omega)).2 (hb 2 (by omega)).1 (hb 2 (by omega)).2
  have p2 := mul_bd (ha 2 (by omega)).1 (ha 2 (by omega)).2 (hb 1 (by omega)).1 (hb 1 (by omega)).2
  have p3 := mul_bd (ha 3 (by omega)).1 (ha 3 (by omega)).2 (hb 0 (by omega)).1 (hb 0 (by omega)).2
  simp only [convF]
  omega
theorem conv_bd4 {a b : Nat → Int} {A B : Int} (ha : bd8 A a) (hb : bd8 B b) : -(8 * (A * B)) ≤ convF a b 4 ∧ convF a b 4 ≤ 8 * (A * B) := by
  have h0 : 0 ≤ A * B := by
    have := ha 0 (by omega); have := hb 0 (by omega)
    exact Int.mul_nonneg (by omega) (by omega)
  have p0 := mul_bd (ha 0 (by omega)).1 (ha 0 (by omega)).2 (hb 4 (by omega)).1 (hb 4 (by omega)).2
  have p1 := mul_bd (ha 1 (by omega)).1 (ha 1 (by omega)).2 (hb 3 (by omega)).1 (hb 3 (by omega)).2
  have p2 := mul_bd (ha 2 (by omega)).1 (ha 2 (by omega)).2 (hb 2 (by omega)).1 (hb 2 (by omega)).2
  have p3 := mul_bd (ha 3 (by omega)).1 (ha 3 (by omega)).2 (hb 1 (by omega)).1 (hb 1 (by omega)).2
  have p4 := mul_bd (ha 4 (by omega)).1 (ha 4 (by omega)).2 (hb 0 (by omega)).1 (hb 0 (by omega)).2
  simp only [convF]
  omega
theorem conv_bd5 {a b : Nat → Int} {A B : Int} (ha : bd8 A a) (hb : bd8 B b) : -(8 * (A * B)) ≤ convF a b 5 ∧ convF a b 5 ≤ 8 * (A * B) := by
  have h0 : 0 ≤ A * B := by
    have := ha 0 (by omega); have := hb 0 (by omega)
    exact Int.mul_nonneg (by omega) (by omega)
  have p0 := mul_bd (ha 0 (by omega)).1 (ha 0 (by omega)).2 (hb 5 (by omega)).1 (hb 5 (by omega)).2
  have p1 := mul_bd (ha 1 (by omega)).1 (ha 1 (by omega)).2 (hb 4 (by omega)).1 (hb 4 (by omega)).2
  have p2 := mul_bd (ha 2 (by omega)).1 (ha 2 (by omega)).2 (hb 3 (by omega)).1 (hb 3 (by omega)).2
  have p3 := mul_bd (ha 3 (by omega)).1 (ha 3 (by omega)).2 (hb 2 (by omega)).1 (hb 2 (by omega)).2
  have p4 := mul_bd (ha 4 (by omega)).1 (ha 4 (by omega)).2 (hb 1 (by omega)).1 (hb 1 (by omega)).2
  have p5 := mul_bd (ha 5 (by omega)).1 (ha 5 (by omega)).2 (hb 0 (by omega)).1 (hb 0 (by omega)).2
  simp only [convF]
  omega
theorem conv_bd6 {a b : Nat → Int} {A B : Int} (ha : bd8 A a) (hb : bd8 B b) : -(8 * (A * B)) ≤ convF a b 6 ∧ convF a b 6 ≤ 8 * (A * B) := by
  have h0 : 0 ≤ A * B := by
    have := ha 0 (by omega); have := hb 0 (by omega)
    exact Int.mul_nonneg (by omega) (by omega)
  have p0 := mul_bd (ha 0 (by omega)).1 (ha 0 (by omega)).2 (hb 6 (by omega)).1 (hb 6 (by omega)).2
  have p1 := mul_bd (ha 1 (by omega)).1 (ha 1 (by omega)).2 (hb 5 (by omega)).1 (hb 5 (by omega)).2
  have p2 := mul_bd (ha 2 (by omega)).1 (ha 2 (by omega)).2 (hb 4 (by omega)).1 (hb 4 (by omega)).2
  have p3 := mul_bd (ha 3 (by omega)).1 (ha 3 (by omega)).2 (hb 3 (by omega)).1 (hb 3 (by omega)).2
  have p4 := mul_bd (ha 4 (by omega)).1 (ha 4 (by omega)).2 (hb 2 (by omega)).1 (hb 2 (by omega)).2
  have p5 := mul_bd (ha 5 (by omega)).1 (ha 5 (by omega)).2 (hb 1 (by omega)).1 (hb 1 (by omega)).2
  have p6 := mul_bd (ha 6 (by omega)).1 (ha 6 (by omega)).2 (hb 0 (by omega)).1 (hb 0 (by omega)).2
  simp only [convF]
  omega
theorem conv_bd7 {a b : Nat → Int} {A B : Int} (ha : bd8 A a) (hb : bd8 B b) : -(8 * (A * B)) ≤ convF a b 7 ∧ convF a b 7 ≤ 8 * (A * B) := by
  have h0 : 0 ≤ A * B := by
    have := ha 0 (by omega); have := hb 0 (by omega)
    exact Int.mul_nonneg (by omega) (by omega)
  have p0 := mul_bd (ha 0 (by omega)).1 (ha 0 (by omega)).2 (hb 7 (by omega)).1 (hb 7 (by omega)).2
  have p1 := mul_bd (ha 1 (by omega)).1 (ha 1 (by omega)).2 (hb 6 (by omega)).1 (hb 6 (by omega)).2
  have p2 := mul_bd (ha 2 (by omega)).1 (ha 2 (by omega)).2 (hb 5 (by omega)).1 (hb 5 (by omega)).2
  have p3 := mul_bd (ha 3 (by omega)).1 (ha 3 (by omega)).2 (hb 4 (by omega)).1 (hb 4 (by omega)).2
  have p4 := mul_bd (ha 4 (by omega)).1 (ha 4 (by omega)).2 (hb 3 (by omega)).1 (hb 3 (by omega)).2
  have p5 := mul_bd (ha 5 (by omega)).1 (ha 5 (by omega)).2 (hb 2 (by omega)).1 (hb 2 (by omega)).2
  have p6 := mul_bd (ha 6 (by omega)).1 (ha 6 (by omega)).2 (hb 1 (by omega)).1 (hb 1 (by omega)).2
  have p7 := mul_bd (ha 7 (by omega)).1 (ha 7 (by omega)).2 (hb 0 (by omega)).1 (hb 0 (by omega)).2
  simp only [convF]
  omega
theorem conv_bd8 {a b : Nat → Int} {A B : Int} (ha : bd8 A a) (hb : bd8 B b) : -(8 * (A * B)) ≤ convF a b 8 ∧ convF a b 8 ≤ 8 * (A * B) := by
  have h0 : 0 ≤ A * B := by
    have := ha 0 (by omega); have := hb 0 (by omega)
    exact Int.mul_nonneg (by omega) (by omega)
  have p1 := mul_bd (ha 1 (by omega)).1 (ha 1 (by omega)).2 (hb 7 (by omega)).1 (hb 7 (by omega)).2
  have p2 := mul_bd (ha 2 (by omega)).1 (ha 2 (by omega)).2 (hb 6 (by omega)).1 (hb 6 (by omega)).2
  have p3 := mul_bd (ha 3 (by omega)).1 (ha 3 (by omega)).2 (hb 5 (by omega)).1 (hb 5 (by omega)).2
  have p4 := mul_bd (ha 4 (by omega)).1 (ha 4 (by omega)).2 (hb 4 (by omega)).1 (hb 4 (by omega)).2
  have p5 := mul_bd (ha 5 (by omega)).1 (ha 5 (by omega)).2 (hb 3 (by omega)).1 (hb 3 (by omega)).2
  have p6 := mul_bd (ha 6 (by omega)).1 (ha 6 (by omega)).2 (hb 2 (by omega)).1 (hb 2 (by omega)).2
  have p7 := mul_bd (ha 7 (by omega)).1 (ha 7 (by omega)).2 (hb 1 (by omega)).1 (hb 1 (by omega)).2
  simp only [convF]
  omega
theorem conv_bd9 {a b : Nat → Int} {A B : Int} (ha : bd8 A a) (hb : bd8 B b) : -(8 * (A * B)) ≤ convF a b 9 ∧ convF a b 9 ≤ 8 * (A * B) := by
  have h0 : 0 ≤ A * B := by
    have := ha 0 (by omega); have := hb 0 (by omega)
    exact Int.mul_nonneg (by omega) (by omega)
  have p2 := mul_bd (ha 2 (by omega)).1 (ha 2 (by omega)).2 (hb 7 (by omega)).1 (hb 7 (by omega)).2
  have p3 := mul_bd (ha 3 (by omega)).1 (ha 3 (by omega)).2 (hb 6 (by omega)).1 (hb 6 (by omega)).2
  have p4 := mul_bd (ha 4 (by omega)).1 (ha 4 (by omega)).2 (hb 5 (by omega)).1 (hb 5 (by omega)).2
  have p5 := mul_bd (ha 5 (by omega)).1 (ha 5 (by omega)).2 (hb 4 (by omega)).1 (hb 4 (by omega)).2
  have p6 := mul_bd (ha 6 (by omega)).1 (ha 6 (by omega)).2 (hb 3 (by omega)).1 (hb 3 (by omega)).2
  have p7 := mul_bd (ha 7 (by omega)).1 (ha 7 (by omega)).2 (hb 2 (by omega)).1 (hb 2 (by omega)).2
  simp only [convF]
  omega
theorem conv_bd10 {a b : Nat → Int} {A B : Int} (ha : bd8 A a) (hb : bd8 B b) : -(8 * (A * B)) ≤ convF a b 10 ∧ convF a b 10 ≤ 8 * (A * B) := by
  have h0 : 0 ≤ A * B := by
    have := ha 0 (by omega); have := hb 0 (by omega)
    exact Int.mul_nonneg (by omega) (by omega)
  have p3 := mul_bd (ha 3 (by omega)).1 (ha 3 (by omega)).2 (hb 7 (by omega)).1 (hb 7 (by omega)).2
  have p4 := mul_bd (ha 4 (by omega)).1 (ha 4 (by omega)).2 (hb 6 (by omega)).1 (hb 6 (by omega)).2
  have p5 := mul_bd (ha 5 (by omega)).1 (ha 5 (by omega)).2 (hb 5 (by omega)).1 (hb 5 (by omega)).2
  have p6 := mul_bd (ha 6 (by omega)).1 (ha 6 (by omega)).2 (hb 4 (by omega)).1 (hb 4 (by omega)).2
  have p7 := mul_bd (ha 7 (by omega)).1 (ha 7 (by omega)).2 (hb 3 (by omega)).1 (hb 3 (by omega)).2
  simp only [convF]
  omega
theorem conv_bd11 {a b : Nat → Int} {A B : Int} (ha : bd8 A a) (hb : bd8 B b) : -(8 * (A * B)) ≤ convF a b 11 ∧ convF a b 11 ≤ 8 * (A * B) := by
  have h0 : 0 ≤ A * B := by
    have := ha 0 (by omega); have := hb 0 (by omega)
    exact Int.mul_nonneg (by omega) (by omega)
  have p4 := mul_bd (ha 4 (by omega)).1 (ha 4 (by omega)).2 (hb 7 (by omega)).1 (hb 7 (by omega)).2
  have p5 := mul_bd (ha 5 (by omega)).1 (ha 5 (by omega)).2 (hb 6 (by omega)).1 (hb 6 (by omega)).2
  have p6 := mul_bd (ha 6 (by omega)).1 (ha 6 (by omega)).2 (hb 5 (by omega)).1 (hb 5 (by omega)).2
  have p7 := mul_bd (ha 7 (by omega)).1 (ha 7 (by omega)).2 (hb 4 (by omega)).1 (hb 4 (by omega)).2
  simp only [convF]
  omega
theorem conv_bd12 {a b : Nat → Int} {A B : Int} (ha : bd8 A a) (hb : bd8 B b) : -(8 * (A * B)) ≤ convF a b 12 ∧ convF a b 12 ≤ 8 * (A * B) := by
  have h0 : 0 ≤ A * B := by
    have := ha 0 (by omega); have := hb 0 (by omega)
    exact Int.mul_nonneg (by omega) (by omega)
  have p5 := mul_bd (ha 5 (by omega)).1 (ha 5 (by omega)).2 (hb 7 (by omega)).1 (hb 7 (by omega)).2
  have p6 := mul_bd (ha 6 (by omega)).1 (ha 6 (by omega)).2 (hb 6 (by omega)).1 (hb 6 (by omega)).2
  have p7 := mul_bd (ha 7 (by omega)).1 (ha 7 (by omega)).2 (hb 5 (by omega)).1 (hb 5 (by omega)).2
  simp only [convF]
  omega
theorem conv_bd13 {a b : Nat → Int} {A B : Int} (ha : bd8 A a) (hb : bd8 B b) : -(8 * (A * B)) ≤ convF a b 13 ∧ convF a b 13 ≤ 8 * (A * B) := by
  have h0 : 0 ≤ A * B := by
    have := ha 0 (by omega); have := hb 0 (by omega)
    exact Int.mul_nonneg (by omega) (by omega)
  have p6 := mul_bd (ha 6 (by omega)).1 (ha 6 (by omega)).2 (hb 7 (by omega)).1 (hb 7 (by omega)).2
  have p7 := mul_bd (ha 7 (by omega)).1 (ha 7 (by omega)).2 (hb 6 (by omega)).1 (hb 6 (by omega)).2
  simp only [convF]
  omega
theorem conv_bd14 {a b : Nat → Int} {A B : Int} (ha : bd8 A a) (hb : bd8 B b) : -(8 * (A * B)) ≤ convF a b 14 ∧ convF a b 14 ≤ 8 * (A * B) := by
  have h0 : 0 ≤ A * B := by
    have := ha 0 (by omega); have := hb 0 (by omega)
    exact Int.mul_nonneg (by omega) (by omega)
  have p7 := mul_bd (ha 7 (by omega)).1 (ha 7 (by omega)).2 (hb 7 (by omega)).1 (hb 7 (by omega)).2
  simp only [convF]
  omega
theorem mul_bd8 {a b : Nat → Int} {A B : Int} (ha : bd8 A a) (hb : bd8 B b) : bd8 (24 * (A * B)) (mulZ a b) := by
  intro k hk
  have c0 := conv_bd0 ha hb
  have c1 := conv_bd1 ha hb
  have c2 := conv_bd2 ha hb
  have c3 := conv_bd3 ha hb
  have c4 := conv_bd4 ha hb
  have c5 := conv_bd5 ha hb
  have c6 := conv_bd6 ha hb
  have c7 := conv_bd7 ha hb
  have c8 := conv_bd8 ha hb
  have c9 := conv_bd9 ha hb
  have c10 := conv_bd10 ha hb
  have c11 := conv_bd11 ha hb
  have c12 := conv_bd12 ha hb
  have c13 := conv_bd13 ha hb
  have c14 := conv_bd14 ha hb
  rcases (by omega : k = 0 ∨ k = 1 ∨ k = 2 ∨ k = 3 ∨ k = 4 ∨ k = 5 ∨ k = 6 ∨ k = 7) with rfl | rfl | rfl | rfl | rfl | rfl | rfl | rfl <;> simp only [mulZ] <;> omega
theorem mir_bd {a : Nat → Int} {A : Int} (ha : bd8 A a) : bd8 (2 * A) (mirZ a) := by
  intro k hk
  have h0 := ha 0 (by omega); have h1 := ha 1 (by omega); have h2 := ha 2 (by omega); have h3 := ha 3 (by omega); have h4 := ha 4 (by omega); have h5 := ha 5 (by omega); have h6 := ha 6 (by omega); have h7 := ha 7 (by omega)
  rcases (by omega : k = 0 ∨ k = 1 ∨ k = 2 ∨ k = 3 ∨ k = 4 ∨ k = 5 ∨ k = 6 ∨ k = 7) with rfl | rfl | rfl | rfl | rfl | rfl | rfl | rfl <;> simp only [mirZ] <;> omega
theorem re_bd {a : Nat → Int} {A : Int} (ha : bd8 A a) : bd4 (6 * A) (reZ a) := by
  intro k hk
  have h0 := ha 0 (by omega); have h1 := ha 1 (by omega); have h2 := ha 2 (by omega); have h3 := ha 3 (by omega); have h4 := ha 4 (by omega); have h5 := ha 5 (by omega); have h6 := ha 6 (by omega); have h7 := ha 7 (by omega)
  rcases (by omega : k = 0 ∨ k = 1 ∨ k = 2 ∨ k = 3) with rfl | rfl | rfl | rfl <;> simp only [reZ] <;> omega
theorem im_bd {a : Nat → Int} {A : Int} (ha : bd8 A a) : bd4 (6 * A) (imZ a) := by
  intro k hk
  have h0 := ha 0 (by omega); have h1 := ha 1 (by omega); have h2 := ha 2 (by omega); have h3 := ha 3 (by omega); have h4 := ha 4 (by omega); have h5 := ha 5 (by omega); have h6 := ha 6 (by omega); have h7 := ha 7 (by omega)
  rcases (by omega : k = 0 ∨ k = 1 ∨ k = 2 ∨ k = 3) with rfl | rfl | rfl | rfl <;> simp only [imZ] <;> omega
theorem W8 {f : Nat → Int} {A : Int} (h : bd8 A f) (hA : A ≤ 9223372036854775807) : ∀ k, k < 8 → W (f k) = f k := fun k hk => by
  have := h k hk
  exact w64_in (by omega) (by omega)
theorem W4 {f : Nat → Int} {A : Int} (h : bd4 A f) (hA : A ≤ 9223372036854775807) : ∀ k, k < 4 → W (f k) = f k := fun k hk => by
  have := h k hk
  exact w64_in (by omega) (by omega)
theorem conv_congr {a a' b b' : Nat → Int} (ha : ∀ k, k < 8 → a k = a' k) (hb : ∀ k, k < 8 → b k = b' k) : ∀ k, convF a b k = convF a' b' k := by
  intro k
  have a0 := ha 0 (by omega); have a1 := ha 1 (by omega); have a2 := ha 2 (by omega); have a3 := ha 3 (by omega); have a4 := ha 4 (by omega); have a5 := ha 5 (by omega); have a6 := ha 6 (by omega); have a7 := ha 7 (by omega)
  have b0 := hb 0 (by omega); have b1 := hb 1 (by omega); have b2 := hb 2 (by omega); have b3 := hb 3 (by omega); have b4 := hb 4 (by omega); have b5 := hb 5 (by omega); have b6 := hb 6 (by omega); have b7 := hb 7 (by omega)
  unfold convF
  split <;> simp only [a0, a1, a2, a3, a4, a5, a6, a7, b0, b1, b2, b3, b4, b5, b6, b7]
theorem mul_congr {a a' b b' : Nat → Int} (ha : ∀ k, k < 8 → a k = a' k) (hb : ∀ k, k < 8 → b k = b' k) : ∀ k, mulZ a b k = mulZ a' b' k := by
  intro k
  unfold mulZ
  split <;> simp only [conv_congr ha hb]
theorem mir_congr {a a' : Nat → Int} (ha : ∀ k, k < 8 → a k = a' k) : ∀ k, mirZ a k = mirZ a' k := by
  intro k
  have a0 := ha 0 (by omega); have a1 := ha 1 (by omega); have a2 := ha 2 (by omega); have a3 := ha 3 (by omega); have a4 := ha 4 (by omega); have a5 := ha 5 (by omega); have a6 := ha 6 (by omega); have a7 := ha 7 (by omega)
  unfold mirZ
  split <;> simp only [a0, a1, a2, a3, a4, a5, a6, a7]
theorem re_congr {a a' : Nat → Int} (ha : ∀ k, k < 8 → a k = a' k) : ∀ k, reZ a k = reZ a' k := by
  intro k
  have a0 := ha 0 (by omega); have a1 := ha 1 (by omega); have a2 := ha 2 (by omega); have a3 := ha 3 (by omega); have a4 := ha 4 (by omega); have a5 := ha 5 (by omega); have a6 := ha 6 (by omega); have a7 := ha 7 (by omega)
  unfold reZ
  split <;> simp only [a0, a1, a2, a3, a4, a5, a7]
theorem im_congr {a a' : Nat → Int} (ha : ∀ k, k < 8 → a k = a' k) : ∀ k, imZ a k = imZ a' k := by
  intro k
  have a0 := ha 0 (by omega); have a1 := ha 1 (by omega); have a2 := ha 2 (by omega); have a3 := ha 3 (by omega); have a4 := ha 4 (by omega); have a5 := ha 5 (by omega); have a6 := ha 6 (by omega); have a7 := ha 7 (by omega)
  unfold imZ
  split <;> simp only [a1, a2, a3, a4, a5, a6, a7]
theorem w8_at (f : Nat → Int) : ∀ k, k < 8 → w8 f k = f k := fun k hk => by
  rcases (by omega : k = 0 ∨ k = 1 ∨ k = 2 ∨ k = 3 ∨ k = 4 ∨ k = 5 ∨ k = 6 ∨ k = 7) with rfl | rfl | rfl | rfl | rfl | rfl | rfl | rfl <;> rfl
end Go.Proofs.YteadmfceniidcaaGreatDoor

/- Plain lists of wheels: sums over the wheels that are linear in the radii do not change when the list is tidied; a tidy list is known by its sums. No program, no conditions. -/
namespace Go.Proofs.YteadmfceniidcaaGreatDoor
open Go.RowKit

/-- A sum over the wheels. -/
def linS (φ : Int → (Nat → Int) → Int) : List Wh → Int
  | [] => 0
  | w :: l => φ w.s w.r.f + linS φ l
def Lin (φ : Int → (Nat → Int) → Int) : Prop := ∀ s f g, φ s (fun k => f k + g k) = φ s f + φ s g
theorem Lin.zero {φ : Int → (Nat → Int) → Int} (h : Lin φ) (s : Int) : φ s (fun _ => 0) = 0 := by
  have := h s (fun _ => 0) (fun _ => 0)
  have e : (fun k : Nat => (fun _ : Nat => (0 : Int)) k + (fun _ : Nat => (0 : Int)) k) = fun _ => 0 := by
    funext k
    rfl
  rw [e] at this
  omega
theorem linS_append (φ : Int → (Nat → Int) → Int) : ∀ A B : List Wh, linS φ (A ++ B) = linS φ A + linS φ B
  | [], B => by show linS φ B = 0 + linS φ B; omega
  | w :: l, B => by
    show φ w.s w.r.f + linS φ (l ++ B) = φ w.s w.r.f + linS φ l + linS φ B
    rw [linS_append φ l B]
    omega
theorem linS_map {φ ψ : Int → (Nat → Int) → Int} {c : Wh → Wh} : ∀ {L : List Wh}, (∀ w ∈ L, φ (c w).s (c w).r.f = ψ w.s w.r.f) → linS φ (L.map c) = linS ψ L
  | [], _ => rfl
  | w :: l, h => by
    show φ (c w).s (c w).r.f + linS φ (l.map c) = ψ w.s w.r.f + linS ψ l
    rw [h w (by simp), linS_map fun x hx => h x (by simp [hx])]
theorem linS_congr {φ ψ : Int → (Nat → Int) → Int} : ∀ {L : List Wh}, (∀ w ∈ L, φ w.s w.r.f = ψ w.s w.r.f) → linS φ L = linS ψ L
  | [], _ => rfl
  | w :: l, h => by
    show φ w.s w.r.f + linS φ l = ψ w.s w.r.f + linS ψ l
    rw [h w (by simp), linS_congr fun x hx => h x (by simp [hx])]
/-- All radii are small. -/
def bdW (B : Int) (L : List Wh) : Prop := ∀ w ∈ L, bd8 B w.r.f
theorem cy_ext {a b : Cy} (h : ∀ k, k < 8 → a.f k = b.f k) : a = b := by
  rw [← cyOf_f a, ← cyOf_f b]
  exact cyOf_congr h
theorem Cy.f_out (a : Cy) {k : Nat} (h : 8 ≤ k) : a.f k = 0 := by
  unfold Cy.f
  match k, h with
  | k + 8, _ => rfl
theorem cyAdd_f {a b : Cy} (ha : bd8 2000000000000 a.f) (hb : bd8 2000000000000 b.f) : (cyAdd a b).f = fun k => a.f k + b.f k := by
  funext k
  by_cases hk : k < 8
  · have e : (cyAdd a b).f k = W (a.f k + b.f k) := by
      rcases (by omega : k = 0 ∨ k = 1 ∨ k = 2 ∨ k = 3 ∨ k = 4 ∨ k = 5 ∨ k = 6 ∨ k = 7) with rfl | rfl | rfl | rfl | rfl | rfl | rfl | rfl <;> rfl
    have h1 := ha k hk
    have h2 := hb k hk
    rw [e, w64_in (by omega) (by omega)]
  · rw [Cy.f_out _ (by omega), Cy.f_out _ (by omega), Cy.f_out _ (by omega)]
    rfl
theorem cyOk_bd {a : Cy} (h : cyOk a = true) : bd8 1000000 a.f := fun k hk => by
  have := smallF_iff.1 h k hk
  omega
theorem bd8.mono {A B : Int} {f : Nat → Int} (h : bd8 A f) (hAB : A ≤ B) : bd8 B f := fun k hk => by
  have := h k hk
  omega
theorem bdW.mono {A B : Int} {L : List Wh} (h : bdW A L) (hAB : A ≤ B) : bdW B L := fun w hw => (h w hw).mono hAB

theorem linS_insS {φ : Int → (Nat → Int) → Int} (hφ : Lin φ) {w : Wh} (hw : bd8 2000000000000 w.r.f) : ∀ {l : List Wh}, bdW 2000000000000 l → linS φ (insS l w) = linS φ l + φ w.s w.r.f
  | [], _ => by
    show φ w.s w.r.f + 0 = 0 + φ w.s w.r.f
    omega
  | x :: l, h => by
    unfold insS
    split
    · show φ x.s x.r.f + linS φ (insS l w) = φ x.s x.r.f + linS φ l + φ w.s w.r.f
      rw [linS_insS hφ hw fun y hy => h y (by simp [hy])]
      omega
    · split
      · rename_i e
        show φ x.s (cyAdd x.r w.r).f + linS φ l = φ x.s x.r.f + linS φ l + φ w.s w.r.f
        rw [cyAdd_f (h x (by simp)) hw, hφ, e]
        omega
      · show φ w.s w.r.f + (φ x.s x.r.f + linS φ l) = φ x.s x.r.f + linS φ l + φ w.s w.r.f
        omega
def okW (L : List Wh) : Prop := ∀ w ∈ L, cyOk w.r = true
theorem okW.bd {L : List Wh} (h : okW L) : bdW 1000000 L := fun w hw => cyOk_bd (h w hw)
theorem insS_ok {l : List Wh} {w : Wh} (hr : rising l) (h : okW l) (ho : cyOk (sumR l w) = true) : okW (insS l w) := fun x hx => by
  have := (insS_perm hr).subset hx
  rcases List.mem_cons.1 this with rfl | hx
  · exact ho
  · exact h x (List.mem_filter.1 hx).1
theorem linS_run {φ : Int → (Nat → Int) → Int} (hφ : Lin φ) : ∀ {ws acc B : List Wh}, bdW 2000000000000 ws → rising acc → okW acc → runT insS acc ws = some B → linS φ B = linS φ acc + linS φ ws ∧ rising B ∧ okW B
  | [], acc, B, _, hr, ho, h => by
    simp only [runT, Option.some.injEq] at h
    subst h
    exact ⟨by show linS φ acc = linS φ acc + 0; omega, hr, ho⟩
  | w :: ws, acc, B, hb, hr, ho, h => by
    unfold runT at h
    split at h
    · rename_i hk
      obtain ⟨e, h1, h2⟩ := linS_run hφ (ws := ws) (fun x hx => hb x (by simp [hx])) (insS_rising w hr) (insS_ok hr ho hk) h
      refine ⟨?_, h1, h2⟩
      rw [e, linS_insS hφ (hb w (by simp)) (ho.bd.mono (by omega))]
      show _ = linS φ acc + (φ w.s w.r.f + linS φ ws)
      omega
    · cases h
theorem linS_nonZ {φ : Int → (Nat → Int) → Int} (hφ : Lin φ) : ∀ L : List Wh, linS φ (nonZ L) = linS φ L
  | [] => rfl
  | w :: l => by
    have ih := linS_nonZ hφ l
    unfold nonZ at ih ⊢
    by_cases h : w.r = cyZ
    · rw [List.filter_cons_of_neg (by simp [h]), ih]
      show linS φ l = φ w.s w.r.f + linS φ l
      rw [h, show cyZ.f = fun _ => 0 from funext fun k => by
        by_cases hk : k < 8
        · rcases (by omega : k = 0 ∨ k = 1 ∨ k = 2 ∨ k = 3 ∨ k = 4 ∨ k = 5 ∨ k = 6 ∨ k = 7) with rfl | rfl | rfl | rfl | rfl | rfl | rfl | rfl <;> rfl
        · exact Cy.f_out _ (by omega), hφ.zero]
      omega
    · rw [List.filter_cons_of_pos (by simp [h])]
      show φ w.s w.r.f + linS φ _ = φ w.s w.r.f + linS φ l
      rw [ih]
/-- In order, without radii that are nothing, and a design. -/
def isTidy (T : List Wh) : Prop := rising T ∧ (∀ w ∈ T, w.r ≠ cyZ) ∧ dValid T = true
theorem tidyS_lin {ws T : List Wh} (hb : bdW 2000000000000 ws) (h : tidyS ws = some T) : isTidy T ∧ ∀ φ, Lin φ → linS φ T = linS φ ws := by
  unfold tidyS at h
  split at h
  · rename_i l hl
    split at h
    · rename_i hv
      cases h
      obtain ⟨_, h1, _⟩ := linS_run (φ := fun _ _ => 0) (fun _ _ _ => rfl) hb List.Pairwise.nil (fun w hw => by simp at hw) hl
      refine ⟨⟨List.Pairwise.filter _ h1, fun w hw => by simpa using (List.mem_filter.1 hw).2, hv⟩, fun φ hφ => ?_⟩
      obtain ⟨e, _⟩ := linS_run hφ hb List.Pairwise.nil (fun w hw => by simp at hw) hl
      rw [linS_nonZ hφ, e]
      show 0 + _ = _
      omega
    · cases h
  · cases h
theorem okT_some {L : List Wh} (h : okT L = true) : tidyS L = some (tidyL L) := by
  unfold okT at h
  unfold tidyL
  cases e : tidyS L with
  | none => rw [e] at h; cases h
  | some T => rfl
theorem tidyL_lin {ws : List Wh} (hb : bdW 2000000000000 ws) (h : okT ws = true) : isTidy (tidyL ws) ∧ ∀ φ, Lin φ → linS φ (tidyL ws) = linS φ ws := tidyS_lin hb (okT_some h)

/-- The sum at a speed. -/
def atSp (s0 : Int) (k : Nat) : Int → (Nat → Int) → Int := fun s f => if s = s0 then f k else 0
theorem atSp_lin (s0 : Int) (k : Nat) : Lin (atSp s0 k) := fun s f g => by
  unfold atSp
  split
  · rfl
  · rfl
theorem atSp_none {s0 : Int} {k : Nat} : ∀ {L : List Wh}, (∀ w ∈ L, w.s ≠ s0) → linS (atSp s0 k) L = 0
  | [], _ => rfl
  | w :: l, h => by
    show atSp s0 k w.s w.r.f + linS (atSp s0 k) l = 0
    rw [atSp_none fun x hx => h x (by simp [hx]), atSp, if_neg (h w (by simp))]
    rfl
theorem atSp_of {k : Nat} : ∀ {L : List Wh}, rising L → ∀ {w : Wh}, w ∈ L → linS (atSp w.s k) L = w.r.f k
  | [], _, w, hw => by simp at hw
  | x :: l, hr, w, hw => by
    have h' := List.pairwise_cons.1 hr
    show atSp w.s k x.s x.r.f + linS (atSp w.s k) l = w.r.f k
    rcases List.mem_cons.1 hw with rfl | hw
    · rw [atSp_none fun y hy => by have := h'.1 y hy; omega, atSp, if_pos rfl]
      omega
    · have := h'.1 w hw
      rw [atSp_of h'.2 hw, atSp, if_neg (by omega)]
      omega
theorem tidy_sub {A B : List Wh} (hA : isTidy A) (hB : isTidy B) (h : ∀ s k, k < 8 → linS (atSp s k) A = linS (atSp s k) B) : ∀ w ∈ A, w ∈ B := fun w hw => by
  have hne : ∃ k, k < 8 ∧ w.r.f k ≠ 0 := by
    refine Classical.byContradiction fun hn => hA.2.1 w hw (cy_ext fun k hk => ?_)
    have : w.r.f k = 0 := Classical.byContradiction fun h0 => hn ⟨k, hk, h0⟩
    rw [this]
    rcases (by omega : k = 0 ∨ k = 1 ∨ k = 2 ∨ k = 3 ∨ k = 4 ∨ k = 5 ∨ k = 6 ∨ k = 7) with rfl | rfl | rfl | rfl | rfl | rfl | rfl | rfl <;> rfl
  obtain ⟨k, hk, h0⟩ := hne
  have hex : ∃ x ∈ B, x.s = w.s := by
    refine Classical.byContradiction fun hn => h0 ?_
    rw [← atSp_of hA.1 hw, h w.s k hk]
    exact atSp_none fun x hx e => hn ⟨x, hx, e⟩
  obtain ⟨x, hx, e⟩ := hex
  have hr : x.r = w.r := cy_ext fun j hj => by
    rw [← atSp_of hA.1 hw, h w.s j hj, ← e]
    exact (atSp_of hB.1 hx).symm
  have : x = w := by
    cases x
    cases w
    simp_all
  rw [← this]
  exact hx
theorem rising_ext : ∀ {A B : List Wh}, rising A → rising B → (∀ w, w ∈ A ↔ w ∈ B) → A = B
  | [], [], _, _, _ => rfl
  | [], y :: l, _, _, h => absurd ((h y).2 (by simp)) (by simp)
  | x :: l, [], _, _, h => absurd ((h x).1 (by simp)) (by simp)
  | x :: l, y :: l', h1, h2, h => by
    have g1 := List.pairwise_cons.1 h1
    have g2 := List.pairwise_cons.1 h2
    have hxy : x = y := by
      rcases List.mem_cons.1 ((h x).1 (by simp)) with e | m1
      · exact e
      · rcases List.mem_cons.1 ((h y).2 (by simp)) with e | m2
        · exact e.symm
        · have := g1.1 y m2
          have := g2.1 x m1
          omega
    subst hxy
    rw [rising_ext g1.2 g2.2 fun w => ⟨fun hw => ?_, fun hw => ?_⟩]
    · rcases List.mem_cons.1 ((h w).1 (by simp [hw])) with rfl | m
      · have := g1.1 w hw
        omega
      · exact m
    · rcases List.mem_cons.1 ((h w).2 (by simp [hw])) with rfl | m
      · have := g2.1 w hw
        omega
      · exact m
/-- A tidy list is known by its sums. -/
theorem tidy_unique {A B : List Wh} (hA : isTidy A) (hB : isTidy B) (h : ∀ s k, k < 8 → linS (atSp s k) A = linS (atSp s k) B) : A = B :=
  rising_ext hA.1 hB.1 fun w => ⟨tidy_sub hA hB h w, tidy_sub hB hA (fun s k hk => (h s k hk).symm) w⟩

theorem insS_end : ∀ {l : List Wh} {w : Wh}, (∀ x ∈ l, x.s < w.s) → insS l w = l ++ [w]
  | [], _, _ => rfl
  | x :: l, w, h => by
    unfold insS
    rw [if_pos (h x (by simp)), insS_end fun y hy => h y (by simp [hy])]
    rfl
theorem sumR_end {l : List Wh} {w : Wh} (h : ∀ x ∈ l, x.s < w.s) : sumR l w = w.r := by
  have : (l.find? fun x => decide (x.s = w.s)) = none := List.find?_eq_none.2 fun x hx => by
    have := h x hx
    simp only [decide_eq_true_eq]
    omega
  simp [sumR, radAt, this]
theorem run_tidy : ∀ {ws acc : List Wh}, rising (acc ++ ws) → okW ws → runT insS acc ws = some (acc ++ ws)
  | [], acc, _, _ => by simp [runT]
  | w :: ws, acc, hr, ho => by
    have hl : ∀ x ∈ acc, x.s < w.s := fun x hx => (List.pairwise_append.1 hr).2.2 x hx w (by simp)
    unfold runT
    rw [sumR_end hl, if_pos (ho w (by simp)), insS_end hl, run_tidy (by simpa using hr) fun x hx => ho x (by simp [hx])]
    simp
theorem dValid_ok {L : List Wh} (h : dValid L = true) : okW L := fun w hw => by
  rw [dValid, Bool.and_eq_true, List.all_eq_true] at h
  have := h.2 w hw
  rw [Bool.and_eq_true] at this
  exact this.2
theorem tidyS_self {T : List Wh} (h : isTidy T) : tidyS T = some T := by
  have hz : nonZ T = T := List.filter_eq_self.2 fun w hw => by simpa using h.2.1 w hw
  unfold tidyS
  rw [run_tidy (acc := []) (by simpa using h.1) (dValid_ok h.2.2)]
  simp only [List.nil_append]
  rw [hz, if_pos h.2.2]
theorem okT_self {T : List Wh} (h : isTidy T) : okT T = true := by rw [okT, tidyS_self h]; rfl
theorem tidyL_self {T : List Wh} (h : isTidy T) : tidyL T = T := by rw [tidyL, tidyS_self h]; rfl

/-- Times the root, in whole numbers. -/
def stZ (a : Nat → Int) : Nat → Int
  | 0 => - a 7
  | 4 => a 3 + a 7
  | k + 1 => a k
def tnZ (a : Nat → Int) : Nat → Nat → Int
  | 0 => a
  | n + 1 => stZ (tnZ a n)
theorem stZ_add (f g : Nat → Int) : stZ (fun k => f k + g k) = fun k => stZ f k + stZ g k := by
  funext k
  unfold stZ
  split
  · show -(f 7 + g 7) = -f 7 + -g 7
    omega
  · show f 3 + g 3 + (f 7 + g 7) = f 3 + f 7 + (g 3 + g 7)
    omega
  · rfl
theorem tnZ_add (f g : Nat → Int) : ∀ n, tnZ (fun k => f k + g k) n = fun k => tnZ f n k + tnZ g n k
  | 0 => rfl
  | n + 1 => by
    show stZ (tnZ (fun k => f k + g k) n) = _
    rw [tnZ_add f g n, stZ_add]
    rfl
theorem tnZ_tnZ (f : Nat → Int) (m : Nat) : ∀ n, tnZ (tnZ f m) n = tnZ f (m + n)
  | 0 => rfl
  | n + 1 => by
    show stZ (tnZ (tnZ f m) n) = stZ (tnZ f (m + n))
    rw [tnZ_tnZ f m n]
theorem stZ_congr {f g : Nat → Int} (h : ∀ k, k < 8 → f k = g k) : ∀ k, k < 8 → stZ f k = stZ g k := by
  refine forall8 ?_ ?_ ?_ ?_ ?_ ?_ ?_ ?_
  · show - f 7 = - g 7; rw [h 7 (by omega)]
  · exact h 0 (by omega)
  · exact h 1 (by omega)
  · exact h 2 (by omega)
  · show f 3 + f 7 = g 3 + g 7; rw [h 3 (by omega), h 7 (by omega)]
  · exact h 4 (by omega)
  · exact h 5 (by omega)
  · exact h 6 (by omega)
theorem tnZ_congr {f g : Nat → Int} (h : ∀ k, k < 8 → f k = g k) : ∀ (n k : Nat), k < 8 → tnZ f n k = tnZ g n k
  | 0 => h
  | n + 1 => stZ_congr (tnZ_congr h n)
set_option maxRecDepth 100000 in
theorem tnZ_24 (f : Nat → Int) : ∀ k, k < 8 → tnZ f 24 k = f k := by
  refine forall8 ?_ ?_ ?_ ?_ ?_ ?_ ?_ ?_ <;> (simp only [tnZ, stZ]; omega)
theorem tnZ_period (f : Nat → Int) (m : Nat) : ∀ (q k : Nat), k < 8 → tnZ f (m + 24 * q) k = tnZ f m k
  | 0, _, _ => rfl
  | q + 1, k, hk => by
    rw [show m + 24 * (q + 1) = 24 + (m + 24 * q) by omega, ← tnZ_tnZ, tnZ_congr (tnZ_24 f) _ k hk, tnZ_period f m q k hk]
theorem tnZ_mod (f : Nat → Int) {m n : Nat} (h : m % 24 = n % 24) (k : Nat) (hk : k < 8) : tnZ f m k = tnZ f n k := by
  have e1 : m = m % 24 + 24 * (m / 24) := by omega
  have e2 : n = n % 24 + 24 * (n / 24) := by omega
  rw [e1, e2, tnZ_period f _ _ k hk, tnZ_period f _ _ k hk, h]
/-- Turned by any whole number. -/
def tnI (f : Nat → Int) (n : Int) : Nat → Int := tnZ f (n % 24).toNat
theorem tnI_add (f g : Nat → Int) (n : Int) : tnI (fun k => f k + g k) n = fun k => tnI f n k + tnI g n k := tnZ_add f g _
theorem tnI_congr {f g : Nat → Int} (h : ∀ k, k < 8 → f k = g k) (n : Int) : ∀ k, k < 8 → tnI f n k = tnI g n k := tnZ_congr h _
theorem tnI_tnI (f : Nat → Int) (m n : Int) : ∀ k, k < 8 → tnI (tnI f m) n k = tnI f (m + n) k := fun k hk => by
  unfold tnI
  rw [tnZ_tnZ]
  exact tnZ_mod f (by omega) k hk
theorem tnI_mod (f : Nat → Int) {m n : Int} (h : m % 24 = n % 24) : tnI f m = tnI f n := by unfold tnI; rw [h]
theorem tnI_zero (f : Nat → Int) : tnI f 0 = f := rfl
/-- What a point turned is bounded by. -/
theorem tnZ_inv {B : Int} {f : Nat → Int} (h : bd8 B f) : ∀ n, (∀ k, k < 4 → (-(2 * B) ≤ tnZ f n k ∧ tnZ f n k ≤ 2 * B) ∧ (-(2 * B) ≤ tnZ f n (k + 4) ∧ tnZ f n (k + 4) ≤ 2 * B) ∧ (-(2 * B) ≤ tnZ f n k + tnZ f n (k + 4) ∧ tnZ f n k + tnZ f n (k + 4) ≤ 2 * B))
  | 0 => fun k hk => by
    have h1 := h k (by omega)
    have h2 := h (k + 4) (by omega)
    show (-(2 * B) ≤ f k ∧ f k ≤ 2 * B) ∧ (-(2 * B) ≤ f (k + 4) ∧ f (k + 4) ≤ 2 * B) ∧ (-(2 * B) ≤ f k + f (k + 4) ∧ f k + f (k + 4) ≤ 2 * B)
    omega
  | n + 1 => fun k hk => by
    have ih := tnZ_inv h n
    have i0 := ih 0 (by omega)
    have i1 := ih 1 (by omega)
    have i2 := ih 2 (by omega)
    have i3 := ih 3 (by omega)
    have s0 : tnZ f (n + 1) 0 = - tnZ f n 7 := rfl
    have s1 : tnZ f (n + 1) 1 = tnZ f n 0 := rfl
    have s2 : tnZ f (n + 1) 2 = tnZ f n 1 := rfl
    have s3 : tnZ f (n + 1) 3 = tnZ f n 2 := rfl
    have s4 : tnZ f (n + 1) 4 = tnZ f n 3 + tnZ f n 7 := rfl
    have s5 : tnZ f (n + 1) 5 = tnZ f n 4 := rfl
    have s6 : tnZ f (n + 1) 6 = tnZ f n 5 := rfl
    have s7 : tnZ f (n + 1) 7 = tnZ f n 6 := rfl
    simp only [Nat.zero_add, Nat.reduceAdd] at i0 i1 i2 i3
    rcases (by omega : k = 0 ∨ k = 1 ∨ k = 2 ∨ k = 3) with rfl | rfl | rfl | rfl
    · simp only [Nat.zero_add]
      rw [s0, s4]
      omega
    · simp only [Nat.reduceAdd]
      rw [s1, s5]
      exact i0
    · simp only [Nat.reduceAdd]
      rw [s2, s6]
      exact i1
    · simp only [Nat.reduceAdd]
      rw [s3, s7]
      exact i2
theorem tnZ_bd {B : Int} {f : Nat → Int} (h : bd8 B f) (n : Nat) : bd8 (2 * B) (tnZ f n) := fun k hk => by
  by_cases h4 : k < 4
  · exact (tnZ_inv h n k h4).1
  · have := (tnZ_inv h n (k - 4) (by omega)).2.1
    rwa [show k - 4 + 4 = k by omega] at this
theorem turnedF_Z {B : Int} {f : Nat → Int} (h : bd8 B f) (hB : 2 * B ≤ 9000000000000000000) : ∀ (n k : Nat), k < 8 → turnedF f n k = tnZ f n k
  | 0, _, _ => rfl
  | n + 1, k, hk => by
    have ih := turnedF_Z h hB n
    have hb := tnZ_bd h (n + 1)
    have hb0 := hb 0 (by omega)
    have hb4 := hb 4 (by omega)
    have s0 : tnZ f (n + 1) 0 = - tnZ f n 7 := rfl
    have s4 : tnZ f (n + 1) 4 = tnZ f n 3 + tnZ f n 7 := rfl
    revert k hk
    refine forall8 ?_ ?_ ?_ ?_ ?_ ?_ ?_ ?_
    · show W (0 - turnedF f n 7) = - tnZ f n 7
      rw [ih 7 (by omega), w64_in (by omega) (by omega)]
      omega
    · exact ih 0 (by omega)
    · exact ih 1 (by omega)
    · exact ih 2 (by omega)
    · show W (turnedF f n 3 + turnedF f n 7) = tnZ f n 3 + tnZ f n 7
      rw [ih 3 (by omega), ih 7 (by omega), w64_in (by omega) (by omega)]
    · exact ih 4 (by omega)
    · exact ih 5 (by omega)
    · exact ih 6 (by omega)
end Go.Proofs.YteadmfceniidcaaGreatDoor

/- DesignText and EntryMake of both sides: their words. Conditions: a list of wheels. -/
namespace Go.Proofs.YteadmfceniidcaaGreatDoor
open Go.RowKit
set_option maxRecDepth 100000

theorem tI_okD {L : List Wh} (h : yI L = true) : okD (tI L) = true := by
  have hy := h
  rw [yI, Bool.and_eq_true] at hy
  have e : tI L = tidyL L := by rw [tI, h]; rfl
  rw [e]
  exact (tidyL_lin ((show bdW 1000000 L from fun w hw => (okD_mem hy.1 hw).2).mono (by omega)) hy.2).1.2.2

def txV (L : List Wh) : ByteArray := bif yI L then textB (tI L) else ⟨#[]⟩
theorem gmDtI_ok : GamOk Tryz.prog (gmDtI yI tI textB okD) := ext_ok (ext_ok g0_ok ok_UTi) ok_tx
theorem gmDtS_ok : GamOk Tryz.prog (gmDtS yI tI textB okD) := ext_ok (ext_ok g0_ok ok_tiS) ok_sx
theorem ok_dtI : SpecOk Tryz.prog 23 (specR md_ws (FdtO txV yI)) := by
  refine specR_hr gmDtI_ok Tryz.func23 rfl fun sas fr hF ho => ?_
  unfold FdtO at hF
  split at hF
  · rename_i m g
    cases hF
    simp only [ob_cons] at ho
    obtain ⟨h1, h2, _⟩ := ho
    have hm := of_decide_eq_true h2
    have fin : ∀ v b, txV (listW (itW g) m) = v → yI (listW (itW g) m) = b → GoodQ (.out .ret [.tup [.v (.string v), .v (.bool b)]] (hpC m (itW g))) (GivR (abP md_ws [.row m g] []) { val := .tup [.v (.string (txV (listW (itW g) m))), .v (.bool (yI (listW (itW g) m)))], obl := [allW m g, decide (m ≤ 2 ^ 38)] }) := fun v b hv hb =>
      good_out ⟨_, rfl, by rw [hv, hb], .cons (ABeq.row fun j hj => (allW_get h1 j hj).symm) .nil⟩
    refine ⟨hpC m (itW g), noLam, 100, .cons (ABeq.row fun j hj => allW_get h1 j hj) .nil, fun _ _ => noLam_ok _ _ _, ?_⟩
    show GoodQ (execF Tryz.prog (gmDtI yI tI textB okD) noLam 100 Tryz.f23 [.sl 0 9 0 0 m none] (hpC m (itW g)) (packK 1)) _
    rw [treeDtI]
    simp only [row0, listW_itW]
    generalize listW (itW g) m = L at fin ⊢
    refine good_needs (by simp only [ob_cons, ob_nil, and_true, decide_eq_true_eq, Nat.ble_eq, allW_row, true_and]; omega) (good_cond (fun q => ?_) fun q => ?_)
    · rw [Bool.not_eq_true'] at q
      exact fin _ _ (by rw [txV, q]; rfl) q
    · rw [Bool.not_eq_false'] at q
      rw [listW_fun]
      refine good_needs (by simp only [ob_cons, ob_nil, and_true, Nat.ble_eq, allW_row, true_and]; exact ⟨by omega, tI_okD q⟩) (fin _ _ (by rw [txV, q]; rfl) q)
  · cases hF
theorem ok_dtS : SpecOk Tryz.prog 20 (specR md_ws (FdtO txV yI)) := by
  refine specR_hr gmDtS_ok Tryz.func20 rfl fun sas fr hF ho => ?_
  unfold FdtO at hF
  split at hF
  · rename_i m g
    cases hF
    simp only [ob_cons] at ho
    obtain ⟨h1, h2, _⟩ := ho
    have hm := of_decide_eq_true h2
    have fin : ∀ v b, txV (listW (itW g) m) = v → yI (listW (itW g) m) = b → GoodQ (.out .ret [.tup [.v (.string v), .v (.bool b)]] (hpC m (itW g))) (GivR (abP md_ws [.row m g] []) { val := .tup [.v (.string (txV (listW (itW g) m))), .v (.bool (yI (listW (itW g) m)))], obl := [allW m g, decide (m ≤ 2 ^ 38)] }) := fun v b hv hb =>
      good_out ⟨_, rfl, by rw [hv, hb], .cons (ABeq.row fun j hj => (allW_get h1 j hj).symm) .nil⟩
    refine ⟨hpC m (itW g), noLam, 100, .cons (ABeq.row fun j hj => allW_get h1 j hj) .nil, fun _ _ => noLam_ok _ _ _, ?_⟩
    show GoodQ (execF Tryz.prog (gmDtS yI tI textB okD) noLam 100 Tryz.f20 [.sl 0 9 0 0 m none] (hpC m (itW g)) (packK 1)) _
    rw [treeDtS]
    simp only [row0, listW_itW]
    generalize listW (itW g) m = L at fin ⊢
    refine good_needs (by simp only [ob_cons, ob_nil, and_true, decide_eq_true_eq, Nat.ble_eq, allW_row, true_and]; omega) (good_cond (fun q => ?_) fun q => ?_)
    · rw [Bool.not_eq_true'] at q
      exact fin _ _ (by rw [txV, q]; rfl) q
    · rw [Bool.not_eq_false'] at q
      rw [listW_fun]
      refine good_needs (by simp only [ob_cons, ob_nil, and_true, Nat.ble_eq, allW_row, true_and]; exact ⟨by omega, tI_okD q⟩) (fin _ _ (by rw [txV, q]; rfl) q)
  · cases hF

/-- An entry is made: the text and the sum are there, the text is short enough. -/
def emY (L : List Wh) : Bool := yI L && ckY L && decide ((txV L).size ≤ 1500)
def emV (L : List Wh) : ByteArray × Int := bif emY L then (txV L, ckV L) else (⟨#[]⟩, 0)
def FemO (v : List Wh → ByteArray × Int) (y : List Wh → Bool) : List SA → Option FR
  | [.row m g] => some { val := .tup [.agg [.v (.string (v (listW (itW g) m)).1), .v (.int .u32 (v (listW (itW g) m)).2)], .v (.bool (y (listW (itW g) m)))], obl := [allW m g, decide (m ≤ 2 ^ 38)] }
  | _ => none
theorem ok_emI : SpecOk Tryz.prog 10 (specR md_ws (FemO emV emY)) := by
  refine specR_hr (Γ := gmEmI txV yI ckV ckY) (ext_ok (ext_ok g0_ok ok_dtI) ok_ckI) Tryz.func10 rfl fun sas fr hF ho => ?_
  unfold FemO at hF
  split at hF
  · rename_i m g
    cases hF
    simp only [ob_cons] at ho
    obtain ⟨h1, h2, _⟩ := ho
    have hm := of_decide_eq_true h2
    have fin : ∀ v b, emV (listW (itW g) m) = v → emY (listW (itW g) m) = b → GoodQ (.out .ret [.tup [.agg [.v (.string v.1), .v (.int .u32 v.2)], .v (.bool b)]] (hpC m (itW g))) (GivR (abP md_ws [.row m g] []) { val := .tup [.agg [.v (.string (emV (listW (itW g) m)).1), .v (.int .u32 (emV (listW (itW g) m)).2)], .v (.bool (emY (listW (itW g) m)))], obl := [allW m g, decide (m ≤ 2 ^ 38)] }) := fun v b hv hb =>
      good_out ⟨_, rfl, by rw [hv, hb], .cons (ABeq.row fun j hj => (allW_get h1 j hj).symm) .nil⟩
    have no : emY (listW (itW g) m) = false → GoodQ (.out .ret [.tup [.agg [.v (.string (ByteArray.mk (Array.mk []))), .v (.int .u32 0)], .v (.bool false)]] (hpC m (itW g))) (GivR (abP md_ws [.row m g] []) { val := .tup [.agg [.v (.string (emV (listW (itW g) m)).1), .v (.int .u32 (emV (listW (itW g) m)).2)], .v (.bool (emY (listW (itW g) m)))], obl := [allW m g, decide (m ≤ 2 ^ 38)] }) := fun h => fin (⟨#[]⟩, 0) false (by rw [emV, h]; rfl) h
    refine ⟨hpC m (itW g), noLam, 100, .cons (ABeq.row fun j hj => allW_get h1 j hj) .nil, fun _ _ => noLam_ok _ _ _, ?_⟩
    show GoodQ (execF Tryz.prog (gmEmI txV yI ckV ckY) noLam 100 Tryz.f10 [.sl 0 9 0 0 m none] (hpC m (itW g)) (packK 1)) _
    rw [treeEmI]
    simp only [row0, listW_itW]
    generalize listW (itW g) m = L at fin no ⊢
    refine good_needs (by simp only [ob_cons, ob_nil, and_true, decide_eq_true_eq, Nat.ble_eq, allW_row, true_and]; omega) (good_cond (fun q => ?_) fun q => good_cond (fun q2 => ?_) fun q2 => good_cond (fun q3 => ?_) fun q3 => ?_)
    · rw [Bool.not_eq_true'] at q
      exact no (by rw [emY, q]; rfl)
    · rw [Bool.not_eq_true'] at q2
      exact no (by rw [emY, q2]; simp)
    · have q3 := of_decide_eq_true q3
      exact no (by rw [emY, decide_eq_false (by omega)]; simp)
    · rw [Bool.not_eq_false'] at q q2
      have q3 := of_decide_eq_false q3
      have h : emY L = true := by rw [emY, q, q2, decide_eq_true (by omega)]; rfl
      exact fin (txV L, ckV L) true (by rw [emV, h]; rfl) h
  · cases hF
theorem ok_emS : SpecOk Tryz.prog 8 (specR md_ws (FemO emV emY)) := by
  refine specR_hr (Γ := gmEmS txV yI ckV ckY) (ext_ok (ext_ok g0_ok ok_dtS) ok_ckS) Tryz.func8 rfl fun sas fr hF ho => ?_
  unfold FemO at hF
  split at hF
  · rename_i m g
    cases hF
    simp only [ob_cons] at ho
    obtain ⟨h1, h2, _⟩ := ho
    have hm := of_decide_eq_true h2
    have fin : ∀ v b, emV (listW (itW g) m) = v → emY (listW (itW g) m) = b → GoodQ (.out .ret [.tup [.agg [.v (.string v.1), .v (.int .u32 v.2)], .v (.bool b)]] (hpC m (itW g))) (GivR (abP md_ws [.row m g] []) { val := .tup [.agg [.v (.string (emV (listW (itW g) m)).1), .v (.int .u32 (emV (listW (itW g) m)).2)], .v (.bool (emY (listW (itW g) m)))], obl := [allW m g, decide (m ≤ 2 ^ 38)] }) := fun v b hv hb =>
      good_out ⟨_, rfl, by rw [hv, hb], .cons (ABeq.row fun j hj => (allW_get h1 j hj).symm) .nil⟩
    have no : emY (listW (itW g) m) = false → GoodQ (.out .ret [.tup [.agg [.v (.string (ByteArray.mk (Array.mk []))), .v (.int .u32 0)], .v (.bool false)]] (hpC m (itW g))) (GivR (abP md_ws [.row m g] []) { val := .tup [.agg [.v (.string (emV (listW (itW g) m)).1), .v (.int .u32 (emV (listW (itW g) m)).2)], .v (.bool (emY (listW (itW g) m)))], obl := [allW m g, decide (m ≤ 2 ^ 38)] }) := fun h => fin (⟨#[]⟩, 0) false (by rw [emV, h]; rfl) h
    refine ⟨hpC m (itW g), noLam, 100, .cons (ABeq.row fun j hj => allW_get h1 j hj) .nil, fun _ _ => noLam_ok _ _ _, ?_⟩
    show GoodQ (execF Tryz.prog (gmEmS txV yI ckV ckY) noLam 100 Tryz.f8 [.sl 0 9 0 0 m none] (hpC m (itW g)) (packK 1)) _
    rw [treeEmS]
    simp only [row0, listW_itW]
    generalize listW (itW g) m = L at fin no ⊢
    refine good_needs (by simp only [ob_cons, ob_nil, and_true, decide_eq_true_eq, Nat.ble_eq, allW_row, true_and]; omega) (good_cond (fun q => ?_) fun q => good_cond (fun q2 => ?_) fun q2 => good_cond (fun q3 => ?_) fun q3 => ?_)
    · rw [Bool.not_eq_true'] at q
      exact no (by rw [emY, q]; rfl)
    · rw [Bool.not_eq_true'] at q2
      exact no (by rw [emY, q2]; simp)
    · have q3 := of_decide_eq_true q3
      exact no (by rw [emY, decide_eq_false (by omega)]; simp)
    · rw [Bool.not_eq_false'] at q q2
      have q3 := of_decide_eq_false q3
      have h : emY L = true := by rw [emY, q, q2, decide_eq_true (by omega)]; rfl
      exact fin (txV L, ckV L) true (by rw [emV, h]; rfl) h
  · cases hF

end Go.Proofs.YteadmfceniidcaaGreatDoor

/- The laws' helpers on lists of wheels: trees. Conditions: a list of wheels. -/
namespace Go.Proofs.YteadmfceniidcaaGreatDoor
open Go.RowKit
set_option maxRecDepth 100000

abbrev lvTW : Ex → List Nat := lv3 [0, 3, 4] [3] [2]
abbrev hpTW (m : Nat) (f : Nat → Nat → Int) (t : TypeId) (h : Nat → Nat → Int) : List AB := [.row false m 9 (row9 f) t, .row true m 9 (row9 h) 53]
theorem rndTW (m : Nat) (f : Nat → Nat → Int) (t : TypeId) (h : Nat → Nat → Int) (i : Nat) : execC Tryz.prog g0 100 noLam (loopAt 0 Tryz.f9) (mkT 0 23 ((lvTW .normal).zip [.sl 0 9 0 0 m none, .own 1 m, .v (i64 i)])) (hpTW m f t h) (leafV 23 lvTW 1)
    = bif decide ((↑i : Int) < (↑m : Int)) then needs [decide ((↑i : Int) < (↑m : Int)), decide ((0 : Nat) + Int.toNat (↑i : Int) < m), decide ((↑i : Int) < (↑m : Int)), decide (Int.toNat (↑i : Int) < m)] (Res.out Ex.normal [AV.sl (0 : Nat) (9 : Nat) (0 : Nat) (0 : Nat) m none, AV.own (1 : Nat) m, AV.v (Value.int IntKind.i64 (IntKind.wrap IntKind.i64 ((↑i : Int) + (1 : Int))))] [AB.row false m (9 : Nat) (row9 f) t, AB.row true m (9 : Nat) (fun q ↦ [Value.int IntKind.i64 (bif Nat.beq q (Int.toNat (↑i : Int)) then f ((0 : Nat) + Int.toNat (↑i : Int)) (0 : Nat) else h q (0 : Nat)), Value.int IntKind.i64 (bif Nat.beq q (Int.toNat (↑i : Int)) then f ((0 : Nat) + Int.toNat (↑i : Int)) (1 : Nat) else h q (1 : Nat)), Value.int IntKind.i64 (bif Nat.beq q (Int.toNat (↑i : Int)) then f ((0 : Nat) + Int.toNat (↑i : Int)) (2 : Nat) else h q (2 : Nat)), Value.int IntKind.i64 (bif Nat.beq q (Int.toNat (↑i : Int)) then f ((0 : Nat) + Int.toNat (↑i : Int)) (3 : Nat) else h q (3 : Nat)), Value.int IntKind.i64 (bif Nat.beq q (Int.toNat (↑i : Int)) then f ((0 : Nat) + Int.toNat (↑i : Int)) (4 : Nat) else h q (4 : Nat)), Value.int IntKind.i64 (bif Nat.beq q (Int.toNat (↑i : Int)) then f ((0 : Nat) + Int.toNat (↑i : Int)) (5 : Nat) else h q (5 : Nat)), Value.int IntKind.i64 (bif Nat.beq q (Int.toNat (↑i : Int)) then f ((0 : Nat) + Int.toNat (↑i : Int)) (6 : Nat) else h q (6 : Nat)), Value.int IntKind.i64 (bif Nat.beq q (Int.toNat (↑i : Int)) then f ((0 : Nat) + Int.toNat (↑i : Int)) (7 : Nat) else h q (7 : Nat)), Value.int IntKind.i64 (bif Nat.beq q (Int.toNat (↑i : Int)) then f ((0 : Nat) + Int.toNat (↑i : Int)) (8 : Nat) else h q (8 : Nat))]) (53 : TypeId)]) else Res.out (Ex.exit (0 : Nat)) [AV.own (1 : Nat) m] [AB.row false m (9 : Nat) (row9 f) t, AB.row true m (9 : Nat) (row9 h) (53 : TypeId)] := by kernel_rfl

noncomputable abbrev lamTW (m : Nat) (f : Nat → Nat → Int) (t : TypeId) : Nat → Option Sum := oneL 0 (atS 23 (lvTW .normal) 1 [.sl 0 9 0 0 m none, .own 1 m, .v (i64 (0 : Nat))] (hpTW m f t (fun j k => bif Nat.blt j 0 then f j k else 0)) (fun K => K .normal (mkT 0 23 [(3, .own 1 m)]) (hpTW m f t f)))
theorem treeTW (m : Nat) (f : Nat → Nat → Int) (t : TypeId) : execF Tryz.prog g0 (lamTW m f t) 100 Tryz.f9 [.sl 0 9 0 0 m none] [.row false m 9 (row9 f) t] (packK 1)
    = needs [decide ((↑m : Int) ≤ (↑m : Int)), decide ((↑m : Int) ≤ (1099511627776 : Int)), chk ([AV.sl (0 : Nat) (9 : Nat) (0 : Nat) (0 : Nat) m none, AV.own (1 : Nat) (Int.toNat (↑m : Int)), AV.v (Value.int IntKind.i64 (0 : Int))] = [AV.sl (0 : Nat) (9 : Nat) (0 : Nat) (0 : Nat) m none, AV.own (1 : Nat) m, AV.v (Value.int IntKind.i64 (0 : Int))] ∧ Hsim [AB.row false m (9 : Nat) (row9 f) t, AB.row true (Int.toNat (↑m : Int)) (9 : Nat) (fun _ ↦ [Value.int IntKind.i64 (0 : Int), Value.int IntKind.i64 (0 : Int), Value.int IntKind.i64 (0 : Int), Value.int IntKind.i64 (0 : Int), Value.int IntKind.i64 (0 : Int), Value.int IntKind.i64 (0 : Int), Value.int IntKind.i64 (0 : Int), Value.int IntKind.i64 (0 : Int), Value.int IntKind.i64 (0 : Int)]) (53 : Nat)] (hpTW m f t fun j k ↦ bif Nat.blt j (0 : Nat) then f j k else (0 : Int)))] (Res.out Ex.ret [AV.own (1 : Nat) m] [AB.row false m (9 : Nat) (row9 f) t, AB.row true m (9 : Nat) (row9 f) (53 : TypeId)]) := by kernel_rfl

theorem treeQW (a b : Nat → Int) : execF Tryz.prog g0 noLam 100 Tryz.f25 ([Value.agg ⟨[i64 (a 0), i64 (a 1), i64 (a 2), i64 (a 3), i64 (a 4), i64 (a 5), i64 (a 6), i64 (a 7), i64 (a 8)]⟩, Value.agg ⟨[i64 (b 0), i64 (b 1), i64 (b 2), i64 (b 3), i64 (b 4), i64 (b 5), i64 (b 6), i64 (b 7), i64 (b 8)]⟩].map .v) [] valK
    = bif a (0 : Nat) != b (0 : Nat) then Res.out Ex.ret [AV.v (Value.bool false)] [] else bif a (1 : Nat) != b (1 : Nat) then Res.out Ex.ret [AV.v (Value.bool false)] [] else bif a (2 : Nat) != b (2 : Nat) then Res.out Ex.ret [AV.v (Value.bool false)] [] else bif a (3 : Nat) != b (3 : Nat) then Res.out Ex.ret [AV.v (Value.bool false)] [] else bif a (4 : Nat) != b (4 : Nat) then Res.out Ex.ret [AV.v (Value.bool false)] [] else bif a (5 : Nat) != b (5 : Nat) then Res.out Ex.ret [AV.v (Value.bool false)] [] else bif a (6 : Nat) != b (6 : Nat) then Res.out Ex.ret [AV.v (Value.bool false)] [] else bif a (7 : Nat) != b (7 : Nat) then Res.out Ex.ret [AV.v (Value.bool false)] [] else bif a (8 : Nat) != b (8 : Nat) then Res.out Ex.ret [AV.v (Value.bool false)] [] else Res.out Ex.ret [AV.v (Value.bool true)] [] := by kernel_rfl

def f_eqW : List Value → Option (Value × List Bool)
  | [.agg ⟨[.int .i64 a0, .int .i64 a1, .int .i64 a2, .int .i64 a3, .int .i64 a4, .int .i64 a5, .int .i64 a6, .int .i64 a7, .int .i64 a8]⟩, .agg ⟨[.int .i64 b0, .int .i64 b1, .int .i64 b2, .int .i64 b3, .int .i64 b4, .int .i64 b5, .int .i64 b6, .int .i64 b7, .int .i64 b8]⟩] => some (.bool true, [decide (a0 = b0), decide (a1 = b1), decide (a2 = b2), decide (a3 = b3), decide (a4 = b4), decide (a5 = b5), decide (a6 = b6), decide (a7 = b7), decide (a8 = b8)])
  | _ => none
def gmQ : Gam := ext g0 25 (specV f_eqW)
abbrev lvQW : Ex → List Nat := lv3 [0, 1, 5] [] [4]
theorem rndQW (m : Nat) (f h : Nat → Nat → Int) (i : Nat) : execC Tryz.prog gmQ 100 noLam (loopAt 0 Tryz.f12) (mkT 0 27 ((lvQW .normal).zip [.sl 0 9 0 0 m none, .sl 1 9 0 0 m none, .v (i64 i)])) (hpQW m f h) (leafV 27 lvQW 2)
    = bif decide ((↑i : Int) < (↑m : Int)) then needs [decide ((↑i : Int) < (↑m : Int)), decide ((0 : Nat) + Int.toNat (↑i : Int) < m), decide ((↑i : Int) < (↑m : Int)), decide ((0 : Nat) + Int.toNat (↑i : Int) < m), decide (f ((0 : Nat) + Int.toNat (↑i : Int)) (0 : Nat) = h ((0 : Nat) + Int.toNat (↑i : Int)) (0 : Nat)), decide (f ((0 : Nat) + Int.toNat (↑i : Int)) (1 : Nat) = h ((0 : Nat) + Int.toNat (↑i : Int)) (1 : Nat)), decide (f ((0 : Nat) + Int.toNat (↑i : Int)) (2 : Nat) = h ((0 : Nat) + Int.toNat (↑i : Int)) (2 : Nat)), decide (f ((0 : Nat) + Int.toNat (↑i : Int)) (3 : Nat) = h ((0 : Nat) + Int.toNat (↑i : Int)) (3 : Nat)), decide (f ((0 : Nat) + Int.toNat (↑i : Int)) (4 : Nat) = h ((0 : Nat) + Int.toNat (↑i : Int)) (4 : Nat)), decide (f ((0 : Nat) + Int.toNat (↑i : Int)) (5 : Nat) = h ((0 : Nat) + Int.toNat (↑i : Int)) (5 : Nat)), decide (f ((0 : Nat) + Int.toNat (↑i : Int)) (6 : Nat) = h ((0 : Nat) + Int.toNat (↑i : Int)) (6 : Nat)), decide (f ((0 : Nat) + Int.toNat (↑i : Int)) (7 : Nat) = h ((0 : Nat) + Int.toNat (↑i : Int)) (7 : Nat)), decide (f ((0 : Nat) + Int.toNat (↑i : Int)) (8 : Nat) = h ((0 : Nat) + Int.toNat (↑i : Int)) (8 : Nat))] (Res.out Ex.normal [AV.sl (0 : Nat) (9 : Nat) (0 : Nat) (0 : Nat) m none, AV.sl (1 : Nat) (9 : Nat) (0 : Nat) (0 : Nat) m none, AV.v (Value.int IntKind.i64 (IntKind.wrap IntKind.i64 ((↑i : Int) + (1 : Int))))] [AB.row false m (9 : Nat) (row9 f) (53 : TypeId), AB.row false m (9 : Nat) (row9 h) (53 : TypeId)]) else Res.out (Ex.exit (0 : Nat)) [] [AB.row false m (9 : Nat) (row9 f) (53 : TypeId), AB.row false m (9 : Nat) (row9 h) (53 : TypeId)] := by kernel_rfl

noncomputable abbrev lamQW (m : Nat) (f h : Nat → Nat → Int) : Nat → Option Sum := oneL 0 (atS 27 (lvQW .normal) 2 [.sl 0 9 0 0 m none, .sl 1 9 0 0 m none, .v (i64 (0 : Nat))] (hpQW m f h) (fun K => K .normal (mkT 0 27 []) (hpQW m f h)))
theorem treeQS (m : Nat) (f h : Nat → Nat → Int) : execF Tryz.prog g0 (lamQW m f h) 100 Tryz.f12 [.sl 0 9 0 0 m none, .sl 1 9 0 0 m none] (hpQW m f h) (packK 2)
    = bif (↑m : Int) != (↑m : Int) then Res.out Ex.ret [AV.v (Value.bool false)] [AB.row false m (9 : Nat) (row9 f) (53 : TypeId), AB.row false m (9 : Nat) (row9 h) (53 : TypeId)] else needs [chk ([AV.sl (0 : Nat) (9 : Nat) (0 : Nat) (0 : Nat) m none, AV.sl (1 : Nat) (9 : Nat) (0 : Nat) (0 : Nat) m none, AV.v (Value.int IntKind.i64 (0 : Int))] = [AV.sl (0 : Nat) (9 : Nat) (0 : Nat) (0 : Nat) m none, AV.sl (1 : Nat) (9 : Nat) (0 : Nat) (0 : Nat) m none, AV.v (Value.int IntKind.i64 (0 : Int))] ∧ Hsim [AB.row false m (9 : Nat) (row9 f) (53 : TypeId), AB.row false m (9 : Nat) (row9 h) (53 : TypeId)] (hpQW m f h))] (Res.out Ex.ret [AV.v (Value.bool true)] [AB.row false m (9 : Nat) (row9 f) (53 : TypeId), AB.row false m (9 : Nat) (row9 h) (53 : TypeId)]) := by kernel_rfl

abbrev lvHW : Ex → List Nat := lv3 [0, 1, 5] [1] [4]
abbrev hpHW (m : Nat) (f : Nat → Nat → Int) : List AB := [.row false m 9 (row9 f) 53]
noncomputable abbrev lamHW (m : Nat) (f : Nat → Nat → Int) (k k2 : Int) : Nat → Option Sum := oneL 0 (atS 39 (lvHW .normal) 1 [.sl 0 9 0 0 m none, .v (i64 k), .v (i64 (0 : Nat))] (hpHW m f) (fun K => K .normal (mkT 0 39 [(1, .v (i64 k2))]) (hpHW m f)))
abbrev lvMW : Ex → List Nat := lv3 [0, 1, 5] [1] [4]
abbrev hpMW (m : Nat) (f : Nat → Nat → Int) : List AB := [.row true m 9 (row9 f) 53]
abbrev wr1 (k : Int) : Int := IntKind.i64.wrap (k + 1)
def upd1 (G : Nat → List Value) (i q : Nat) (v : Value) : Nat → List Value := fun j => mergeL (Nat.beq j i) (splice (G i) q [v]) (G j)
noncomputable abbrev lamMW (s : AV) (m : Nat) (f h : Nat → Nat → Int) (k k2 : Int) : Nat → Option Sum := oneL 0 (atS 35 (lvMW .normal) 1 [s, .v (i64 k), .v (i64 (0 : Nat))] (hpMW m f) (fun K => K .normal (mkT 0 35 [(1, .v (i64 k2))]) (hpMW m h)))
end Go.Proofs.YteadmfceniidcaaGreatDoor

/- The laws' helpers on lists of wheels. Conditions: those that the words name. -/
namespace Go.Proofs.YteadmfceniidcaaGreatDoor
open Go.RowKit
set_option maxRecDepth 100000

theorem sumTW (m : Nat) (f : Nat → Nat → Int) (t : TypeId) (hm : m ≤ 2 ^ 40) :
    SumOk Tryz.prog 1 (.block 0 (.loop (loopAt 0 Tryz.f9))) (atS 23 (lvTW .normal) 1 [.sl 0 9 0 0 m none, .own 1 m, .v (i64 (0 : Nat))] (hpTW m f t (fun j k => bif Nat.blt j 0 then f j k else 0)) (fun K => K .normal (mkT 0 23 [(3, .own 1 m)]) (hpTW m f t f))) := by
  refine for_at g0_ok (n := 100) (m := 1) (lv := lvTW) (fun i => [.sl 0 9 0 0 m none, .own 1 m, .v (i64 (i : Nat))]) (fun i => hpTW m f t (fun j k => bif Nat.blt j i then f j k else 0)) (fun _ => True) m (fun _ => noLam) (lv3_ris rfl rfl rfl) (Nat.le_refl _) trivial fun K Q hk i hi him => ⟨noLam_ok _ _ _, ?_⟩
  rw [rndTW]
  refine good_cond (fun c1 => ?_) fun c1 => ?_
  · have c1 := of_decide_eq_true c1
    have c1' : i < m := by omega
    rw [Int.toNat_natCast, Nat.zero_add, wr_in (x := (i : Int) + 1) (by omega)]
    refine good_needs (by simp only [ob_cons, ob_nil, and_true, decide_eq_true_eq]; omega) (good_out ⟨i + 1, ⟨rfl, c1', trivial⟩, rfl, .cons (ABeq.refl _) (.cons (ABeq.row fun q hq => ?_) .nil)⟩)
    show row9 (fun q k => bif Nat.beq q i then f i k else bif Nat.blt q i then f q k else 0) q = _
    refine row9_congr fun k hk9 => ?_
    by_cases e : q = i
    · rw [e, show Nat.beq i i = true from Nat.beq_refl i, blt_yes (Nat.lt_succ_self i), cond_true, cond_true]
    · rw [beq_ne e, cond_false]
      by_cases h : q < i
      · rw [blt_yes h, blt_yes (by omega : q < i + 1)]
      · have b1 : Nat.blt q i = false := by
          cases hb : Nat.blt q i with
          | false => rfl
          | true => rw [Nat.blt_eq] at hb; omega
        have b2 : Nat.blt q (i + 1) = false := by
          cases hb : Nat.blt q (i + 1) with
          | false => rfl
          | true => rw [Nat.blt_eq] at hb; omega
        rw [b1, b2]
  · have c1 := of_decide_eq_false c1
    have : i = m := by omega
    subst this
    refine good_out ⟨hpTW i f t f, .cons (ABeq.refl _) (.cons (ABeq.row fun q hq => ?_) .nil), ?_⟩
    · exact row9_congr fun k _ => by rw [blt_yes hq]; rfl
    · rw [if_pos rfl]
      exact hk
def F_toW : List SA → Option FR
  | [.row m g] => some { val := .own 0 m, new := [.row true m 9 (row9 (itW g)) 53], obl := [allW m g, decide (m ≤ 2 ^ 39)] }
  | _ => none
def md_toW : List Md := [.rd 9 57]
theorem ok_toW : SpecOk Tryz.prog 9 (specR md_toW F_toW) := by
  refine specR_hr g0_ok Tryz.func9 rfl fun sas fr hF ho => ?_
  unfold F_toW at hF
  split at hF
  · rename_i m g
    cases hF
    simp only [ob_cons] at ho
    obtain ⟨h1, h2, _⟩ := ho
    have hm := of_decide_eq_true h2
    refine ⟨[.row false m 9 (row9 (itW g)) 57], lamTW m (itW g) 57, 100, .cons (ABeq.row fun j hj => allW_get h1 j hj) .nil, lam1 (by kernel_rfl) (sumTW m (itW g) 57 (by omega)), ?_⟩
    show GoodQ (execF Tryz.prog g0 (lamTW m (itW g) 57) 100 Tryz.f9 [.sl 0 9 0 0 m none] [.row false m 9 (row9 (itW g)) 57] (packK 1)) _
    rw [treeTW]
    simp only [Int.toNat_natCast]
    refine good_needs ?_ (good_out ⟨_, rfl, rfl, .cons (ABeq.row fun j hj => (allW_get h1 j hj).symm) (Hsim.refl _)⟩)
    simp only [ob_cons, ob_nil, and_true]
    exact ⟨by simp, decide_eq_true (by omega), chk_of ⟨trivial, .cons (ABeq.refl _) (.cons (ABeq.row fun j hj => rfl) .nil)⟩⟩
  · cases hF

theorem ok_eqW : SpecOk Tryz.prog 25 (specV f_eqW) := by
  refine mkV (n := 100) g0_ok Tryz.func25 rfl fun vs v ob hF ho => ?_
  unfold f_eqW at hF
  split at hF
  · rename_i a0 a1 a2 a3 a4 a5 a6 a7 a8 b0 b1 b2 b3 b4 b5 b6 b7 b8
    cases hF
    simp only [ob_cons, decide_eq_true_eq] at ho
    obtain ⟨rfl, rfl, rfl, rfl, rfl, rfl, rfl, rfl, rfl, _⟩ := ho
    show Good (execF Tryz.prog g0 noLam 100 Tryz.f25 ([Value.agg ⟨[i64 (v9 a0 a1 a2 a3 a4 a5 a6 a7 a8 0), i64 (v9 a0 a1 a2 a3 a4 a5 a6 a7 a8 1), i64 (v9 a0 a1 a2 a3 a4 a5 a6 a7 a8 2), i64 (v9 a0 a1 a2 a3 a4 a5 a6 a7 a8 3), i64 (v9 a0 a1 a2 a3 a4 a5 a6 a7 a8 4), i64 (v9 a0 a1 a2 a3 a4 a5 a6 a7 a8 5), i64 (v9 a0 a1 a2 a3 a4 a5 a6 a7 a8 6), i64 (v9 a0 a1 a2 a3 a4 a5 a6 a7 a8 7), i64 (v9 a0 a1 a2 a3 a4 a5 a6 a7 a8 8)]⟩, Value.agg ⟨[i64 (v9 a0 a1 a2 a3 a4 a5 a6 a7 a8 0), i64 (v9 a0 a1 a2 a3 a4 a5 a6 a7 a8 1), i64 (v9 a0 a1 a2 a3 a4 a5 a6 a7 a8 2), i64 (v9 a0 a1 a2 a3 a4 a5 a6 a7 a8 3), i64 (v9 a0 a1 a2 a3 a4 a5 a6 a7 a8 4), i64 (v9 a0 a1 a2 a3 a4 a5 a6 a7 a8 5), i64 (v9 a0 a1 a2 a3 a4 a5 a6 a7 a8 6), i64 (v9 a0 a1 a2 a3 a4 a5 a6 a7 a8 7), i64 (v9 a0 a1 a2 a3 a4 a5 a6 a7 a8 8)]⟩].map .v) [] valK) _
    rw [treeQW]
    simp only [bne_self_eq_false, cond_false]
    exact one rfl
  · cases hF
theorem gmQ_ok : GamOk Tryz.prog gmQ := ext_ok g0_ok ok_eqW

/-- The first m wheels are the same. -/
def sameP (m : Nat) (f h : Nat → Nat → Int) : Prop := ∀ j, j < m → ∀ k, k < 9 → f j k = h j k
noncomputable def sameW (m : Nat) (f h : Nat → Nat → Int) : Bool := chk (sameP m f h)
theorem sumQW (m : Nat) (f h : Nat → Nat → Int) (hm : m ≤ 2 ^ 40) (hs : sameP m f h) :
    SumOk Tryz.prog 2 (.block 0 (.loop (loopAt 0 Tryz.f12))) (atS 27 (lvQW .normal) 2 [.sl 0 9 0 0 m none, .sl 1 9 0 0 m none, .v (i64 (0 : Nat))] (hpQW m f h) (fun K => K .normal (mkT 0 27 []) (hpQW m f h))) := by
  refine for_at gmQ_ok (n := 100) (m := 2) (lv := lvQW) (fun i => [.sl 0 9 0 0 m none, .sl 1 9 0 0 m none, .v (i64 (i : Nat))]) (fun _ => hpQW m f h) (fun _ => True) m (fun _ => noLam) (lv3_ris rfl rfl rfl) (Nat.le_refl _) trivial fun K Q hk i hi him => ⟨noLam_ok _ _ _, ?_⟩
  rw [rndQW]
  refine good_cond (fun c1 => ?_) fun c1 => ?_
  · have c1 := of_decide_eq_true c1
    have c1' : i < m := by omega
    rw [Int.toNat_natCast, Nat.zero_add, wr_in (x := (i : Int) + 1) (by omega)]
    have e := hs i c1'
    refine good_needs ?_ (good_out ⟨i + 1, ⟨rfl, c1', trivial⟩, rfl, Hsim.refl _⟩)
    simp only [ob_cons, ob_nil, and_true, decide_eq_true_eq]
    exact ⟨by omega, by omega, by omega, by omega, e 0 (by omega), e 1 (by omega), e 2 (by omega), e 3 (by omega), e 4 (by omega), e 5 (by omega), e 6 (by omega), e 7 (by omega), e 8 (by omega)⟩
  · have c1 := of_decide_eq_false c1
    have : i = m := by omega
    subst this
    refine good_out ⟨_, Hsim.refl _, ?_⟩
    rw [if_pos rfl]
    exact hk
/-- Two lists of wheels that are the same. -/
noncomputable def F_eqWS : List SA → Option FR
  | [.row m g, .row m2 g2] => some { val := .v (.bool true), obl := [Nat.beq m2 m, allW m g, allW m g2, sameW m (itW g) (itW g2), decide (m ≤ 2 ^ 40)] }
  | _ => none
theorem ok_eqWS : SpecOk Tryz.prog 12 (specR md_eqWS F_eqWS) := by
  refine specR_hr g0_ok Tryz.func12 rfl fun sas fr hF ho => ?_
  unfold F_eqWS at hF
  split at hF
  · rename_i m g m2 g2
    cases hF
    simp only [ob_cons] at ho
    obtain ⟨h0, h1, h2, h3, h4, _⟩ := ho
    have h0 := Nat.eq_of_beq_eq_true h0
    subst h0
    have hm := of_decide_eq_true h4
    refine ⟨hpQW m2 (itW g) (itW g2), lamQW m2 (itW g) (itW g2), 100, .cons (ABeq.row fun j hj => allW_get h1 j hj) (.cons (ABeq.row fun j hj => allW_get h2 j hj) .nil), lam1 (by kernel_rfl) (sumQW m2 (itW g) (itW g2) hm (of_chk h3)), ?_⟩
    show GoodQ (execF Tryz.prog g0 (lamQW m2 (itW g) (itW g2)) 100 Tryz.f12 [.sl 0 9 0 0 m2 none, .sl 1 9 0 0 m2 none] (hpQW m2 (itW g) (itW g2)) (packK 2)) _
    rw [treeQS]
    exact good_false (by simp) (good_needs (by rw [ob_cons]; exact ⟨chk_of ⟨rfl, Hsim.refl _⟩, rfl⟩) (good_out ⟨_, rfl, rfl, .cons (ABeq.row fun j hj => (allW_get h1 j hj).symm) (.cons (ABeq.row fun j hj => (allW_get h2 j hj).symm) .nil)⟩))
  · cases hF

/-- Marks, from k on. -/
def markF (k : Int) : Nat → Nat → Int := fun j c => k + 9 * (j : Int) + c
/-- A list that holds the marks. -/
noncomputable def F_heldW : List SA → Option FR
  | [.row m g, .v (.int .i64 k)] => some { val := .v (i64 (k + 9 * m)), obl := [allW m g, sameW m (itW g) (markF k), decide (0 ≤ k), decide (k ≤ 2 ^ 50), decide (m ≤ 2 ^ 40)] }
  | _ => none
theorem upd9 (G : Nat → List Value) (i : Nat) (v0 v1 v2 v3 v4 v5 v6 v7 v8 : Value) (h : ∃ a : Nat → Int, G i = [i64 (a 0), i64 (a 1), i64 (a 2), i64 (a 3), i64 (a 4), i64 (a 5), i64 (a 6), i64 (a 7), i64 (a 8)]) (j : Nat) :
    (upd1 (upd1 (upd1 (upd1 (upd1 (upd1 (upd1 (upd1 (upd1 G i 0 v0) i 1 v1) i 2 v2) i 3 v3) i 4 v4) i 5 v5) i 6 v6) i 7 v7) i 8 v8) j = if j = i then [v0, v1, v2, v3, v4, v5, v6, v7, v8] else G j := by
  obtain ⟨a, ha⟩ := h
  have b1 : Nat.beq i i = true := Nat.beq_refl i
  by_cases e : j = i
  · subst e
    simp only [upd1, mergeL_eq, b1, cond_true, ha, if_pos]
    rfl
  · simp only [upd1, mergeL_eq, beq_ne e, cond_false, if_neg e]
/-- Marked below i. -/
def mkF (k : Int) (f : Nat → Nat → Int) (i : Nat) : Nat → Nat → Int := fun j c => bif Nat.blt j i then markF k j c else f j c
def F_markW : List AV → List AB → Option HR
  | [.own 0 m, .v (.int .i64 k)], [.row true n 9 g t] => some { val := .v (i64 (k + 9 * m)), out := [.row true m 9 (row9 (markF k)) t], obl := [Nat.beq n m, Nat.beq t 53, allW m g, decide (0 ≤ k), decide (k ≤ 2 ^ 50), decide (m ≤ 2 ^ 40)] }
  | [.sl 0 9 0 0 m (some c), .v (.int .i64 k)], [.row true n 9 g t] => some { val := .v (i64 (k + 9 * m)), out := [.row true m 9 (row9 (markF k)) t], obl := [Nat.beq n m, Nat.beq c m, Nat.beq t 53, allW m g, decide (0 ≤ k), decide (k ≤ 2 ^ 50), decide (m ≤ 2 ^ 40)] }
  | _, _ => none
end Go.Proofs.YteadmfceniidcaaGreatDoor

/- The laws' helpers on lists of wheels: their table. Conditions: a list of wheels. -/
namespace Go.Proofs.YteadmfceniidcaaGreatDoor
open Go.RowKit

noncomputable def gmH : Gam := ext (ext g0 9 (specR md_toW F_toW)) 12 (specR md_eqWS F_eqWS)
theorem gmH_ok : GamOk Tryz.prog gmH := ext_ok (ext_ok g0_ok ok_toW) ok_eqWS
theorem sameW_self (m : Nat) (f : Nat → Nat → Int) : sameW m f f = true := chk_of fun _ _ _ _ => rfl
theorem sameW_zero (f h : Nat → Nat → Int) : sameW 0 f h = true := chk_of fun _ hj => absurd hj (Nat.not_lt_zero _)
theorem sameW_row (m : Nat) (f : Nat → Nat → Int) : sameW m (itW (row9 f)) f = true := chk_of fun j _ k hk => itW_row f j k hk

end Go.Proofs.YteadmfceniidcaaGreatDoor
