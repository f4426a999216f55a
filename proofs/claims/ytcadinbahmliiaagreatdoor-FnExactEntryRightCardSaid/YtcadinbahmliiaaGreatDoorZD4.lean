/- DesignRead of the reference: trees. Conditions: a text. -/
import Derived.Test.YtcadinbahmliiaaGreatDoorZD0
import Derived.Test.YtcadinbahmliiaaGreatDoorZD1
import Derived.Test.YtcadinbahmliiaaGreatDoorZD2
import Derived.Test.YtcadinbahmliiaaGreatDoorZD3
/- The text of a tidy design: one plain function; both sides give it. Conditions: a valid list of wheels. -/
namespace Go.Proofs.YtcadinbahmliiaaGreatDoor
open Go.RowKit
set_option maxRecDepth 100000

/-- A wheel's text, a tidy design's text. -/
def wtxL (w : Wh) : List UInt8 := Lib.itoa w.s ++ 58 :: Lib.join [Lib.itoa w.r.c0, Lib.itoa w.r.c1, Lib.itoa w.r.c2, Lib.itoa w.r.c3, Lib.itoa w.r.c4, Lib.itoa w.r.c5, Lib.itoa w.r.c6, Lib.itoa w.r.c7] [44]
def wtx (w : Wh) : ByteArray := ⟨(wtxL w).toArray⟩
def textL (L : List Wh) : List UInt8 := Lib.join (L.map wtxL) [32]
def textB (L : List Wh) : ByteArray := bif L.isEmpty then ⟨#[45]⟩ else ⟨(textL L).toArray⟩
def okw (w : Wh) : Bool := inR w.s (-1000) 1000 && cyOk w.r

theorem catB_mk (x y : List UInt8) : catB ⟨x.toArray⟩ ⟨y.toArray⟩ = ⟨(x ++ y).toArray⟩ := ByteArray.mk_append_mk x y
theorem catB_size (x y : ByteArray) : (catB x y).size = x.size + y.size := by simp [catB]
theorem mk_size (x : List UInt8) : (ByteArray.mk x.toArray).size = x.length := by simp [ByteArray.size]
theorem okw_bd {w : Wh} (h : okw w = true) : (-1000 ≤ w.s ∧ w.s ≤ 1000) ∧ ∀ k, k < 8 → -1000000 ≤ w.r.f k ∧ w.r.f k ≤ 1000000 := by
  simp only [okw, Bool.and_eq_true] at h
  exact ⟨inR_iff.1 h.1, smallF_iff.1 h.2⟩
theorem okw_9 {w : Wh} (h : okw w = true) : ∀ x ∈ [w.s, w.r.c0, w.r.c1, w.r.c2, w.r.c3, w.r.c4, w.r.c5, w.r.c6, w.r.c7], -1000000 ≤ x ∧ x ≤ 1000000 := by
  obtain ⟨h1, h2⟩ := okw_bd h
  intro x hx
  simp only [List.mem_cons, List.not_mem_nil, or_false] at hx
  rcases hx with rfl | rfl | rfl | rfl | rfl | rfl | rfl | rfl | rfl
  · omega
  · exact h2 0 (by omega)
  · exact h2 1 (by omega)
  · exact h2 2 (by omega)
  · exact h2 3 (by omega)
  · exact h2 4 (by omega)
  · exact h2 5 (by omega)
  · exact h2 6 (by omega)
  · exact h2 7 (by omega)
theorem okD_okw {L : List Wh} (h : okD L = true) : ∀ w ∈ L, okw w = true := fun w hw => by
  simp only [okD, Bool.and_eq_true, List.all_eq_true] at h
  rw [okw, Bool.and_eq_true]
  exact h.2 w hw
theorem itoa_len {n : Int} (h1 : -1000000 ≤ n) (h2 : n ≤ 1000000) : (Lib.itoa n).length ≤ 20 := by
  have := decB_size (n := n) (by omega) (by omega)
  rwa [decB, mk_size] at this

theorem strs8 (a1 a2 a3 a4 a5 a6 a7 a8 : ByteArray) : strs (fun q => [Value.string (bif Nat.blt q 7 then bif Nat.blt q 6 then bif Nat.blt q 5 then bif Nat.blt q 4 then bif Nat.blt q 3 then bif Nat.blt q 2 then bif Nat.blt q 1 then bif Nat.blt q 0 then ByteArray.mk (Array.mk []) else a1 else a2 else a3 else a4 else a5 else a6 else a7 else a8)]) 8 = [a1, a2, a3, a4, a5, a6, a7, a8] := rfl
theorem wtx_eq (a0 a1 a2 a3 a4 a5 a6 a7 a8 : Int) : catB (catB (decB a0) (ByteArray.mk (Array.mk [58]))) (joinB [decB a1, decB a2, decB a3, decB a4, decB a5, decB a6, decB a7, decB a8] (ByteArray.mk (Array.mk [44]))) = wtx ⟨a0, ⟨a1, a2, a3, a4, a5, a6, a7, a8⟩⟩ := by
  show catB (catB ⟨(Lib.itoa a0).toArray⟩ ⟨[58].toArray⟩) ⟨(Lib.join ([⟨(Lib.itoa a1).toArray⟩, ⟨(Lib.itoa a2).toArray⟩, ⟨(Lib.itoa a3).toArray⟩, ⟨(Lib.itoa a4).toArray⟩, ⟨(Lib.itoa a5).toArray⟩, ⟨(Lib.itoa a6).toArray⟩, ⟨(Lib.itoa a7).toArray⟩, ⟨(Lib.itoa a8).toArray⟩].map fun b : ByteArray => b.data.toList) [44]).toArray⟩ = _
  rw [catB_mk, catB_mk, wtx, wtxL]
  simp
theorem wtx_size {w : Wh} (h : okw w = true) : (wtx w).size ≤ 200 := by
  have h9 := okw_9 h
  simp only [List.forall_mem_cons, List.not_mem_nil, false_imp_iff, implies_true, and_true] at h9
  obtain ⟨⟨a1, a2⟩, ⟨b1, b2⟩, ⟨c1, c2⟩, ⟨d1, d2⟩, ⟨e1, e2⟩, ⟨f1, f2⟩, ⟨g1, g2⟩, ⟨i1, i2⟩, ⟨j1, j2⟩⟩ := h9
  have := itoa_len a1 a2; have := itoa_len b1 b2; have := itoa_len c1 c2; have := itoa_len d1 d2; have := itoa_len e1 e2; have := itoa_len f1 f2; have := itoa_len g1 g2; have := itoa_len i1 i2; have := itoa_len j1 j2
  rw [wtx, mk_size, wtxL, Lib.join_cons]
  simp [Lib.joinTail]
  omega
theorem joinTail_len (sep : List UInt8) : ∀ (r : List (List UInt8)) (b : Nat), (∀ x ∈ r, x.length ≤ b) → (Lib.joinTail sep r).length ≤ r.length * (b + sep.length)
  | [], b, _ => by simp [Lib.joinTail]
  | x :: r, b, h => by
    have h1 := joinTail_len sep r b fun y hy => h y (List.mem_cons_of_mem _ hy)
    have h2 := h x List.mem_cons_self
    have : (Lib.joinTail sep (x :: r)).length = sep.length + x.length + (Lib.joinTail sep r).length := by simp [Lib.joinTail]; omega
    rw [this, List.length_cons, Nat.add_mul]
    omega
theorem textL_size {L : List Wh} (h : ∀ w ∈ L, okw w = true) : (textL L).length ≤ L.length * 201 := by
  cases L with
  | nil => simp [textL, Lib.join_nil]
  | cons w L =>
    rw [textL, List.map_cons, Lib.join_cons, List.length_append]
    have h1 := joinTail_len [32] (L.map wtxL) 200 fun x hx => by
      obtain ⟨w', hw', rfl⟩ := List.mem_map.1 hx
      have := wtx_size (h w' (List.mem_cons_of_mem _ hw'))
      rwa [wtx, mk_size] at this
    have h2 := wtx_size (h w List.mem_cons_self)
    rw [wtx, mk_size] at h2
    simp only [List.length_map, List.length_cons, List.length_nil] at h1 ⊢
    omega
theorem textB_join (L : List Wh) : joinB (L.map wtx) (ByteArray.mk (Array.mk [32])) = ⟨(textL L).toArray⟩ := by
  simp only [joinB, textL, List.map_map]
  rfl
theorem tAt_snoc (ws : List ByteArray) (x : ByteArray) (i : Nat) (hl : ws.length = i) (q : Nat) (hq : q < i + 1) : [Value.string (bif Nat.blt q i then tAt ws q else x)] = rowS (ws ++ [x]) q := by
  subst hl
  unfold rowS tAt
  by_cases e : q < ws.length
  · rw [show Nat.blt q ws.length = true from by rw [Nat.blt_eq]; exact e, cond_true]
    simp [List.getD, List.getElem?_append_left e]
  · have : q = ws.length := by omega
    subst this
    rw [show Nat.blt ws.length ws.length = false from by simp [Nat.blt_eq, ← Bool.not_eq_true], cond_false]
    simp [List.getD]
theorem strs_rowS (ws : List ByteArray) (m : Nat) (h : ws.length = m) : strs (rowS ws) m = ws := by
  subst h
  apply List.ext_getElem (by simp [strs])
  intro i h1 h2
  simp [strs, rowS, strV, tAt, List.getD, h2]
theorem allS_rowS (ws : List ByteArray) (m : Nat) : allS m (rowS ws) = true := List.all_eq_true.2 fun _ _ => rfl

theorem gmTx_ok : GamOk Tryz.prog (gmTx decB joinB) := ext_ok (ext_ok g0_ok ok_itoa) ok_join
theorem sumTx (m : Nat) (f : Nat → Nat → Int) (t : TypeId) (hm : m ≤ 12) (hok : ∀ w ∈ listW f m, okw w = true) :
    SumOk Tryz.prog 1 (.block 0 (.loop (loopAt 0 Tryz.f47))) (atS 47 (lvTx .normal) 1 (stTx m 0 0) (hpTx m f t 0 []) (fun K => K .normal (mkT 0 47 [(3, .own 1 m)]) (hpTx m f t m ((listW f m).map wtx)))) := by
  refine for_at gmTx_ok (n := 200) (m := 1) (lv := lvTx) (fun i => stTx m i i) (fun i => hpTx m f t i ((listW f i).map wtx)) (fun _ => True) m (fun _ => noLam) (lv3_ris rfl rfl rfl) (Nat.le_refl _) trivial fun K Q hk i hi him => ⟨noLam_ok _ _ _, ?_⟩
  rw [rndTx]
  refine good_cond (fun c1 => ?_) fun c1 => ?_
  · have c1 := of_decide_eq_true c1
    have c1' : i < m := by omega
    have hw : okw (whOf (f i)) = true := hok _ (List.mem_of_getElem? (listW_get f c1'))
    have h9 := okw_9 hw
    have hz := wtx_size hw
    simp only [whOf, List.forall_mem_cons, List.not_mem_nil, false_imp_iff, implies_true, and_true] at h9
    obtain ⟨⟨a1, a2⟩, ⟨b1, b2⟩, ⟨c1, c2⟩, ⟨d1, d2⟩, ⟨e1, e2⟩, ⟨f1, f2⟩, ⟨g1, g2⟩, ⟨i1, i2⟩, ⟨j1, j2⟩⟩ := h9
    rw [Int.toNat_natCast, Nat.zero_add, wr_in (x := (i : Int) + 1) (by omega), strs8]
    have ez : (wtx (whOf (f i))).size = (decB (f i 0)).size + 1 + (joinB [decB (f i 1), decB (f i 2), decB (f i 3), decB (f i 4), decB (f i 5), decB (f i 6), decB (f i 7), decB (f i 8)] (ByteArray.mk (Array.mk [44]))).size := by
      rw [whOf, ← wtx_eq, catB_size, catB_size]
      rfl
    refine good_needs ?_ (good_out ⟨i + 1, ⟨rfl, c1', trivial⟩, rfl, ?_⟩)
    · simp only [ob_cons, ob_nil, and_true, decide_eq_true_eq, Nat.ble_eq, catB_size]
      have e1 : (ByteArray.mk (Array.mk [58])).size = 1 := rfl
      rw [e1]
      omega
    · show Hsim _ (hpTx m f t (i + 1) ((listW f (i + 1)).map wtx))
      rw [listW_succ, List.map_append, wtx_eq]
      refine (.cons (ABeq.refl _) (.cons (ABeq.row fun q hq => ?_) .nil))
      exact tAt_snoc _ _ i (by rw [List.length_map, listW_length]) q hq
  · have c1 := of_decide_eq_false c1
    have : i = m := by omega
    subst this
    refine good_out ⟨_, Hsim.refl _, ?_⟩
    rw [if_pos rfl]
    exact hk

def FtxO (tx : List Wh → ByteArray) (okd : List Wh → Bool) : List SA → Option FR
  | [.row m g] => some { val := .v (.string (tx (listW (itW g) m))), obl := [allW m g, okd (listW (itW g) m)] }
  | _ => none
theorem ok_tx : SpecOk Tryz.prog 47 (specR md_ws (FtxO textB okD)) := by
  refine specR_hr gmTx_ok Tryz.func47 rfl fun sas fr hF ho => ?_
  unfold FtxO at hF
  split at hF
  · rename_i m g
    cases hF
    simp only [ob_cons] at ho
    obtain ⟨h1, h2, _⟩ := ho
    have hok := okD_okw h2
    have hm := okD_len h2
    rw [listW_length] at hm
    have hts := textL_size hok
    rw [listW_length] at hts
    refine ⟨[.row false m 9 (row9 (itW g)) 75], lamTx m (itW g) 75 ((listW (itW g) m).map wtx), 200, .cons (ABeq.row fun j hj => allW_get h1 j hj) .nil, lam1 (by kernel_rfl) (sumTx m (itW g) 75 hm hok), ?_⟩
    show GoodQ (execF Tryz.prog (gmTx decB joinB) (lamTx m (itW g) 75 ((listW (itW g) m).map wtx)) 200 Tryz.f47 [.sl 0 9 0 0 m none] [.row false m 9 (row9 (itW g)) 75] (packK 1)) _
    rw [treeTx, strs_rowS _ m (by rw [List.length_map, listW_length]), textB_join]
    have hl : (listW (itW g) m).length = m := listW_length _ _
    refine good_cond (fun c0 => ?_) fun c0 => good_needs ?_ ?_
    · have c0 : m = 0 := by simpa using c0
      subst c0
      refine good_out ⟨_, rfl, ?_, .cons (ABeq.row fun j hj => (allW_get h1 j hj).symm) .nil⟩
      rfl
    · simp only [ob_cons, ob_nil, and_true, decide_eq_true_eq, Nat.ble_eq, allS_rowS, true_and, mk_size]
      exact ⟨by omega, chk_of ⟨rfl, (.cons (ABeq.refl _) (.cons (ABeq.row fun j hj => absurd hj (Nat.not_lt_zero _)) .nil))⟩, by omega, by omega⟩
    · have c0 : m ≠ 0 := by simpa using c0
      refine good_out ⟨_, rfl, ?_, .cons (ABeq.row fun j hj => (allW_get h1 j hj).symm) .nil⟩
      have : (listW (itW g) m).isEmpty = false := by
        cases hL : listW (itW g) m with
        | nil => rw [hL] at hl; exact absurd hl.symm c0
        | cons => rfl
      rw [textB, this]
      rfl
  · cases hF
end Go.Proofs.YtcadinbahmliiaaGreatDoor

/- A text cut at a byte, and a number read, by the reference: their words. Conditions: a text that is no giant. -/
namespace Go.Proofs.YtcadinbahmliiaaGreatDoor
open Go.RowKit
set_option maxRecDepth 100000

def stepCt (s : ByteArray) (c : Int) (i : Nat) (p : List ByteArray × Nat) : List ByteArray × Nat := bif ((i : Int) == (s.size : Int)) || (byB s i == c) then (p.1 ++ [s.extract p.2 i], i + 1) else p
/-- The pieces so far, and where the next begins. -/
def cutP (s : ByteArray) (c : Int) : Nat → List ByteArray × Nat
  | 0 => ([], 0)
  | i + 1 => stepCt s c i (cutP s c i)
def cutB (s : ByteArray) (c : Int) : List ByteArray := (cutP s c (s.size + 1)).1
theorem cutP_le (s : ByteArray) (c : Int) : ∀ i : Nat, (cutP s c i).1.length ≤ i ∧ (cutP s c i).2 ≤ i
  | 0 => ⟨Nat.le_refl _, Nat.le_refl _⟩
  | i + 1 => by
    have h := cutP_le s c i
    unfold cutP stepCt
    cases ((i : Int) == (s.size : Int)) || (byB s i == c) with
    | true =>
      simp only [cond_true, List.length_append, List.length_cons, List.length_nil]
      omega
    | false =>
      simp only [cond_false]
      omega
theorem row_snocS (ws : List ByteArray) (x : ByteArray) (i : Nat) (hl : ws.length = i) : ∀ q, q < i + 1 → [Value.string (bif Nat.blt q i then tAt ws q else x)] = rowS (ws ++ [x]) q := fun q hq => tAt_snoc ws x i hl q hq
theorem sumCt (s : ByteArray) (c : Int) (hs : s.size < 4294967281) :
    SumOk Tryz.prog 0 (.block 0 (.loop (loopAt 0 Tryz.f68))) (atS 36 (lvCt .normal) 0 (stCt s c 0 0 0) (hpCt 0 []) (fun K => K .normal (mkT 0 36 [(5, .own 0 (cutB s c).length)]) (hpCt (cutB s c).length (cutB s c)))) := by
  refine for_at g0_ok (n := 200) (m := 0) (lv := lvCt) (fun i => stCt s c (cutP s c i).1.length ((cutP s c i).2 : Nat) i) (fun i => hpCt (cutP s c i).1.length (cutP s c i).1) (fun _ => True) (s.size + 1) (fun _ => noLam) (lv3_ris rfl rfl rfl) (Nat.le_refl _) trivial fun K Q hk i hi him => ⟨noLam_ok _ _ _, ?_⟩
  have hle := cutP_le s c i
  rw [rndCt]
  refine good_cond (fun c1 => ?_) fun c1 => ?_
  · have c1 := of_decide_eq_true c1
    have ew : IntKind.wrap IntKind.i64 ((i : Int) + 1) = ((i + 1 : Nat) : Int) := by rw [wr_in (by omega)]; omega
    rw [ew, Int.toNat_natCast, Int.toNat_natCast]
    have e1 : (((i : Int) == (s.size : Int)) || (byB s i == c)) = true → cutP s c (i + 1) = ((cutP s c i).1 ++ [s.extract (cutP s c i).2 i], i + 1) := fun h => by rw [cutP, stepCt, h]; rfl
    have e2 : (((i : Int) == (s.size : Int)) || (byB s i == c)) = false → cutP s c (i + 1) = cutP s c i := fun h => by rw [cutP, stepCt, h]; rfl
    refine good_cond (fun c2 => ?_) fun c2 => good_needs ?_ (good_cond (fun c3 => ?_) fun c3 => ?_)
    · refine good_needs (by simp only [ob_cons, ob_nil, and_true, decide_eq_true_eq, Nat.ble_eq]; omega) (good_out ⟨i + 1, ⟨rfl, by omega, trivial⟩, ?_⟩)
      have e := e1 (by rw [c2]; rfl)
      simp only [e, List.length_append, List.length_cons, List.length_nil]
      refine ⟨trivial, .cons (ABeq.row fun q hq => row_snocS _ _ _ rfl q hq) .nil⟩
    · have c2' : (i : Int) ≠ s.size := by simpa using c2
      simp only [ob_cons, ob_nil, and_true, decide_eq_true_eq]
      omega
    · refine good_needs (by simp only [ob_cons, ob_nil, and_true, decide_eq_true_eq, Nat.ble_eq]; omega) (good_out ⟨i + 1, ⟨rfl, by omega, trivial⟩, ?_⟩)
      have e := e1 (by rw [c3, Bool.or_true])
      simp only [e, List.length_append, List.length_cons, List.length_nil]
      refine ⟨trivial, .cons (ABeq.row fun q hq => row_snocS _ _ _ rfl q hq) .nil⟩
    · refine good_out ⟨i + 1, ⟨rfl, by omega, trivial⟩, ?_⟩
      have e := e2 (by rw [c2, c3]; rfl)
      simp only [e]
      exact ⟨trivial, Hsim.refl _⟩
  · have c1 := of_decide_eq_false c1
    have : i = s.size + 1 := by omega
    subst this
    refine good_out ⟨_, Hsim.refl _, ?_⟩
    rw [if_pos rfl]
    exact hk
def cuG (s : ByteArray) (c : Int) (j : Nat) : ByteArray := tAt (cutB s c) j
def cuN (s : ByteArray) (c : Int) : Nat := (cutB s c).length
def FcuO (g : ByteArray → Int → Nat → ByteArray) (n : ByteArray → Int → Nat) : List SA → Option FR
  | [.v (.string s), .v (.int .u8 c)] => some { val := .own 0 (n s c), new := [.row true (n s c) 1 (fun j => [.string (g s c j)]) 9], obl := [Nat.blt s.size 4294967281] }
  | _ => none
theorem ok_cu : SpecOk Tryz.prog 68 (specR [.val, .val] (FcuO cuG cuN)) := by
  refine specR_hr g0_ok Tryz.func68 rfl fun sas fr hF ho => ?_
  unfold FcuO at hF
  split at hF
  · rename_i s c
    cases hF
    simp only [ob_cons, ob_nil, and_true, Nat.blt_eq] at ho
    refine ⟨[], lamCt s c (cutB s c).length (cutB s c), 200, Hsim.refl _, lam1 (by kernel_rfl) (sumCt s c ho), ?_⟩
    show GoodQ (execF Tryz.prog g0 (lamCt s c (cutB s c).length (cutB s c)) 200 Tryz.f68 [.v (.string s), .v (.int .u8 c)] [] (packK 0)) _
    rw [treeCt]
    refine good_needs ?_ (good_out ⟨_, rfl, rfl, Hsim.refl _⟩)
    simp only [ob_cons, ob_nil, and_true]
    exact chk_of ⟨trivial, (.cons (ABeq.row fun j hj => absurd hj (Nat.not_lt_zero _)) .nil)⟩
  · cases hF
/-- A number's digits so far, and its sign. -/
def numP (s : ByteArray) : Nat → Int × Int
  | 0 => (0, 1)
  | i + 1 => bif Nat.beq i 0 && (byB s i == 45) then ((numP s i).1, -1) else bif decide (48 ≤ byB s i) && decide (byB s i ≤ 57) then (10 * (numP s i).1 + (byB s i - 48), (numP s i).2) else numP s i
def numM (s : ByteArray) : Nat := min s.size 9
def numI (s : ByteArray) : Int := (numP s (numM s)).2 * (numP s (numM s)).1
theorem numP_bd (s : ByteArray) : ∀ i : Nat, (0 ≤ (numP s i).1 ∧ (numP s i).1 < 10 ^ i) ∧ ((numP s i).2 = 1 ∨ (numP s i).2 = -1)
  | 0 => ⟨by simp [numP], .inl rfl⟩
  | i + 1 => by
    obtain ⟨⟨h1, h2⟩, h3⟩ := numP_bd s i
    have hp : (10 : Int) ^ (i + 1) = 10 ^ i * 10 := Int.pow_succ _ _
    have h4 : (0 : Int) ≤ 10 ^ i := by omega
    unfold numP
    cases Nat.beq i 0 && (byB s i == 45) with
    | true =>
      simp only [cond_true]
      exact ⟨⟨h1, by omega⟩, .inr trivial⟩
    | false =>
      simp only [cond_false]
      cases hd : decide (48 ≤ byB s i) && decide (byB s i ≤ 57) with
      | true =>
        simp only [Bool.and_eq_true, decide_eq_true_eq] at hd
        simp only [cond_true]
        exact ⟨⟨by omega, by omega⟩, h3⟩
      | false =>
        simp only [cond_false]
        exact ⟨⟨h1, by omega⟩, h3⟩
theorem byB_bd (s : ByteArray) (i : Int) : 0 ≤ byB s i ∧ byB s i < 256 := by
  unfold byB
  have := (s.data[i.toNat]!).toNat_lt
  omega
theorem pow_le9 {i : Nat} (h : i < 9) : (10 : Int) ^ i ≤ 100000000 := by
  have : i = 0 ∨ i = 1 ∨ i = 2 ∨ i = 3 ∨ i = 4 ∨ i = 5 ∨ i = 6 ∨ i = 7 ∨ i = 8 := by omega
  rcases this with rfl | rfl | rfl | rfl | rfl | rfl | rfl | rfl | rfl <;> decide
theorem sumNb (s : ByteArray) :
    SumOk Tryz.prog 0 (.block 0 (.loop (loopAt 0 Tryz.f69))) (atS 47 (lvNb .normal) 0 (stNb s 0 1 0) [] (fun K => K .normal (mkT 0 47 [(3, .v (i64 (numP s (numM s)).1)), (4, .v (i64 (numP s (numM s)).2))]) [])) := by
  refine for_at g0_ok (n := 200) (m := 0) (lv := lvNb) (fun i => stNb s (numP s i).1 (numP s i).2 i) (fun _ => []) (fun _ => True) (numM s) (fun _ => noLam) (lv3_ris rfl rfl rfl) (Nat.le_refl _) trivial fun K Q hk i hi him => ⟨noLam_ok _ _ _, ?_⟩
  have hm : numM s = min s.size 9 := rfl
  obtain ⟨⟨h1, h2⟩, h3⟩ := numP_bd s i
  have hb := byB_bd s i
  rw [rndNb]
  have ex : i < numM s → IntKind.wrap IntKind.i64 ((i : Int) + 1) = ((i + 1 : Nat) : Int) := fun h => by rw [wr_in (by omega)]; omega
  refine good_cond (fun c1 => good_cond (fun c2 => ?_) fun c2 => ?_) fun c1 => ?_
  · have c1 := of_decide_eq_true c1
    have c2 := of_decide_eq_true c2
    have hlt : i < numM s := by omega
    have hp := pow_le9 (i := i) (by omega)
    rw [ex hlt]
    have ob : obls [decide (0 ≤ (i : Int)), decide ((i : Int) < (s.size : Int))] = true := by simp only [ob_cons, ob_nil, and_true, decide_eq_true_eq]; omega
    have dig : ∀ {R : Ex → List AV → List AB → Prop}, (Nat.beq i 0 && (byB s i == 45)) = false → (∀ p : Int × Int, numP s (i + 1) = p → R .normal [.v (.string s), .v (i64 p.1), .v (i64 p.2), .v (i64 ((i + 1 : Nat) : Int))] []) →
        GoodQ (bif decide (byB s i ≥ 48) then needs [decide (0 ≤ (i : Int)), decide ((i : Int) < (s.size : Int))] (bif decide (byB s i ≤ 57) then needs [decide (0 ≤ (i : Int)), decide ((i : Int) < (s.size : Int))] (.out .normal [.v (.string s), .v (i64 (IntKind.wrap IntKind.i64 (IntKind.wrap IntKind.i64 (10 * (numP s i).1) + IntKind.wrap IntKind.i64 (IntKind.wrap IntKind.u8 (byB s i - 48))))), .v (i64 (numP s i).2), .v (i64 ((i + 1 : Nat) : Int))] []) else .out .normal [.v (.string s), .v (i64 (numP s i).1), .v (i64 (numP s i).2), .v (i64 ((i + 1 : Nat) : Int))] []) else .out .normal [.v (.string s), .v (i64 (numP s i).1), .v (i64 (numP s i).2), .v (i64 ((i + 1 : Nat) : Int))] []) R := by
      intro R hn hR
      refine good_cond (fun d1 => good_needs ob (good_cond (fun d2 => good_needs ob (good_out ?_)) fun d2 => good_out ?_)) fun d1 => good_out ?_
      · have d1' := of_decide_eq_true d1
        have d2' := of_decide_eq_true d2
        have e8 : IntKind.wrap IntKind.u8 (byB s i - 48) = byB s i - 48 := by rw [IntKind.wrap_u8]; omega
        rw [e8, wr_in (x := 10 * (numP s i).1) (by omega), wr_in (x := byB s i - 48) (by omega), wr_in (x := 10 * (numP s i).1 + (byB s i - 48)) (by omega)]
        refine hR (10 * (numP s i).1 + (byB s i - 48), (numP s i).2) ?_
        rw [numP, hn, show decide (48 ≤ byB s i) = true from decide_eq_true d1', d2]
        rfl
      · refine hR (numP s i) ?_
        rw [numP, hn, d2, Bool.and_false]
        rfl
      · refine hR (numP s i) ?_
        rw [numP, hn, show decide (48 ≤ byB s i) = false from d1, Bool.false_and]
        rfl
    refine good_cond (fun c3 => good_needs ob (good_cond (fun c4 => good_out ?_) fun c4 => good_needs ob (dig ?_ fun p hp => ?_))) fun c3 => good_needs ob (dig ?_ fun p hp => ?_)
    · have c3' : i = 0 := by simpa using c3
      refine ⟨i + 1, ⟨rfl, by omega, trivial⟩, ?_, Hsim.refl _⟩
      have : numP s (i + 1) = ((numP s i).1, -1) := by rw [numP, c4, show Nat.beq i 0 = true from by rw [c3']; rfl]; rfl
      simp only [this]
    · rw [c4, Bool.and_false]
    · refine ⟨i + 1, ⟨rfl, by omega, trivial⟩, ?_, Hsim.refl _⟩
      simp only [hp]
    · have c3' : i ≠ 0 := by simpa using c3
      rw [show Nat.beq i 0 = false from by cases i with | zero => exact absurd rfl c3' | succ k => rfl]
      rfl
    · refine ⟨i + 1, ⟨rfl, by omega, trivial⟩, ?_, Hsim.refl _⟩
      simp only [hp]
  · have c1 := of_decide_eq_true c1
    have c2 := of_decide_eq_false c2
    have : i = numM s := by omega
    refine good_out ⟨_, Hsim.refl _, ?_⟩
    rw [if_pos rfl, this]
    exact hk
  · have c1 := of_decide_eq_false c1
    have : i = numM s := by omega
    refine good_out ⟨_, Hsim.refl _, ?_⟩
    rw [if_pos rfl, this]
    exact hk
def FnbO (f : ByteArray → Int) : List SA → Option FR
  | [.v (.string s)] => some { val := .v (i64 (f s)) }
  | _ => none
theorem numI_bd (s : ByteArray) : -1000000000 < numI s ∧ numI s < 1000000000 := by
  obtain ⟨⟨h1, h2⟩, h3⟩ := numP_bd s (numM s)
  have hm : numM s ≤ 9 := Nat.min_le_right _ _
  have hp : (10 : Int) ^ numM s ≤ 1000000000 := by
    rcases Nat.lt_or_ge (numM s) 9 with h | h
    · have := pow_le9 h
      omega
    · rw [show numM s = 9 by omega]
      decide
  unfold numI
  rcases h3 with h | h <;> rw [h] <;> omega
theorem ok_nu : SpecOk Tryz.prog 69 (specR [.val] (FnbO numI)) := by
  refine specR_hr g0_ok Tryz.func69 rfl fun sas fr hF ho => ?_
  unfold FnbO at hF
  split at hF
  · rename_i s
    cases hF
    have hb := numI_bd s
    refine ⟨[], lamNb s (numP s (numM s)).1 (numP s (numM s)).2, 200, Hsim.refl _, lam1 (by kernel_rfl) (sumNb s), ?_⟩
    show GoodQ (execF Tryz.prog g0 (lamNb s (numP s (numM s)).1 (numP s (numM s)).2) 200 Tryz.f69 [.v (.string s)] [] (packK 0)) _
    rw [treeNb]
    refine good_needs ?_ (good_out ⟨.v (i64 (numI s)), rfl, ?_, Hsim.refl _⟩)
    · simp only [ob_cons, ob_nil, and_true]
      exact chk_of ⟨trivial, Hsim.refl _⟩
    · rw [show (numP s (numM s)).2 * (numP s (numM s)).1 = numI s from rfl, wr_in (by omega)]
  · cases hF
end Go.Proofs.YtcadinbahmliiaaGreatDoor

/- The text of a tidy design, the reference's side. Conditions: a valid list of wheels. -/
namespace Go.Proofs.YtcadinbahmliiaaGreatDoor
open Go.RowKit
set_option maxRecDepth 100000

def inD (n : Int) : Bool := decide (-9223372036854775807 ≤ n ∧ n ≤ 9223372036854775807)
theorem gmDec_ok : GamOk Tryz.prog (gmDec decB inD) := ext_ok g0_ok ok_dec
theorem swB_eq (a0 a1 a2 a3 a4 a5 a6 a7 a8 : Int) : catB (catB (catB (catB (catB (catB (catB (catB (catB (catB (catB (catB (catB (catB (catB (catB (decB a0) (ByteArray.mk (Array.mk [58]))) (decB a1)) (ByteArray.mk (Array.mk [44]))) (decB a2)) (ByteArray.mk (Array.mk [44]))) (decB a3)) (ByteArray.mk (Array.mk [44]))) (decB a4)) (ByteArray.mk (Array.mk [44]))) (decB a5)) (ByteArray.mk (Array.mk [44]))) (decB a6)) (ByteArray.mk (Array.mk [44]))) (decB a7)) (ByteArray.mk (Array.mk [44]))) (decB a8) = wtx ⟨a0, ⟨a1, a2, a3, a4, a5, a6, a7, a8⟩⟩ := by
  have c58 : (ByteArray.mk (Array.mk [58])) = ⟨[(58 : UInt8)].toArray⟩ := rfl
  have c44 : (ByteArray.mk (Array.mk [44])) = ⟨[(44 : UInt8)].toArray⟩ := rfl
  simp only [decB, c58, c44, catB_mk, wtx, wtxL, Lib.join_cons]
  simp [Lib.joinTail]
theorem ok_sw : SpecOk Tryz.prog 120 (specV (fWtO wtx okw)) := by
  refine mkV (n := 200) gmDec_ok Tryz.func120 rfl fun vs x ob hF ho => ?_
  unfold fWtO at hF
  split at hF
  · rename_i a0 a1 a2 a3 a4 a5 a6 a7 a8
    simp only [Option.some.injEq, Prod.mk.injEq] at hF
    obtain ⟨rfl, rfl⟩ := hF
    have hw : okw ⟨a0, ⟨a1, a2, a3, a4, a5, a6, a7, a8⟩⟩ = true := by simpa [obls] using ho
    have h9 := okw_9 hw
    simp only [List.forall_mem_cons, List.not_mem_nil, false_imp_iff, implies_true, and_true] at h9
    obtain ⟨⟨p1, p2⟩, ⟨b1, b2⟩, ⟨c1, c2⟩, ⟨d1, d2⟩, ⟨e1, e2⟩, ⟨f1, f2⟩, ⟨g1, g2⟩, ⟨i1, i2⟩, ⟨j1, j2⟩⟩ := h9
    have q0 := decB_size (n := a0) (by omega) (by omega); have q1 := decB_size (n := a1) (by omega) (by omega); have q2 := decB_size (n := a2) (by omega) (by omega)
    have q3 := decB_size (n := a3) (by omega) (by omega); have q4 := decB_size (n := a4) (by omega) (by omega); have q5 := decB_size (n := a5) (by omega) (by omega)
    have q6 := decB_size (n := a6) (by omega) (by omega); have q7 := decB_size (n := a7) (by omega) (by omega); have q8 := decB_size (n := a8) (by omega) (by omega)
    have s58 : (ByteArray.mk (Array.mk [58])).size = 1 := rfl
    have s44 : (ByteArray.mk (Array.mk [44])).size = 1 := rfl
    suffices h : GoodQ _ (Gives (.string (wtx ⟨a0, ⟨a1, a2, a3, a4, a5, a6, a7, a8⟩⟩))) from ⟨h.out⟩
    show GoodQ (execF Tryz.prog (gmDec decB inD) noLam 200 Tryz.f120 [.v (.agg ⟨[i64 a0, i64 a1, i64 a2, i64 a3, i64 a4, i64 a5, i64 a6, i64 a7, i64 a8]⟩)] [] valK) _
    rw [treeSw]
    refine good_needs ?_ (good_out ⟨_, rfl, ?_⟩)
    · simp only [ob_cons, ob_nil, and_true, Nat.ble_eq, catB_size, s58, s44, inD, decide_eq_true_eq]
      omega
    · rw [swB_eq]
      rfl
  · cases hF

theorem gmSx_ok : GamOk Tryz.prog (gmSx wtx okw) := ext_ok g0_ok ok_sw
/-- The text of the first i wheels. -/
def accS (f : Nat → Nat → Int) (i : Nat) : ByteArray := ⟨(textL (listW f i)).toArray⟩
theorem textL_snoc (L : List Wh) (w : Wh) (h : L ≠ []) : textL (L ++ [w]) = textL L ++ [32] ++ wtxL w := by
  cases L with
  | nil => exact absurd rfl h
  | cons x L =>
    simp only [textL, List.cons_append, List.map_cons, List.map_append, List.map_nil, Lib.join_cons]
    simp [Lib.joinTail]
theorem accS_succ (f : Nat → Nat → Int) (i : Nat) (h : 0 < i) : catB (catB (accS f i) (ByteArray.mk (Array.mk [32]))) (wtx (whOf (f i))) = accS f (i + 1) := by
  have c32 : (ByteArray.mk (Array.mk [32])) = ⟨[(32 : UInt8)].toArray⟩ := rfl
  rw [accS, accS, c32, wtx, catB_mk, catB_mk, listW_succ, textL_snoc _ _ (fun e => by have := congrArg List.length e; rw [listW_length] at this; simp at this; omega)]
theorem accS_one (f : Nat → Nat → Int) : catB (accS f 0) (wtx (whOf (f 0))) = accS f 1 := by
  rw [accS, accS, wtx, catB_mk, listW_succ]
  have e1 : textL (listW f 0) = [] := rfl
  rw [e1]
  simp [textL, listW, Lib.join_one]
theorem accS_size {f : Nat → Nat → Int} {m i : Nat} (hok : ∀ w ∈ listW f m, okw w = true) (hi : i ≤ m) : (accS f i).size ≤ i * 201 := by
  rw [accS, mk_size]
  have := textL_size (L := listW f i) fun w hw => by
    obtain ⟨j, hj, rfl⟩ := List.mem_map.1 hw
    exact hok _ (List.mem_map.2 ⟨j, List.mem_range.2 (by have := List.mem_range.1 hj; omega), rfl⟩)
  rwa [listW_length] at this
theorem sumSx (m : Nat) (f : Nat → Nat → Int) (t : TypeId) (hm : m ≤ 12) (hok : ∀ w ∈ listW f m, okw w = true) :
    SumOk Tryz.prog 1 (.block 0 (.loop (loopAt 0 Tryz.f79))) (atS 26 (lvSx .normal) 1 (stSx m ⟨#[]⟩ 0) (hpSx m f t) (fun K => K .normal (mkT 0 26 [(3, .v (.string (accS f m)))]) (hpSx m f t))) := by
  refine for_at gmSx_ok (n := 100) (m := 1) (lv := lvSx) (fun i => stSx m (accS f i) i) (fun _ => hpSx m f t) (fun _ => True) m (fun _ => noLam) (lv3_ris rfl rfl rfl) (Nat.le_refl _) trivial fun K Q hk i hi him => ⟨noLam_ok _ _ _, ?_⟩
  rw [rndSx]
  refine good_cond (fun c1 => ?_) fun c1 => ?_
  · have c1 := of_decide_eq_true c1
    have c1' : i < m := by omega
    have hw : okw (whOf (f i)) = true := hok _ (List.mem_of_getElem? (listW_get f c1'))
    have hz := wtx_size hw
    have ha := accS_size hok (i := i) (by omega)
    have s32 : (ByteArray.mk (Array.mk [32])).size = 1 := rfl
    rw [Int.toNat_natCast, Nat.zero_add, wr_in (x := (i : Int) + 1) (by omega)]
    show GoodQ (cond _ (needs [_, _, _, okw (whOf (f i)), _] _) (needs [_, _, okw (whOf (f i)), _] _)) _
    refine good_cond (fun c2 => ?_) fun c2 => ?_
    · have c2 := of_decide_eq_true c2
      refine good_needs ?_ (good_out ⟨i + 1, ⟨rfl, c1', trivial⟩, ?_, Hsim.refl _⟩)
      · show obls [_, _, _, _, Nat.ble (_ + (wtx (whOf (f i))).size) _] = true
        simp only [ob_cons, ob_nil, and_true, decide_eq_true_eq, Nat.ble_eq, catB_size, s32, hw, true_and]
        omega
      · show [_, AV.v (.string (catB (catB (accS f i) _) (wtx (whOf (f i))))), _] = _
        rw [accS_succ f i (by omega)]
        rfl
    · have c2 := of_decide_eq_false c2
      have : i = 0 := by omega
      subst this
      refine good_needs ?_ (good_out ⟨0 + 1, ⟨rfl, c1', trivial⟩, ?_, Hsim.refl _⟩)
      · show obls [_, _, _, Nat.ble (_ + (wtx (whOf (f 0))).size) _] = true
        simp only [ob_cons, ob_nil, and_true, decide_eq_true_eq, Nat.ble_eq, hw, true_and]
        omega
      · show [_, AV.v (.string (catB (accS f 0) (wtx (whOf (f 0))))), _] = _
        rw [accS_one f]
        rfl
  · have c1 := of_decide_eq_false c1
    have : i = m := by omega
    subst this
    refine good_out ⟨_, Hsim.refl _, ?_⟩
    rw [if_pos rfl]
    exact hk
theorem ok_sx : SpecOk Tryz.prog 79 (specR md_ws (FtxO textB okD)) := by
  refine specR_hr gmSx_ok Tryz.func79 rfl fun sas fr hF ho => ?_
  unfold FtxO at hF
  split at hF
  · rename_i m g
    cases hF
    simp only [ob_cons] at ho
    obtain ⟨h1, h2, _⟩ := ho
    have hok := okD_okw h2
    have hm := okD_len h2
    rw [listW_length] at hm
    have hl : (listW (itW g) m).length = m := listW_length _ _
    refine ⟨[.row false m 9 (row9 (itW g)) 75], lamSx m (itW g) 75 (accS (itW g) m), 100, .cons (ABeq.row fun j hj => allW_get h1 j hj) .nil, lam1 (by kernel_rfl) (sumSx m (itW g) 75 hm hok), ?_⟩
    show GoodQ (execF Tryz.prog (gmSx wtx okw) (lamSx m (itW g) 75 (accS (itW g) m)) 100 Tryz.f79 [.sl 0 9 0 0 m none] [.row false m 9 (row9 (itW g)) 75] (packK 1)) _
    rw [treeSx]
    refine good_cond (fun c0 => ?_) fun c0 => good_needs ?_ ?_
    · have c0 : m = 0 := by simpa using c0
      subst c0
      exact good_out ⟨_, rfl, rfl, .cons (ABeq.row fun j hj => (allW_get h1 j hj).symm) .nil⟩
    · rw [ob_cons]
      exact ⟨chk_of ⟨rfl, Hsim.refl _⟩, rfl⟩
    · have c0 : m ≠ 0 := by simpa using c0
      refine good_out ⟨_, rfl, ?_, .cons (ABeq.row fun j hj => (allW_get h1 j hj).symm) .nil⟩
      have : (listW (itW g) m).isEmpty = false := by
        cases hL : listW (itW g) m with
        | nil => rw [hL] at hl; exact absurd hl.symm c0
        | cons => rfl
      rw [textB, this]
      rfl
  · cases hF
end Go.Proofs.YtcadinbahmliiaaGreatDoor

/- The program's designs changed: DesignTidy, DesignTurned, DesignLater, DesignBack, DesignMirror. Conditions: a list of wheels. -/
namespace Go.Proofs.YtcadinbahmliiaaGreatDoor
open Go.RowKit
set_option maxRecDepth 100000

/-- The list is a design, and what comes of it too. -/
def yesTi (L : List Wh) : Bool := (okD L && okT (L.map chTi))
def FdeYTi (yes : List Wh → Bool) (ti : List Wh → List Wh) (mp : List Wh → List Wh) : List SA → Option FR
  | [.row m g] => some { val := valY (ti (mp (listW (itW g) m))), new := newY (ti (mp (listW (itW g) m))), obl := [allW m g, decide (m ≤ 2 ^ 38), yes (listW (itW g) m)] }
  | _ => none
def FdeNTi (yes : List Wh → Bool) : List SA → Option FR
  | [.row m g] => some { val := valN, obl := [allW m g, decide (m ≤ 2 ^ 38), !yes (listW (itW g) m)] }
  | _ => none
theorem treeDYTi (okd : List Wh → Bool) (ti : List Wh → List Wh) (okt : List Wh → Bool) (mp : List Wh → List Wh) (m : Nat) (f : Nat → Nat → Int) : execF Tryz.prog (ext gm_within 84 (specH [true] (FchYTi okd ti okt mp))) noLam 100 Tryz.f46 [.sl 0 9 0 0 m none] [.row false m 9 (row9 f) 75] (packK 1)
    = needs [Nat.beq m m, allW m (row9 f), decide (m ≤ (274877906944 : Nat)), okd (listW (itW (row9 f)) m) && okt (mp (listW (itW (row9 f)) m))] (Res.out Ex.ret [AV.tup [AV.sl (1 : Nat) (9 : Nat) (0 : Nat) (0 : Nat) (List.length (ti (mp (listW (itW (row9 f)) m)))) (some (List.length (ti (mp (listW (itW (row9 f)) m))))), AV.v (Value.bool true)]] [AB.row false m (9 : Nat) (row9 f) (75 : TypeId), AB.row true (List.length (ti (mp (listW (itW (row9 f)) m)))) (9 : Nat) (row9 (wfun (ti (mp (listW (itW (row9 f)) m))))) (75 : TypeId)]) := by kernel_rfl

theorem treeDNTi (okd : List Wh → Bool) (okt : List Wh → Bool) (mp : List Wh → List Wh) (m : Nat) (f : Nat → Nat → Int) : execF Tryz.prog (ext gm_within 84 (specH [true] (FchNTi okd okt mp))) noLam 100 Tryz.f46 [.sl 0 9 0 0 m none] [.row false m 9 (row9 f) 75] (packK 1)
    = needs [Nat.beq m m, allW m (row9 f), decide (m ≤ (274877906944 : Nat)), !(okd (listW (itW (row9 f)) m) && okt (mp (listW (itW (row9 f)) m)))] (Res.out Ex.ret [AV.tup [AV.v (Value.slice none (0 : Nat) (0 : Nat)), AV.v (Value.bool false)]] [AB.row false m (9 : Nat) (row9 f) (75 : TypeId)]) := by kernel_rfl

theorem ok_deYTi : SpecOk Tryz.prog 46 (specR md_ws (FdeYTi yesTi tidyL mpTi)) := by
  refine specR_hr (ext_ok gm_within_ok ok_chYTi) Tryz.func46 rfl fun sas fr hF ho => ?_
  unfold FdeYTi at hF
  split at hF
  · rename_i m g
    cases hF
    simp only [ob_cons] at ho
    obtain ⟨h1, h2, h3, _⟩ := ho
    have hm := of_decide_eq_true h2
    refine ⟨[.row false m 9 (row9 (itW g)) 75], noLam, 100, .cons (ABeq.row fun j hj => allW_get h1 j hj) .nil, noLam' _, ?_⟩
    show GoodQ (execF Tryz.prog (ext gm_within 84 (specH [true] (FchYTi okD tidyL okT mpTi))) noLam 100 Tryz.f46 [.sl 0 9 0 0 m none] [.row false m 9 (row9 (itW g)) 75] (packK 1)) _
    rw [treeDYTi]
    rw [yesTi] at h3
    exact good_needs (by simp only [ob_cons, ob_nil, and_true, beq_me, allW_row, listW_itW, true_and]; exact ⟨decide_eq_true hm, h3⟩) (good_out ⟨_, rfl, rfl, .cons (ABeq.row fun j hj => (allW_get h1 j hj).symm) (Hsim.refl _)⟩)
  · cases hF
theorem ok_deNTi : SpecOk Tryz.prog 46 (specR md_ws (FdeNTi yesTi)) := by
  refine specR_hr (ext_ok gm_within_ok ok_chNTi) Tryz.func46 rfl fun sas fr hF ho => ?_
  unfold FdeNTi at hF
  split at hF
  · rename_i m g
    cases hF
    simp only [ob_cons] at ho
    obtain ⟨h1, h2, h3, _⟩ := ho
    have hm := of_decide_eq_true h2
    refine ⟨[.row false m 9 (row9 (itW g)) 75], noLam, 100, .cons (ABeq.row fun j hj => allW_get h1 j hj) .nil, noLam' _, ?_⟩
    show GoodQ (execF Tryz.prog (ext gm_within 84 (specH [true] (FchNTi okD okT mpTi))) noLam 100 Tryz.f46 [.sl 0 9 0 0 m none] [.row false m 9 (row9 (itW g)) 75] (packK 1)) _
    rw [treeDNTi]
    rw [yesTi] at h3
    exact good_needs (by simp only [ob_cons, ob_nil, and_true, beq_me, allW_row, listW_itW, true_and]; exact ⟨decide_eq_true hm, h3⟩) (good_out ⟨_, rfl, rfl, .cons (ABeq.row fun j hj => (allW_get h1 j hj).symm) .nil⟩)
  · cases hF

end Go.Proofs.YtcadinbahmliiaaGreatDoor

/- l5At and DesignAt, the reference's: their words. Conditions: a list of wheels. -/
namespace Go.Proofs.YtcadinbahmliiaaGreatDoor
open Go.RowKit
set_option maxRecDepth 100000

def fMd (md : Int → Int) : List Value → Option (Value × List Bool)
  | [.int .i64 n] => some (.int .i64 (md n), [])
  | _ => none
def FtuO (tu : (Nat → Int) → Int → Nat → Int) : List SA → Option FR
  | [.v (.agg ⟨[.int .i64 a0, .int .i64 a1, .int .i64 a2, .int .i64 a3, .int .i64 a4, .int .i64 a5, .int .i64 a6, .int .i64 a7]⟩), .v (.int .i64 n)] => some { val := .agg (cyC (tu (v8 a0 a1 a2 a3 a4 a5 a6 a7) n)), obl := [decide (n ≤ 2 ^ 40)] }
  | _ => none
def gmAt (md : Int → Int) (tu : (Nat → Int) → Int → Nat → Int) (ad : (Nat → Int) → Int → (Nat → Int) → Nat → Int) : Gam := ext (ext (ext g0 142 (specV (fMd md))) 141 (specR [.val, .val] (FtuO tu))) 148 (specV (fAdd3 ad))
abbrev lvAt : Ex → List Nat := lv3 [0, 1, 4, 5, 6] [4, 5] [4]
abbrev hpAt (m : Nat) (f : Nat → Nat → Int) (t : TypeId) (a : Nat → Int) : List AB := [.row false m 9 (row9 f) t, .cells (cyC fun _ => 0) 73, .cells (cyC a) 73]
abbrev stAt (m : Nat) (n : Int) (i : Nat) : List AV := [.sl 0 9 0 0 m none, .v (i64 n), .ptr 1 0 0 0, .ptr 2 0 0 0, .v (i64 i)]
theorem rndAt (md : Int → Int) (tu : (Nat → Int) → Int → Nat → Int) (ad : (Nat → Int) → Int → (Nat → Int) → Nat → Int) (m : Nat) (f : Nat → Nat → Int) (t : TypeId) (a : Nat → Int) (n : Int) (i : Nat) : execC Tryz.prog (gmAt md tu ad) 100 noLam (loopAt 0 Tryz.f104) (mkT 0 31 ((lvAt .normal).zip (stAt m n i))) (hpAt m f t a) (leafV 31 lvAt 1)
    = bif decide ((↑i : Int) < (↑m : Int)) then needs [decide ((↑i : Int) < (↑m : Int)), decide ((0 : Nat) + Int.toNat (↑i : Int) < m), decide ((↑i : Int) < (↑m : Int)), decide ((0 : Nat) + Int.toNat (↑i : Int) < m), decide (md (IntKind.wrap IntKind.i64 (n * f ((0 : Nat) + Int.toNat (↑i : Int)) (0 : Nat))) ≤ (1099511627776 : Int))] (Res.out Ex.normal [AV.sl (0 : Nat) (9 : Nat) (0 : Nat) (0 : Nat) m none, AV.v (Value.int IntKind.i64 n), AV.ptr (1 : Nat) (0 : Nat) (0 : Nat) (0 : Nat), AV.ptr (2 : Nat) (0 : Nat) (0 : Nat) (0 : Nat), AV.v (Value.int IntKind.i64 (IntKind.wrap IntKind.i64 ((↑i : Int) + (1 : Int))))] [AB.row false m (9 : Nat) (row9 f) t, AB.cells [AV.v (Value.int IntKind.i64 (0 : Int)), AV.v (Value.int IntKind.i64 (0 : Int)), AV.v (Value.int IntKind.i64 (0 : Int)), AV.v (Value.int IntKind.i64 (0 : Int)), AV.v (Value.int IntKind.i64 (0 : Int)), AV.v (Value.int IntKind.i64 (0 : Int)), AV.v (Value.int IntKind.i64 (0 : Int)), AV.v (Value.int IntKind.i64 (0 : Int))] (73 : TypeId), AB.cells [AV.v (Value.int IntKind.i64 (ad (w8 a) (1 : Int) (w8 (tu (v8 (f ((0 : Nat) + Int.toNat (↑i : Int)) (1 : Nat)) (f ((0 : Nat) + Int.toNat (↑i : Int)) (2 : Nat)) (f ((0 : Nat) + Int.toNat (↑i : Int)) (3 : Nat)) (f ((0 : Nat) + Int.toNat (↑i : Int)) (4 : Nat)) (f ((0 : Nat) + Int.toNat (↑i : Int)) (5 : Nat)) (f ((0 : Nat) + Int.toNat (↑i : Int)) (6 : Nat)) (f ((0 : Nat) + Int.toNat (↑i : Int)) (7 : Nat)) (f ((0 : Nat) + Int.toNat (↑i : Int)) (8 : Nat))) (md (IntKind.wrap IntKind.i64 (n * f ((0 : Nat) + Int.toNat (↑i : Int)) (0 : Nat)))))) (0 : Nat))), AV.v (Value.int IntKind.i64 (ad (w8 a) (1 : Int) (w8 (tu (v8 (f ((0 : Nat) + Int.toNat (↑i : Int)) (1 : Nat)) (f ((0 : Nat) + Int.toNat (↑i : Int)) (2 : Nat)) (f ((0 : Nat) + Int.toNat (↑i : Int)) (3 : Nat)) (f ((0 : Nat) + Int.toNat (↑i : Int)) (4 : Nat)) (f ((0 : Nat) + Int.toNat (↑i : Int)) (5 : Nat)) (f ((0 : Nat) + Int.toNat (↑i : Int)) (6 : Nat)) (f ((0 : Nat) + Int.toNat (↑i : Int)) (7 : Nat)) (f ((0 : Nat) + Int.toNat (↑i : Int)) (8 : Nat))) (md (IntKind.wrap IntKind.i64 (n * f ((0 : Nat) + Int.toNat (↑i : Int)) (0 : Nat)))))) (1 : Nat))), AV.v (Value.int IntKind.i64 (ad (w8 a) (1 : Int) (w8 (tu (v8 (f ((0 : Nat) + Int.toNat (↑i : Int)) (1 : Nat)) (f ((0 : Nat) + Int.toNat (↑i : Int)) (2 : Nat)) (f ((0 : Nat) + Int.toNat (↑i : Int)) (3 : Nat)) (f ((0 : Nat) + Int.toNat (↑i : Int)) (4 : Nat)) (f ((0 : Nat) + Int.toNat (↑i : Int)) (5 : Nat)) (f ((0 : Nat) + Int.toNat (↑i : Int)) (6 : Nat)) (f ((0 : Nat) + Int.toNat (↑i : Int)) (7 : Nat)) (f ((0 : Nat) + Int.toNat (↑i : Int)) (8 : Nat))) (md (IntKind.wrap IntKind.i64 (n * f ((0 : Nat) + Int.toNat (↑i : Int)) (0 : Nat)))))) (2 : Nat))), AV.v (Value.int IntKind.i64 (ad (w8 a) (1 : Int) (w8 (tu (v8 (f ((0 : Nat) + Int.toNat (↑i : Int)) (1 : Nat)) (f ((0 : Nat) + Int.toNat (↑i : Int)) (2 : Nat)) (f ((0 : Nat) + Int.toNat (↑i : Int)) (3 : Nat)) (f ((0 : Nat) + Int.toNat (↑i : Int)) (4 : Nat)) (f ((0 : Nat) + Int.toNat (↑i : Int)) (5 : Nat)) (f ((0 : Nat) + Int.toNat (↑i : Int)) (6 : Nat)) (f ((0 : Nat) + Int.toNat (↑i : Int)) (7 : Nat)) (f ((0 : Nat) + Int.toNat (↑i : Int)) (8 : Nat))) (md (IntKind.wrap IntKind.i64 (n * f ((0 : Nat) + Int.toNat (↑i : Int)) (0 : Nat)))))) (3 : Nat))), AV.v (Value.int IntKind.i64 (ad (w8 a) (1 : Int) (w8 (tu (v8 (f ((0 : Nat) + Int.toNat (↑i : Int)) (1 : Nat)) (f ((0 : Nat) + Int.toNat (↑i : Int)) (2 : Nat)) (f ((0 : Nat) + Int.toNat (↑i : Int)) (3 : Nat)) (f ((0 : Nat) + Int.toNat (↑i : Int)) (4 : Nat)) (f ((0 : Nat) + Int.toNat (↑i : Int)) (5 : Nat)) (f ((0 : Nat) + Int.toNat (↑i : Int)) (6 : Nat)) (f ((0 : Nat) + Int.toNat (↑i : Int)) (7 : Nat)) (f ((0 : Nat) + Int.toNat (↑i : Int)) (8 : Nat))) (md (IntKind.wrap IntKind.i64 (n * f ((0 : Nat) + Int.toNat (↑i : Int)) (0 : Nat)))))) (4 : Nat))), AV.v (Value.int IntKind.i64 (ad (w8 a) (1 : Int) (w8 (tu (v8 (f ((0 : Nat) + Int.toNat (↑i : Int)) (1 : Nat)) (f ((0 : Nat) + Int.toNat (↑i : Int)) (2 : Nat)) (f ((0 : Nat) + Int.toNat (↑i : Int)) (3 : Nat)) (f ((0 : Nat) + Int.toNat (↑i : Int)) (4 : Nat)) (f ((0 : Nat) + Int.toNat (↑i : Int)) (5 : Nat)) (f ((0 : Nat) + Int.toNat (↑i : Int)) (6 : Nat)) (f ((0 : Nat) + Int.toNat (↑i : Int)) (7 : Nat)) (f ((0 : Nat) + Int.toNat (↑i : Int)) (8 : Nat))) (md (IntKind.wrap IntKind.i64 (n * f ((0 : Nat) + Int.toNat (↑i : Int)) (0 : Nat)))))) (5 : Nat))), AV.v (Value.int IntKind.i64 (ad (w8 a) (1 : Int) (w8 (tu (v8 (f ((0 : Nat) + Int.toNat (↑i : Int)) (1 : Nat)) (f ((0 : Nat) + Int.toNat (↑i : Int)) (2 : Nat)) (f ((0 : Nat) + Int.toNat (↑i : Int)) (3 : Nat)) (f ((0 : Nat) + Int.toNat (↑i : Int)) (4 : Nat)) (f ((0 : Nat) + Int.toNat (↑i : Int)) (5 : Nat)) (f ((0 : Nat) + Int.toNat (↑i : Int)) (6 : Nat)) (f ((0 : Nat) + Int.toNat (↑i : Int)) (7 : Nat)) (f ((0 : Nat) + Int.toNat (↑i : Int)) (8 : Nat))) (md (IntKind.wrap IntKind.i64 (n * f ((0 : Nat) + Int.toNat (↑i : Int)) (0 : Nat)))))) (6 : Nat))), AV.v (Value.int IntKind.i64 (ad (w8 a) (1 : Int) (w8 (tu (v8 (f ((0 : Nat) + Int.toNat (↑i : Int)) (1 : Nat)) (f ((0 : Nat) + Int.toNat (↑i : Int)) (2 : Nat)) (f ((0 : Nat) + Int.toNat (↑i : Int)) (3 : Nat)) (f ((0 : Nat) + Int.toNat (↑i : Int)) (4 : Nat)) (f ((0 : Nat) + Int.toNat (↑i : Int)) (5 : Nat)) (f ((0 : Nat) + Int.toNat (↑i : Int)) (6 : Nat)) (f ((0 : Nat) + Int.toNat (↑i : Int)) (7 : Nat)) (f ((0 : Nat) + Int.toNat (↑i : Int)) (8 : Nat))) (md (IntKind.wrap IntKind.i64 (n * f ((0 : Nat) + Int.toNat (↑i : Int)) (0 : Nat)))))) (7 : Nat)))] (73 : TypeId)]) else Res.out (Ex.exit (0 : Nat)) [AV.ptr (1 : Nat) (0 : Nat) (0 : Nat) (0 : Nat), AV.ptr (2 : Nat) (0 : Nat) (0 : Nat) (0 : Nat)] [AB.row false m (9 : Nat) (row9 f) t, AB.cells [AV.v (Value.int IntKind.i64 (0 : Int)), AV.v (Value.int IntKind.i64 (0 : Int)), AV.v (Value.int IntKind.i64 (0 : Int)), AV.v (Value.int IntKind.i64 (0 : Int)), AV.v (Value.int IntKind.i64 (0 : Int)), AV.v (Value.int IntKind.i64 (0 : Int)), AV.v (Value.int IntKind.i64 (0 : Int)), AV.v (Value.int IntKind.i64 (0 : Int))] (73 : TypeId), AB.cells [AV.v (Value.int IntKind.i64 (a (0 : Nat))), AV.v (Value.int IntKind.i64 (a (1 : Nat))), AV.v (Value.int IntKind.i64 (a (2 : Nat))), AV.v (Value.int IntKind.i64 (a (3 : Nat))), AV.v (Value.int IntKind.i64 (a (4 : Nat))), AV.v (Value.int IntKind.i64 (a (5 : Nat))), AV.v (Value.int IntKind.i64 (a (6 : Nat))), AV.v (Value.int IntKind.i64 (a (7 : Nat)))] (73 : TypeId)] := by kernel_rfl

noncomputable abbrev lamAt (m : Nat) (f : Nat → Nat → Int) (t : TypeId) (n : Int) (b : Nat → Int) : Nat → Option Sum := oneL 0 (atS 31 (lvAt .normal) 1 (stAt m n 0) (hpAt m f t fun _ => 0) (fun K => K .normal (mkT 0 31 [(4, .ptr 1 0 0 0), (5, .ptr 2 0 0 0)]) (hpAt m f t b)))
theorem treeAt (m : Nat) (f : Nat → Nat → Int) (t : TypeId) (n : Int) (b : Nat → Int) : execF Tryz.prog g0 (lamAt m f t n b) 100 Tryz.f104 [.sl 0 9 0 0 m none, .v (i64 n)] [.row false m 9 (row9 f) t] (packK 1)
    = needs [chk ([AV.sl (0 : Nat) (9 : Nat) (0 : Nat) (0 : Nat) m none, AV.v (Value.int IntKind.i64 n), AV.ptr (1 : Nat) (0 : Nat) (0 : Nat) (0 : Nat), AV.ptr (2 : Nat) (0 : Nat) (0 : Nat) (0 : Nat), AV.v (Value.int IntKind.i64 (0 : Int))] = stAt m n (0 : Nat) ∧ Hsim [AB.row false m (9 : Nat) (row9 f) t, AB.cells [AV.v (Value.int IntKind.i64 (0 : Int)), AV.v (Value.int IntKind.i64 (0 : Int)), AV.v (Value.int IntKind.i64 (0 : Int)), AV.v (Value.int IntKind.i64 (0 : Int)), AV.v (Value.int IntKind.i64 (0 : Int)), AV.v (Value.int IntKind.i64 (0 : Int)), AV.v (Value.int IntKind.i64 (0 : Int)), AV.v (Value.int IntKind.i64 (0 : Int))] (73 : Nat), AB.cells [AV.v (Value.int IntKind.i64 (0 : Int)), AV.v (Value.int IntKind.i64 (0 : Int)), AV.v (Value.int IntKind.i64 (0 : Int)), AV.v (Value.int IntKind.i64 (0 : Int)), AV.v (Value.int IntKind.i64 (0 : Int)), AV.v (Value.int IntKind.i64 (0 : Int)), AV.v (Value.int IntKind.i64 (0 : Int)), AV.v (Value.int IntKind.i64 (0 : Int))] (73 : Nat)] (hpAt m f t fun _ ↦ (0 : Int)))] (Res.out Ex.ret [AV.agg [AV.v (Value.int IntKind.i64 (b (0 : Nat))), AV.v (Value.int IntKind.i64 (b (1 : Nat))), AV.v (Value.int IntKind.i64 (b (2 : Nat))), AV.v (Value.int IntKind.i64 (b (3 : Nat))), AV.v (Value.int IntKind.i64 (b (4 : Nat))), AV.v (Value.int IntKind.i64 (b (5 : Nat))), AV.v (Value.int IntKind.i64 (b (6 : Nat))), AV.v (Value.int IntKind.i64 (b (7 : Nat)))]] [AB.row false m (9 : Nat) (row9 f) t]) := by kernel_rfl

theorem fMd_eq : fMd (fun n => n % 24) = f_l1Mod := by
  funext l
  rfl
theorem FtuO_eq : FtuO (fun a n => turnedF a n.toNat) = F_turned := by
  funext l
  rfl
theorem gmAt_ok : GamOk Tryz.prog (gmAt (fun n => n % 24) (fun a n => turnedF a n.toNat) sumF) := by
  unfold gmAt
  rw [fMd_eq, FtuO_eq, fAdd3_eq]
  exact ext_ok (ext_ok (ext_ok g0_ok ok_l1Mod) ok_turnedS) ok_l2Sum
/-- The sum of the turned radii. -/
def atF (f : Nat → Nat → Int) (n : Int) : Nat → Nat → Int
  | 0 => fun _ => 0
  | i + 1 => sumF (atF f n i) 1 (turnedF (v8 (f i 1) (f i 2) (f i 3) (f i 4) (f i 5) (f i 6) (f i 7) (f i 8)) (IntKind.wrap IntKind.i64 (n * f i 0) % 24).toNat)
theorem sumAt (m : Nat) (f : Nat → Nat → Int) (t : TypeId) (n : Int) (hm : m ≤ 2 ^ 40) :
    SumOk Tryz.prog 1 (.block 0 (.loop (loopAt 0 Tryz.f104))) (atS 31 (lvAt .normal) 1 (stAt m n 0) (hpAt m f t fun _ => 0) (fun K => K .normal (mkT 0 31 [(4, .ptr 1 0 0 0), (5, .ptr 2 0 0 0)]) (hpAt m f t (atF f n m)))) := by
  refine for_at gmAt_ok (n := 100) (m := 1) (lv := lvAt) (fun i => stAt m n i) (fun i => hpAt m f t (atF f n i)) (fun _ => True) m (fun _ => noLam) (lv3_ris rfl rfl rfl) (Nat.le_refl _) trivial fun K Q hk i hi him => ⟨noLam_ok _ _ _, ?_⟩
  rw [rndAt]
  refine good_cond (fun c1 => ?_) fun c1 => ?_
  · have c1 := of_decide_eq_true c1
    have c1' : i < m := by omega
    rw [Int.toNat_natCast, Nat.zero_add, wr_in (x := (i : Int) + 1) (by omega)]
    refine good_needs (by simp only [ob_cons, ob_nil, and_true, decide_eq_true_eq]; omega) (good_out ⟨i + 1, ⟨rfl, c1', trivial⟩, rfl, Hsim.refl _⟩)
  · have c1 := of_decide_eq_false c1
    have : i = m := by omega
    subst this
    refine good_out ⟨_, Hsim.refl _, ?_⟩
    rw [if_pos rfl]
    exact hk

def FatO (at_ : (Nat → Nat → Int) → Int → Nat → Nat → Int) : List SA → Option FR
  | [.row m g, .v (.int .i64 n)] => some { val := .agg (cyC (at_ (itW g) n m)), obl := [allW m g, decide (m ≤ 2 ^ 38)] }
  | _ => none
theorem atF_row (g : Nat → Nat → Int) (n : Int) (m : Nat) : atF (itW (row9 g)) n m = atF g n m := by
  induction m with
  | zero => rfl
  | succ m ih => rw [atF, ih]; rfl
theorem ok_l5At : SpecOk Tryz.prog 104 (specR md_wv (FatO atF)) := by
  refine specR_hr g0_ok Tryz.func104 rfl fun sas fr hF ho => ?_
  unfold FatO at hF
  split at hF
  · rename_i m g n
    cases hF
    simp only [ob_cons] at ho
    obtain ⟨h1, h2, _⟩ := ho
    have hm := of_decide_eq_true h2
    refine ⟨[.row false m 9 (row9 (itW g)) 75], lamAt m (itW g) 75 n (atF (itW g) n m), 100, .cons (ABeq.row fun j hj => allW_get h1 j hj) .nil, lam1 (by kernel_rfl) (sumAt m (itW g) 75 n (by omega)), ?_⟩
    show GoodQ (execF Tryz.prog g0 (lamAt m (itW g) 75 n (atF (itW g) n m)) 100 Tryz.f104 [.sl 0 9 0 0 m none, .v (i64 n)] [.row false m 9 (row9 (itW g)) 75] (packK 1)) _
    rw [treeAt]
    exact good_needs (by rw [ob_cons]; exact ⟨chk_of ⟨rfl, Hsim.refl _⟩, rfl⟩) (good_out ⟨_, rfl, rfl, .cons (ABeq.row fun j hj => (allW_get h1 j hj).symm) .nil⟩)
  · cases hF

def FdoO (dn : (Nat → Int) → Nat → Int) (ok : (Nat → Int) → Bool) : List SA → Option FR
  | [.v (.agg ⟨[.int .i64 a0, .int .i64 a1, .int .i64 a2, .int .i64 a3, .int .i64 a4, .int .i64 a5, .int .i64 a6, .int .i64 a7]⟩)] => some { val := .tup [.agg (cyC (dn (v8 a0 a1 a2 a3 a4 a5 a6 a7))), .v (.bool (ok (v8 a0 a1 a2 a3 a4 a5 a6 a7)))] }
  | _ => none
theorem FdoO_eq : FdoO doneC (fun v => cyOk (cyOf v)) = F_l2Done := by
  funext l
  rfl
def gmDA (at_ : (Nat → Nat → Int) → Int → Nat → Nat → Int) (dn : (Nat → Int) → Nat → Int) (ok : (Nat → Int) → Bool) : Gam := ext (ext (ext (ext g0 100 (specR md_ws F_dv)) 102 (specV f_l1Is)) 104 (specR md_wv (FatO at_))) 103 (specR [.val] (FdoO dn ok))
theorem treeDA (at_ : (Nat → Nat → Int) → Int → Nat → Nat → Int) (dn : (Nat → Int) → Nat → Int) (ok : (Nat → Int) → Bool) (m : Nat) (f : Nat → Nat → Int) (t : TypeId) (n : Int) : execF Tryz.prog (gmDA at_ dn ok) noLam 100 Tryz.f71 [.sl 0 9 0 0 m none, .v (i64 n)] [.row false m 9 (row9 f) t] (packK 1)
    = needs [Nat.ble ((0 : Nat) + m) m, allW m fun q ↦ row9 f ((0 : Nat) + q), decide (m ≤ (549755813888 : Nat))] (bif !okD (listW (itW fun q ↦ row9 f ((0 : Nat) + q)) m) then Res.out Ex.ret [AV.tup [AV.agg [AV.v (Value.int IntKind.i64 (0 : Int)), AV.v (Value.int IntKind.i64 (0 : Int)), AV.v (Value.int IntKind.i64 (0 : Int)), AV.v (Value.int IntKind.i64 (0 : Int)), AV.v (Value.int IntKind.i64 (0 : Int)), AV.v (Value.int IntKind.i64 (0 : Int)), AV.v (Value.int IntKind.i64 (0 : Int)), AV.v (Value.int IntKind.i64 (0 : Int))], AV.v (Value.bool false)]] [AB.row false m (9 : Nat) (row9 f) t] else bif !inR n (0 : Int) (23 : Int) then Res.out Ex.ret [AV.tup [AV.agg [AV.v (Value.int IntKind.i64 (0 : Int)), AV.v (Value.int IntKind.i64 (0 : Int)), AV.v (Value.int IntKind.i64 (0 : Int)), AV.v (Value.int IntKind.i64 (0 : Int)), AV.v (Value.int IntKind.i64 (0 : Int)), AV.v (Value.int IntKind.i64 (0 : Int)), AV.v (Value.int IntKind.i64 (0 : Int)), AV.v (Value.int IntKind.i64 (0 : Int))], AV.v (Value.bool false)]] [AB.row false m (9 : Nat) (row9 f) t] else needs [Nat.ble ((0 : Nat) + m) m, allW m fun q ↦ row9 f ((0 : Nat) + q), decide (m ≤ (274877906944 : Nat))] (Res.out Ex.ret [AV.tup [AV.agg [AV.v (Value.int IntKind.i64 (dn (w8 (at_ (itW fun q ↦ row9 f ((0 : Nat) + q)) n m)) (0 : Nat))), AV.v (Value.int IntKind.i64 (dn (w8 (at_ (itW fun q ↦ row9 f ((0 : Nat) + q)) n m)) (1 : Nat))), AV.v (Value.int IntKind.i64 (dn (w8 (at_ (itW fun q ↦ row9 f ((0 : Nat) + q)) n m)) (2 : Nat))), AV.v (Value.int IntKind.i64 (dn (w8 (at_ (itW fun q ↦ row9 f ((0 : Nat) + q)) n m)) (3 : Nat))), AV.v (Value.int IntKind.i64 (dn (w8 (at_ (itW fun q ↦ row9 f ((0 : Nat) + q)) n m)) (4 : Nat))), AV.v (Value.int IntKind.i64 (dn (w8 (at_ (itW fun q ↦ row9 f ((0 : Nat) + q)) n m)) (5 : Nat))), AV.v (Value.int IntKind.i64 (dn (w8 (at_ (itW fun q ↦ row9 f ((0 : Nat) + q)) n m)) (6 : Nat))), AV.v (Value.int IntKind.i64 (dn (w8 (at_ (itW fun q ↦ row9 f ((0 : Nat) + q)) n m)) (7 : Nat)))], AV.v (Value.bool (ok (w8 (at_ (itW fun q ↦ row9 f ((0 : Nat) + q)) n m))))]] [AB.row false m (9 : Nat) (row9 f) t])) := by kernel_rfl

end Go.Proofs.YtcadinbahmliiaaGreatDoor

/- l5Each, the reference's. Conditions: a list of wheels. -/
namespace Go.Proofs.YtcadinbahmliiaaGreatDoor
open Go.RowKit
set_option maxRecDepth 100000

def fIsO (ok : Int → Bool) : List Value → Option (Value × List Bool)
  | [.int .i64 n] => some (.bool (ok n), [])
  | _ => none
def FtidyO (ti : List Wh → List Wh) (okt : List Wh → Bool) : List SA → Option FR
  | [.row m g] => some { val := .tup [.own 0 (ti (listW (itW g) m)).length, .v (.bool (okt (listW (itW g) m)))], new := [.row true (ti (listW (itW g) m)).length 9 (row9 (wfun (ti (listW (itW g) m)))) 75], obl := [allW m g, decide (m ≤ 2 ^ 38)] }
  | _ => none
theorem fIsO_eq : fIsO (fun n => inR n 0 23) = f_l1Is := by
  funext l
  rfl
theorem FtidyO_eq : FtidyO tidyL okT = F_tidy := by
  funext l
  rfl
end Go.Proofs.YtcadinbahmliiaaGreatDoor

/- Helpers on what l5Each and the changes come to. No conditions. -/
namespace Go.Proofs.YtcadinbahmliiaaGreatDoor
open Go.RowKit
set_option maxRecDepth 100000

theorem ble_me (n : Nat) : Nat.ble n n = true := by simp
theorem needs_nil (r : Res) : needs [] r = r := rfl
theorem needs_t (l : List Bool) (r : Res) : needs (true :: l) r = needs l r := rfl
theorem tidyL_no {L : List Wh} (h : okT L = false) : tidyL L = [] := by
  unfold okT at h
  unfold tidyL
  cases e : tidyS L with
  | none => rfl
  | some T => rw [e] at h; cases h
theorem tidyL_len {L : List Wh} (h : okT L = true) : (tidyL L).length ≤ 12 := by
  unfold okT at h
  unfold tidyL
  cases e : tidyS L with
  | none => rw [e] at h; cases h
  | some T =>
    unfold tidyS at e
    split at e
    · split at e
      · rename_i hv
        cases e
        rw [dValid, Bool.and_eq_true] at hv
        exact of_decide_eq_true hv.1
      · cases e
    · cases e
end Go.Proofs.YtcadinbahmliiaaGreatDoor

/- DesignAt, the reference's: its word. Conditions: a list of wheels. -/
namespace Go.Proofs.YtcadinbahmliiaaGreatDoor
open Go.RowKit
set_option maxRecDepth 100000

theorem gmDA_ok : GamOk Tryz.prog (gmDA atF doneC (fun v => cyOk (cyOf v))) := by
  unfold gmDA
  rw [FdoO_eq]
  exact ext_ok (ext_ok (ext_ok (ext_ok g0_ok ok_dv) ok_l1Is) ok_l5At) ok_l2Done
theorem zero_row9 (f : Nat → Nat → Int) : (fun q => row9 f (0 + q)) = row9 f := by
  funext q
  rw [Nat.zero_add]
def daOk (f : Nat → Nat → Int) (n : Int) (m : Nat) : Bool := okD (listW f m) && inR n 0 23 && cyOk (cyOf (atF f n m))
def daV (f : Nat → Nat → Int) (n : Int) (m : Nat) : Nat → Int := bif daOk f n m then atF f n m else fun _ => 0
def F_DA : List SA → Option FR
  | [.row m g, .v (.int .i64 n)] => some { val := .tup [.agg (cyC (daV (itW g) n m)), .v (.bool (daOk (itW g) n m))], obl := [allW m g, decide (m ≤ 2 ^ 38)] }
  | _ => none
theorem ok_DA : SpecOk Tryz.prog 71 (specR md_wv F_DA) := by
  refine specR_hr gmDA_ok Tryz.func71 rfl fun sas fr hF ho => ?_
  unfold F_DA at hF
  split at hF
  · rename_i m g n
    cases hF
    simp only [ob_cons] at ho
    obtain ⟨h1, h2, _⟩ := ho
    have hm := of_decide_eq_true h2
    refine ⟨[.row false m 9 (row9 (itW g)) 75], noLam, 100, .cons (ABeq.row fun j hj => allW_get h1 j hj) .nil, noLam' _, ?_⟩
    show GoodQ (execF Tryz.prog (gmDA atF doneC (fun v => cyOk (cyOf v))) noLam 100 Tryz.f71 [.sl 0 9 0 0 m none, .v (i64 n)] [.row false m 9 (row9 (itW g)) 75] (packK 1)) _
    rw [treeDA, zero_row9, listW_itW, atF_row]
    have fin : ∀ (c : Bool) (b : Nat → Int), daOk (itW g) n m = c → cyC b = cyC (bif c then atF (itW g) n m else fun _ => 0) → GoodQ (.out .ret [.tup [.agg (cyC b), .v (.bool c)]] [.row false m 9 (row9 (itW g)) 75])
        (GivR (abP md_wv [.row m g, .v (.int .i64 n)] []) { val := .tup [.agg (cyC (daV (itW g) n m)), .v (.bool (daOk (itW g) n m))], obl := [allW m g, decide (m ≤ 2 ^ 38)] }) := by
      rintro c b rfl hb
      refine good_out ⟨_, rfl, ?_, .cons (ABeq.row fun j hj => (allW_get h1 j hj).symm) .nil⟩
      rw [hb]
      rfl
    have ob : ∀ k : Nat, m ≤ k → obls [Nat.ble (0 + m) m, allW m (row9 (itW g)), decide (m ≤ k)] = true := fun k hk => by
      simp only [ob_cons, ob_nil, and_true, decide_eq_true_eq, Nat.ble_eq, allW_row, true_and, Nat.zero_add, Nat.le_refl]
      exact hk
    refine good_needs (ob _ (by omega)) (good_cond (fun q => ?_) fun q => ?_)
    · have q : okD (listW (itW g) m) = false := by simpa using q
      exact fin false (fun _ => 0) (by unfold daOk; rw [q]; rfl) rfl
    · have q : okD (listW (itW g) m) = true := by simpa using q
      refine good_cond (fun q2 => ?_) fun q2 => ?_
      · have q2 : inR n 0 23 = false := by simpa using q2
        exact fin false (fun _ => 0) (by unfold daOk; rw [q, q2]; rfl) rfl
      · have q2 : inR n 0 23 = true := by simpa using q2
        refine good_needs (ob _ (by omega)) ?_
        refine fin (cyOk (cyOf (atF (itW g) n m))) (doneC (w8 (atF (itW g) n m))) (by unfold daOk; rw [q, q2]; rfl) ?_
        have e : cyOf (w8 (atF (itW g) n m)) = cyOf (atF (itW g) n m) := rfl
        unfold doneC
        rw [e]
        cases cyOk (cyOf (atF (itW g) n m)) <;> rfl
  · cases hF

end Go.Proofs.YtcadinbahmliiaaGreatDoor

/- impl.at and the program's DesignAt: the reference's word. Conditions: a list of wheels. -/
namespace Go.Proofs.YtcadinbahmliiaaGreatDoor
open Go.RowKit
set_option maxRecDepth 100000

def gmAI (tu : (Nat → Int) → Int → Nat → Int) (ad : (Nat → Int) → (Nat → Int) → Nat → Int) : Gam := ext (ext g0 144 (specR [.val, .val] (FtuI tu))) 154 (specV (fAdd2 ad))
abbrev lvAI : Ex → List Nat := lv3 [1, 4, 5, 8, 9, 10] [4, 5] [4]
abbrev stAI (m : Nat) (n : Int) (i : Nat) : List AV := [.v (i64 n), .ptr 1 0 0 0, .ptr 2 0 0 0, .sl 0 9 0 0 m none, .v (i64 m), .v (i64 i)]
theorem rndAI (tu : (Nat → Int) → Int → Nat → Int) (ad : (Nat → Int) → (Nat → Int) → Nat → Int) (m : Nat) (f : Nat → Nat → Int) (t : TypeId) (n : Int) (a : Nat → Int) (i : Nat) : execC Tryz.prog (gmAI tu ad) 100 noLam (loopAt 0 Tryz.f115) (mkT 0 25 ((lvAI .normal).zip (stAI m n i))) (hpAt m f t a) (leafV 25 lvAI 1)
    = bif decide ((↑i : Int) < (↑m : Int)) then needs [decide ((↑i : Int) < (↑m : Int)), decide ((0 : Nat) + Int.toNat (↑i : Int) < m), inB (v8 (f ((0 : Nat) + Int.toNat (↑i : Int)) (1 : Nat)) (f ((0 : Nat) + Int.toNat (↑i : Int)) (2 : Nat)) (f ((0 : Nat) + Int.toNat (↑i : Int)) (3 : Nat)) (f ((0 : Nat) + Int.toNat (↑i : Int)) (4 : Nat)) (f ((0 : Nat) + Int.toNat (↑i : Int)) (5 : Nat)) (f ((0 : Nat) + Int.toNat (↑i : Int)) (6 : Nat)) (f ((0 : Nat) + Int.toNat (↑i : Int)) (7 : Nat)) (f ((0 : Nat) + Int.toNat (↑i : Int)) (8 : Nat))), inR (IntKind.wrap IntKind.i64 (n * f ((0 : Nat) + Int.toNat (↑i : Int)) (0 : Nat))) (-9223372036854775808 : Int) (9223372036854775807 : Int)] (Res.out Ex.normal [AV.v (Value.int IntKind.i64 n), AV.ptr (1 : Nat) (0 : Nat) (0 : Nat) (0 : Nat), AV.ptr (2 : Nat) (0 : Nat) (0 : Nat) (0 : Nat), AV.sl (0 : Nat) (9 : Nat) (0 : Nat) (0 : Nat) m none, AV.v (Value.int IntKind.i64 (↑m : Int)), AV.v (Value.int IntKind.i64 (IntKind.wrap IntKind.i64 ((↑i : Int) + (1 : Int))))] [AB.row false m (9 : Nat) (row9 f) t, AB.cells [AV.v (Value.int IntKind.i64 (0 : Int)), AV.v (Value.int IntKind.i64 (0 : Int)), AV.v (Value.int IntKind.i64 (0 : Int)), AV.v (Value.int IntKind.i64 (0 : Int)), AV.v (Value.int IntKind.i64 (0 : Int)), AV.v (Value.int IntKind.i64 (0 : Int)), AV.v (Value.int IntKind.i64 (0 : Int)), AV.v (Value.int IntKind.i64 (0 : Int))] (73 : TypeId), AB.cells [AV.v (Value.int IntKind.i64 (ad (w8 a) (w8 (tu (v8 (f ((0 : Nat) + Int.toNat (↑i : Int)) (1 : Nat)) (f ((0 : Nat) + Int.toNat (↑i : Int)) (2 : Nat)) (f ((0 : Nat) + Int.toNat (↑i : Int)) (3 : Nat)) (f ((0 : Nat) + Int.toNat (↑i : Int)) (4 : Nat)) (f ((0 : Nat) + Int.toNat (↑i : Int)) (5 : Nat)) (f ((0 : Nat) + Int.toNat (↑i : Int)) (6 : Nat)) (f ((0 : Nat) + Int.toNat (↑i : Int)) (7 : Nat)) (f ((0 : Nat) + Int.toNat (↑i : Int)) (8 : Nat))) (IntKind.wrap IntKind.i64 (n * f ((0 : Nat) + Int.toNat (↑i : Int)) (0 : Nat))))) (0 : Nat))), AV.v (Value.int IntKind.i64 (ad (w8 a) (w8 (tu (v8 (f ((0 : Nat) + Int.toNat (↑i : Int)) (1 : Nat)) (f ((0 : Nat) + Int.toNat (↑i : Int)) (2 : Nat)) (f ((0 : Nat) + Int.toNat (↑i : Int)) (3 : Nat)) (f ((0 : Nat) + Int.toNat (↑i : Int)) (4 : Nat)) (f ((0 : Nat) + Int.toNat (↑i : Int)) (5 : Nat)) (f ((0 : Nat) + Int.toNat (↑i : Int)) (6 : Nat)) (f ((0 : Nat) + Int.toNat (↑i : Int)) (7 : Nat)) (f ((0 : Nat) + Int.toNat (↑i : Int)) (8 : Nat))) (IntKind.wrap IntKind.i64 (n * f ((0 : Nat) + Int.toNat (↑i : Int)) (0 : Nat))))) (1 : Nat))), AV.v (Value.int IntKind.i64 (ad (w8 a) (w8 (tu (v8 (f ((0 : Nat) + Int.toNat (↑i : Int)) (1 : Nat)) (f ((0 : Nat) + Int.toNat (↑i : Int)) (2 : Nat)) (f ((0 : Nat) + Int.toNat (↑i : Int)) (3 : Nat)) (f ((0 : Nat) + Int.toNat (↑i : Int)) (4 : Nat)) (f ((0 : Nat) + Int.toNat (↑i : Int)) (5 : Nat)) (f ((0 : Nat) + Int.toNat (↑i : Int)) (6 : Nat)) (f ((0 : Nat) + Int.toNat (↑i : Int)) (7 : Nat)) (f ((0 : Nat) + Int.toNat (↑i : Int)) (8 : Nat))) (IntKind.wrap IntKind.i64 (n * f ((0 : Nat) + Int.toNat (↑i : Int)) (0 : Nat))))) (2 : Nat))), AV.v (Value.int IntKind.i64 (ad (w8 a) (w8 (tu (v8 (f ((0 : Nat) + Int.toNat (↑i : Int)) (1 : Nat)) (f ((0 : Nat) + Int.toNat (↑i : Int)) (2 : Nat)) (f ((0 : Nat) + Int.toNat (↑i : Int)) (3 : Nat)) (f ((0 : Nat) + Int.toNat (↑i : Int)) (4 : Nat)) (f ((0 : Nat) + Int.toNat (↑i : Int)) (5 : Nat)) (f ((0 : Nat) + Int.toNat (↑i : Int)) (6 : Nat)) (f ((0 : Nat) + Int.toNat (↑i : Int)) (7 : Nat)) (f ((0 : Nat) + Int.toNat (↑i : Int)) (8 : Nat))) (IntKind.wrap IntKind.i64 (n * f ((0 : Nat) + Int.toNat (↑i : Int)) (0 : Nat))))) (3 : Nat))), AV.v (Value.int IntKind.i64 (ad (w8 a) (w8 (tu (v8 (f ((0 : Nat) + Int.toNat (↑i : Int)) (1 : Nat)) (f ((0 : Nat) + Int.toNat (↑i : Int)) (2 : Nat)) (f ((0 : Nat) + Int.toNat (↑i : Int)) (3 : Nat)) (f ((0 : Nat) + Int.toNat (↑i : Int)) (4 : Nat)) (f ((0 : Nat) + Int.toNat (↑i : Int)) (5 : Nat)) (f ((0 : Nat) + Int.toNat (↑i : Int)) (6 : Nat)) (f ((0 : Nat) + Int.toNat (↑i : Int)) (7 : Nat)) (f ((0 : Nat) + Int.toNat (↑i : Int)) (8 : Nat))) (IntKind.wrap IntKind.i64 (n * f ((0 : Nat) + Int.toNat (↑i : Int)) (0 : Nat))))) (4 : Nat))), AV.v (Value.int IntKind.i64 (ad (w8 a) (w8 (tu (v8 (f ((0 : Nat) + Int.toNat (↑i : Int)) (1 : Nat)) (f ((0 : Nat) + Int.toNat (↑i : Int)) (2 : Nat)) (f ((0 : Nat) + Int.toNat (↑i : Int)) (3 : Nat)) (f ((0 : Nat) + Int.toNat (↑i : Int)) (4 : Nat)) (f ((0 : Nat) + Int.toNat (↑i : Int)) (5 : Nat)) (f ((0 : Nat) + Int.toNat (↑i : Int)) (6 : Nat)) (f ((0 : Nat) + Int.toNat (↑i : Int)) (7 : Nat)) (f ((0 : Nat) + Int.toNat (↑i : Int)) (8 : Nat))) (IntKind.wrap IntKind.i64 (n * f ((0 : Nat) + Int.toNat (↑i : Int)) (0 : Nat))))) (5 : Nat))), AV.v (Value.int IntKind.i64 (ad (w8 a) (w8 (tu (v8 (f ((0 : Nat) + Int.toNat (↑i : Int)) (1 : Nat)) (f ((0 : Nat) + Int.toNat (↑i : Int)) (2 : Nat)) (f ((0 : Nat) + Int.toNat (↑i : Int)) (3 : Nat)) (f ((0 : Nat) + Int.toNat (↑i : Int)) (4 : Nat)) (f ((0 : Nat) + Int.toNat (↑i : Int)) (5 : Nat)) (f ((0 : Nat) + Int.toNat (↑i : Int)) (6 : Nat)) (f ((0 : Nat) + Int.toNat (↑i : Int)) (7 : Nat)) (f ((0 : Nat) + Int.toNat (↑i : Int)) (8 : Nat))) (IntKind.wrap IntKind.i64 (n * f ((0 : Nat) + Int.toNat (↑i : Int)) (0 : Nat))))) (6 : Nat))), AV.v (Value.int IntKind.i64 (ad (w8 a) (w8 (tu (v8 (f ((0 : Nat) + Int.toNat (↑i : Int)) (1 : Nat)) (f ((0 : Nat) + Int.toNat (↑i : Int)) (2 : Nat)) (f ((0 : Nat) + Int.toNat (↑i : Int)) (3 : Nat)) (f ((0 : Nat) + Int.toNat (↑i : Int)) (4 : Nat)) (f ((0 : Nat) + Int.toNat (↑i : Int)) (5 : Nat)) (f ((0 : Nat) + Int.toNat (↑i : Int)) (6 : Nat)) (f ((0 : Nat) + Int.toNat (↑i : Int)) (7 : Nat)) (f ((0 : Nat) + Int.toNat (↑i : Int)) (8 : Nat))) (IntKind.wrap IntKind.i64 (n * f ((0 : Nat) + Int.toNat (↑i : Int)) (0 : Nat))))) (7 : Nat)))] (73 : TypeId)]) else Res.out (Ex.exit (0 : Nat)) [AV.ptr (1 : Nat) (0 : Nat) (0 : Nat) (0 : Nat), AV.ptr (2 : Nat) (0 : Nat) (0 : Nat) (0 : Nat)] [AB.row false m (9 : Nat) (row9 f) t, AB.cells [AV.v (Value.int IntKind.i64 (0 : Int)), AV.v (Value.int IntKind.i64 (0 : Int)), AV.v (Value.int IntKind.i64 (0 : Int)), AV.v (Value.int IntKind.i64 (0 : Int)), AV.v (Value.int IntKind.i64 (0 : Int)), AV.v (Value.int IntKind.i64 (0 : Int)), AV.v (Value.int IntKind.i64 (0 : Int)), AV.v (Value.int IntKind.i64 (0 : Int))] (73 : TypeId), AB.cells [AV.v (Value.int IntKind.i64 (a (0 : Nat))), AV.v (Value.int IntKind.i64 (a (1 : Nat))), AV.v (Value.int IntKind.i64 (a (2 : Nat))), AV.v (Value.int IntKind.i64 (a (3 : Nat))), AV.v (Value.int IntKind.i64 (a (4 : Nat))), AV.v (Value.int IntKind.i64 (a (5 : Nat))), AV.v (Value.int IntKind.i64 (a (6 : Nat))), AV.v (Value.int IntKind.i64 (a (7 : Nat)))] (73 : TypeId)] := by kernel_rfl

noncomputable abbrev lamAI (m : Nat) (f : Nat → Nat → Int) (t : TypeId) (n : Int) (b : Nat → Int) : Nat → Option Sum := oneL 0 (atS 25 (lvAI .normal) 1 (stAI m n 0) (hpAt m f t fun _ => 0) (fun K => K .normal (mkT 0 25 [(4, .ptr 1 0 0 0), (5, .ptr 2 0 0 0)]) (hpAt m f t b)))
theorem treeAI (m : Nat) (f : Nat → Nat → Int) (t : TypeId) (n : Int) (b : Nat → Int) : execF Tryz.prog g0 (lamAI m f t n b) 100 Tryz.f115 [.sl 0 9 0 0 m none, .v (i64 n)] [.row false m 9 (row9 f) t] (packK 1)
    = needs [chk ([AV.v (Value.int IntKind.i64 n), AV.ptr (1 : Nat) (0 : Nat) (0 : Nat) (0 : Nat), AV.ptr (2 : Nat) (0 : Nat) (0 : Nat) (0 : Nat), AV.sl (0 : Nat) (9 : Nat) (0 : Nat) (0 : Nat) m none, AV.v (Value.int IntKind.i64 (↑m : Int)), AV.v (Value.int IntKind.i64 (0 : Int))] = stAI m n (0 : Nat) ∧ Hsim [AB.row false m (9 : Nat) (row9 f) t, AB.cells [AV.v (Value.int IntKind.i64 (0 : Int)), AV.v (Value.int IntKind.i64 (0 : Int)), AV.v (Value.int IntKind.i64 (0 : Int)), AV.v (Value.int IntKind.i64 (0 : Int)), AV.v (Value.int IntKind.i64 (0 : Int)), AV.v (Value.int IntKind.i64 (0 : Int)), AV.v (Value.int IntKind.i64 (0 : Int)), AV.v (Value.int IntKind.i64 (0 : Int))] (73 : Nat), AB.cells [AV.v (Value.int IntKind.i64 (0 : Int)), AV.v (Value.int IntKind.i64 (0 : Int)), AV.v (Value.int IntKind.i64 (0 : Int)), AV.v (Value.int IntKind.i64 (0 : Int)), AV.v (Value.int IntKind.i64 (0 : Int)), AV.v (Value.int IntKind.i64 (0 : Int)), AV.v (Value.int IntKind.i64 (0 : Int)), AV.v (Value.int IntKind.i64 (0 : Int))] (73 : Nat)] (hpAt m f t fun _ ↦ (0 : Int)))] (Res.out Ex.ret [AV.agg [AV.v (Value.int IntKind.i64 (b (0 : Nat))), AV.v (Value.int IntKind.i64 (b (1 : Nat))), AV.v (Value.int IntKind.i64 (b (2 : Nat))), AV.v (Value.int IntKind.i64 (b (3 : Nat))), AV.v (Value.int IntKind.i64 (b (4 : Nat))), AV.v (Value.int IntKind.i64 (b (5 : Nat))), AV.v (Value.int IntKind.i64 (b (6 : Nat))), AV.v (Value.int IntKind.i64 (b (7 : Nat)))]] [AB.row false m (9 : Nat) (row9 f) t]) := by kernel_rfl

def FatI (at_ : (Nat → Nat → Int) → Int → Nat → Nat → Int) (okd : List Wh → Bool) : List SA → Option FR
  | [.row m g, .v (.int .i64 n)] => some { val := .agg (cyC (at_ (itW g) n m)), obl := [allW m g, decide (m ≤ 2 ^ 38), okd (listW (itW g) m)] }
  | _ => none
def gmDI (at_ : (Nat → Nat → Int) → Int → Nat → Nat → Int) (okd : List Wh → Bool) (ok : (Nat → Int) → Bool) : Gam := ext (ext (ext gm_within 115 (specR md_wv (FatI at_ okd))) 113 (specR md_ws (FdvO okd))) 153 (specV (fOkc ok))
theorem treeDI (at_ : (Nat → Nat → Int) → Int → Nat → Nat → Int) (okd : List Wh → Bool) (ok : (Nat → Int) → Bool) (m : Nat) (f : Nat → Nat → Int) (t : TypeId) (n : Int) : execF Tryz.prog (gmDI at_ okd ok) noLam 100 Tryz.f77 [.sl 0 9 0 0 m none, .v (i64 n)] [.row false m 9 (row9 f) t] (packK 1)
    = needs [Nat.ble ((0 : Nat) + m) m, allW m fun q ↦ row9 f ((0 : Nat) + q), decide (m ≤ (549755813888 : Nat))] (bif !okd (listW (itW fun q ↦ row9 f ((0 : Nat) + q)) m) then Res.out Ex.ret [AV.tup [AV.agg [AV.v (Value.int IntKind.i64 (0 : Int)), AV.v (Value.int IntKind.i64 (0 : Int)), AV.v (Value.int IntKind.i64 (0 : Int)), AV.v (Value.int IntKind.i64 (0 : Int)), AV.v (Value.int IntKind.i64 (0 : Int)), AV.v (Value.int IntKind.i64 (0 : Int)), AV.v (Value.int IntKind.i64 (0 : Int)), AV.v (Value.int IntKind.i64 (0 : Int))], AV.v (Value.bool false)]] [AB.row false m (9 : Nat) (row9 f) t] else bif !inR n (0 : Int) (23 : Int) then Res.out Ex.ret [AV.tup [AV.agg [AV.v (Value.int IntKind.i64 (0 : Int)), AV.v (Value.int IntKind.i64 (0 : Int)), AV.v (Value.int IntKind.i64 (0 : Int)), AV.v (Value.int IntKind.i64 (0 : Int)), AV.v (Value.int IntKind.i64 (0 : Int)), AV.v (Value.int IntKind.i64 (0 : Int)), AV.v (Value.int IntKind.i64 (0 : Int)), AV.v (Value.int IntKind.i64 (0 : Int))], AV.v (Value.bool false)]] [AB.row false m (9 : Nat) (row9 f) t] else needs [Nat.ble ((0 : Nat) + m) m, allW m fun q ↦ row9 f ((0 : Nat) + q), decide (m ≤ (274877906944 : Nat)), okd (listW (itW fun q ↦ row9 f ((0 : Nat) + q)) m)] (bif !ok (w8 (at_ (itW fun q ↦ row9 f ((0 : Nat) + q)) n m)) then Res.out Ex.ret [AV.tup [AV.agg [AV.v (Value.int IntKind.i64 (0 : Int)), AV.v (Value.int IntKind.i64 (0 : Int)), AV.v (Value.int IntKind.i64 (0 : Int)), AV.v (Value.int IntKind.i64 (0 : Int)), AV.v (Value.int IntKind.i64 (0 : Int)), AV.v (Value.int IntKind.i64 (0 : Int)), AV.v (Value.int IntKind.i64 (0 : Int)), AV.v (Value.int IntKind.i64 (0 : Int))], AV.v (Value.bool false)]] [AB.row false m (9 : Nat) (row9 f) t] else Res.out Ex.ret [AV.tup [AV.agg [AV.v (Value.int IntKind.i64 (at_ (itW fun q ↦ row9 f ((0 : Nat) + q)) n m (0 : Nat))), AV.v (Value.int IntKind.i64 (at_ (itW fun q ↦ row9 f ((0 : Nat) + q)) n m (1 : Nat))), AV.v (Value.int IntKind.i64 (at_ (itW fun q ↦ row9 f ((0 : Nat) + q)) n m (2 : Nat))), AV.v (Value.int IntKind.i64 (at_ (itW fun q ↦ row9 f ((0 : Nat) + q)) n m (3 : Nat))), AV.v (Value.int IntKind.i64 (at_ (itW fun q ↦ row9 f ((0 : Nat) + q)) n m (4 : Nat))), AV.v (Value.int IntKind.i64 (at_ (itW fun q ↦ row9 f ((0 : Nat) + q)) n m (5 : Nat))), AV.v (Value.int IntKind.i64 (at_ (itW fun q ↦ row9 f ((0 : Nat) + q)) n m (6 : Nat))), AV.v (Value.int IntKind.i64 (at_ (itW fun q ↦ row9 f ((0 : Nat) + q)) n m (7 : Nat)))], AV.v (Value.bool true)]] [AB.row false m (9 : Nat) (row9 f) t])) := by kernel_rfl

def FDAo (dv : (Nat → Nat → Int) → Int → Nat → Nat → Int) (dk : (Nat → Nat → Int) → Int → Nat → Bool) : List SA → Option FR
  | [.row m g, .v (.int .i64 n)] => some { val := .tup [.agg (cyC (dv (itW g) n m)), .v (.bool (dk (itW g) n m))], obl := [allW m g, decide (m ≤ 2 ^ 38)] }
  | _ => none
theorem gmAI_ok : GamOk Tryz.prog (gmAI tuF plusF) := by
  unfold gmAI
  rw [fAdd2_eq]
  exact ext_ok (ext_ok g0_ok ok_tuI) ok_plus
theorem atF_next (f : Nat → Nat → Int) (n : Int) (i : Nat) : atF f n (i + 1) = plusF (atF f n i) (tuF (v8 (f i 1) (f i 2) (f i 3) (f i 4) (f i 5) (f i 6) (f i 7) (f i 8)) (IntKind.wrap IntKind.i64 (n * f i 0))) := by
  funext k
  show W (atF f n i k + 1 * _) = W (atF f n i k + _)
  rw [Int.one_mul]
theorem sumAI (m : Nat) (f : Nat → Nat → Int) (t : TypeId) (n : Int) (hm : m ≤ 2 ^ 40) (hok : ∀ w ∈ listW f m, inB w.r.f = true) :
    SumOk Tryz.prog 1 (.block 0 (.loop (loopAt 0 Tryz.f115))) (atS 25 (lvAI .normal) 1 (stAI m n 0) (hpAt m f t fun _ => 0) (fun K => K .normal (mkT 0 25 [(4, .ptr 1 0 0 0), (5, .ptr 2 0 0 0)]) (hpAt m f t (atF f n m)))) := by
  refine for_at gmAI_ok (n := 100) (m := 1) (lv := lvAI) (fun i => stAI m n i) (fun i => hpAt m f t (atF f n i)) (fun _ => True) m (fun _ => noLam) (lv3_ris rfl rfl rfl) (Nat.le_refl _) trivial fun K Q hk i hi him => ⟨noLam_ok _ _ _, ?_⟩
  rw [rndAI]
  refine good_cond (fun c1 => ?_) fun c1 => ?_
  · have c1 := of_decide_eq_true c1
    have c1' : i < m := by omega
    rw [Int.toNat_natCast, Nat.zero_add, wr_in (x := (i : Int) + 1) (by omega)]
    refine good_needs ?_ (good_out ⟨i + 1, ⟨rfl, c1', trivial⟩, rfl, ?_⟩)
    · simp only [ob_cons, ob_nil, and_true, decide_eq_true_eq]
      exact ⟨by omega, by omega, hok _ (List.mem_of_getElem? (listW_get f c1')), inR_iff.2 (w64_range _)⟩
    · show Hsim _ (hpAt m f t (atF f n (i + 1)))
      rw [atF_next]
      exact Hsim.refl _
  · have c1 := of_decide_eq_false c1
    have : i = m := by omega
    subst this
    refine good_out ⟨_, Hsim.refl _, ?_⟩
    rw [if_pos rfl]
    exact hk
theorem ok_atI : SpecOk Tryz.prog 115 (specR md_wv (FatI atF okD)) := by
  refine specR_hr g0_ok Tryz.func115 rfl fun sas fr hF ho => ?_
  unfold FatI at hF
  split at hF
  · rename_i m g n
    cases hF
    simp only [ob_cons] at ho
    obtain ⟨h1, h2, h3, _⟩ := ho
    have hm := of_decide_eq_true h2
    refine ⟨[.row false m 9 (row9 (itW g)) 75], lamAI m (itW g) 75 n (atF (itW g) n m), 100, .cons (ABeq.row fun j hj => allW_get h1 j hj) .nil, lam1 (by kernel_rfl) (sumAI m (itW g) 75 n (by omega) fun w hw => valid_inB h3 hw), ?_⟩
    show GoodQ (execF Tryz.prog g0 (lamAI m (itW g) 75 n (atF (itW g) n m)) 100 Tryz.f115 [.sl 0 9 0 0 m none, .v (i64 n)] [.row false m 9 (row9 (itW g)) 75] (packK 1)) _
    rw [treeAI]
    exact good_needs (by rw [ob_cons]; exact ⟨chk_of ⟨rfl, Hsim.refl _⟩, rfl⟩) (good_out ⟨_, rfl, rfl, .cons (ABeq.row fun j hj => (allW_get h1 j hj).symm) .nil⟩)
  · cases hF
theorem gmDI_ok : GamOk Tryz.prog (gmDI atF okD (fun v => cyOk (cyOf v))) := by
  unfold gmDI
  rw [fOkc_eq, FdvO_eq]
  exact ext_ok (ext_ok (ext_ok gm_within_ok ok_atI) ok_dvI) ok_cvI
theorem FDAo_eq : FDAo daV daOk = F_DA := by
  funext l
  rfl
theorem ok_DAI : SpecOk Tryz.prog 77 (specR md_wv (FDAo daV daOk)) := by
  refine specR_hr gmDI_ok Tryz.func77 rfl fun sas fr hF ho => ?_
  unfold FDAo at hF
  split at hF
  · rename_i m g n
    cases hF
    simp only [ob_cons] at ho
    obtain ⟨h1, h2, _⟩ := ho
    have hm := of_decide_eq_true h2
    refine ⟨[.row false m 9 (row9 (itW g)) 75], noLam, 100, .cons (ABeq.row fun j hj => allW_get h1 j hj) .nil, noLam' _, ?_⟩
    show GoodQ (execF Tryz.prog (gmDI atF okD (fun v => cyOk (cyOf v))) noLam 100 Tryz.f77 [.sl 0 9 0 0 m none, .v (i64 n)] [.row false m 9 (row9 (itW g)) 75] (packK 1)) _
    rw [treeDI, row0, listW_itW, atF_row]
    have fin : ∀ (c : Bool) (b : Nat → Int), daOk (itW g) n m = c → cyC b = cyC (bif c then atF (itW g) n m else fun _ => 0) → GoodQ (.out .ret [.tup [.agg (cyC b), .v (.bool c)]] [.row false m 9 (row9 (itW g)) 75])
        (GivR (abP md_wv [.row m g, .v (.int .i64 n)] []) { val := .tup [.agg (cyC (daV (itW g) n m)), .v (.bool (daOk (itW g) n m))], obl := [allW m g, decide (m ≤ 2 ^ 38)] }) := by
      rintro c b rfl hb
      refine good_out ⟨_, rfl, ?_, .cons (ABeq.row fun j hj => (allW_get h1 j hj).symm) .nil⟩
      rw [hb]
      rfl
    refine good_needs (by simp only [ob_cons, ob_nil, and_true, decide_eq_true_eq, Nat.ble_eq, allW_row, true_and]; omega) (good_cond (fun q => ?_) fun q => ?_)
    · have q' : (!okD (listW (itW g) m)) = true := q
      have q2 : okD (listW (itW g) m) = false := by simpa using q'
      exact fin false (fun _ => 0) (by unfold daOk; rw [q2]; rfl) rfl
    · have q' : (!okD (listW (itW g) m)) = false := q
      have qd : okD (listW (itW g) m) = true := by simpa using q'
      refine good_cond (fun q2 => ?_) fun q2 => ?_
      · have q2 : inR n 0 23 = false := by simpa using q2
        exact fin false (fun _ => 0) (by unfold daOk; rw [qd, q2]; rfl) rfl
      · have q2 : inR n 0 23 = true := by simpa using q2
        refine good_needs (by simp only [ob_cons, ob_nil, and_true, decide_eq_true_eq, Nat.ble_eq, allW_row, true_and]; exact ⟨by omega, hm, qd⟩) (good_cond (fun q3 => ?_) fun q3 => ?_)
        · have q3' : (!cyOk (cyOf (atF (itW g) n m))) = true := q3
          have q4 : cyOk (cyOf (atF (itW g) n m)) = false := by simpa using q3'
          exact fin false (fun _ => 0) (by unfold daOk; rw [qd, q2, q4]; rfl) rfl
        · have q3' : (!cyOk (cyOf (atF (itW g) n m))) = false := q3
          have q4 : cyOk (cyOf (atF (itW g) n m)) = true := by simpa using q3'
          exact fin true (atF (itW g) n m) (by unfold daOk; rw [qd, q2, q4]; rfl) rfl
  · cases hF

theorem daOk_row (f : Nat → Nat → Int) (n : Int) (m : Nat) : daOk (itW (row9 f)) n m = daOk f n m := by unfold daOk; rw [listW_itW, atF_row]
theorem daV_row (f : Nat → Nat → Int) (n : Int) (m : Nat) : daV (itW (row9 f)) n m = daV f n m := by unfold daV; rw [daOk_row, atF_row]
end Go.Proofs.YtcadinbahmliiaaGreatDoor

/- Single points of both. Conditions: a point. -/
namespace Go.Proofs.YtcadinbahmliiaaGreatDoor
open Go.RowKit
set_option maxRecDepth 100000

/-- The roots, as single numbers. -/
def rtR : Nat → Nat
  | 0 => 1065353216
  | 1 => 1064781546
  | 2 => 1063105495
  | 3 => 1060439283
  | 4 => 1056964608
  | 5 => 1048871918
  | 6 => 0
  | _ => 3196355566
def rtM : Nat → Nat
  | 0 => 0
  | 1 => 1048871918
  | 2 => 1056964608
  | 3 => 1060439283
  | 4 => 1063105495
  | 5 => 1064781546
  | 6 => 1065353216
  | _ => 1064781546
def pdR (a : Nat → Int) (k : Nat) : Option Nat := FloatKind.f32.format.mul (FloatKind.f32.nearest (a k)) (rtR k)
def pdM (a : Nat → Int) (k : Nat) : Option Nat := FloatKind.f32.format.mul (FloatKind.f32.nearest (a k)) (rtM k)
def smR (a : Nat → Int) : Nat → Nat
  | 0 => 0
  | k + 1 => (FloatKind.f32.format.add (smR a k) ((pdR a k).getD 0)).getD 0
def smM (a : Nat → Int) : Nat → Nat
  | 0 => 0
  | k + 1 => (FloatKind.f32.format.add (smM a k) ((pdM a k).getD 0)).getD 0
def obS (a : Nat → Int) : List Bool := (List.range 8).flatMap fun k => [(pdR a k).isSome, (pdM a k).isSome, (FloatKind.f32.format.add (smR a k) ((pdR a k).getD 0)).isSome, (FloatKind.f32.format.add (smM a k) ((pdM a k).getD 0)).isSome]
theorem exSg (a : Nat → Int) : execF Tryz.prog g0 noLam 100 Tryz.f78 [.v (cyv a)] [] valK = needs (obS a) (.out .ret [.v (.complex .f32 (smR a 8) (smM a 8))] []) := by kernel_rfl
def gmCv (ok : (Nat → Int) → Bool) : Gam := ext g0 105 (specV (fOkc ok))
theorem exSp (ok : (Nat → Int) → Bool) (a : Nat → Int) : execF Tryz.prog (gmCv ok) noLam 100 Tryz.f72 [.v (cyv a)] [] (packK 0) = cond (!ok (w8 a)) (.out .ret [.tup [.v (.complex .f32 0 0), .v (.bool false)]] []) (needs (obS a) (.out .ret [.tup [.v (.complex .f32 (smR a 8) (smM a 8)), .v (.bool true)]] [])) := by kernel_rfl

end Go.Proofs.YtcadinbahmliiaaGreatDoor

/- Single numbers that stay finite: sums and products of small ones. No program, no conditions. -/
namespace Go.Proofs.YtcadinbahmliiaaGreatDoor
open Go.RowKit

/-- A word that stands for a number below 2 to e + 1. -/
def Fin32 (x : Nat) (e : Int) : Prop := ∃ s m i, FloatKind.f32.format.read x = .number s m i ∧ i + (m.log2 : Int) ≤ e
theorem Fin32.mono {x : Nat} {e d : Int} (h : Fin32 x e) (hd : e ≤ d) : Fin32 x d := by
  obtain ⟨s, m, i, h1, h2⟩ := h
  exact ⟨s, m, i, h1, by omega⟩
def finB (x : Nat) (e : Int) : Bool := match FloatKind.f32.format.read x with
  | .number _ m i => decide (i + (m.log2 : Int) ≤ e)
  | _ => false
theorem fin_of {x : Nat} {e : Int} (h : finB x e = true) : Fin32 x e := by
  unfold finB at h
  split at h
  · rename_i s m i hr
    exact ⟨s, m, i, hr, of_decide_eq_true h⟩
  · cases h
theorem log2_lt (n : Nat) : n < 2 ^ (n.log2 + 1) := Nat.lt_log2_self
theorem log2_le {n k : Nat} (h : n < 2 ^ (k + 1)) : n.log2 ≤ k := by
  rcases Nat.eq_zero_or_pos n with rfl | h0
  · rw [show Nat.log2 0 = 0 by decide]
    omega
  · have := (Nat.log2_lt (by omega)).2 h
    omega
theorem f32_binade : FloatKind.f32.format.binade = 8388608 := by decide
theorem f32_inf : FloatKind.f32.format.infRung = 2139095040 := by decide
theorem f32_sign : FloatKind.f32.format.signWeight = 2147483648 := by decide
theorem f32_least : FloatKind.f32.format.leastPlace = -149 := by decide
theorem f32_frac : FloatKind.f32.format.fractionBits = 23 := rfl
theorem cut_le (s : Bool) (n drop : Nat) : Ieee.Toward.even.cut s n drop ≤ n / 2 ^ min drop (n.log2 + 2) + 1 := by
  unfold Ieee.Toward.cut
  simp only [Nat.shiftLeft_eq, Nat.one_mul]
  have : ∀ b : Bool, b.toNat ≤ 1 := fun b => by cases b <;> decide
  exact Nat.add_le_add_left (this _) _
theorem kept_le {s : Bool} {m : Nat} {i last : Int} (hl : i + (m.log2 : Int) - 23 ≤ last) : Ieee.Toward.even.cut s (m <<< (i - last).toNat) (last - i).toNat ≤ 16777216 := by
  refine Nat.le_trans (cut_le _ _ _) ?_
  suffices h : m <<< (i - last).toNat / 2 ^ min (last - i).toNat ((m <<< (i - last).toNat).log2 + 2) < 16777216 by omega
  rw [Nat.shiftLeft_eq]
  have hm := log2_lt m
  by_cases hc : last ≤ i
  · have h1 : (last - i).toNat = 0 := by omega
    rw [h1, Nat.zero_min, Nat.pow_zero, Nat.div_one]
    calc m * 2 ^ (i - last).toNat < 2 ^ (m.log2 + 1) * 2 ^ (i - last).toNat := Nat.mul_lt_mul_of_pos_right hm (Nat.two_pow_pos _)
      _ = 2 ^ (m.log2 + 1 + (i - last).toNat) := (Nat.pow_add ..).symm
      _ ≤ 2 ^ 24 := Nat.pow_le_pow_right (by omega) (by omega)
  · have h1 : (i - last).toNat = 0 := by omega
    rw [h1, Nat.pow_zero, Nat.mul_one]
    rw [Nat.div_lt_iff_lt_mul (Nat.two_pow_pos _)]
    by_cases hd : (last - i).toNat ≤ m.log2 + 2
    · rw [Nat.min_eq_left hd]
      calc m < 2 ^ (m.log2 + 1) := hm
        _ ≤ 2 ^ (24 + (last - i).toNat) := Nat.pow_le_pow_right (by omega) (by omega)
        _ = 16777216 * 2 ^ (last - i).toNat := by rw [Nat.pow_add]
    · rw [Nat.min_eq_right (by omega)]
      calc m < 2 ^ (m.log2 + 1) := hm
        _ ≤ 2 ^ (24 + (m.log2 + 2)) := Nat.pow_le_pow_right (by omega) (by omega)
        _ = 16777216 * 2 ^ (m.log2 + 2) := by rw [Nat.pow_add]
theorem read_word (s : Bool) {R : Nat} (hR : R < 2139095040) : ∃ m i, FloatKind.f32.format.read (FloatKind.f32.format.word s R) = .number s m i ∧ i + (m.log2 : Int) ≤ max ((R / 8388608 : Nat) : Int) 1 - 127 := by
  have e1 : FloatKind.f32.format.word s R % 2147483648 = R := by
    unfold Ieee.Format.word
    rw [f32_sign]
    cases s
    · simp only [Bool.false_eq_true, if_false]; omega
    · simp only [if_true]; omega
  have e2 : (FloatKind.f32.format.word s R / 2147483648 % 2 == 1) = s := by
    unfold Ieee.Format.word
    rw [f32_sign]
    cases s
    · simp only [Bool.false_eq_true, if_false]
      rw [show R / 2147483648 = 0 by omega]
      rfl
    · simp only [if_true]
      rw [show (2147483648 + R) / 2147483648 = 1 by omega]
      rfl
  unfold Ieee.Format.read
  simp only [f32_sign, f32_binade, f32_inf, f32_least, e1, e2]
  by_cases h1 : R < 8388608
  · rw [if_pos h1]
    refine ⟨_, _, rfl, ?_⟩
    have : R.log2 ≤ 22 := log2_le (by omega)
    omega
  · rw [if_neg h1, if_pos hR]
    refine ⟨_, _, rfl, ?_⟩
    have : (8388608 + R % 8388608).log2 ≤ 23 := log2_le (by omega)
    omega
theorem nearest_fin (s : Bool) (m : Nat) (i : Int) {e : Int} (h : i + (m.log2 : Int) ≤ e) (h0 : -120 ≤ e) (h1 : e ≤ 100) : Fin32 (FloatKind.f32.format.nearest s m i) (e + 1) := by
  unfold Ieee.Format.nearest
  by_cases hm : m = 0
  · rw [if_pos hm]
    obtain ⟨m', i', e1, e2⟩ := read_word s (R := 0) (by omega)
    exact ⟨s, m', i', e1, by omega⟩
  · rw [if_neg hm]
    simp only [f32_frac, f32_least, f32_binade, f32_inf]
    have hk : Ieee.Toward.even.cut s (m <<< (i - max (i + (m.log2 : Int) - ((23 : Nat) : Int)) (-149)).toNat) (max (i + (m.log2 : Int) - ((23 : Nat) : Int)) (-149) - i).toNat ≤ 16777216 := kept_le (by omega)
    generalize hl : max (i + (m.log2 : Int) - ((23 : Nat) : Int)) (-149) = last at hk ⊢
    generalize Ieee.Toward.even.cut s (m <<< (i - last).toNat) (last - i).toNat = kept at hk ⊢
    have hlast : -149 ≤ last ∧ last ≤ 77 ∧ last ≤ max (e - 23) (-149) := by omega
    have hmin : min ((last - -149).toNat * 8388608 + kept) 2139095040 = (last - -149).toNat * 8388608 + kept := by omega
    rw [hmin]
    obtain ⟨m', i', e1, e2⟩ := read_word s (R := (last - -149).toNat * 8388608 + kept) (by omega)
    refine ⟨s, m', i', e1, ?_⟩
    have : ((last - -149).toNat * 8388608 + kept) / 8388608 ≤ (last - -149).toNat + 2 := by omega
    omega
theorem mul_fin {x y : Nat} {e d : Int} (hx : Fin32 x e) (hy : Fin32 y d) (h0 : -120 ≤ e + d + 1) (h1 : e + d + 1 ≤ 100) : (FloatKind.f32.format.mul x y).isSome = true ∧ Fin32 ((FloatKind.f32.format.mul x y).getD 0) (e + d + 2) := by
  obtain ⟨s, m, i, r1, b1⟩ := hx
  obtain ⟨t, n, j, r2, b2⟩ := hy
  have hm : FloatKind.f32.format.mul x y = some (FloatKind.f32.format.nearest (s ^^ t) (m * n) (i + j)) := by
    unfold Ieee.Format.mul
    rw [r1, r2]
    rfl
  rw [hm]
  refine ⟨rfl, ?_⟩
  have hl : (m * n).log2 ≤ m.log2 + n.log2 + 1 := log2_le (by
    calc m * n < 2 ^ (m.log2 + 1) * 2 ^ (n.log2 + 1) := Nat.mul_lt_mul'' (log2_lt m) (log2_lt n)
      _ = 2 ^ (m.log2 + n.log2 + 1 + 1) := by rw [← Nat.pow_add]; congr 1; omega)
  have := nearest_fin (s ^^ t) (m * n) (i + j) (e := e + d + 1) (by omega) h0 h1
  rwa [show e + d + 1 + 1 = e + d + 2 by omega] at this
theorem signed_abs (s : Bool) (m u : Nat) : (Ieee.signed s m u).natAbs = m * 2 ^ u := by
  unfold Ieee.signed
  rw [Nat.shiftLeft_eq]
  cases s
  · exact Int.natAbs_natCast _
  · exact (Int.natAbs_neg _).trans (Int.natAbs_natCast _)
theorem part_lt {m : Nat} {i base e : Int} (h : i + (m.log2 : Int) ≤ e) (hb : base ≤ i) : m * 2 ^ (i - base).toNat < 2 ^ ((e - base).toNat + 1) := by
  calc m * 2 ^ (i - base).toNat < 2 ^ (m.log2 + 1) * 2 ^ (i - base).toNat := Nat.mul_lt_mul_of_pos_right (log2_lt m) (Nat.two_pow_pos _)
    _ = 2 ^ (m.log2 + 1 + (i - base).toNat) := (Nat.pow_add ..).symm
    _ ≤ 2 ^ ((e - base).toNat + 1) := Nat.pow_le_pow_right (by omega) (by omega)
theorem add_fin {x y : Nat} {e : Int} (hx : Fin32 x e) (hy : Fin32 y e) (h0 : -120 ≤ e + 1) (h1 : e + 1 ≤ 100) : (FloatKind.f32.format.add x y).isSome = true ∧ Fin32 ((FloatKind.f32.format.add x y).getD 0) (e + 2) := by
  obtain ⟨s, m, i, r1, b1⟩ := hx
  obtain ⟨t, n, j, r2, b2⟩ := hy
  have hm : ∃ u, FloatKind.f32.format.add x y = some (FloatKind.f32.format.nearest u (Ieee.signed s m (i - min i j).toNat + Ieee.signed t n (j - min i j).toNat).natAbs (min i j)) := by
    unfold Ieee.Format.add
    rw [r1, r2]
    exact ⟨_, rfl⟩
  obtain ⟨u, hm⟩ := hm
  rw [hm]
  refine ⟨rfl, ?_⟩
  have hl : (Ieee.signed s m (i - min i j).toNat + Ieee.signed t n (j - min i j).toNat).natAbs.log2 ≤ (e - min i j).toNat + 1 := log2_le (by
    have h2 := Int.natAbs_add_le (Ieee.signed s m (i - min i j).toNat) (Ieee.signed t n (j - min i j).toNat)
    rw [signed_abs, signed_abs] at h2
    have h3 := part_lt b1 (base := min i j) (by omega)
    have h4 := part_lt b2 (base := min i j) (by omega)
    have h5 : 2 ^ ((e - min i j).toNat + 1 + 1) = 2 ^ ((e - min i j).toNat + 1) + 2 ^ ((e - min i j).toNat + 1) := by rw [Nat.pow_succ]; omega
    omega)
  have := nearest_fin u (Ieee.signed s m (i - min i j).toNat + Ieee.signed t n (j - min i j).toNat).natAbs (min i j) (e := e + 1) (by omega) h0 h1
  rwa [show e + 1 + 1 = e + 2 by omega] at this
theorem int_fin {n : Int} (h : -1000000 ≤ n ∧ n ≤ 1000000) : Fin32 (FloatKind.f32.nearest n) 21 := by
  have : n.natAbs.log2 ≤ 19 := log2_le (by omega)
  exact nearest_fin _ _ 0 (e := 20) (by omega) (by omega) (by omega)
theorem rtR_fin : ∀ k, k < 8 → Fin32 (rtR k) 1 := fun k hk => fin_of ((by decide +kernel : ∀ k, k < 8 → finB (rtR k) 1 = true) k hk)
theorem rtM_fin : ∀ k, k < 8 → Fin32 (rtM k) 1 := fun k hk => fin_of ((by decide +kernel : ∀ k, k < 8 → finB (rtM k) 1 = true) k hk)
theorem sm_fin {a : Nat → Int} (h : ∀ k, k < 8 → -1000000 ≤ a k ∧ a k ≤ 1000000) : ∀ k : Nat, k ≤ 8 → Fin32 (smR a k) (24 + 2 * (k : Int)) ∧ Fin32 (smM a k) (24 + 2 * (k : Int))
  | 0, _ => ⟨fin_of (show finB 0 (24 + 2 * ((0 : Nat) : Int)) = true by decide +kernel), fin_of (show finB 0 (24 + 2 * ((0 : Nat) : Int)) = true by decide +kernel)⟩
  | k + 1, hk => by
    obtain ⟨i1, i2⟩ := sm_fin h k (by omega)
    have p1 := mul_fin (int_fin (h k (by omega))) (rtR_fin k (by omega)) (by omega) (by omega)
    have p2 := mul_fin (int_fin (h k (by omega))) (rtM_fin k (by omega)) (by omega) (by omega)
    have a1 := (add_fin i1 (p1.2.mono (by omega)) (by omega) (by omega)).2
    have a2 := (add_fin i2 (p2.2.mono (by omega)) (by omega) (by omega)).2
    exact ⟨a1.mono (by omega), a2.mono (by omega)⟩
theorem obS_ok {a : Nat → Int} (h : ∀ k, k < 8 → -1000000 ≤ a k ∧ a k ≤ 1000000) : obls (obS a) = true := by
  unfold obls obS
  rw [List.all_flatMap]
  refine List.all_eq_true.2 fun k hk => ?_
  have hk := List.mem_range.1 hk
  obtain ⟨i1, i2⟩ := sm_fin h k (by omega)
  have p1 := mul_fin (int_fin (h k hk)) (rtR_fin k hk) (by omega) (by omega)
  have p2 := mul_fin (int_fin (h k hk)) (rtM_fin k hk) (by omega) (by omega)
  have a1 := add_fin i1 (p1.2.mono (by omega)) (by omega) (by omega)
  have a2 := add_fin i2 (p2.2.mono (by omega)) (by omega) (by omega)
  simp only [List.all_cons, List.all_nil, Bool.and_true, id]
  rw [show (pdR a k).isSome = true from p1.1, show (pdM a k).isSome = true from p2.1, show (FloatKind.f32.format.add (smR a k) ((pdR a k).getD 0)).isSome = true from a1.1, show (FloatKind.f32.format.add (smM a k) ((pdM a k).getD 0)).isSome = true from a2.1]
  rfl

end Go.Proofs.YtcadinbahmliiaaGreatDoor

/- A word for a callee that hands back a new list or none: read as one. Conditions: those of its two cases. -/
namespace Go.Proofs.YtcadinbahmliiaaGreatDoor
open Go.RowKit
set_option maxRecDepth 100000

theorem putC_nil : ∀ (is : List (Option Nat)) (bs : List AB), (∀ b ∈ bs, b.wr = false) → putC is bs = []
  | [], [], _ => rfl
  | [], _ :: _, _ => by simp [putC]
  | i :: is, [], _ => by cases i <;> simp [putC]
  | none :: is, b :: bs, h => by
    simp only [putC]
    exact putC_nil is bs fun x hx => h x (by simp [hx])
  | some i :: is, b :: bs, h => by
    have ih := putC_nil is bs fun x hx => h x (by simp [hx])
    have hb := h b (by simp)
    cases b with
    | row rw n s g t =>
      cases rw with
      | true => cases hb
      | false => simp only [putC]; exact ih
    | cells cs t => cases hb
    | gone => simp only [putC]; exact ih
theorem abP_rd : ∀ {mds : List Md} {sas : List SA} {ps : List (Nat → List Value)}, hasWr mds = false → ∀ b ∈ abP mds sas ps, b.wr = false
  | [], [], ps, _, b, hb => by simp [abP] at hb
  | .val :: ds, .v x :: r, ps, h, b, hb => abP_rd (mds := ds) (sas := r) (ps := ps) h b (by simpa only [abP] using hb)
  | .rd s t :: ds, .row m g :: r, ps, h, b, hb => by
    simp only [abP, List.mem_cons] at hb
    rcases hb with rfl | hb
    · rfl
    · exact abP_rd (mds := ds) (sas := r) (ps := ps) h b hb
  | .wr s t :: ds, _, ps, h, b, hb => by cases h
  | [], _ :: _, ps, _, b, hb => by simp [abP] at hb
  | .val :: ds, [], ps, _, b, hb => by simp [abP] at hb
  | .val :: ds, .row .. :: _, ps, _, b, hb => by simp [abP] at hb
  | .val :: ds, .own .. :: _, ps, _, b, hb => by simp [abP] at hb
  | .rd .. :: ds, [], ps, _, b, hb => by simp [abP] at hb
  | .rd .. :: ds, .v _ :: _, ps, _, b, hb => by simp [abP] at hb
  | .rd .. :: ds, .own .. :: _, ps, _, b, hb => by simp [abP] at hb

/-- The list, or none. -/
structure UR where
  b : Bool
  T : List Wh
  obl : List Bool
def specU (mds : List Md) (U : List SA → Option UR) : Spec := fun avs H base =>
  match saAll H mds avs with
  | some xs => match U (xs.map (·.sa)) with
    | some u => some { val := .tup [.sl base 9 0 0 u.T.length (some u.T.length), .v (.bool u.b)], rd := (ixC mds xs).filterMap id, put := [], new := [.row false u.T.length 9 (row9 (wfun u.T)) 75], obl := xs.flatMap (·.ob) ++ u.obl }
    | none => none
  | none => none

theorem specU_ok {P : Program} {f : FuncId} {mds : List Md} {FY FN : List SA → Option FR} {U : List SA → Option UR} (hw : hasWr mds = false) (hY : SpecOk P f (specR mds FY)) (hN : SpecOk P f (specR mds FN))
    (h : ∀ sas u, U sas = some u → obls u.obl = true → Nat.beq (abP mds sas []).length (abC mds sas).length = true ∧ ((u.b = true ∧ ∃ ob, FY sas = some { val := valY u.T, new := newY u.T, obl := ob } ∧ obls ob = true) ∨ (u.b = false ∧ u.T = [] ∧ ∃ ob, FN sas = some { val := valN, obl := ob } ∧ obls ob = true))) : SpecOk P f (specU mds U) := by
  refine ⟨hY.1, fun avs H base δ ν vals w hS ho hv hr hlt hfree hsep htab => ?_⟩
  unfold specU at hS
  split at hS
  case h_2 => cases hS
  rename_i xs hxs
  split at hS
  case h_2 => cases hS
  rename_i u hu
  simp only [Option.some.injEq] at hS
  subst hS
  have ho' : obls (xs.flatMap (·.ob)) = true ∧ obls u.obl = true := by simpa [obls, List.all_append] using ho
  obtain ⟨hl, hc⟩ := h _ _ hu ho'.2
  have hput : putC (ixC mds xs) (abP mds (xs.map (·.sa)) []) = [] := putC_nil _ _ fun b hb => abP_rd hw b hb
  rcases hc with ⟨hb, ob, e1, e2⟩ | ⟨hb, hT, ob, e1, e2⟩
  · have hS2 : specR mds FY avs H base = some { val := .tup [.sl base 9 0 0 u.T.length (some u.T.length), .v (.bool true)], rd := (ixC mds xs).filterMap id, put := [], new := newY u.T, obl := xs.flatMap (·.ob) ++ ob } := by
      unfold specR
      rw [hxs]
      simp only [e1]
      show cond _ _ _ = _
      rw [hw, hl, hput]
      rfl
    refine (hY.2 avs H base _ ν vals w hS2 (by simpa [obls, List.all_append] using And.intro ho'.1 e2) hv hr hlt hfree (fun i o j b b' hp => by cases hp) (htab.call fun x hx => by first | exact hx | cases hx)).mono ?_
    rintro e w' ⟨v, ν', rfl, d⟩
    refine ⟨v, ν', rfl, d.le, d.dom, by rw [hb]; exact d.val, fun i b hl => (by cases hl), fun j b hj => ?_, d.os, d.tape, d.output, d.size, d.block, d.fresh, d.apart⟩
    match j with
    | 0 =>
      simp only [List.getElem?_cons_zero, Option.some.injEq] at hj
      subst hj
      have := d.new 0 _ rfl
      rcases this with ⟨h1, _, _⟩ | ⟨k, l, t', fz, h1, h2, _, h4, h5⟩
      · cases h1
      · exact .inr ⟨k, l, t', fz, h1, h2, fun h => (by cases h), h4, h5⟩
    | j + 1 => simp at hj
  · have hS2 : specR mds FN avs H base = some { val := valN, rd := (ixC mds xs).filterMap id, put := [], new := [], obl := xs.flatMap (·.ob) ++ ob } := by
      unfold specR
      rw [hxs]
      simp only [e1]
      show cond _ _ _ = _
      rw [hw, hl, hput]
      rfl
    refine (hN.2 avs H base _ ν vals w hS2 (by simpa [obls, List.all_append] using And.intro ho'.1 e2) hv hr hlt (fun j hj => absurd hj (Nat.not_lt_zero _)) (fun i o j b b' hp => by cases hp) (htab.call fun x hx => by first | exact hx | cases hx)).mono ?_
    rintro e w' ⟨v, ν', rfl, d⟩
    have hnone : ν' base = none := by
      have h0 : ν base = none := hfree 0 (Nat.zero_lt_one)
      cases hq : ν' base with
      | none => rfl
      | some b =>
        have := d.dom base h0 (by rw [hq]; simp)
        simp at this
    have hv0 : VR ν' (.tup [.sl base 9 0 0 0 (some 0), .v (.bool false)]) v := by
      have := d.val
      simp only [VR] at this ⊢
      obtain ⟨l, e1, e2⟩ := this
      match l, e2 with
      | [a, b], ⟨ha, hbb, _⟩ => exact ⟨[a, b], e1, ⟨none, 0, ha, fun c' hc' => by simpa using hc', Nat.le_refl _, fun hc => absurd hc (Nat.lt_irrefl 0)⟩, hbb, trivial⟩
    refine ⟨v, ν', rfl, d.le, fun i h1 h2 => ?_, by rw [hb, hT]; exact hv0, fun i b hl => (by cases hl), fun j b hj => ?_, d.os, d.tape, d.output, d.size, d.block, fun j b hj hq => ?_, fun j j' b b' hne hj hj' => ?_⟩
    · have := d.dom i h1 h2
      simp at this
      omega
    · match j with
      | 0 =>
        simp only [List.getElem?_cons_zero, Option.some.injEq] at hj
        subst hj
        rw [hT]
        exact .inl ⟨rfl, rfl, hnone⟩
      | j + 1 => simp at hj
    · have hj : j < 1 := hj
      have : j = 0 := by omega
      subst this
      rw [Nat.add_zero, hnone] at hq
      cases hq
    · have hj : j < 1 := hj
      have hj' : j' < 1 := hj'
      omega

end Go.Proofs.YtcadinbahmliiaaGreatDoor

/- Changed designs as a list or none, read as one. Conditions: a list of wheels. -/
namespace Go.Proofs.YtcadinbahmliiaaGreatDoor
open Go.RowKit
set_option maxRecDepth 100000

end Go.Proofs.YtcadinbahmliiaaGreatDoor

/- The program's DesignTidy, DesignBack, DesignMirror, as a list or none, read as one. Conditions: a list of wheels. -/
namespace Go.Proofs.YtcadinbahmliiaaGreatDoor
open Go.RowKit
set_option maxRecDepth 100000

def UO0 (yes : List Wh → Bool) (tl : List Wh → List Wh) : List SA → Option UR
  | [.row m g] => some ⟨yes (listW (itW g) m), tl (listW (itW g) m), [allW m g, decide (m ≤ 2 ^ 38)]⟩
  | _ => none
theorem mpTi_self (L : List Wh) : mpTi L = L := by
  show L.map chTi = L
  rw [show chTi = id from rfl, List.map_id]
def yI (L : List Wh) : Bool := okD L && okT L
def tI (L : List Wh) : List Wh := bif yI L then tidyL L else []
theorem ok_UTi : SpecOk Tryz.prog 46 (specU md_ws (UO0 yI tI)) := by
  refine specU_ok rfl ok_deYTi ok_deNTi fun sas u hu ho => ?_
  unfold UO0 at hu
  split at hu
  · rename_i m g
    cases hu
    simp only [ob_cons] at ho
    obtain ⟨h1, h2, _⟩ := ho
    refine ⟨rfl, ?_⟩
    have hy : yesTi (listW (itW g) m) = yI (listW (itW g) m) := by
      unfold yesTi yI
      rw [show (listW (itW g) m).map chTi = listW (itW g) m from mpTi_self _]
    cases hv : yI (listW (itW g) m) with
    | true =>
      left
      refine ⟨rfl, [allW m g, decide (m ≤ 2 ^ 38), yesTi (listW (itW g) m)], ?_, ?_⟩
      · show FdeYTi yesTi tidyL mpTi [.row m g] = some { val := valY (tI (listW (itW g) m)), new := newY (tI (listW (itW g) m)), obl := [allW m g, decide (m ≤ 2 ^ 38), yesTi (listW (itW g) m)] }
        rw [tI, hv, cond_true]
        show some _ = some _
        rw [mpTi_self]
      · simp only [ob_cons, ob_nil, and_true]
        exact ⟨h1, h2, hy.trans hv⟩
    | false =>
      right
      refine ⟨rfl, by show tI (listW (itW g) m) = []; rw [tI, hv]; rfl, [allW m g, decide (m ≤ 2 ^ 38), !yesTi (listW (itW g) m)], rfl, ?_⟩
      simp only [ob_cons, ob_nil, and_true]
      exact ⟨h1, h2, by rw [hy, hv]; rfl⟩
  · cases hu
end Go.Proofs.YtcadinbahmliiaaGreatDoor

/- The reference's DesignTidy: its word. Conditions: a list of wheels. -/
namespace Go.Proofs.YtcadinbahmliiaaGreatDoor
open Go.RowKit
set_option maxRecDepth 100000

def gmZ1 (okd : List Wh → Bool) (ti : List Wh → List Wh) (okt : List Wh → Bool) : Gam := ext (ext g0 100 (specR md_ws (FdvO okd))) 101 (specR md_ws (FtidyO ti okt))
theorem gmZ1_ok : GamOk Tryz.prog (gmZ1 okD tidyL okT) := by
  unfold gmZ1
  rw [FtidyO_eq, FdvO_eq]
  exact ext_ok (ext_ok g0_ok ok_dv) ok_tidyS
theorem treeTiS (okd : List Wh → Bool) (ti : List Wh → List Wh) (okt : List Wh → Bool) (m : Nat) (f : Nat → Nat → Int) : execF Tryz.prog (gmZ1 okd ti okt) noLam 100 Tryz.f70 [.sl 0 9 0 0 m none] [.row false m 9 (row9 f) 75] (packK 1)
    = needs [Nat.ble ((0 : Nat) + m) m, allW m fun q ↦ row9 f ((0 : Nat) + q), decide (m ≤ (549755813888 : Nat))] (bif !okd (listW (itW fun q ↦ row9 f ((0 : Nat) + q)) m) then Res.out Ex.ret [AV.tup [AV.own (1 : Nat) (0 : Nat), AV.v (Value.bool false)]] [AB.row false m (9 : Nat) (row9 f) (75 : TypeId), AB.row true (0 : Nat) (9 : Nat) (fun _ ↦ []) (75 : Nat)] else needs [Nat.ble ((0 : Nat) + m) m, allW m fun q ↦ row9 f ((0 : Nat) + q), decide (m ≤ (274877906944 : Nat))] (Res.out Ex.ret [AV.tup [AV.own (1 : Nat) (List.length (ti (listW (itW fun q ↦ row9 f ((0 : Nat) + q)) m))), AV.v (Value.bool (okt (listW (itW fun q ↦ row9 f ((0 : Nat) + q)) m)))]] [AB.row false m (9 : Nat) (row9 f) (75 : TypeId), AB.row true (List.length (ti (listW (itW fun q ↦ row9 f ((0 : Nat) + q)) m))) (9 : Nat) (row9 (wfun (ti (listW (itW fun q ↦ row9 f ((0 : Nat) + q)) m)))) (75 : TypeId)])) := by kernel_rfl

/-- A list of wheels and whether it is one, of one list. -/
def FOw (yes : List Wh → Bool) (tl : List Wh → List Wh) : List SA → Option FR
  | [.row m g] => some { val := .tup [.own 0 (tl (listW (itW g) m)).length, .v (.bool (yes (listW (itW g) m)))], new := [.row true (tl (listW (itW g) m)).length 9 (row9 (wfun (tl (listW (itW g) m)))) 75], obl := [allW m g, decide (m ≤ 2 ^ 38)] }
  | _ => none
theorem tI_no {L : List Wh} (h : yI L = false) : tI L = [] := by rw [tI, h]; rfl
theorem ok_tiS : SpecOk Tryz.prog 70 (specR md_ws (FOw yI tI)) := by
  refine specR_hr gmZ1_ok Tryz.func70 rfl fun sas fr hF ho => ?_
  unfold FOw at hF
  split at hF
  · rename_i m g
    cases hF
    simp only [ob_cons] at ho
    obtain ⟨h1, h2, _⟩ := ho
    have hm := of_decide_eq_true h2
    refine ⟨[.row false m 9 (row9 (itW g)) 75], noLam, 100, .cons (ABeq.row fun j hj => allW_get h1 j hj) .nil, noLam' _, ?_⟩
    show GoodQ (execF Tryz.prog (gmZ1 okD tidyL okT) noLam 100 Tryz.f70 [.sl 0 9 0 0 m none] [.row false m 9 (row9 (itW g)) 75] (packK 1)) _
    rw [treeTiS]
    simp only [row0, listW_itW]
    refine good_needs (by simp only [ob_cons, ob_nil, and_true, decide_eq_true_eq, Nat.ble_eq, allW_row, true_and]; omega) (good_cond (fun q => ?_) fun q => ?_)
    · have q2 : okD (listW (itW g) m) = false := by simpa using q
      have hy : yI (listW (itW g) m) = false := by rw [yI, q2]; rfl
      refine good_out ⟨_, rfl, ?_, .cons (ABeq.row fun j hj => (allW_get h1 j hj).symm) ?_⟩
      · rw [tI_no hy, hy]
        rfl
      · show Hsim _ [.row true (tI (listW (itW g) m)).length 9 (row9 (wfun (tI (listW (itW g) m)))) 75]
        rw [tI_no hy]
        exact .cons (ABeq.row fun j hj => absurd hj (Nat.not_lt_zero _)) .nil
    · have q2 : okD (listW (itW g) m) = true := by simpa using q
      refine good_needs (by simp only [ob_cons, ob_nil, and_true, decide_eq_true_eq, Nat.ble_eq, allW_row, true_and]; omega) (good_out ?_)
      have hT : tI (listW (itW g) m) = tidyL (listW (itW g) m) := by
        rw [tI, yI, q2, Bool.true_and]
        cases ht : okT (listW (itW g) m) with
        | true => rfl
        | false => exact (tidyL_no ht).symm
      have hY : yI (listW (itW g) m) = okT (listW (itW g) m) := by rw [yI, q2, Bool.true_and]
      refine ⟨_, rfl, ?_, .cons (ABeq.row fun j hj => (allW_get h1 j hj).symm) ?_⟩
      · rw [hT, hY]
        rfl
      · show Hsim _ [.row true (tI (listW (itW g) m)).length 9 (row9 (wfun (tI (listW (itW g) m)))) 75]
        rw [hT]
        exact Hsim.refl _
  · cases hF

end Go.Proofs.YtcadinbahmliiaaGreatDoor

/- DesignCheck of both: trees. Conditions: a list of wheels. -/
namespace Go.Proofs.YtcadinbahmliiaaGreatDoor
open Go.RowKit
set_option maxRecDepth 100000

/-- A single point of a point. -/
def f_sg (R M : (Nat → Int) → Nat) (ok : (Nat → Int) → Bool) : List Value → Option (Value × List Bool)
  | [.agg ⟨[.int .i64 a0, .int .i64 a1, .int .i64 a2, .int .i64 a3, .int .i64 a4, .int .i64 a5, .int .i64 a6, .int .i64 a7]⟩] => some (.complex .f32 (R (v8 a0 a1 a2 a3 a4 a5 a6 a7)) (M (v8 a0 a1 a2 a3 a4 a5 a6 a7)), [ok (v8 a0 a1 a2 a3 a4 a5 a6 a7)])
  | _ => none
/-- A single point, and whether the point is one. -/
def FspO (R M : (Nat → Int) → Nat) (ok : (Nat → Int) → Bool) : List SA → Option FR
  | [.v (.agg ⟨[.int .i64 a0, .int .i64 a1, .int .i64 a2, .int .i64 a3, .int .i64 a4, .int .i64 a5, .int .i64 a6, .int .i64 a7]⟩)] => some { val := .tup [.v (.complex .f32 (R (v8 a0 a1 a2 a3 a4 a5 a6 a7)) (M (v8 a0 a1 a2 a3 a4 a5 a6 a7))), .v (.bool (ok (v8 a0 a1 a2 a3 a4 a5 a6 a7)))] }
  | _ => none
def gmCkI (dv : (Nat → Nat → Int) → Int → Nat → Nat → Int) (dk : (Nat → Nat → Int) → Int → Nat → Bool) (R M : (Nat → Int) → Nat) (ok : (Nat → Int) → Bool) : Gam := ext (ext g0 77 (specR md_wv (FDAo dv dk))) 78 (specV (f_sg R M ok))
noncomputable abbrev fCkI : Func := Tryz.f41
abbrev lvCkI : Ex → List Nat := lv3 [4, 6, 20] [6] [2, 3]
abbrev stCkI (q : Nat) (h : Int) (i : Nat) : List AV := [.sl 1 9 0 0 q (some q), .v (.int .u32 h), .v (i64 i)]
abbrev hpCk (m : Nat) (f : Nat → Nat → Int) (q : Nat) (g : Nat → Nat → Int) : List AB := [.row false m 9 (row9 f) 75, .row false q 9 (row9 g) 75]
theorem rndCkI (dv : (Nat → Nat → Int) → Int → Nat → Nat → Int) (dk : (Nat → Nat → Int) → Int → Nat → Bool) (R M : (Nat → Int) → Nat) (ok : (Nat → Int) → Bool) (m : Nat) (f : Nat → Nat → Int) (q : Nat) (g : Nat → Nat → Int) (h : Int) (i : Nat) : execC Tryz.prog (gmCkI dv dk R M ok) 100 noLam (loopAt 0 fCkI) (mkT 0 49 ((lvCkI .normal).zip (stCkI q h i))) (hpCk m f q g) (leafV 49 lvCkI 1)
    = bif decide ((↑i : Int) < (24 : Int)) then needs [Nat.ble ((0 : Nat) + q) q, allW q fun q ↦ row9 g ((0 : Nat) + q), decide (q ≤ (274877906944 : Nat))] (bif !dk (itW fun q ↦ row9 g ((0 : Nat) + q)) (↑i : Int) q then Res.out Ex.ret [AV.v (Value.int IntKind.u32 (0 : Int)), AV.v (Value.bool false)] [AB.row false m (9 : Nat) (row9 f) (75 : TypeId)] else needs [ok (w8 (dv (itW fun q ↦ row9 g ((0 : Nat) + q)) (↑i : Int) q))] (Res.out Ex.normal [AV.sl (1 : Nat) (9 : Nat) (0 : Nat) (0 : Nat) q (some q), AV.v (Value.int IntKind.u32 (IntKind.wrap IntKind.u32 (IntKind.wrap IntKind.u32 (↑(BitVec.toNat (BitVec.ofInt (32 : Nat) (IntKind.wrap IntKind.u32 (IntKind.wrap IntKind.u32 (↑(BitVec.toNat (BitVec.ofInt (32 : Nat) h ^^^ BitVec.ofInt (32 : Nat) (↑(R (w8 (dv (itW fun q ↦ row9 g ((0 : Nat) + q)) (↑i : Int) q))) : Int))) : Int) * (16777619 : Int))) ^^^ BitVec.ofInt (32 : Nat) (↑(M (w8 (dv (itW fun q ↦ row9 g ((0 : Nat) + q)) (↑i : Int) q))) : Int))) : Int) * (16777619 : Int)))), AV.v (Value.int IntKind.i64 (IntKind.wrap IntKind.i64 ((↑i : Int) + (1 : Int))))] [AB.row false m (9 : Nat) (row9 f) (75 : TypeId), AB.row false q (9 : Nat) (row9 g) (75 : TypeId)])) else Res.out (Ex.exit (0 : Nat)) [AV.v (Value.int IntKind.u32 h)] [AB.row false m (9 : Nat) (row9 f) (75 : TypeId)] := by kernel_rfl

def gmCkS (dv : (Nat → Nat → Int) → Int → Nat → Nat → Int) (dk : (Nat → Nat → Int) → Int → Nat → Bool) (R M : (Nat → Int) → Nat) (ok : (Nat → Int) → Bool) : Gam := ext (ext g0 71 (specR md_wv (FDAo dv dk))) 72 (specR [.val] (FspO R M ok))
noncomputable abbrev fCkS : Func := Tryz.f36
abbrev lvCkS : Ex → List Nat := lv3 [4, 6, 7] [6] [2, 3]
abbrev stCkS (q : Nat) (h : Int) (i : Nat) : List AV := [.own 1 q, .v (.int .u32 h), .v (i64 i)]
abbrev hpCkS (m : Nat) (f : Nat → Nat → Int) (q : Nat) (g : Nat → Nat → Int) : List AB := [.row false m 9 (row9 f) 75, .row true q 9 (row9 g) 75]
theorem rndCkS (dv : (Nat → Nat → Int) → Int → Nat → Nat → Int) (dk : (Nat → Nat → Int) → Int → Nat → Bool) (R M : (Nat → Int) → Nat) (ok : (Nat → Int) → Bool) (m : Nat) (f : Nat → Nat → Int) (q : Nat) (g : Nat → Nat → Int) (h : Int) (i : Nat) : execC Tryz.prog (gmCkS dv dk R M ok) 100 noLam (loopAt 0 fCkS) (mkT 0 53 ((lvCkS .normal).zip (stCkS q h i))) (hpCkS m f q g) (leafV 53 lvCkS 1)
    = bif decide ((↑i : Int) < (24 : Int)) then needs [Nat.ble q q, allW q (row9 g), decide (q ≤ (274877906944 : Nat))] (bif !dk (itW (row9 g)) (↑i : Int) q then Res.out Ex.ret [AV.v (Value.int IntKind.u32 (0 : Int)), AV.v (Value.bool false)] [AB.row false m (9 : Nat) (row9 f) (75 : TypeId)] else bif !ok (w8 (dv (itW (row9 g)) (↑i : Int) q)) then Res.out Ex.ret [AV.v (Value.int IntKind.u32 (0 : Int)), AV.v (Value.bool false)] [AB.row false m (9 : Nat) (row9 f) (75 : TypeId)] else Res.out Ex.normal [AV.own (1 : Nat) q, AV.v (Value.int IntKind.u32 (IntKind.wrap IntKind.u32 (IntKind.wrap IntKind.u32 (↑(BitVec.toNat (BitVec.ofInt (32 : Nat) (IntKind.wrap IntKind.u32 (IntKind.wrap IntKind.u32 (↑(BitVec.toNat (BitVec.ofInt (32 : Nat) h ^^^ BitVec.ofInt (32 : Nat) (↑(R (w8 (dv (itW (row9 g)) (↑i : Int) q))) : Int))) : Int) * (16777619 : Int))) ^^^ BitVec.ofInt (32 : Nat) (↑(M (w8 (dv (itW (row9 g)) (↑i : Int) q))) : Int))) : Int) * (16777619 : Int)))), AV.v (Value.int IntKind.i64 (IntKind.wrap IntKind.i64 ((↑i : Int) + (1 : Int))))] [AB.row false m (9 : Nat) (row9 f) (75 : TypeId), AB.row true q (9 : Nat) (row9 g) (75 : TypeId)]) else Res.out (Ex.exit (0 : Nat)) [AV.v (Value.int IntKind.u32 h)] [AB.row false m (9 : Nat) (row9 f) (75 : TypeId)] := by kernel_rfl

end Go.Proofs.YtcadinbahmliiaaGreatDoor

/- DesignCheck of both: single points, loops. Conditions: a list of wheels. -/
namespace Go.Proofs.YtcadinbahmliiaaGreatDoor
open Go.RowKit
set_option maxRecDepth 100000

abbrev hpC (m : Nat) (f : Nat → Nat → Int) : List AB := [.row false m 9 (row9 f) 75]
theorem good_needsV {bs : List Bool} {r : Res} {x : Value} (h : obls bs = true) (k : Good r x) : Good (needs bs r) x := by
  induction bs with
  | nil => exact k
  | cons b bs ih =>
    have : b = true ∧ obls bs = true := by simpa [obls] using h
    rw [this.1]
    exact ⟨(ih this.2).out⟩
def spO (a : Nat → Int) : Bool := cyOk (cyOf a)
def sgR (a : Nat → Int) : Nat := bif spO a then smR a 8 else 0
def sgM (a : Nat → Int) : Nat := bif spO a then smM a 8 else 0
theorem obS_of {a : Nat → Int} (h : spO a = true) : obls (obS a) = true := obS_ok fun k hk => by
  have h1 := smallF_iff.1 h k hk
  have e : (cyOf a).f k = a k := by
    match k, hk with
    | 0, _ => rfl
    | 1, _ => rfl
    | 2, _ => rfl
    | 3, _ => rfl
    | 4, _ => rfl
    | 5, _ => rfl
    | 6, _ => rfl
    | 7, _ => rfl
  omega
theorem ok_sg : SpecOk Tryz.prog 78 (specV (f_sg sgR sgM spO)) := by
  refine mkV (n := 100) g0_ok Tryz.func78 rfl fun vs v ob hF ho => ?_
  unfold f_sg at hF
  split at hF
  · rename_i a0 a1 a2 a3 a4 a5 a6 a7
    cases hF
    rw [ob_cons] at ho
    have ho := ho.1
    show Good (execF Tryz.prog g0 noLam 100 Tryz.f78 [.v (cyv (v8 a0 a1 a2 a3 a4 a5 a6 a7))] [] valK) _
    rw [exSg]
    refine good_needsV (obS_of ho) (one ?_)
    rw [sgR, sgM, ho]
    rfl
  · cases hF
theorem ok_sp : SpecOk Tryz.prog 72 (specR [.val] (FspO sgR sgM spO)) := by
  have hg : GamOk Tryz.prog (gmCv fun v => cyOk (cyOf v)) := by
    unfold gmCv
    rw [fOkc_eq]
    exact ext_ok g0_ok ok_cv
  refine specR_hr hg Tryz.func72 rfl fun sas fr hF ho => ?_
  unfold FspO at hF
  split at hF
  · rename_i a0 a1 a2 a3 a4 a5 a6 a7
    cases hF
    refine ⟨[], noLam, 100, .nil, noLam' _, ?_⟩
    show GoodQ (execF Tryz.prog (gmCv fun v => cyOk (cyOf v)) noLam 100 Tryz.f72 [.v (cyv (v8 a0 a1 a2 a3 a4 a5 a6 a7))] [] (packK 0)) _
    rw [exSp]
    refine good_cond (fun q => ?_) fun q => ?_
    · have q : spO (v8 a0 a1 a2 a3 a4 a5 a6 a7) = false := by
        have q' : (!spO (v8 a0 a1 a2 a3 a4 a5 a6 a7)) = true := q
        simpa using q'
      refine good_out ⟨_, rfl, ?_, .nil⟩
      rw [sgR, sgM, q]
      rfl
    · have q : spO (v8 a0 a1 a2 a3 a4 a5 a6 a7) = true := by
        have q' : (!spO (v8 a0 a1 a2 a3 a4 a5 a6 a7)) = false := q
        simpa using q'
      refine good_needs (obS_of q) (good_out ⟨_, rfl, ?_, .nil⟩)
      rw [sgR, sgM, q]
      rfl
  · cases hF

/-- One step of the sum: both numbers of a point. -/
def hsh (h : Int) (R M : Nat) : Int := IntKind.wrap IntKind.u32 (IntKind.wrap IntKind.u32 (((BitVec.ofInt 32 (IntKind.wrap IntKind.u32 (IntKind.wrap IntKind.u32 (((BitVec.ofInt 32 h ^^^ BitVec.ofInt 32 (R : Int)).toNat : Nat) : Int) * 16777619)) ^^^ BitVec.ofInt 32 (M : Int)).toNat : Nat) : Int) * 16777619)
/-- The sum after i turns. -/
def ckH (f : Nat → Nat → Int) (q : Nat) : Nat → Int
  | 0 => 2166136261
  | i + 1 => hsh (ckH f q i) (sgR (w8 (daV f i q))) (sgM (w8 (daV f i q)))
def badCk (f : Nat → Nat → Int) (q : Nat) (i : Nat) : Bool := !daOk f i q
theorem cyOf_w8 (a : Nat → Int) : cyOf (w8 a) = cyOf a := rfl
theorem da_sp {f : Nat → Nat → Int} {n : Int} {m : Nat} (h : daOk f n m = true) : spO (w8 (daV f n m)) = true := by
  have h2 := h
  unfold daOk at h2
  rw [Bool.and_eq_true] at h2
  rw [spO, cyOf_w8, daV, h, cond_true]
  exact h2.2
theorem gmCkI_ok : GamOk Tryz.prog (gmCkI daV daOk sgR sgM spO) := ext_ok (ext_ok g0_ok ok_DAI) ok_sg
theorem gmCkS_ok : GamOk Tryz.prog (gmCkS daV daOk sgR sgM spO) := by
  refine ext_ok (ext_ok g0_ok ?_) ok_sp
  rw [FDAo_eq]
  exact ok_DA
theorem sumCkI (m : Nat) (f : Nat → Nat → Int) (q : Nat) (g : Nat → Nat → Int) (hq : q ≤ 12) :
    SumOk Tryz.prog 1 (.block 0 (.loop (loopAt 0 fCkI))) (atS 49 (lvCkI .normal) 1 (stCkI q 2166136261 0) (hpCk m f q g) (fun K => cond (noneTo (badCk g q) 24) (K .normal (mkT 0 49 [(6, .v (.int .u32 (ckH g q 24)))]) (hpC m f)) (K .ret (mkT 0 49 [(2, .v (.int .u32 0)), (3, .v (.bool false))]) (hpC m f)))) := by
  refine for_at gmCkI_ok (n := 100) (m := 1) (lv := lvCkI) (fun i => stCkI q (ckH g q i) i) (fun _ => hpCk m f q g) (fun i => noneTo (badCk g q) i = true) 24 (fun _ => noLam) (lv3_ris rfl rfl rfl) (Nat.le_refl _) rfl fun K Q hk i hi h24 => ⟨noLam_ok _ _ _, ?_⟩
  rw [rndCkI]
  refine good_cond (fun c1 => ?_) fun c1 => ?_
  · have c1 := of_decide_eq_true c1
    have c1' : i < 24 := by omega
    simp only [row0, daOk_row, daV_row]
    rw [wr_in (x := (i : Int) + 1) (by omega)]
    refine good_needs (by simp only [ob_cons, ob_nil, and_true, decide_eq_true_eq, Nat.ble_eq, allW_row, true_and]; omega) (good_cond (fun p => ?_) fun p => ?_)
    · refine good_out ⟨_, Hsim.refl _, ?_⟩
      have hb : badCk g q i = true := p
      rw [noneTo_no c1' hb] at hk
      exact hk
    · have hb : badCk g q i = false := p
      have hd : daOk g i q = true := by simpa [badCk] using hb
      exact good_needs (by rw [ob_cons]; exact ⟨da_sp hd, rfl⟩) (good_out ⟨i + 1, ⟨rfl, c1', noneTo_succ hi hb⟩, rfl, Hsim.refl _⟩)
  · have c1 := of_decide_eq_false c1
    have : i = 24 := by omega
    subst this
    refine good_out ⟨_, Hsim.refl _, ?_⟩
    rw [if_pos rfl]
    rw [hi] at hk
    exact hk
theorem sumCkS (m : Nat) (f : Nat → Nat → Int) (q : Nat) (g : Nat → Nat → Int) (hq : q ≤ 12) :
    SumOk Tryz.prog 1 (.block 0 (.loop (loopAt 0 fCkS))) (atS 53 (lvCkS .normal) 1 (stCkS q 2166136261 0) (hpCkS m f q g) (fun K => cond (noneTo (badCk g q) 24) (K .normal (mkT 0 53 [(6, .v (.int .u32 (ckH g q 24)))]) (hpC m f)) (K .ret (mkT 0 53 [(2, .v (.int .u32 0)), (3, .v (.bool false))]) (hpC m f)))) := by
  refine for_at gmCkS_ok (n := 100) (m := 1) (lv := lvCkS) (fun i => stCkS q (ckH g q i) i) (fun _ => hpCkS m f q g) (fun i => noneTo (badCk g q) i = true) 24 (fun _ => noLam) (lv3_ris rfl rfl rfl) (Nat.le_refl _) rfl fun K Q hk i hi h24 => ⟨noLam_ok _ _ _, ?_⟩
  rw [rndCkS]
  refine good_cond (fun c1 => ?_) fun c1 => ?_
  · have c1 := of_decide_eq_true c1
    have c1' : i < 24 := by omega
    simp only [row0, daOk_row, daV_row]
    rw [wr_in (x := (i : Int) + 1) (by omega)]
    refine good_needs (by simp only [ob_cons, ob_nil, and_true, decide_eq_true_eq, Nat.ble_eq, allW_row, true_and]; omega) (good_cond (fun p => ?_) fun p => ?_)
    · refine good_out ⟨_, Hsim.refl _, ?_⟩
      have hb : badCk g q i = true := p
      rw [noneTo_no c1' hb] at hk
      exact hk
    · have hb : badCk g q i = false := p
      have hd : daOk g i q = true := by simpa [badCk] using hb
      rw [da_sp hd]
      exact good_false rfl (good_out ⟨i + 1, ⟨rfl, c1', noneTo_succ hi hb⟩, rfl, Hsim.refl _⟩)
  · have c1 := of_decide_eq_false c1
    have : i = 24 := by omega
    subst this
    refine good_out ⟨_, Hsim.refl _, ?_⟩
    rw [if_pos rfl]
    rw [hi] at hk
    exact hk

noncomputable abbrev lamCkI (m : Nat) (f : Nat → Nat → Int) (q : Nat) (g : Nat → Nat → Int) (c : Bool) (x : Int) : Nat → Option Sum := oneL 0 (atS 49 (lvCkI .normal) 1 (stCkI q 2166136261 0) (hpCk m f q g) (fun K => cond c (K .normal (mkT 0 49 [(6, .v (.int .u32 x))]) (hpC m f)) (K .ret (mkT 0 49 [(2, .v (.int .u32 0)), (3, .v (.bool false))]) (hpC m f))))
noncomputable abbrev lamCkS (m : Nat) (f : Nat → Nat → Int) (q : Nat) (g : Nat → Nat → Int) (c : Bool) (x : Int) : Nat → Option Sum := oneL 0 (atS 53 (lvCkS .normal) 1 (stCkS q 2166136261 0) (hpCkS m f q g) (fun K => cond c (K .normal (mkT 0 53 [(6, .v (.int .u32 x))]) (hpC m f)) (K .ret (mkT 0 53 [(2, .v (.int .u32 0)), (3, .v (.bool false))]) (hpC m f))))
def gmTdI (yI : List Wh → Bool) (tI : List Wh → List Wh) : Gam := ext g0 46 (specU md_ws (UO0 yI tI))
def gmTdS (yI : List Wh → Bool) (tI : List Wh → List Wh) : Gam := ext g0 70 (specR md_ws (FOw yI tI))
theorem treeCkI (yI : List Wh → Bool) (tI : List Wh → List Wh) (m : Nat) (f : Nat → Nat → Int) (q : Nat) (g : Nat → Nat → Int) (c : Bool) (x : Int) : execF Tryz.prog (gmTdI yI tI) (lamCkI m f q g c x) 100 fCkI [.sl 0 9 0 0 m none] (hpC m f) (packK 1)
    = needs [Nat.ble ((0 : Nat) + m) m, allW m fun q ↦ row9 f ((0 : Nat) + q), decide (m ≤ (274877906944 : Nat))] (bif !yI (listW (itW fun q ↦ row9 f ((0 : Nat) + q)) m) then Res.out Ex.ret [AV.tup [AV.v (Value.int IntKind.u32 (0 : Int)), AV.v (Value.bool false)]] [AB.row false m (9 : Nat) (row9 f) (75 : TypeId)] else needs [chk ([AV.sl (1 : Nat) (9 : Nat) (0 : Nat) (0 : Nat) (List.length (tI (listW (itW fun q ↦ row9 f ((0 : Nat) + q)) m))) (some (List.length (tI (listW (itW fun q ↦ row9 f ((0 : Nat) + q)) m)))), AV.v (Value.int IntKind.u32 (2166136261 : Int)), AV.v (Value.int IntKind.i64 (0 : Int))] = stCkI q (2166136261 : Int) (0 : Nat) ∧ Hsim [AB.row false m (9 : Nat) (row9 f) (75 : TypeId), AB.row false (List.length (tI (listW (itW fun q ↦ row9 f ((0 : Nat) + q)) m))) (9 : Nat) (row9 (wfun (tI (listW (itW fun q ↦ row9 f ((0 : Nat) + q)) m)))) (75 : TypeId)] (hpCk m f q g))] (bif c then Res.out Ex.ret [AV.tup [AV.v (Value.int IntKind.u32 x), AV.v (Value.bool true)]] [AB.row false m (9 : Nat) (row9 f) (75 : TypeId)] else Res.out Ex.ret [AV.tup [AV.v (Value.int IntKind.u32 (0 : Int)), AV.v (Value.bool false)]] [AB.row false m (9 : Nat) (row9 f) (75 : TypeId)])) := by kernel_rfl

theorem treeCkS (yI : List Wh → Bool) (tI : List Wh → List Wh) (m : Nat) (f : Nat → Nat → Int) (q : Nat) (g : Nat → Nat → Int) (c : Bool) (x : Int) : execF Tryz.prog (gmTdS yI tI) (lamCkS m f q g c x) 100 fCkS [.sl 0 9 0 0 m none] (hpC m f) (packK 1)
    = needs [Nat.ble ((0 : Nat) + m) m, allW m fun q ↦ row9 f ((0 : Nat) + q), decide (m ≤ (274877906944 : Nat))] (bif !yI (listW (itW fun q ↦ row9 f ((0 : Nat) + q)) m) then Res.out Ex.ret [AV.tup [AV.v (Value.int IntKind.u32 (0 : Int)), AV.v (Value.bool false)]] [AB.row false m (9 : Nat) (row9 f) (75 : TypeId)] else needs [chk ([AV.own (1 : Nat) (List.length (tI (listW (itW fun q ↦ row9 f ((0 : Nat) + q)) m))), AV.v (Value.int IntKind.u32 (2166136261 : Int)), AV.v (Value.int IntKind.i64 (0 : Int))] = stCkS q (2166136261 : Int) (0 : Nat) ∧ Hsim [AB.row false m (9 : Nat) (row9 f) (75 : TypeId), AB.row true (List.length (tI (listW (itW fun q ↦ row9 f ((0 : Nat) + q)) m))) (9 : Nat) (row9 (wfun (tI (listW (itW fun q ↦ row9 f ((0 : Nat) + q)) m)))) (75 : TypeId)] (hpCkS m f q g))] (bif c then Res.out Ex.ret [AV.tup [AV.v (Value.int IntKind.u32 x), AV.v (Value.bool true)]] [AB.row false m (9 : Nat) (row9 f) (75 : TypeId)] else Res.out Ex.ret [AV.tup [AV.v (Value.int IntKind.u32 (0 : Int)), AV.v (Value.bool false)]] [AB.row false m (9 : Nat) (row9 f) (75 : TypeId)])) := by kernel_rfl

end Go.Proofs.YtcadinbahmliiaaGreatDoor

/- DesignCheck of both: their word. Conditions: a list of wheels. -/
namespace Go.Proofs.YtcadinbahmliiaaGreatDoor
open Go.RowKit
set_option maxRecDepth 100000

/-- A sum is there: the list is tidied, and has a point at each turn. -/
def ckY (L : List Wh) : Bool := yI L && noneTo (badCk (wfun (tI L)) (tI L).length) 24
def ckV (L : List Wh) : Int := bif ckY L then ckH (wfun (tI L)) (tI L).length 24 else 0
def FckO (v : List Wh → Int) (y : List Wh → Bool) : List SA → Option FR
  | [.row m g] => some { val := .tup [.v (.int .u32 (v (listW (itW g) m))), .v (.bool (y (listW (itW g) m)))], obl := [allW m g, decide (m ≤ 2 ^ 38)] }
  | _ => none
theorem tI_len12 (L : List Wh) : (tI L).length ≤ 12 := by
  cases h : yI L with
  | true =>
    rw [tI, h, cond_true]
    rw [yI, Bool.and_eq_true] at h
    exact tidyL_len h.2
  | false => rw [tI_no h]; exact Nat.zero_le _
theorem ok_ckI : SpecOk Tryz.prog 41 (specR md_ws (FckO ckV ckY)) := by
  refine specR_hr (Γ := gmTdI yI tI) (ext_ok g0_ok ok_UTi) Tryz.func41 rfl fun sas fr hF ho => ?_
  unfold FckO at hF
  split at hF
  · rename_i m g
    cases hF
    simp only [ob_cons] at ho
    obtain ⟨h1, h2, _⟩ := ho
    have hm := of_decide_eq_true h2
    have fin : ∀ v b, ckV (listW (itW g) m) = v → ckY (listW (itW g) m) = b → GoodQ (.out .ret [.tup [.v (.int .u32 v), .v (.bool b)]] (hpC m (itW g))) (GivR (abP md_ws [.row m g] []) { val := .tup [.v (.int .u32 (ckV (listW (itW g) m))), .v (.bool (ckY (listW (itW g) m)))], obl := [allW m g, decide (m ≤ 2 ^ 38)] }) := fun v b hv hb =>
      good_out ⟨_, rfl, by rw [hv, hb], .cons (ABeq.row fun j hj => (allW_get h1 j hj).symm) .nil⟩
    have no : ckY (listW (itW g) m) = false → GoodQ (.out .ret [.tup [.v (.int .u32 0), .v (.bool false)]] (hpC m (itW g))) (GivR (abP md_ws [.row m g] []) { val := .tup [.v (.int .u32 (ckV (listW (itW g) m))), .v (.bool (ckY (listW (itW g) m)))], obl := [allW m g, decide (m ≤ 2 ^ 38)] }) := fun h => fin 0 false (by rw [ckV, h]; rfl) h
    refine ⟨hpC m (itW g), lamCkI m (itW g) (tI (listW (itW g) m)).length (wfun (tI (listW (itW g) m))) (noneTo (badCk (wfun (tI (listW (itW g) m))) (tI (listW (itW g) m)).length) 24) (ckH (wfun (tI (listW (itW g) m))) (tI (listW (itW g) m)).length 24), 100, .cons (ABeq.row fun j hj => allW_get h1 j hj) .nil, lam1 (by kernel_rfl) (sumCkI m (itW g) _ _ (tI_len12 _)), ?_⟩
    show GoodQ (execF Tryz.prog (gmTdI yI tI) (lamCkI m (itW g) (tI (listW (itW g) m)).length (wfun (tI (listW (itW g) m))) (noneTo (badCk (wfun (tI (listW (itW g) m))) (tI (listW (itW g) m)).length) 24) (ckH (wfun (tI (listW (itW g) m))) (tI (listW (itW g) m)).length 24)) 100 fCkI [.sl 0 9 0 0 m none] (hpC m (itW g)) (packK 1)) _
    rw [treeCkI]
    simp only [row0, listW_itW]
    generalize listW (itW g) m = L at fin no ⊢
    refine good_needs (by simp only [ob_cons, ob_nil, and_true, decide_eq_true_eq, Nat.ble_eq, allW_row, true_and]; omega) (good_cond (fun q => ?_) fun q => good_needs (by rw [ob_cons]; exact ⟨chk_of ⟨rfl, Hsim.refl _⟩, rfl⟩) (good_cond (fun q2 => ?_) fun q2 => ?_))
    · rw [Bool.not_eq_true'] at q
      exact no (by rw [ckY, q]; rfl)
    · rw [Bool.not_eq_false'] at q
      have h : ckY L = true := by rw [ckY, q, q2]; rfl
      exact fin _ true (by rw [ckV, h]; rfl) h
    · rw [Bool.not_eq_false'] at q
      exact no (by rw [ckY, q, q2]; rfl)
  · cases hF
theorem ok_ckS : SpecOk Tryz.prog 36 (specR md_ws (FckO ckV ckY)) := by
  refine specR_hr (Γ := gmTdS yI tI) (ext_ok g0_ok ok_tiS) Tryz.func36 rfl fun sas fr hF ho => ?_
  unfold FckO at hF
  split at hF
  · rename_i m g
    cases hF
    simp only [ob_cons] at ho
    obtain ⟨h1, h2, _⟩ := ho
    have hm := of_decide_eq_true h2
    have fin : ∀ v b, ckV (listW (itW g) m) = v → ckY (listW (itW g) m) = b → GoodQ (.out .ret [.tup [.v (.int .u32 v), .v (.bool b)]] (hpC m (itW g))) (GivR (abP md_ws [.row m g] []) { val := .tup [.v (.int .u32 (ckV (listW (itW g) m))), .v (.bool (ckY (listW (itW g) m)))], obl := [allW m g, decide (m ≤ 2 ^ 38)] }) := fun v b hv hb =>
      good_out ⟨_, rfl, by rw [hv, hb], .cons (ABeq.row fun j hj => (allW_get h1 j hj).symm) .nil⟩
    have no : ckY (listW (itW g) m) = false → GoodQ (.out .ret [.tup [.v (.int .u32 0), .v (.bool false)]] (hpC m (itW g))) (GivR (abP md_ws [.row m g] []) { val := .tup [.v (.int .u32 (ckV (listW (itW g) m))), .v (.bool (ckY (listW (itW g) m)))], obl := [allW m g, decide (m ≤ 2 ^ 38)] }) := fun h => fin 0 false (by rw [ckV, h]; rfl) h
    refine ⟨hpC m (itW g), lamCkS m (itW g) (tI (listW (itW g) m)).length (wfun (tI (listW (itW g) m))) (noneTo (badCk (wfun (tI (listW (itW g) m))) (tI (listW (itW g) m)).length) 24) (ckH (wfun (tI (listW (itW g) m))) (tI (listW (itW g) m)).length 24), 100, .cons (ABeq.row fun j hj => allW_get h1 j hj) .nil, lam1 (by kernel_rfl) (sumCkS m (itW g) _ _ (tI_len12 _)), ?_⟩
    show GoodQ (execF Tryz.prog (gmTdS yI tI) (lamCkS m (itW g) (tI (listW (itW g) m)).length (wfun (tI (listW (itW g) m))) (noneTo (badCk (wfun (tI (listW (itW g) m))) (tI (listW (itW g) m)).length) 24) (ckH (wfun (tI (listW (itW g) m))) (tI (listW (itW g) m)).length 24)) 100 fCkS [.sl 0 9 0 0 m none] (hpC m (itW g)) (packK 1)) _
    rw [treeCkS]
    simp only [row0, listW_itW]
    generalize listW (itW g) m = L at fin no ⊢
    refine good_needs (by simp only [ob_cons, ob_nil, and_true, decide_eq_true_eq, Nat.ble_eq, allW_row, true_and]; omega) (good_cond (fun q => ?_) fun q => good_needs (by rw [ob_cons]; exact ⟨chk_of ⟨rfl, Hsim.refl _⟩, rfl⟩) (good_cond (fun q2 => ?_) fun q2 => ?_))
    · rw [Bool.not_eq_true'] at q
      exact no (by rw [ckY, q]; rfl)
    · rw [Bool.not_eq_false'] at q
      have h : ckY L = true := by rw [ckY, q, q2]; rfl
      exact fin _ true (by rw [ckV, h]; rfl) h
    · rw [Bool.not_eq_false'] at q
      exact no (by rw [ckY, q, q2]; rfl)
  · cases hF

end Go.Proofs.YtcadinbahmliiaaGreatDoor

/- DesignText and EntryMake of both sides: trees. Conditions: a list of wheels. -/
namespace Go.Proofs.YtcadinbahmliiaaGreatDoor
open Go.RowKit
set_option maxRecDepth 100000

def gmDtI (yI : List Wh → Bool) (tI : List Wh → List Wh) (tx : List Wh → ByteArray) (okd : List Wh → Bool) : Gam := ext (gmTdI yI tI) 47 (specR md_ws (FtxO tx okd))
def gmDtS (yI : List Wh → Bool) (tI : List Wh → List Wh) (tx : List Wh → ByteArray) (okd : List Wh → Bool) : Gam := ext (gmTdS yI tI) 79 (specR md_ws (FtxO tx okd))
theorem treeDtI (yI : List Wh → Bool) (tI : List Wh → List Wh) (tx : List Wh → ByteArray) (okd : List Wh → Bool) (m : Nat) (f : Nat → Nat → Int) : execF Tryz.prog (gmDtI yI tI tx okd) noLam 100 Tryz.f40 [.sl 0 9 0 0 m none] (hpC m f) (packK 1)
    = needs [Nat.ble ((0 : Nat) + m) m, allW m fun q ↦ row9 f ((0 : Nat) + q), decide (m ≤ (274877906944 : Nat))] (bif !yI (listW (itW fun q ↦ row9 f ((0 : Nat) + q)) m) then Res.out Ex.ret [AV.tup [AV.v (Value.string (ByteArray.mk (Array.mk []))), AV.v (Value.bool false)]] [AB.row false m (9 : Nat) (row9 f) (75 : TypeId)] else needs [Nat.ble ((0 : Nat) + List.length (tI (listW (itW fun q ↦ row9 f ((0 : Nat) + q)) m))) (List.length (tI (listW (itW fun q ↦ row9 f ((0 : Nat) + q)) m))), allW (List.length (tI (listW (itW fun q ↦ row9 f ((0 : Nat) + q)) m))) fun q ↦ row9 (wfun (tI (listW (itW fun q ↦ row9 f ((0 : Nat) + q)) m))) ((0 : Nat) + q), okd (listW (itW fun q ↦ row9 (wfun (tI (listW (itW fun q ↦ row9 f ((0 : Nat) + q)) m))) ((0 : Nat) + q)) (List.length (tI (listW (itW fun q ↦ row9 f ((0 : Nat) + q)) m))))] (Res.out Ex.ret [AV.tup [AV.v (Value.string (tx (listW (itW fun q ↦ row9 (wfun (tI (listW (itW fun q ↦ row9 f ((0 : Nat) + q)) m))) ((0 : Nat) + q)) (List.length (tI (listW (itW fun q ↦ row9 f ((0 : Nat) + q)) m)))))), AV.v (Value.bool true)]] [AB.row false m (9 : Nat) (row9 f) (75 : TypeId)])) := by kernel_rfl

theorem treeDtS (yI : List Wh → Bool) (tI : List Wh → List Wh) (tx : List Wh → ByteArray) (okd : List Wh → Bool) (m : Nat) (f : Nat → Nat → Int) : execF Tryz.prog (gmDtS yI tI tx okd) noLam 100 Tryz.f42 [.sl 0 9 0 0 m none] (hpC m f) (packK 1)
    = needs [Nat.ble ((0 : Nat) + m) m, allW m fun q ↦ row9 f ((0 : Nat) + q), decide (m ≤ (274877906944 : Nat))] (bif !yI (listW (itW fun q ↦ row9 f ((0 : Nat) + q)) m) then Res.out Ex.ret [AV.tup [AV.v (Value.string (ByteArray.mk (Array.mk []))), AV.v (Value.bool false)]] [AB.row false m (9 : Nat) (row9 f) (75 : TypeId)] else needs [Nat.ble (List.length (tI (listW (itW fun q ↦ row9 f ((0 : Nat) + q)) m))) (List.length (tI (listW (itW fun q ↦ row9 f ((0 : Nat) + q)) m))), allW (List.length (tI (listW (itW fun q ↦ row9 f ((0 : Nat) + q)) m))) (row9 (wfun (tI (listW (itW fun q ↦ row9 f ((0 : Nat) + q)) m)))), okd (listW (itW (row9 (wfun (tI (listW (itW fun q ↦ row9 f ((0 : Nat) + q)) m))))) (List.length (tI (listW (itW fun q ↦ row9 f ((0 : Nat) + q)) m))))] (Res.out Ex.ret [AV.tup [AV.v (Value.string (tx (listW (itW (row9 (wfun (tI (listW (itW fun q ↦ row9 f ((0 : Nat) + q)) m))))) (List.length (tI (listW (itW fun q ↦ row9 f ((0 : Nat) + q)) m)))))), AV.v (Value.bool true)]] [AB.row false m (9 : Nat) (row9 f) (75 : TypeId)])) := by kernel_rfl

def FdtO (tv : List Wh → ByteArray) (yt : List Wh → Bool) : List SA → Option FR
  | [.row m g] => some { val := .tup [.v (.string (tv (listW (itW g) m))), .v (.bool (yt (listW (itW g) m)))], obl := [allW m g, decide (m ≤ 2 ^ 38)] }
  | _ => none
def gmEmI (tv : List Wh → ByteArray) (yt : List Wh → Bool) (cv : List Wh → Int) (cy : List Wh → Bool) : Gam := ext (ext g0 40 (specR md_ws (FdtO tv yt))) 41 (specR md_ws (FckO cv cy))
def gmEmS (tv : List Wh → ByteArray) (yt : List Wh → Bool) (cv : List Wh → Int) (cy : List Wh → Bool) : Gam := ext (ext g0 42 (specR md_ws (FdtO tv yt))) 36 (specR md_ws (FckO cv cy))
theorem treeEmI (tv : List Wh → ByteArray) (yt : List Wh → Bool) (cv : List Wh → Int) (cy : List Wh → Bool) (m : Nat) (f : Nat → Nat → Int) : execF Tryz.prog (gmEmI tv yt cv cy) noLam 100 Tryz.f15 [.sl 0 9 0 0 m none] (hpC m f) (packK 1)
    = needs [Nat.ble ((0 : Nat) + m) m, allW m fun q ↦ row9 f ((0 : Nat) + q), decide (m ≤ (274877906944 : Nat)), Nat.ble ((0 : Nat) + m) m, allW m fun q ↦ row9 f ((0 : Nat) + q), decide (m ≤ (274877906944 : Nat))] (bif !yt (listW (itW fun q ↦ row9 f ((0 : Nat) + q)) m) then Res.out Ex.ret [AV.tup [AV.agg [AV.v (Value.string (ByteArray.mk (Array.mk []))), AV.v (Value.int IntKind.u32 (0 : Int))], AV.v (Value.bool false)]] [AB.row false m (9 : Nat) (row9 f) (75 : TypeId)] else bif !cy (listW (itW fun q ↦ row9 f ((0 : Nat) + q)) m) then Res.out Ex.ret [AV.tup [AV.agg [AV.v (Value.string (ByteArray.mk (Array.mk []))), AV.v (Value.int IntKind.u32 (0 : Int))], AV.v (Value.bool false)]] [AB.row false m (9 : Nat) (row9 f) (75 : TypeId)] else bif decide ((↑(ByteArray.size (tv (listW (itW fun q ↦ row9 f ((0 : Nat) + q)) m))) : Int) > (1500 : Int)) then Res.out Ex.ret [AV.tup [AV.agg [AV.v (Value.string (ByteArray.mk (Array.mk []))), AV.v (Value.int IntKind.u32 (0 : Int))], AV.v (Value.bool false)]] [AB.row false m (9 : Nat) (row9 f) (75 : TypeId)] else Res.out Ex.ret [AV.tup [AV.agg [AV.v (Value.string (tv (listW (itW fun q ↦ row9 f ((0 : Nat) + q)) m))), AV.v (Value.int IntKind.u32 (cv (listW (itW fun q ↦ row9 f ((0 : Nat) + q)) m)))], AV.v (Value.bool true)]] [AB.row false m (9 : Nat) (row9 f) (75 : TypeId)]) := by kernel_rfl

theorem treeEmS (tv : List Wh → ByteArray) (yt : List Wh → Bool) (cv : List Wh → Int) (cy : List Wh → Bool) (m : Nat) (f : Nat → Nat → Int) : execF Tryz.prog (gmEmS tv yt cv cy) noLam 100 Tryz.f16 [.sl 0 9 0 0 m none] (hpC m f) (packK 1)
    = needs [Nat.ble ((0 : Nat) + m) m, allW m fun q ↦ row9 f ((0 : Nat) + q), decide (m ≤ (274877906944 : Nat)), Nat.ble ((0 : Nat) + m) m, allW m fun q ↦ row9 f ((0 : Nat) + q), decide (m ≤ (274877906944 : Nat))] (bif !yt (listW (itW fun q ↦ row9 f ((0 : Nat) + q)) m) then Res.out Ex.ret [AV.tup [AV.agg [AV.v (Value.string (ByteArray.mk (Array.mk []))), AV.v (Value.int IntKind.u32 (0 : Int))], AV.v (Value.bool false)]] [AB.row false m (9 : Nat) (row9 f) (75 : TypeId)] else bif !cy (listW (itW fun q ↦ row9 f ((0 : Nat) + q)) m) then Res.out Ex.ret [AV.tup [AV.agg [AV.v (Value.string (ByteArray.mk (Array.mk []))), AV.v (Value.int IntKind.u32 (0 : Int))], AV.v (Value.bool false)]] [AB.row false m (9 : Nat) (row9 f) (75 : TypeId)] else bif decide ((↑(ByteArray.size (tv (listW (itW fun q ↦ row9 f ((0 : Nat) + q)) m))) : Int) > (1500 : Int)) then Res.out Ex.ret [AV.tup [AV.agg [AV.v (Value.string (ByteArray.mk (Array.mk []))), AV.v (Value.int IntKind.u32 (0 : Int))], AV.v (Value.bool false)]] [AB.row false m (9 : Nat) (row9 f) (75 : TypeId)] else Res.out Ex.ret [AV.tup [AV.agg [AV.v (Value.string (tv (listW (itW fun q ↦ row9 f ((0 : Nat) + q)) m))), AV.v (Value.int IntKind.u32 (cv (listW (itW fun q ↦ row9 f ((0 : Nat) + q)) m)))], AV.v (Value.bool true)]] [AB.row false m (9 : Nat) (row9 f) (75 : TypeId)]) := by kernel_rfl

end Go.Proofs.YtcadinbahmliiaaGreatDoor

/- Plain algebra: how great products, mirrored points and parts can be. No program, no conditions. -/
namespace Go.Proofs.YtcadinbahmliiaaGreatDoor
open Go.RowKit

/-- All eight lie between -B and B. -/
def bd8 (B : Int) (f : Nat → Int) : Prop := ∀ k, k < 8 → -B ≤ f k ∧ f k ≤ B
end Go.Proofs.YtcadinbahmliiaaGreatDoor

/- Plain lists of wheels: sums over the wheels that are linear in the radii do not change when the list is tidied; a tidy list is known by its sums. No program, no conditions. -/
namespace Go.Proofs.YtcadinbahmliiaaGreatDoor
open Go.RowKit

/-- A sum over the wheels. -/
def linS (φ : Int → (Nat → Int) → Int) : List Wh → Int
  | [] => 0
  | w :: l => φ w.s w.r.f + linS φ l
def Lin (φ : Int → (Nat → Int) → Int) : Prop := ∀ s f g, φ s (fun k => f k + g k) = φ s f + φ s g
theorem Lin.zero {φ : Int → (Nat → Int) → Int} (h : Lin φ) (s : Int) : φ s (fun _ => 0) = 0 := by
  have := h s (fun _ => 0) (fun _ => 0)
  have e : (fun k : Nat => (fun _ : Nat => (0 : Int)) k + (fun _ : Nat => (0 : Int)) k) = fun _ => 0 := by
    funext k
    rfl
  rw [e] at this
  omega
/-- All radii are small. -/
def bdW (B : Int) (L : List Wh) : Prop := ∀ w ∈ L, bd8 B w.r.f
theorem Cy.f_out (a : Cy) {k : Nat} (h : 8 ≤ k) : a.f k = 0 := by
  unfold Cy.f
  match k, h with
  | k + 8, _ => rfl
theorem cyAdd_f {a b : Cy} (ha : bd8 2000000000000 a.f) (hb : bd8 2000000000000 b.f) : (cyAdd a b).f = fun k => a.f k + b.f k := by
  funext k
  by_cases hk : k < 8
  · have e : (cyAdd a b).f k = W (a.f k + b.f k) := by
      rcases (by omega : k = 0 ∨ k = 1 ∨ k = 2 ∨ k = 3 ∨ k = 4 ∨ k = 5 ∨ k = 6 ∨ k = 7) with rfl | rfl | rfl | rfl | rfl | rfl | rfl | rfl <;> rfl
    have h1 := ha k hk
    have h2 := hb k hk
    rw [e, w64_in (by omega) (by omega)]
  · rw [Cy.f_out _ (by omega), Cy.f_out _ (by omega), Cy.f_out _ (by omega)]
    rfl
theorem cyOk_bd {a : Cy} (h : cyOk a = true) : bd8 1000000 a.f := fun k hk => by
  have := smallF_iff.1 h k hk
  omega
theorem bd8.mono {A B : Int} {f : Nat → Int} (h : bd8 A f) (hAB : A ≤ B) : bd8 B f := fun k hk => by
  have := h k hk
  omega
theorem bdW.mono {A B : Int} {L : List Wh} (h : bdW A L) (hAB : A ≤ B) : bdW B L := fun w hw => (h w hw).mono hAB

theorem linS_insS {φ : Int → (Nat → Int) → Int} (hφ : Lin φ) {w : Wh} (hw : bd8 2000000000000 w.r.f) : ∀ {l : List Wh}, bdW 2000000000000 l → linS φ (insS l w) = linS φ l + φ w.s w.r.f
  | [], _ => by
    show φ w.s w.r.f + 0 = 0 + φ w.s w.r.f
    omega
  | x :: l, h => by
    unfold insS
    split
    · show φ x.s x.r.f + linS φ (insS l w) = φ x.s x.r.f + linS φ l + φ w.s w.r.f
      rw [linS_insS hφ hw fun y hy => h y (by simp [hy])]
      omega
    · split
      · rename_i e
        show φ x.s (cyAdd x.r w.r).f + linS φ l = φ x.s x.r.f + linS φ l + φ w.s w.r.f
        rw [cyAdd_f (h x (by simp)) hw, hφ, e]
        omega
      · show φ w.s w.r.f + (φ x.s x.r.f + linS φ l) = φ x.s x.r.f + linS φ l + φ w.s w.r.f
        omega
def okW (L : List Wh) : Prop := ∀ w ∈ L, cyOk w.r = true
theorem okW.bd {L : List Wh} (h : okW L) : bdW 1000000 L := fun w hw => cyOk_bd (h w hw)
theorem insS_ok {l : List Wh} {w : Wh} (hr : rising l) (h : okW l) (ho : cyOk (sumR l w) = true) : okW (insS l w) := fun x hx => by
  have := (insS_perm hr).subset hx
  rcases List.mem_cons.1 this with rfl | hx
  · exact ho
  · exact h x (List.mem_filter.1 hx).1
theorem linS_run {φ : Int → (Nat → Int) → Int} (hφ : Lin φ) : ∀ {ws acc B : List Wh}, bdW 2000000000000 ws → rising acc → okW acc → runT insS acc ws = some B → linS φ B = linS φ acc + linS φ ws ∧ rising B ∧ okW B
  | [], acc, B, _, hr, ho, h => by
    simp only [runT, Option.some.injEq] at h
    subst h
    exact ⟨by show linS φ acc = linS φ acc + 0; omega, hr, ho⟩
  | w :: ws, acc, B, hb, hr, ho, h => by
    unfold runT at h
    split at h
    · rename_i hk
      obtain ⟨e, h1, h2⟩ := linS_run hφ (ws := ws) (fun x hx => hb x (by simp [hx])) (insS_rising w hr) (insS_ok hr ho hk) h
      refine ⟨?_, h1, h2⟩
      rw [e, linS_insS hφ (hb w (by simp)) (ho.bd.mono (by omega))]
      show _ = linS φ acc + (φ w.s w.r.f + linS φ ws)
      omega
    · cases h
theorem linS_nonZ {φ : Int → (Nat → Int) → Int} (hφ : Lin φ) : ∀ L : List Wh, linS φ (nonZ L) = linS φ L
  | [] => rfl
  | w :: l => by
    have ih := linS_nonZ hφ l
    unfold nonZ at ih ⊢
    by_cases h : w.r = cyZ
    · rw [List.filter_cons_of_neg (by simp [h]), ih]
      show linS φ l = φ w.s w.r.f + linS φ l
      rw [h, show cyZ.f = fun _ => 0 from funext fun k => by
        by_cases hk : k < 8
        · rcases (by omega : k = 0 ∨ k = 1 ∨ k = 2 ∨ k = 3 ∨ k = 4 ∨ k = 5 ∨ k = 6 ∨ k = 7) with rfl | rfl | rfl | rfl | rfl | rfl | rfl | rfl <;> rfl
        · exact Cy.f_out _ (by omega), hφ.zero]
      omega
    · rw [List.filter_cons_of_pos (by simp [h])]
      show φ w.s w.r.f + linS φ _ = φ w.s w.r.f + linS φ l
      rw [ih]
/-- In order, without radii that are nothing, and a design. -/
def isTidy (T : List Wh) : Prop := rising T ∧ (∀ w ∈ T, w.r ≠ cyZ) ∧ dValid T = true
theorem tidyS_lin {ws T : List Wh} (hb : bdW 2000000000000 ws) (h : tidyS ws = some T) : isTidy T ∧ ∀ φ, Lin φ → linS φ T = linS φ ws := by
  unfold tidyS at h
  split at h
  · rename_i l hl
    split at h
    · rename_i hv
      cases h
      obtain ⟨_, h1, _⟩ := linS_run (φ := fun _ _ => 0) (fun _ _ _ => rfl) hb List.Pairwise.nil (fun w hw => by simp at hw) hl
      refine ⟨⟨List.Pairwise.filter _ h1, fun w hw => by simpa using (List.mem_filter.1 hw).2, hv⟩, fun φ hφ => ?_⟩
      obtain ⟨e, _⟩ := linS_run hφ hb List.Pairwise.nil (fun w hw => by simp at hw) hl
      rw [linS_nonZ hφ, e]
      show 0 + _ = _
      omega
    · cases h
  · cases h
theorem okT_some {L : List Wh} (h : okT L = true) : tidyS L = some (tidyL L) := by
  unfold okT at h
  unfold tidyL
  cases e : tidyS L with
  | none => rw [e] at h; cases h
  | some T => rfl
theorem tidyL_lin {ws : List Wh} (hb : bdW 2000000000000 ws) (h : okT ws = true) : isTidy (tidyL ws) ∧ ∀ φ, Lin φ → linS φ (tidyL ws) = linS φ ws := tidyS_lin hb (okT_some h)

theorem insS_end : ∀ {l : List Wh} {w : Wh}, (∀ x ∈ l, x.s < w.s) → insS l w = l ++ [w]
  | [], _, _ => rfl
  | x :: l, w, h => by
    unfold insS
    rw [if_pos (h x (by simp)), insS_end fun y hy => h y (by simp [hy])]
    rfl
theorem sumR_end {l : List Wh} {w : Wh} (h : ∀ x ∈ l, x.s < w.s) : sumR l w = w.r := by
  have : (l.find? fun x => decide (x.s = w.s)) = none := List.find?_eq_none.2 fun x hx => by
    have := h x hx
    simp only [decide_eq_true_eq]
    omega
  simp [sumR, radAt, this]
theorem run_tidy : ∀ {ws acc : List Wh}, rising (acc ++ ws) → okW ws → runT insS acc ws = some (acc ++ ws)
  | [], acc, _, _ => by simp [runT]
  | w :: ws, acc, hr, ho => by
    have hl : ∀ x ∈ acc, x.s < w.s := fun x hx => (List.pairwise_append.1 hr).2.2 x hx w (by simp)
    unfold runT
    rw [sumR_end hl, if_pos (ho w (by simp)), insS_end hl, run_tidy (by simpa using hr) fun x hx => ho x (by simp [hx])]
    simp
theorem dValid_ok {L : List Wh} (h : dValid L = true) : okW L := fun w hw => by
  rw [dValid, Bool.and_eq_true, List.all_eq_true] at h
  have := h.2 w hw
  rw [Bool.and_eq_true] at this
  exact this.2
theorem tidyS_self {T : List Wh} (h : isTidy T) : tidyS T = some T := by
  have hz : nonZ T = T := List.filter_eq_self.2 fun w hw => by simpa using h.2.1 w hw
  unfold tidyS
  rw [run_tidy (acc := []) (by simpa using h.1) (dValid_ok h.2.2)]
  simp only [List.nil_append]
  rw [hz, if_pos h.2.2]
theorem okT_self {T : List Wh} (h : isTidy T) : okT T = true := by rw [okT, tidyS_self h]; rfl
theorem tidyL_self {T : List Wh} (h : isTidy T) : tidyL T = T := by rw [tidyL, tidyS_self h]; rfl

end Go.Proofs.YtcadinbahmliiaaGreatDoor

/- DesignText and EntryMake of both sides: their words. Conditions: a list of wheels. -/
namespace Go.Proofs.YtcadinbahmliiaaGreatDoor
open Go.RowKit
set_option maxRecDepth 100000

theorem tI_okD {L : List Wh} (h : yI L = true) : okD (tI L) = true := by
  have hy := h
  rw [yI, Bool.and_eq_true] at hy
  have e : tI L = tidyL L := by rw [tI, h]; rfl
  rw [e]
  exact (tidyL_lin ((show bdW 1000000 L from fun w hw => (okD_mem hy.1 hw).2).mono (by omega)) hy.2).1.2.2

def txV (L : List Wh) : ByteArray := bif yI L then textB (tI L) else ⟨#[]⟩
theorem gmDtI_ok : GamOk Tryz.prog (gmDtI yI tI textB okD) := ext_ok (ext_ok g0_ok ok_UTi) ok_tx
theorem gmDtS_ok : GamOk Tryz.prog (gmDtS yI tI textB okD) := ext_ok (ext_ok g0_ok ok_tiS) ok_sx
theorem ok_dtI : SpecOk Tryz.prog 40 (specR md_ws (FdtO txV yI)) := by
  refine specR_hr gmDtI_ok Tryz.func40 rfl fun sas fr hF ho => ?_
  unfold FdtO at hF
  split at hF
  · rename_i m g
    cases hF
    simp only [ob_cons] at ho
    obtain ⟨h1, h2, _⟩ := ho
    have hm := of_decide_eq_true h2
    have fin : ∀ v b, txV (listW (itW g) m) = v → yI (listW (itW g) m) = b → GoodQ (.out .ret [.tup [.v (.string v), .v (.bool b)]] (hpC m (itW g))) (GivR (abP md_ws [.row m g] []) { val := .tup [.v (.string (txV (listW (itW g) m))), .v (.bool (yI (listW (itW g) m)))], obl := [allW m g, decide (m ≤ 2 ^ 38)] }) := fun v b hv hb =>
      good_out ⟨_, rfl, by rw [hv, hb], .cons (ABeq.row fun j hj => (allW_get h1 j hj).symm) .nil⟩
    refine ⟨hpC m (itW g), noLam, 100, .cons (ABeq.row fun j hj => allW_get h1 j hj) .nil, fun _ _ => noLam_ok _ _ _, ?_⟩
    show GoodQ (execF Tryz.prog (gmDtI yI tI textB okD) noLam 100 Tryz.f40 [.sl 0 9 0 0 m none] (hpC m (itW g)) (packK 1)) _
    rw [treeDtI]
    simp only [row0, listW_itW]
    generalize listW (itW g) m = L at fin ⊢
    refine good_needs (by simp only [ob_cons, ob_nil, and_true, decide_eq_true_eq, Nat.ble_eq, allW_row, true_and]; omega) (good_cond (fun q => ?_) fun q => ?_)
    · rw [Bool.not_eq_true'] at q
      exact fin _ _ (by rw [txV, q]; rfl) q
    · rw [Bool.not_eq_false'] at q
      rw [listW_fun]
      refine good_needs (by simp only [ob_cons, ob_nil, and_true, Nat.ble_eq, allW_row, true_and]; exact ⟨by omega, tI_okD q⟩) (fin _ _ (by rw [txV, q]; rfl) q)
  · cases hF
theorem ok_dtS : SpecOk Tryz.prog 42 (specR md_ws (FdtO txV yI)) := by
  refine specR_hr gmDtS_ok Tryz.func42 rfl fun sas fr hF ho => ?_
  unfold FdtO at hF
  split at hF
  · rename_i m g
    cases hF
    simp only [ob_cons] at ho
    obtain ⟨h1, h2, _⟩ := ho
    have hm := of_decide_eq_true h2
    have fin : ∀ v b, txV (listW (itW g) m) = v → yI (listW (itW g) m) = b → GoodQ (.out .ret [.tup [.v (.string v), .v (.bool b)]] (hpC m (itW g))) (GivR (abP md_ws [.row m g] []) { val := .tup [.v (.string (txV (listW (itW g) m))), .v (.bool (yI (listW (itW g) m)))], obl := [allW m g, decide (m ≤ 2 ^ 38)] }) := fun v b hv hb =>
      good_out ⟨_, rfl, by rw [hv, hb], .cons (ABeq.row fun j hj => (allW_get h1 j hj).symm) .nil⟩
    refine ⟨hpC m (itW g), noLam, 100, .cons (ABeq.row fun j hj => allW_get h1 j hj) .nil, fun _ _ => noLam_ok _ _ _, ?_⟩
    show GoodQ (execF Tryz.prog (gmDtS yI tI textB okD) noLam 100 Tryz.f42 [.sl 0 9 0 0 m none] (hpC m (itW g)) (packK 1)) _
    rw [treeDtS]
    simp only [row0, listW_itW]
    generalize listW (itW g) m = L at fin ⊢
    refine good_needs (by simp only [ob_cons, ob_nil, and_true, decide_eq_true_eq, Nat.ble_eq, allW_row, true_and]; omega) (good_cond (fun q => ?_) fun q => ?_)
    · rw [Bool.not_eq_true'] at q
      exact fin _ _ (by rw [txV, q]; rfl) q
    · rw [Bool.not_eq_false'] at q
      rw [listW_fun]
      refine good_needs (by simp only [ob_cons, ob_nil, and_true, Nat.ble_eq, allW_row, true_and]; exact ⟨by omega, tI_okD q⟩) (fin _ _ (by rw [txV, q]; rfl) q)
  · cases hF

/-- An entry is made: the text and the sum are there, the text is short enough. -/
def emY (L : List Wh) : Bool := yI L && ckY L && decide ((txV L).size ≤ 1500)
def emV (L : List Wh) : ByteArray × Int := bif emY L then (txV L, ckV L) else (⟨#[]⟩, 0)
def FemO (v : List Wh → ByteArray × Int) (y : List Wh → Bool) : List SA → Option FR
  | [.row m g] => some { val := .tup [.agg [.v (.string (v (listW (itW g) m)).1), .v (.int .u32 (v (listW (itW g) m)).2)], .v (.bool (y (listW (itW g) m)))], obl := [allW m g, decide (m ≤ 2 ^ 38)] }
  | _ => none
theorem ok_emI : SpecOk Tryz.prog 15 (specR md_ws (FemO emV emY)) := by
  refine specR_hr (Γ := gmEmI txV yI ckV ckY) (ext_ok (ext_ok g0_ok ok_dtI) ok_ckI) Tryz.func15 rfl fun sas fr hF ho => ?_
  unfold FemO at hF
  split at hF
  · rename_i m g
    cases hF
    simp only [ob_cons] at ho
    obtain ⟨h1, h2, _⟩ := ho
    have hm := of_decide_eq_true h2
    have fin : ∀ v b, emV (listW (itW g) m) = v → emY (listW (itW g) m) = b → GoodQ (.out .ret [.tup [.agg [.v (.string v.1), .v (.int .u32 v.2)], .v (.bool b)]] (hpC m (itW g))) (GivR (abP md_ws [.row m g] []) { val := .tup [.agg [.v (.string (emV (listW (itW g) m)).1), .v (.int .u32 (emV (listW (itW g) m)).2)], .v (.bool (emY (listW (itW g) m)))], obl := [allW m g, decide (m ≤ 2 ^ 38)] }) := fun v b hv hb =>
      good_out ⟨_, rfl, by rw [hv, hb], .cons (ABeq.row fun j hj => (allW_get h1 j hj).symm) .nil⟩
    have no : emY (listW (itW g) m) = false → GoodQ (.out .ret [.tup [.agg [.v (.string (ByteArray.mk (Array.mk []))), .v (.int .u32 0)], .v (.bool false)]] (hpC m (itW g))) (GivR (abP md_ws [.row m g] []) { val := .tup [.agg [.v (.string (emV (listW (itW g) m)).1), .v (.int .u32 (emV (listW (itW g) m)).2)], .v (.bool (emY (listW (itW g) m)))], obl := [allW m g, decide (m ≤ 2 ^ 38)] }) := fun h => fin (⟨#[]⟩, 0) false (by rw [emV, h]; rfl) h
    refine ⟨hpC m (itW g), noLam, 100, .cons (ABeq.row fun j hj => allW_get h1 j hj) .nil, fun _ _ => noLam_ok _ _ _, ?_⟩
    show GoodQ (execF Tryz.prog (gmEmI txV yI ckV ckY) noLam 100 Tryz.f15 [.sl 0 9 0 0 m none] (hpC m (itW g)) (packK 1)) _
    rw [treeEmI]
    simp only [row0, listW_itW]
    generalize listW (itW g) m = L at fin no ⊢
    refine good_needs (by simp only [ob_cons, ob_nil, and_true, decide_eq_true_eq, Nat.ble_eq, allW_row, true_and]; omega) (good_cond (fun q => ?_) fun q => good_cond (fun q2 => ?_) fun q2 => good_cond (fun q3 => ?_) fun q3 => ?_)
    · rw [Bool.not_eq_true'] at q
      exact no (by rw [emY, q]; rfl)
    · rw [Bool.not_eq_true'] at q2
      exact no (by rw [emY, q2]; simp)
    · have q3 := of_decide_eq_true q3
      exact no (by rw [emY, decide_eq_false (by omega)]; simp)
    · rw [Bool.not_eq_false'] at q q2
      have q3 := of_decide_eq_false q3
      have h : emY L = true := by rw [emY, q, q2, decide_eq_true (by omega)]; rfl
      exact fin (txV L, ckV L) true (by rw [emV, h]; rfl) h
  · cases hF
theorem ok_emS : SpecOk Tryz.prog 16 (specR md_ws (FemO emV emY)) := by
  refine specR_hr (Γ := gmEmS txV yI ckV ckY) (ext_ok (ext_ok g0_ok ok_dtS) ok_ckS) Tryz.func16 rfl fun sas fr hF ho => ?_
  unfold FemO at hF
  split at hF
  · rename_i m g
    cases hF
    simp only [ob_cons] at ho
    obtain ⟨h1, h2, _⟩ := ho
    have hm := of_decide_eq_true h2
    have fin : ∀ v b, emV (listW (itW g) m) = v → emY (listW (itW g) m) = b → GoodQ (.out .ret [.tup [.agg [.v (.string v.1), .v (.int .u32 v.2)], .v (.bool b)]] (hpC m (itW g))) (GivR (abP md_ws [.row m g] []) { val := .tup [.agg [.v (.string (emV (listW (itW g) m)).1), .v (.int .u32 (emV (listW (itW g) m)).2)], .v (.bool (emY (listW (itW g) m)))], obl := [allW m g, decide (m ≤ 2 ^ 38)] }) := fun v b hv hb =>
      good_out ⟨_, rfl, by rw [hv, hb], .cons (ABeq.row fun j hj => (allW_get h1 j hj).symm) .nil⟩
    have no : emY (listW (itW g) m) = false → GoodQ (.out .ret [.tup [.agg [.v (.string (ByteArray.mk (Array.mk []))), .v (.int .u32 0)], .v (.bool false)]] (hpC m (itW g))) (GivR (abP md_ws [.row m g] []) { val := .tup [.agg [.v (.string (emV (listW (itW g) m)).1), .v (.int .u32 (emV (listW (itW g) m)).2)], .v (.bool (emY (listW (itW g) m)))], obl := [allW m g, decide (m ≤ 2 ^ 38)] }) := fun h => fin (⟨#[]⟩, 0) false (by rw [emV, h]; rfl) h
    refine ⟨hpC m (itW g), noLam, 100, .cons (ABeq.row fun j hj => allW_get h1 j hj) .nil, fun _ _ => noLam_ok _ _ _, ?_⟩
    show GoodQ (execF Tryz.prog (gmEmS txV yI ckV ckY) noLam 100 Tryz.f16 [.sl 0 9 0 0 m none] (hpC m (itW g)) (packK 1)) _
    rw [treeEmS]
    simp only [row0, listW_itW]
    generalize listW (itW g) m = L at fin no ⊢
    refine good_needs (by simp only [ob_cons, ob_nil, and_true, decide_eq_true_eq, Nat.ble_eq, allW_row, true_and]; omega) (good_cond (fun q => ?_) fun q => good_cond (fun q2 => ?_) fun q2 => good_cond (fun q3 => ?_) fun q3 => ?_)
    · rw [Bool.not_eq_true'] at q
      exact no (by rw [emY, q]; rfl)
    · rw [Bool.not_eq_true'] at q2
      exact no (by rw [emY, q2]; simp)
    · have q3 := of_decide_eq_true q3
      exact no (by rw [emY, decide_eq_false (by omega)]; simp)
    · rw [Bool.not_eq_false'] at q q2
      have q3 := of_decide_eq_false q3
      have h : emY L = true := by rw [emY, q, q2, decide_eq_true (by omega)]; rfl
      exact fin (txV L, ckV L) true (by rw [emV, h]; rfl) h
  · cases hF
end Go.Proofs.YtcadinbahmliiaaGreatDoor

/- DesignRead of the reference: trees. Conditions: a text. -/
namespace Go.Proofs.YtcadinbahmliiaaGreatDoor
open Go.RowKit
set_option maxRecDepth 100000

def gmRs (g : ByteArray → Int → Nat → ByteArray) (n : ByteArray → Int → Nat) (f : ByteArray → Int) (tx : List Wh → ByteArray) (yI : List Wh → Bool) : Gam := ext (ext (ext g0 68 (specR [.val, .val] (FcuO g n))) 69 (specR [.val] (FnbO f))) 42 (specR md_ws (FdtO tx yI))
abbrev lvRs : Ex → List Nat := lv3 [0, 4, 5, 6] [0, 4] [2, 3]
abbrev hpRs (k : Nat) (h : Nat → Nat → Int) (m : Nat) (gw : Nat → ByteArray) : List AB := [.row true k 9 (row9 h) 75, .row true m 1 (fun j => [.string (gw j)]) 9]
abbrev stRs (s : ByteArray) (k m : Nat) (i : Nat) : List AV := [.v (.string s), .own 0 k, .own 1 m, .v (i64 i)]
theorem rndRs (g : ByteArray → Int → Nat → ByteArray) (n : ByteArray → Int → Nat) (f : ByteArray → Int) (tx : List Wh → ByteArray) (yI : List Wh → Bool) (s : ByteArray) (k : Nat) (h : Nat → Nat → Int) (m : Nat) (gw : Nat → ByteArray) (i : Nat) : execC Tryz.prog (gmRs g n f tx yI) 200 noLam (loopAt 0 Tryz.f35) (mkT 0 82 ((lvRs .normal).zip (stRs s k m i))) (hpRs k h m gw) (leafV 82 lvRs 0)
    = bif decide ((↑i : Int) < (↑m : Int)) then needs [decide ((↑i : Int) < (↑m : Int)), decide (Int.toNat (↑i : Int) < m), Nat.blt (ByteArray.size (gw (Int.toNat (↑i : Int)))) (4294967281 : Nat)] (bif (↑(n (gw (Int.toNat (↑i : Int))) (58 : Int)) : Int) != (2 : Int) then Res.out Ex.ret [AV.own (0 : Nat) (0 : Nat), AV.v (Value.bool false)] [AB.row true (0 : Nat) (9 : Nat) (fun _ ↦ []) (75 : Nat)] else needs [decide ((1 : Int) < (↑(n (gw (Int.toNat (↑i : Int))) (58 : Int)) : Int)), decide ((1 : Nat) < n (gw (Int.toNat (↑i : Int))) (58 : Int)), Nat.blt (ByteArray.size (g (gw (Int.toNat (↑i : Int))) (58 : Int) (1 : Nat))) (4294967281 : Nat)] (bif (↑(n (g (gw (Int.toNat (↑i : Int))) (58 : Int) (1 : Nat)) (44 : Int)) : Int) != (8 : Int) then Res.out Ex.ret [AV.own (0 : Nat) (0 : Nat), AV.v (Value.bool false)] [AB.row true (0 : Nat) (9 : Nat) (fun _ ↦ []) (75 : Nat)] else needs [decide ((0 : Int) < (↑(n (gw (Int.toNat (↑i : Int))) (58 : Int)) : Int)), decide ((0 : Nat) < n (gw (Int.toNat (↑i : Int))) (58 : Int)), decide ((0 : Int) < (↑(n (g (gw (Int.toNat (↑i : Int))) (58 : Int) (1 : Nat)) (44 : Int)) : Int)), decide ((0 : Nat) < n (g (gw (Int.toNat (↑i : Int))) (58 : Int) (1 : Nat)) (44 : Int)), decide ((1 : Int) < (↑(n (g (gw (Int.toNat (↑i : Int))) (58 : Int) (1 : Nat)) (44 : Int)) : Int)), decide ((1 : Nat) < n (g (gw (Int.toNat (↑i : Int))) (58 : Int) (1 : Nat)) (44 : Int)), decide ((2 : Int) < (↑(n (g (gw (Int.toNat (↑i : Int))) (58 : Int) (1 : Nat)) (44 : Int)) : Int)), decide ((2 : Nat) < n (g (gw (Int.toNat (↑i : Int))) (58 : Int) (1 : Nat)) (44 : Int)), decide ((3 : Int) < (↑(n (g (gw (Int.toNat (↑i : Int))) (58 : Int) (1 : Nat)) (44 : Int)) : Int)), decide ((3 : Nat) < n (g (gw (Int.toNat (↑i : Int))) (58 : Int) (1 : Nat)) (44 : Int)), decide ((4 : Int) < (↑(n (g (gw (Int.toNat (↑i : Int))) (58 : Int) (1 : Nat)) (44 : Int)) : Int)), decide ((4 : Nat) < n (g (gw (Int.toNat (↑i : Int))) (58 : Int) (1 : Nat)) (44 : Int)), decide ((5 : Int) < (↑(n (g (gw (Int.toNat (↑i : Int))) (58 : Int) (1 : Nat)) (44 : Int)) : Int)), decide ((5 : Nat) < n (g (gw (Int.toNat (↑i : Int))) (58 : Int) (1 : Nat)) (44 : Int)), decide ((6 : Int) < (↑(n (g (gw (Int.toNat (↑i : Int))) (58 : Int) (1 : Nat)) (44 : Int)) : Int)), decide ((6 : Nat) < n (g (gw (Int.toNat (↑i : Int))) (58 : Int) (1 : Nat)) (44 : Int)), decide ((7 : Int) < (↑(n (g (gw (Int.toNat (↑i : Int))) (58 : Int) (1 : Nat)) (44 : Int)) : Int)), decide ((7 : Nat) < n (g (gw (Int.toNat (↑i : Int))) (58 : Int) (1 : Nat)) (44 : Int)), Nat.ble k k, Nat.ble (k + (1 : Nat)) (549755813888 : Nat)] (Res.out Ex.normal [AV.v (Value.string s), AV.own (0 : Nat) (k + (1 : Nat)), AV.own (1 : Nat) m, AV.v (Value.int IntKind.i64 (IntKind.wrap IntKind.i64 ((↑i : Int) + (1 : Int))))] [AB.row true (k + (1 : Nat)) (9 : Nat) (fun q ↦ [Value.int IntKind.i64 (bif Nat.blt q k then h q (0 : Nat) else f (g (gw (Int.toNat (↑i : Int))) (58 : Int) (0 : Nat))), Value.int IntKind.i64 (bif Nat.blt q k then h q (1 : Nat) else f (g (g (gw (Int.toNat (↑i : Int))) (58 : Int) (1 : Nat)) (44 : Int) (0 : Nat))), Value.int IntKind.i64 (bif Nat.blt q k then h q (2 : Nat) else f (g (g (gw (Int.toNat (↑i : Int))) (58 : Int) (1 : Nat)) (44 : Int) (1 : Nat))), Value.int IntKind.i64 (bif Nat.blt q k then h q (3 : Nat) else f (g (g (gw (Int.toNat (↑i : Int))) (58 : Int) (1 : Nat)) (44 : Int) (2 : Nat))), Value.int IntKind.i64 (bif Nat.blt q k then h q (4 : Nat) else f (g (g (gw (Int.toNat (↑i : Int))) (58 : Int) (1 : Nat)) (44 : Int) (3 : Nat))), Value.int IntKind.i64 (bif Nat.blt q k then h q (5 : Nat) else f (g (g (gw (Int.toNat (↑i : Int))) (58 : Int) (1 : Nat)) (44 : Int) (4 : Nat))), Value.int IntKind.i64 (bif Nat.blt q k then h q (6 : Nat) else f (g (g (gw (Int.toNat (↑i : Int))) (58 : Int) (1 : Nat)) (44 : Int) (5 : Nat))), Value.int IntKind.i64 (bif Nat.blt q k then h q (7 : Nat) else f (g (g (gw (Int.toNat (↑i : Int))) (58 : Int) (1 : Nat)) (44 : Int) (6 : Nat))), Value.int IntKind.i64 (bif Nat.blt q k then h q (8 : Nat) else f (g (g (gw (Int.toNat (↑i : Int))) (58 : Int) (1 : Nat)) (44 : Int) (7 : Nat)))]) (75 : Nat), AB.row true m (1 : Nat) (fun j ↦ [Value.string (gw j)]) (9 : TypeId)]))) else Res.out (Ex.exit (0 : Nat)) [AV.v (Value.string s), AV.own (0 : Nat) k] [AB.row true k (9 : Nat) (row9 h) (75 : TypeId)] := by kernel_rfl

noncomputable abbrev lamRs (s : ByteArray) (m : Nat) (gw : Nat → ByteArray) (q : Bool) (k : Nat) (h : Nat → Nat → Int) : Nat → Option Sum := oneL 0 (atS 82 (lvRs .normal) 0 (stRs s 0 m 0) (hpRs 0 (wfun []) m gw) (fun K => cond q (K .normal (mkT 0 82 [(0, .v (.string s)), (4, .own 0 k)]) [.row true k 9 (row9 h) 75]) (K .ret (mkT 0 82 [(2, .own 0 0), (3, .v (.bool false))]) [.row true 0 9 (fun _ => []) 75])))
theorem treeRs (g : ByteArray → Int → Nat → ByteArray) (n : ByteArray → Int → Nat) (f : ByteArray → Int) (tx : List Wh → ByteArray) (yI : List Wh → Bool) (s : ByteArray) (q : Bool) (k : Nat) (h : Nat → Nat → Int) : execF Tryz.prog (gmRs g n f tx yI) (lamRs s (n s 32) (g s 32) q k h) 200 Tryz.f35 [.v (.string s)] [] (packK 0)
    = bif decide ((↑(ByteArray.size s) : Int) > (1500 : Int)) then Res.out Ex.ret [AV.tup [AV.own (0 : Nat) (0 : Nat), AV.v (Value.bool false)]] [AB.row true (0 : Nat) (9 : Nat) (fun _ ↦ []) (75 : Nat)] else bif eqB s (ByteArray.mk (Array.mk [(45 : UInt8)])) then Res.out Ex.ret [AV.tup [AV.own (0 : Nat) (0 : Nat), AV.v (Value.bool true)]] [AB.row true (0 : Nat) (9 : Nat) (fun _ ↦ []) (75 : Nat)] else needs [Nat.blt (ByteArray.size s) (4294967281 : Nat), chk ([AV.v (Value.string s), AV.own (0 : Nat) (0 : Nat), AV.own (1 : Nat) (n s (32 : Int)), AV.v (Value.int IntKind.i64 (0 : Int))] = stRs s (0 : Nat) (n s (32 : Int)) (0 : Nat) ∧ Hsim [AB.row true (0 : Nat) (9 : Nat) (fun _ ↦ []) (75 : Nat), AB.row true (n s (32 : Int)) (1 : Nat) (fun j ↦ [Value.string (g s (32 : Int) j)]) (9 : TypeId)] (hpRs (0 : Nat) (wfun []) (n s (32 : Int)) (g s (32 : Int))))] (bif q then needs [Nat.ble k k, allW k (row9 h), decide (k ≤ (274877906944 : Nat))] (bif !yI (listW (itW (row9 h)) k) then Res.out Ex.ret [AV.tup [AV.own (0 : Nat) (0 : Nat), AV.v (Value.bool false)]] [AB.row true (0 : Nat) (9 : Nat) (fun _ ↦ []) (75 : Nat)] else bif !eqB (tx (listW (itW (row9 h)) k)) s then Res.out Ex.ret [AV.tup [AV.own (0 : Nat) (0 : Nat), AV.v (Value.bool false)]] [AB.row true (0 : Nat) (9 : Nat) (fun _ ↦ []) (75 : Nat)] else Res.out Ex.ret [AV.tup [AV.own (0 : Nat) k, AV.v (Value.bool true)]] [AB.row true k (9 : Nat) (row9 h) (75 : TypeId)]) else Res.out Ex.ret [AV.tup [AV.own (0 : Nat) (0 : Nat), AV.v (Value.bool false)]] [AB.row true (0 : Nat) (9 : Nat) (fun _ ↦ []) (75 : TypeId)]) := by kernel_rfl

theorem treeRsB (g : ByteArray → Int → Nat → ByteArray) (n : ByteArray → Int → Nat) (f : ByteArray → Int) (tx : List Wh → ByteArray) (yI : List Wh → Bool) (s : ByteArray) : execF Tryz.prog (gmRs g n f tx yI) (oneL 0 errS) 200 Tryz.f35 [.v (.string s)] [] (packK 0)
    = bif decide ((↑(ByteArray.size s) : Int) > (1500 : Int)) then Res.out Ex.ret [AV.tup [AV.own (0 : Nat) (0 : Nat), AV.v (Value.bool false)]] [AB.row true (0 : Nat) (9 : Nat) (fun _ ↦ []) (75 : Nat)] else bif eqB s (ByteArray.mk (Array.mk [(45 : UInt8)])) then Res.out Ex.ret [AV.tup [AV.own (0 : Nat) (0 : Nat), AV.v (Value.bool true)]] [AB.row true (0 : Nat) (9 : Nat) (fun _ ↦ []) (75 : Nat)] else needs [Nat.blt (ByteArray.size s) (4294967281 : Nat)] Res.err := by kernel_rfl

end Go.Proofs.YtcadinbahmliiaaGreatDoor
