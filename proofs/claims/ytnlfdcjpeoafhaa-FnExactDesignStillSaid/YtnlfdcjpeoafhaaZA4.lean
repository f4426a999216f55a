/- The laws on designs changed: trees. Conditions: a list of wheels. -/
import Derived.Test.YtnlfdcjpeoafhaaZA0
import Derived.Test.YtnlfdcjpeoafhaaZA1
import Derived.Test.YtnlfdcjpeoafhaaZA2
import Derived.Test.YtnlfdcjpeoafhaaZA3
/- 'changed', for each change that the program makes: its words. Conditions: a list of wheels. -/
namespace Go.Proofs.Ytnlfdcjpeoafhaa
open Go.RowKit
set_option maxRecDepth 100000

theorem fMirO_eq : fMirO mirF = f_mirror := by
  funext l
  rfl
theorem gmC_ok : GamOk Try.prog (gmC mirF tuF) := by
  unfold gmC
  rw [fMirO_eq]
  exact ext_ok (ext_ok g0_ok ok_mirror) ok_tuI
theorem ch_row (L : List Wh) (w : Wh) (i : Nat) (hl : L.length = i) (q : Nat) (hq : q < i + 1) : [i64 (bif Nat.blt q i then wfun L q 0 else whN w 0), i64 (bif Nat.blt q i then wfun L q 1 else whN w 1), i64 (bif Nat.blt q i then wfun L q 2 else whN w 2), i64 (bif Nat.blt q i then wfun L q 3 else whN w 3), i64 (bif Nat.blt q i then wfun L q 4 else whN w 4), i64 (bif Nat.blt q i then wfun L q 5 else whN w 5), i64 (bif Nat.blt q i then wfun L q 6 else whN w 6), i64 (bif Nat.blt q i then wfun L q 7 else whN w 7), i64 (bif Nat.blt q i then wfun L q 8 else whN w 8)] = row9 (wfun (L ++ [w])) q := by
  subst hl
  exact row9_snoc L (whN w) q hq
theorem okD_mem {L : List Wh} (h : okD L = true) {w : Wh} (hw : w ∈ L) : (-1000 ≤ w.s ∧ w.s ≤ 1000) ∧ ∀ k, k < 8 → -1000000 ≤ w.r.f k ∧ w.r.f k ≤ 1000000 := by
  rw [okD, Bool.and_eq_true] at h
  have := List.all_eq_true.1 h.2 w hw
  rw [Bool.and_eq_true] at this
  exact ⟨inR_iff.1 this.1, smallF_iff.1 this.2⟩
theorem okD_len {L : List Wh} (h : okD L = true) : L.length ≤ 12 := by
  rw [okD, Bool.and_eq_true] at h
  exact of_decide_eq_true h.1
theorem valid_in {L : List Wh} (h : okD L = true) {w : Wh} (hw : w ∈ L) : cyIn w.r := fun k hk => by
  have := (okD_mem h hw).2 k hk
  omega
theorem valid_inB {L : List Wh} (h : okD L = true) {w : Wh} (hw : w ∈ L) : inB w.r.f = true := smallF_iff.2 (valid_in h hw)
theorem cyOf_f8 (a : Nat → Int) : ∀ k, k < 8 → (cyOf a).f k = a k := forall8 rfl rfl rfl rfl rfl rfl rfl rfl
theorem cyOf_in {a : Nat → Int} (h : ∀ k, k < 8 → -9223372036854775808 ≤ a k ∧ a k ≤ 9223372036854775807) : cyIn (cyOf a) := fun k hk => by
  rw [cyOf_f8 a k hk]
  exact h k hk
theorem stepF_in {a : Nat → Int} (h : ∀ k, k < 8 → -9223372036854775808 ≤ a k ∧ a k ≤ 9223372036854775807) : ∀ k, k < 8 → -9223372036854775808 ≤ stepF a k ∧ stepF a k ≤ 9223372036854775807 :=
  forall8 (w64_range _) (h 0 (by omega)) (h 1 (by omega)) (h 2 (by omega)) (w64_range _) (h 4 (by omega)) (h 5 (by omega)) (h 6 (by omega))
theorem turnedF_in {a : Nat → Int} (h : ∀ k, k < 8 → -9223372036854775808 ≤ a k ∧ a k ≤ 9223372036854775807) : ∀ (n k : Nat), k < 8 → -9223372036854775808 ≤ turnedF a n k ∧ turnedF a n k ≤ 9223372036854775807
  | 0 => h
  | n + 1 => stepF_in (turnedF_in h n)
theorem FtiYO_eq : FtiYO tidyL okT inWB = F_tiY := by
  funext l
  rfl
theorem FtiNO_eq : FtiNO okT inWB = F_tiN := by
  funext l
  rfl
theorem gmChY_ok : GamOk Try.prog (gmChY okD tidyL okT inWB) := by
  unfold gmChY
  rw [FdvO_eq, FtiYO_eq]
  exact ext_ok (ext_ok g0_ok ok_dvI) ok_tiY
theorem gmChN_ok : GamOk Try.prog (gmChN okD okT inWB) := by
  unfold gmChN
  rw [FdvO_eq, FtiNO_eq]
  exact ext_ok (ext_ok g0_ok ok_dvI) ok_tiN
theorem row0 (f : Nat → Nat → Int) : (fun q => row9 f (0 + q)) = row9 f := by
  funext q
  rw [Nat.zero_add]

theorem treeETi (okd : List Wh → Bool) (okt inw : List Wh → Bool) (m : Nat) (f : Nat → Nat → Int) (t : TypeId) : execF Try.prog (gmChN okd okt inw) (oneL 0 errS) 100 Try.f57 [.sl 0 9 0 0 m none, fnTi] [.row false m 9 (row9 f) t] (packK 1)
    = needs [Nat.ble ((0 : Nat) + m) m, allW m fun q ↦ row9 f ((0 : Nat) + q), decide (m ≤ (549755813888 : Nat))] (bif !okd (listW (itW fun q ↦ row9 f ((0 : Nat) + q)) m) then Res.out Ex.ret [AV.tup [AV.v (Value.slice none (0 : Nat) (0 : Nat)), AV.v (Value.bool false)]] [AB.row false m (9 : Nat) (row9 f) t] else needs [decide ((↑m : Int) ≤ (1099511627776 : Int))] Res.err) := by kernel_rfl

def chTi (w : Wh) : Wh := w
abbrev mpTi : List Wh → List Wh := fun L => L.map chTi
theorem inwTi {L : List Wh} (h : okD L = true) : inW (L.map chTi) := by
  intro w' hw'
  obtain ⟨w, hw, rfl⟩ := List.mem_map.1 hw'
  exact valid_in h hw
theorem sumCTi (m : Nat) (f : Nat → Nat → Int) (t : TypeId) (hm : m ≤ 2 ^ 38) (hok : ∀ w ∈ listW f m, inB w.r.f = true) :
    SumOk Try.prog 1 (.block 0 (.loop (loopAt 0 Try.f57))) (atS 32 (lvCh .normal) 1 (stCTi m 0 0) (hpCTi m f t 0 (wfun [])) (fun K => K .normal (mkT 0 32 [(6, .own 1 m)]) (hpCTi m f t m (wfun ((listW f m).map chTi))))) := by
  refine for_at gmC_ok (n := 100) (m := 1) (lv := lvCh) (fun i => stCTi m i i) (fun i => hpCTi m f t i (wfun ((listW f i).map chTi))) (fun _ => True) m (fun _ => noLam) (lv3_ris rfl rfl rfl) (Nat.le_refl _) trivial fun K Q hk i hi him => ⟨noLam_ok _ _ _, ?_⟩
  rw [rndCTi]
  refine good_cond (fun c1 => ?_) fun c1 => ?_
  · have c1 := of_decide_eq_true c1
    have c1' : i < m := by omega
    rw [Int.toNat_natCast, Nat.zero_add, wr_in (x := (i : Int) + 1) (by omega)]
    refine good_needs (by simp only [ob_cons, ob_nil, and_true, decide_eq_true_eq, Nat.ble_eq]; omega) (good_out ⟨i + 1, ⟨rfl, c1', trivial⟩, rfl, ?_⟩)
    show Hsim _ (hpCTi m f t (i + 1) (wfun ((listW f (i + 1)).map chTi)))
    rw [listW_succ, List.map_append]
    refine (.cons (ABeq.refl _) (.cons (ABeq.row fun q hq => ?_) .nil))
    exact ch_row _ (chTi (whOf (f i))) i (by rw [List.length_map, listW_length]) q hq
  · have c1 := of_decide_eq_false c1
    have : i = m := by omega
    subst this
    refine good_out ⟨_, Hsim.refl _, ?_⟩
    rw [if_pos rfl]
    exact hk

def FchYTi (okd : List Wh → Bool) (ti : List Wh → List Wh) (okt : List Wh → Bool) (mp : List Wh → List Wh) : List AV → List AB → Option HR
  | [.sl 0 9 0 0 m none, .fn 99 []], [.row false n 9 g t] => some { val := .tup [.sl 1 9 0 0 (ti (mp (listW (itW g) m))).length (some (ti (mp (listW (itW g) m))).length), .v (.bool true)], out := [.row false n 9 g t], new := newY (ti (mp (listW (itW g) m))), obl := [Nat.beq n m, allW m g, decide (m ≤ 2 ^ 38), okd (listW (itW g) m) && okt (mp (listW (itW g) m))] }
  | _, _ => none
def FchNTi (okd : List Wh → Bool) (okt : List Wh → Bool) (mp : List Wh → List Wh) : List AV → List AB → Option HR
  | [.sl 0 9 0 0 m none, .fn 99 []], [.row false n 9 g t] => some { val := valN, out := [.row false n 9 g t], obl := [Nat.beq n m, allW m g, decide (m ≤ 2 ^ 38), !(okd (listW (itW g) m) && okt (mp (listW (itW g) m)))] }
  | _, _ => none
theorem ok_chYTi : SpecOk Try.prog 57 (specH [true] (FchYTi okD tidyL okT mpTi)) := by
  refine specH_ok gmChY_ok Try.func57 rfl fun avs H hr hF ho => ?_
  unfold FchYTi at hF
  split at hF
  · rename_i m n g t
    cases hF
    simp only [ob_cons] at ho
    obtain ⟨h0, h1, h2, h3, _⟩ := ho
    have h0 := Nat.eq_of_beq_eq_true h0
    subst h0
    have hm := of_decide_eq_true h2
    rw [Bool.and_eq_true] at h3
    obtain ⟨hd, ht⟩ := h3
    have hin := inwTi hd
    have hs := sumCTi n (itW g) t hm (fun w hw => valid_inB hd hw)
    refine ⟨[.row false n 9 (row9 (itW g)) t], lamCTi n (itW g) t n (wfun ((listW (itW g) n).map chTi)), 100, .cons (ABeq.row fun j hj => allW_get h1 j hj) .nil, lam1 (by kernel_rfl) hs, ?_⟩
    show GoodQ (execF Try.prog (gmChY okD tidyL okT inWB) (lamCTi n (itW g) t n (wfun ((listW (itW g) n).map chTi))) 100 Try.f57 [.sl 0 9 0 0 n none, fnTi] [.row false n 9 (row9 (itW g)) t] (packK 1)) _
    rw [treeYTi, row0, listW_itW, listW_self ((listW (itW g) n).map chTi) n (by rw [List.length_map, listW_length])]
    refine good_needs (by simp only [ob_cons, ob_nil, and_true, decide_eq_true_eq, Nat.ble_eq, allW_row, true_and]; omega) (good_false (by rw [hd]; rfl) (good_needs ?_ (good_out ⟨rfl, .cons (ABeq.row fun j hj => (allW_get h1 j hj).symm) (Hsim.refl _)⟩)))
    simp only [ob_cons, ob_nil, and_true, allW_row]
    exact ⟨decide_eq_true (by omega), chk_of ⟨rfl, (.cons (ABeq.refl _) (.cons (ABeq.row fun j hj => absurd hj (Nat.not_lt_zero _)) .nil))⟩, by simp, trivial, decide_eq_true (by omega), chk_of hin, ht⟩
  · cases hF
theorem ok_chNTi : SpecOk Try.prog 57 (specH [true] (FchNTi okD okT mpTi)) := by
  refine specH_ok gmChN_ok Try.func57 rfl fun avs H hr hF ho => ?_
  unfold FchNTi at hF
  split at hF
  · rename_i m n g t
    cases hF
    simp only [ob_cons] at ho
    obtain ⟨h0, h1, h2, h3, _⟩ := ho
    have h0 := Nat.eq_of_beq_eq_true h0
    subst h0
    have hm := of_decide_eq_true h2
    cases hd : okD (listW (itW g) n) with
    | false =>
      have hz : SumOk Try.prog 1 (.block 0 (.loop (loopAt 0 Try.f57))) errS := errS_ok
      refine ⟨[.row false n 9 (row9 (itW g)) t], oneL 0 errS, 100, .cons (ABeq.row fun j hj => allW_get h1 j hj) .nil, lam1 (by kernel_rfl) hz, ?_⟩
      show GoodQ (execF Try.prog (gmChN okD okT inWB) (oneL 0 errS) 100 Try.f57 [.sl 0 9 0 0 n none, fnTi] [.row false n 9 (row9 (itW g)) t] (packK 1)) _
      rw [treeETi, row0, listW_itW]
      exact good_needs (by simp only [ob_cons, ob_nil, and_true, decide_eq_true_eq, Nat.ble_eq, allW_row, true_and]; omega) (good_true (by rw [hd]; rfl) (good_out ⟨rfl, .cons (ABeq.row fun j hj => (allW_get h1 j hj).symm) .nil⟩))
    | true =>
    rw [hd, Bool.true_and] at h3
    have ht : okT ((listW (itW g) n).map chTi) = false := by simpa using h3
    have hin := inwTi hd
    have hs := sumCTi n (itW g) t hm (fun w hw => valid_inB hd hw)
    refine ⟨[.row false n 9 (row9 (itW g)) t], lamCTi n (itW g) t n (wfun ((listW (itW g) n).map chTi)), 100, .cons (ABeq.row fun j hj => allW_get h1 j hj) .nil, lam1 (by kernel_rfl) hs, ?_⟩
    show GoodQ (execF Try.prog (gmChN okD okT inWB) (lamCTi n (itW g) t n (wfun ((listW (itW g) n).map chTi))) 100 Try.f57 [.sl 0 9 0 0 n none, fnTi] [.row false n 9 (row9 (itW g)) t] (packK 1)) _
    rw [treeNTi, row0, listW_itW, listW_self ((listW (itW g) n).map chTi) n (by rw [List.length_map, listW_length])]
    refine good_needs (by simp only [ob_cons, ob_nil, and_true, decide_eq_true_eq, Nat.ble_eq, allW_row, true_and]; omega) (good_false (by rw [hd]; rfl) (good_needs ?_ (good_out ⟨rfl, .cons (ABeq.row fun j hj => (allW_get h1 j hj).symm) .nil⟩)))
    simp only [ob_cons, ob_nil, and_true, allW_row]
    exact ⟨decide_eq_true (by omega), chk_of ⟨rfl, (.cons (ABeq.refl _) (.cons (ABeq.row fun j hj => absurd hj (Nat.not_lt_zero _)) .nil))⟩, by simp, trivial, decide_eq_true (by omega), chk_of hin, by rw [ht]; rfl⟩
  · cases hF

theorem treeETu (okd : List Wh → Bool) (okt inw : List Wh → Bool) (m : Nat) (f : Nat → Nat → Int) (t : TypeId) (x : Int) : execF Try.prog (gmChN okd okt inw) (oneL 0 errS) 100 Try.f57 [.sl 0 9 0 0 m none, fnTu] [.row false m 9 (row9 f) t, .cells [.v (i64 x)] 3] (packK 2)
    = needs [Nat.ble ((0 : Nat) + m) m, allW m fun q ↦ row9 f ((0 : Nat) + q), decide (m ≤ (549755813888 : Nat))] (bif !okd (listW (itW fun q ↦ row9 f ((0 : Nat) + q)) m) then Res.out Ex.ret [AV.tup [AV.v (Value.slice none (0 : Nat) (0 : Nat)), AV.v (Value.bool false)]] [AB.row false m (9 : Nat) (row9 f) t, AB.cells [AV.v (Value.int IntKind.i64 x)] (3 : TypeId)] else needs [decide ((↑m : Int) ≤ (1099511627776 : Int))] Res.err) := by kernel_rfl

def chTu (x : Int) (w : Wh) : Wh := ⟨w.s, cyOf (tuF w.r.f x)⟩
abbrev mpTu : Int → List Wh → List Wh := fun x L => L.map (chTu x)
theorem inwTu (x : Int) {L : List Wh} (h : okD L = true) : inW (L.map (chTu x)) := by
  intro w' hw'
  obtain ⟨w, hw, rfl⟩ := List.mem_map.1 hw'
  exact cyOf_in (turnedF_in (valid_in h hw) _)
theorem sumCTu (m : Nat) (f : Nat → Nat → Int) (t : TypeId) (x : Int) (hm : m ≤ 2 ^ 38) (hok : ∀ w ∈ listW f m, inB w.r.f = true) (hx : inR x (-9223372036854775808) 9223372036854775807 = true) :
    SumOk Try.prog 2 (.block 0 (.loop (loopAt 0 Try.f57))) (atS 32 (lvCh .normal) 2 (stCTu m 0 0) (hpCTu m f t x 0 (wfun [])) (fun K => K .normal (mkT 0 32 [(6, .own 2 m)]) (hpCTu m f t x m (wfun ((listW f m).map (chTu x)))))) := by
  refine for_at gmC_ok (n := 100) (m := 2) (lv := lvCh) (fun i => stCTu m i i) (fun i => hpCTu m f t x i (wfun ((listW f i).map (chTu x)))) (fun _ => True) m (fun _ => noLam) (lv3_ris rfl rfl rfl) (Nat.le_refl _) trivial fun K Q hk i hi him => ⟨noLam_ok _ _ _, ?_⟩
  rw [rndCTu]
  refine good_cond (fun c1 => ?_) fun c1 => ?_
  · have c1 := of_decide_eq_true c1
    have c1' : i < m := by omega
    rw [Int.toNat_natCast, Nat.zero_add, wr_in (x := (i : Int) + 1) (by omega)]
    refine good_needs (by simp only [ob_cons, ob_nil, and_true, decide_eq_true_eq, Nat.ble_eq]; exact ⟨by omega, by omega, hok _ (List.mem_of_getElem? (listW_get f c1')), hx, by omega, by omega⟩) (good_out ⟨i + 1, ⟨rfl, c1', trivial⟩, rfl, ?_⟩)
    show Hsim _ (hpCTu m f t x (i + 1) (wfun ((listW f (i + 1)).map (chTu x))))
    rw [listW_succ, List.map_append]
    refine (.cons (ABeq.refl _) (.cons (ABeq.refl _) (.cons (ABeq.row fun q hq => ?_) .nil)))
    exact ch_row _ ((chTu x) (whOf (f i))) i (by rw [List.length_map, listW_length]) q hq
  · have c1 := of_decide_eq_false c1
    have : i = m := by omega
    subst this
    refine good_out ⟨_, Hsim.refl _, ?_⟩
    rw [if_pos rfl]
    exact hk

def FchYTu (okd : List Wh → Bool) (ti : List Wh → List Wh) (okt : List Wh → Bool) (mp : Int → List Wh → List Wh) : List AV → List AB → Option HR
  | [.sl 0 9 0 0 m none, .fn 70 [.ptr 1 0 0 0]], [.row false n 9 g t, .cells [.v (.int .i64 x)] 3] => some { val := .tup [.sl 2 9 0 0 (ti (mp x (listW (itW g) m))).length (some (ti (mp x (listW (itW g) m))).length), .v (.bool true)], out := [.row false n 9 g t, .cells [.v (.int .i64 x)] 3], new := newY (ti (mp x (listW (itW g) m))), obl := [Nat.beq n m, allW m g, decide (m ≤ 2 ^ 38), okd (listW (itW g) m) && okt (mp x (listW (itW g) m)), inR x (-9223372036854775808) 9223372036854775807] }
  | _, _ => none
def FchNTu (okd : List Wh → Bool) (okt : List Wh → Bool) (mp : Int → List Wh → List Wh) : List AV → List AB → Option HR
  | [.sl 0 9 0 0 m none, .fn 70 [.ptr 1 0 0 0]], [.row false n 9 g t, .cells [.v (.int .i64 x)] 3] => some { val := valN, out := [.row false n 9 g t, .cells [.v (.int .i64 x)] 3], obl := [Nat.beq n m, allW m g, decide (m ≤ 2 ^ 38), !(okd (listW (itW g) m) && okt (mp x (listW (itW g) m))), inR x (-9223372036854775808) 9223372036854775807] }
  | _, _ => none
theorem ok_chYTu : SpecOk Try.prog 57 (specH [true] (FchYTu okD tidyL okT mpTu)) := by
  refine specH_ok gmChY_ok Try.func57 rfl fun avs H hr hF ho => ?_
  unfold FchYTu at hF
  split at hF
  · rename_i m n g t x
    cases hF
    simp only [ob_cons] at ho
    obtain ⟨h0, h1, h2, h3, hx, _⟩ := ho
    have h0 := Nat.eq_of_beq_eq_true h0
    subst h0
    have hm := of_decide_eq_true h2
    rw [Bool.and_eq_true] at h3
    obtain ⟨hd, ht⟩ := h3
    have hin := inwTu x hd
    have hs := sumCTu n (itW g) t x hm (fun w hw => valid_inB hd hw) hx
    refine ⟨[.row false n 9 (row9 (itW g)) t, .cells [.v (i64 x)] 3], lamCTu n (itW g) t x n (wfun ((listW (itW g) n).map (chTu x))), 100, .cons (ABeq.row fun j hj => allW_get h1 j hj) (.cons rfl .nil), lam1 (by kernel_rfl) hs, ?_⟩
    show GoodQ (execF Try.prog (gmChY okD tidyL okT inWB) (lamCTu n (itW g) t x n (wfun ((listW (itW g) n).map (chTu x)))) 100 Try.f57 [.sl 0 9 0 0 n none, fnTu] [.row false n 9 (row9 (itW g)) t, .cells [.v (i64 x)] 3] (packK 2)) _
    rw [treeYTu, row0, listW_itW, listW_self ((listW (itW g) n).map (chTu x)) n (by rw [List.length_map, listW_length])]
    refine good_needs (by simp only [ob_cons, ob_nil, and_true, decide_eq_true_eq, Nat.ble_eq, allW_row, true_and]; omega) (good_false (by rw [hd]; rfl) (good_needs ?_ (good_out ⟨rfl, .cons (ABeq.row fun j hj => (allW_get h1 j hj).symm) (.cons rfl (Hsim.refl _))⟩)))
    simp only [ob_cons, ob_nil, and_true, allW_row]
    exact ⟨decide_eq_true (by omega), chk_of ⟨rfl, (.cons (ABeq.refl _) (.cons (ABeq.refl _) (.cons (ABeq.row fun j hj => absurd hj (Nat.not_lt_zero _)) .nil)))⟩, by simp, trivial, decide_eq_true (by omega), chk_of hin, ht⟩
  · cases hF
theorem ok_chNTu : SpecOk Try.prog 57 (specH [true] (FchNTu okD okT mpTu)) := by
  refine specH_ok gmChN_ok Try.func57 rfl fun avs H hr hF ho => ?_
  unfold FchNTu at hF
  split at hF
  · rename_i m n g t x
    cases hF
    simp only [ob_cons] at ho
    obtain ⟨h0, h1, h2, h3, hx, _⟩ := ho
    have h0 := Nat.eq_of_beq_eq_true h0
    subst h0
    have hm := of_decide_eq_true h2
    cases hd : okD (listW (itW g) n) with
    | false =>
      have hz : SumOk Try.prog 2 (.block 0 (.loop (loopAt 0 Try.f57))) errS := errS_ok
      refine ⟨[.row false n 9 (row9 (itW g)) t, .cells [.v (i64 x)] 3], oneL 0 errS, 100, .cons (ABeq.row fun j hj => allW_get h1 j hj) (.cons rfl .nil), lam1 (by kernel_rfl) hz, ?_⟩
      show GoodQ (execF Try.prog (gmChN okD okT inWB) (oneL 0 errS) 100 Try.f57 [.sl 0 9 0 0 n none, fnTu] [.row false n 9 (row9 (itW g)) t, .cells [.v (i64 x)] 3] (packK 2)) _
      rw [treeETu, row0, listW_itW]
      exact good_needs (by simp only [ob_cons, ob_nil, and_true, decide_eq_true_eq, Nat.ble_eq, allW_row, true_and]; omega) (good_true (by rw [hd]; rfl) (good_out ⟨rfl, .cons (ABeq.row fun j hj => (allW_get h1 j hj).symm) (.cons rfl .nil)⟩))
    | true =>
    rw [hd, Bool.true_and] at h3
    have ht : okT ((listW (itW g) n).map (chTu x)) = false := by simpa using h3
    have hin := inwTu x hd
    have hs := sumCTu n (itW g) t x hm (fun w hw => valid_inB hd hw) hx
    refine ⟨[.row false n 9 (row9 (itW g)) t, .cells [.v (i64 x)] 3], lamCTu n (itW g) t x n (wfun ((listW (itW g) n).map (chTu x))), 100, .cons (ABeq.row fun j hj => allW_get h1 j hj) (.cons rfl .nil), lam1 (by kernel_rfl) hs, ?_⟩
    show GoodQ (execF Try.prog (gmChN okD okT inWB) (lamCTu n (itW g) t x n (wfun ((listW (itW g) n).map (chTu x)))) 100 Try.f57 [.sl 0 9 0 0 n none, fnTu] [.row false n 9 (row9 (itW g)) t, .cells [.v (i64 x)] 3] (packK 2)) _
    rw [treeNTu, row0, listW_itW, listW_self ((listW (itW g) n).map (chTu x)) n (by rw [List.length_map, listW_length])]
    refine good_needs (by simp only [ob_cons, ob_nil, and_true, decide_eq_true_eq, Nat.ble_eq, allW_row, true_and]; omega) (good_false (by rw [hd]; rfl) (good_needs ?_ (good_out ⟨rfl, .cons (ABeq.row fun j hj => (allW_get h1 j hj).symm) (.cons rfl .nil)⟩)))
    simp only [ob_cons, ob_nil, and_true, allW_row]
    exact ⟨decide_eq_true (by omega), chk_of ⟨rfl, (.cons (ABeq.refl _) (.cons (ABeq.refl _) (.cons (ABeq.row fun j hj => absurd hj (Nat.not_lt_zero _)) .nil)))⟩, by simp, trivial, decide_eq_true (by omega), chk_of hin, by rw [ht]; rfl⟩
  · cases hF

theorem treeELa (okd : List Wh → Bool) (okt inw : List Wh → Bool) (m : Nat) (f : Nat → Nat → Int) (t : TypeId) (x : Int) : execF Try.prog (gmChN okd okt inw) (oneL 0 errS) 100 Try.f57 [.sl 0 9 0 0 m none, fnLa] [.row false m 9 (row9 f) t, .cells [.v (i64 x)] 3] (packK 2)
    = needs [Nat.ble ((0 : Nat) + m) m, allW m fun q ↦ row9 f ((0 : Nat) + q), decide (m ≤ (549755813888 : Nat))] (bif !okd (listW (itW fun q ↦ row9 f ((0 : Nat) + q)) m) then Res.out Ex.ret [AV.tup [AV.v (Value.slice none (0 : Nat) (0 : Nat)), AV.v (Value.bool false)]] [AB.row false m (9 : Nat) (row9 f) t, AB.cells [AV.v (Value.int IntKind.i64 x)] (3 : TypeId)] else needs [decide ((↑m : Int) ≤ (1099511627776 : Int))] Res.err) := by kernel_rfl

def chLa (x : Int) (w : Wh) : Wh := ⟨w.s, cyOf (tuF w.r.f (IntKind.wrap IntKind.i64 (x * w.s)))⟩
abbrev mpLa : Int → List Wh → List Wh := fun x L => L.map (chLa x)
theorem inwLa (x : Int) {L : List Wh} (h : okD L = true) : inW (L.map (chLa x)) := by
  intro w' hw'
  obtain ⟨w, hw, rfl⟩ := List.mem_map.1 hw'
  exact cyOf_in (turnedF_in (valid_in h hw) _)
theorem sumCLa (m : Nat) (f : Nat → Nat → Int) (t : TypeId) (x : Int) (hm : m ≤ 2 ^ 38) (hok : ∀ w ∈ listW f m, inB w.r.f = true) :
    SumOk Try.prog 2 (.block 0 (.loop (loopAt 0 Try.f57))) (atS 32 (lvCh .normal) 2 (stCLa m 0 0) (hpCLa m f t x 0 (wfun [])) (fun K => K .normal (mkT 0 32 [(6, .own 2 m)]) (hpCLa m f t x m (wfun ((listW f m).map (chLa x)))))) := by
  refine for_at gmC_ok (n := 100) (m := 2) (lv := lvCh) (fun i => stCLa m i i) (fun i => hpCLa m f t x i (wfun ((listW f i).map (chLa x)))) (fun _ => True) m (fun _ => noLam) (lv3_ris rfl rfl rfl) (Nat.le_refl _) trivial fun K Q hk i hi him => ⟨noLam_ok _ _ _, ?_⟩
  rw [rndCLa]
  refine good_cond (fun c1 => ?_) fun c1 => ?_
  · have c1 := of_decide_eq_true c1
    have c1' : i < m := by omega
    rw [Int.toNat_natCast, Nat.zero_add, wr_in (x := (i : Int) + 1) (by omega)]
    refine good_needs (by simp only [ob_cons, ob_nil, and_true, decide_eq_true_eq, Nat.ble_eq]; exact ⟨by omega, by omega, hok _ (List.mem_of_getElem? (listW_get f c1')), inR_iff.2 (w64_range _), by omega, by omega⟩) (good_out ⟨i + 1, ⟨rfl, c1', trivial⟩, rfl, ?_⟩)
    show Hsim _ (hpCLa m f t x (i + 1) (wfun ((listW f (i + 1)).map (chLa x))))
    rw [listW_succ, List.map_append]
    refine (.cons (ABeq.refl _) (.cons (ABeq.refl _) (.cons (ABeq.row fun q hq => ?_) .nil)))
    exact ch_row _ ((chLa x) (whOf (f i))) i (by rw [List.length_map, listW_length]) q hq
  · have c1 := of_decide_eq_false c1
    have : i = m := by omega
    subst this
    refine good_out ⟨_, Hsim.refl _, ?_⟩
    rw [if_pos rfl]
    exact hk

def FchYLa (okd : List Wh → Bool) (ti : List Wh → List Wh) (okt : List Wh → Bool) (mp : Int → List Wh → List Wh) : List AV → List AB → Option HR
  | [.sl 0 9 0 0 m none, .fn 68 [.ptr 1 0 0 0]], [.row false n 9 g t, .cells [.v (.int .i64 x)] 3] => some { val := .tup [.sl 2 9 0 0 (ti (mp x (listW (itW g) m))).length (some (ti (mp x (listW (itW g) m))).length), .v (.bool true)], out := [.row false n 9 g t, .cells [.v (.int .i64 x)] 3], new := newY (ti (mp x (listW (itW g) m))), obl := [Nat.beq n m, allW m g, decide (m ≤ 2 ^ 38), okd (listW (itW g) m) && okt (mp x (listW (itW g) m))] }
  | _, _ => none
def FchNLa (okd : List Wh → Bool) (okt : List Wh → Bool) (mp : Int → List Wh → List Wh) : List AV → List AB → Option HR
  | [.sl 0 9 0 0 m none, .fn 68 [.ptr 1 0 0 0]], [.row false n 9 g t, .cells [.v (.int .i64 x)] 3] => some { val := valN, out := [.row false n 9 g t, .cells [.v (.int .i64 x)] 3], obl := [Nat.beq n m, allW m g, decide (m ≤ 2 ^ 38), !(okd (listW (itW g) m) && okt (mp x (listW (itW g) m)))] }
  | _, _ => none
theorem ok_chYLa : SpecOk Try.prog 57 (specH [true] (FchYLa okD tidyL okT mpLa)) := by
  refine specH_ok gmChY_ok Try.func57 rfl fun avs H hr hF ho => ?_
  unfold FchYLa at hF
  split at hF
  · rename_i m n g t x
    cases hF
    simp only [ob_cons] at ho
    obtain ⟨h0, h1, h2, h3, _⟩ := ho
    have h0 := Nat.eq_of_beq_eq_true h0
    subst h0
    have hm := of_decide_eq_true h2
    rw [Bool.and_eq_true] at h3
    obtain ⟨hd, ht⟩ := h3
    have hin := inwLa x hd
    have hs := sumCLa n (itW g) t x hm (fun w hw => valid_inB hd hw)
    refine ⟨[.row false n 9 (row9 (itW g)) t, .cells [.v (i64 x)] 3], lamCLa n (itW g) t x n (wfun ((listW (itW g) n).map (chLa x))), 100, .cons (ABeq.row fun j hj => allW_get h1 j hj) (.cons rfl .nil), lam1 (by kernel_rfl) hs, ?_⟩
    show GoodQ (execF Try.prog (gmChY okD tidyL okT inWB) (lamCLa n (itW g) t x n (wfun ((listW (itW g) n).map (chLa x)))) 100 Try.f57 [.sl 0 9 0 0 n none, fnLa] [.row false n 9 (row9 (itW g)) t, .cells [.v (i64 x)] 3] (packK 2)) _
    rw [treeYLa, row0, listW_itW, listW_self ((listW (itW g) n).map (chLa x)) n (by rw [List.length_map, listW_length])]
    refine good_needs (by simp only [ob_cons, ob_nil, and_true, decide_eq_true_eq, Nat.ble_eq, allW_row, true_and]; omega) (good_false (by rw [hd]; rfl) (good_needs ?_ (good_out ⟨rfl, .cons (ABeq.row fun j hj => (allW_get h1 j hj).symm) (.cons rfl (Hsim.refl _))⟩)))
    simp only [ob_cons, ob_nil, and_true, allW_row]
    exact ⟨decide_eq_true (by omega), chk_of ⟨rfl, (.cons (ABeq.refl _) (.cons (ABeq.refl _) (.cons (ABeq.row fun j hj => absurd hj (Nat.not_lt_zero _)) .nil)))⟩, by simp, trivial, decide_eq_true (by omega), chk_of hin, ht⟩
  · cases hF
theorem ok_chNLa : SpecOk Try.prog 57 (specH [true] (FchNLa okD okT mpLa)) := by
  refine specH_ok gmChN_ok Try.func57 rfl fun avs H hr hF ho => ?_
  unfold FchNLa at hF
  split at hF
  · rename_i m n g t x
    cases hF
    simp only [ob_cons] at ho
    obtain ⟨h0, h1, h2, h3, _⟩ := ho
    have h0 := Nat.eq_of_beq_eq_true h0
    subst h0
    have hm := of_decide_eq_true h2
    cases hd : okD (listW (itW g) n) with
    | false =>
      have hz : SumOk Try.prog 2 (.block 0 (.loop (loopAt 0 Try.f57))) errS := errS_ok
      refine ⟨[.row false n 9 (row9 (itW g)) t, .cells [.v (i64 x)] 3], oneL 0 errS, 100, .cons (ABeq.row fun j hj => allW_get h1 j hj) (.cons rfl .nil), lam1 (by kernel_rfl) hz, ?_⟩
      show GoodQ (execF Try.prog (gmChN okD okT inWB) (oneL 0 errS) 100 Try.f57 [.sl 0 9 0 0 n none, fnLa] [.row false n 9 (row9 (itW g)) t, .cells [.v (i64 x)] 3] (packK 2)) _
      rw [treeELa, row0, listW_itW]
      exact good_needs (by simp only [ob_cons, ob_nil, and_true, decide_eq_true_eq, Nat.ble_eq, allW_row, true_and]; omega) (good_true (by rw [hd]; rfl) (good_out ⟨rfl, .cons (ABeq.row fun j hj => (allW_get h1 j hj).symm) (.cons rfl .nil)⟩))
    | true =>
    rw [hd, Bool.true_and] at h3
    have ht : okT ((listW (itW g) n).map (chLa x)) = false := by simpa using h3
    have hin := inwLa x hd
    have hs := sumCLa n (itW g) t x hm (fun w hw => valid_inB hd hw)
    refine ⟨[.row false n 9 (row9 (itW g)) t, .cells [.v (i64 x)] 3], lamCLa n (itW g) t x n (wfun ((listW (itW g) n).map (chLa x))), 100, .cons (ABeq.row fun j hj => allW_get h1 j hj) (.cons rfl .nil), lam1 (by kernel_rfl) hs, ?_⟩
    show GoodQ (execF Try.prog (gmChN okD okT inWB) (lamCLa n (itW g) t x n (wfun ((listW (itW g) n).map (chLa x)))) 100 Try.f57 [.sl 0 9 0 0 n none, fnLa] [.row false n 9 (row9 (itW g)) t, .cells [.v (i64 x)] 3] (packK 2)) _
    rw [treeNLa, row0, listW_itW, listW_self ((listW (itW g) n).map (chLa x)) n (by rw [List.length_map, listW_length])]
    refine good_needs (by simp only [ob_cons, ob_nil, and_true, decide_eq_true_eq, Nat.ble_eq, allW_row, true_and]; omega) (good_false (by rw [hd]; rfl) (good_needs ?_ (good_out ⟨rfl, .cons (ABeq.row fun j hj => (allW_get h1 j hj).symm) (.cons rfl .nil)⟩)))
    simp only [ob_cons, ob_nil, and_true, allW_row]
    exact ⟨decide_eq_true (by omega), chk_of ⟨rfl, (.cons (ABeq.refl _) (.cons (ABeq.refl _) (.cons (ABeq.row fun j hj => absurd hj (Nat.not_lt_zero _)) .nil)))⟩, by simp, trivial, decide_eq_true (by omega), chk_of hin, by rw [ht]; rfl⟩
  · cases hF

theorem treeEBa (okd : List Wh → Bool) (okt inw : List Wh → Bool) (m : Nat) (f : Nat → Nat → Int) (t : TypeId) : execF Try.prog (gmChN okd okt inw) (oneL 0 errS) 100 Try.f57 [.sl 0 9 0 0 m none, fnBa] [.row false m 9 (row9 f) t] (packK 1)
    = needs [Nat.ble ((0 : Nat) + m) m, allW m fun q ↦ row9 f ((0 : Nat) + q), decide (m ≤ (549755813888 : Nat))] (bif !okd (listW (itW fun q ↦ row9 f ((0 : Nat) + q)) m) then Res.out Ex.ret [AV.tup [AV.v (Value.slice none (0 : Nat) (0 : Nat)), AV.v (Value.bool false)]] [AB.row false m (9 : Nat) (row9 f) t] else needs [decide ((↑m : Int) ≤ (1099511627776 : Int))] Res.err) := by kernel_rfl

def chBa (w : Wh) : Wh := ⟨IntKind.wrap IntKind.i64 (0 - w.s), w.r⟩
abbrev mpBa : List Wh → List Wh := fun L => L.map chBa
theorem inwBa {L : List Wh} (h : okD L = true) : inW (L.map chBa) := by
  intro w' hw'
  obtain ⟨w, hw, rfl⟩ := List.mem_map.1 hw'
  exact (valid_in h hw : cyIn w.r)
theorem sumCBa (m : Nat) (f : Nat → Nat → Int) (t : TypeId) (hm : m ≤ 2 ^ 38) (hok : ∀ w ∈ listW f m, inB w.r.f = true) :
    SumOk Try.prog 1 (.block 0 (.loop (loopAt 0 Try.f57))) (atS 32 (lvCh .normal) 1 (stCBa m 0 0) (hpCBa m f t 0 (wfun [])) (fun K => K .normal (mkT 0 32 [(6, .own 1 m)]) (hpCBa m f t m (wfun ((listW f m).map chBa))))) := by
  refine for_at gmC_ok (n := 100) (m := 1) (lv := lvCh) (fun i => stCBa m i i) (fun i => hpCBa m f t i (wfun ((listW f i).map chBa))) (fun _ => True) m (fun _ => noLam) (lv3_ris rfl rfl rfl) (Nat.le_refl _) trivial fun K Q hk i hi him => ⟨noLam_ok _ _ _, ?_⟩
  rw [rndCBa]
  refine good_cond (fun c1 => ?_) fun c1 => ?_
  · have c1 := of_decide_eq_true c1
    have c1' : i < m := by omega
    rw [Int.toNat_natCast, Nat.zero_add, wr_in (x := (i : Int) + 1) (by omega)]
    refine good_needs (by simp only [ob_cons, ob_nil, and_true, decide_eq_true_eq, Nat.ble_eq]; omega) (good_out ⟨i + 1, ⟨rfl, c1', trivial⟩, rfl, ?_⟩)
    show Hsim _ (hpCBa m f t (i + 1) (wfun ((listW f (i + 1)).map chBa)))
    rw [listW_succ, List.map_append]
    refine (.cons (ABeq.refl _) (.cons (ABeq.row fun q hq => ?_) .nil))
    exact ch_row _ (chBa (whOf (f i))) i (by rw [List.length_map, listW_length]) q hq
  · have c1 := of_decide_eq_false c1
    have : i = m := by omega
    subst this
    refine good_out ⟨_, Hsim.refl _, ?_⟩
    rw [if_pos rfl]
    exact hk

def FchYBa (okd : List Wh → Bool) (ti : List Wh → List Wh) (okt : List Wh → Bool) (mp : List Wh → List Wh) : List AV → List AB → Option HR
  | [.sl 0 9 0 0 m none, .fn 133 []], [.row false n 9 g t] => some { val := .tup [.sl 1 9 0 0 (ti (mp (listW (itW g) m))).length (some (ti (mp (listW (itW g) m))).length), .v (.bool true)], out := [.row false n 9 g t], new := newY (ti (mp (listW (itW g) m))), obl := [Nat.beq n m, allW m g, decide (m ≤ 2 ^ 38), okd (listW (itW g) m) && okt (mp (listW (itW g) m))] }
  | _, _ => none
def FchNBa (okd : List Wh → Bool) (okt : List Wh → Bool) (mp : List Wh → List Wh) : List AV → List AB → Option HR
  | [.sl 0 9 0 0 m none, .fn 133 []], [.row false n 9 g t] => some { val := valN, out := [.row false n 9 g t], obl := [Nat.beq n m, allW m g, decide (m ≤ 2 ^ 38), !(okd (listW (itW g) m) && okt (mp (listW (itW g) m)))] }
  | _, _ => none
theorem ok_chYBa : SpecOk Try.prog 57 (specH [true] (FchYBa okD tidyL okT mpBa)) := by
  refine specH_ok gmChY_ok Try.func57 rfl fun avs H hr hF ho => ?_
  unfold FchYBa at hF
  split at hF
  · rename_i m n g t
    cases hF
    simp only [ob_cons] at ho
    obtain ⟨h0, h1, h2, h3, _⟩ := ho
    have h0 := Nat.eq_of_beq_eq_true h0
    subst h0
    have hm := of_decide_eq_true h2
    rw [Bool.and_eq_true] at h3
    obtain ⟨hd, ht⟩ := h3
    have hin := inwBa hd
    have hs := sumCBa n (itW g) t hm (fun w hw => valid_inB hd hw)
    refine ⟨[.row false n 9 (row9 (itW g)) t], lamCBa n (itW g) t n (wfun ((listW (itW g) n).map chBa)), 100, .cons (ABeq.row fun j hj => allW_get h1 j hj) .nil, lam1 (by kernel_rfl) hs, ?_⟩
    show GoodQ (execF Try.prog (gmChY okD tidyL okT inWB) (lamCBa n (itW g) t n (wfun ((listW (itW g) n).map chBa))) 100 Try.f57 [.sl 0 9 0 0 n none, fnBa] [.row false n 9 (row9 (itW g)) t] (packK 1)) _
    rw [treeYBa, row0, listW_itW, listW_self ((listW (itW g) n).map chBa) n (by rw [List.length_map, listW_length])]
    refine good_needs (by simp only [ob_cons, ob_nil, and_true, decide_eq_true_eq, Nat.ble_eq, allW_row, true_and]; omega) (good_false (by rw [hd]; rfl) (good_needs ?_ (good_out ⟨rfl, .cons (ABeq.row fun j hj => (allW_get h1 j hj).symm) (Hsim.refl _)⟩)))
    simp only [ob_cons, ob_nil, and_true, allW_row]
    exact ⟨decide_eq_true (by omega), chk_of ⟨rfl, (.cons (ABeq.refl _) (.cons (ABeq.row fun j hj => absurd hj (Nat.not_lt_zero _)) .nil))⟩, by simp, trivial, decide_eq_true (by omega), chk_of hin, ht⟩
  · cases hF
theorem ok_chNBa : SpecOk Try.prog 57 (specH [true] (FchNBa okD okT mpBa)) := by
  refine specH_ok gmChN_ok Try.func57 rfl fun avs H hr hF ho => ?_
  unfold FchNBa at hF
  split at hF
  · rename_i m n g t
    cases hF
    simp only [ob_cons] at ho
    obtain ⟨h0, h1, h2, h3, _⟩ := ho
    have h0 := Nat.eq_of_beq_eq_true h0
    subst h0
    have hm := of_decide_eq_true h2
    cases hd : okD (listW (itW g) n) with
    | false =>
      have hz : SumOk Try.prog 1 (.block 0 (.loop (loopAt 0 Try.f57))) errS := errS_ok
      refine ⟨[.row false n 9 (row9 (itW g)) t], oneL 0 errS, 100, .cons (ABeq.row fun j hj => allW_get h1 j hj) .nil, lam1 (by kernel_rfl) hz, ?_⟩
      show GoodQ (execF Try.prog (gmChN okD okT inWB) (oneL 0 errS) 100 Try.f57 [.sl 0 9 0 0 n none, fnBa] [.row false n 9 (row9 (itW g)) t] (packK 1)) _
      rw [treeEBa, row0, listW_itW]
      exact good_needs (by simp only [ob_cons, ob_nil, and_true, decide_eq_true_eq, Nat.ble_eq, allW_row, true_and]; omega) (good_true (by rw [hd]; rfl) (good_out ⟨rfl, .cons (ABeq.row fun j hj => (allW_get h1 j hj).symm) .nil⟩))
    | true =>
    rw [hd, Bool.true_and] at h3
    have ht : okT ((listW (itW g) n).map chBa) = false := by simpa using h3
    have hin := inwBa hd
    have hs := sumCBa n (itW g) t hm (fun w hw => valid_inB hd hw)
    refine ⟨[.row false n 9 (row9 (itW g)) t], lamCBa n (itW g) t n (wfun ((listW (itW g) n).map chBa)), 100, .cons (ABeq.row fun j hj => allW_get h1 j hj) .nil, lam1 (by kernel_rfl) hs, ?_⟩
    show GoodQ (execF Try.prog (gmChN okD okT inWB) (lamCBa n (itW g) t n (wfun ((listW (itW g) n).map chBa))) 100 Try.f57 [.sl 0 9 0 0 n none, fnBa] [.row false n 9 (row9 (itW g)) t] (packK 1)) _
    rw [treeNBa, row0, listW_itW, listW_self ((listW (itW g) n).map chBa) n (by rw [List.length_map, listW_length])]
    refine good_needs (by simp only [ob_cons, ob_nil, and_true, decide_eq_true_eq, Nat.ble_eq, allW_row, true_and]; omega) (good_false (by rw [hd]; rfl) (good_needs ?_ (good_out ⟨rfl, .cons (ABeq.row fun j hj => (allW_get h1 j hj).symm) .nil⟩)))
    simp only [ob_cons, ob_nil, and_true, allW_row]
    exact ⟨decide_eq_true (by omega), chk_of ⟨rfl, (.cons (ABeq.refl _) (.cons (ABeq.row fun j hj => absurd hj (Nat.not_lt_zero _)) .nil))⟩, by simp, trivial, decide_eq_true (by omega), chk_of hin, by rw [ht]; rfl⟩
  · cases hF

theorem treeEMi (okd : List Wh → Bool) (okt inw : List Wh → Bool) (m : Nat) (f : Nat → Nat → Int) (t : TypeId) : execF Try.prog (gmChN okd okt inw) (oneL 0 errS) 100 Try.f57 [.sl 0 9 0 0 m none, fnMi] [.row false m 9 (row9 f) t] (packK 1)
    = needs [Nat.ble ((0 : Nat) + m) m, allW m fun q ↦ row9 f ((0 : Nat) + q), decide (m ≤ (549755813888 : Nat))] (bif !okd (listW (itW fun q ↦ row9 f ((0 : Nat) + q)) m) then Res.out Ex.ret [AV.tup [AV.v (Value.slice none (0 : Nat) (0 : Nat)), AV.v (Value.bool false)]] [AB.row false m (9 : Nat) (row9 f) t] else needs [decide ((↑m : Int) ≤ (1099511627776 : Int))] Res.err) := by kernel_rfl

def chMi (w : Wh) : Wh := ⟨IntKind.wrap IntKind.i64 (0 - w.s), cyOf (mirF w.r.f)⟩
abbrev mpMi : List Wh → List Wh := fun L => L.map chMi
theorem inwMi {L : List Wh} (h : okD L = true) : inW (L.map chMi) := by
  intro w' hw'
  obtain ⟨w, hw, rfl⟩ := List.mem_map.1 hw'
  exact cyOf_in fun k _ => w64_range _
theorem sumCMi (m : Nat) (f : Nat → Nat → Int) (t : TypeId) (hm : m ≤ 2 ^ 38) (hok : ∀ w ∈ listW f m, inB w.r.f = true) :
    SumOk Try.prog 1 (.block 0 (.loop (loopAt 0 Try.f57))) (atS 32 (lvCh .normal) 1 (stCMi m 0 0) (hpCMi m f t 0 (wfun [])) (fun K => K .normal (mkT 0 32 [(6, .own 1 m)]) (hpCMi m f t m (wfun ((listW f m).map chMi))))) := by
  refine for_at gmC_ok (n := 100) (m := 1) (lv := lvCh) (fun i => stCMi m i i) (fun i => hpCMi m f t i (wfun ((listW f i).map chMi))) (fun _ => True) m (fun _ => noLam) (lv3_ris rfl rfl rfl) (Nat.le_refl _) trivial fun K Q hk i hi him => ⟨noLam_ok _ _ _, ?_⟩
  rw [rndCMi]
  refine good_cond (fun c1 => ?_) fun c1 => ?_
  · have c1 := of_decide_eq_true c1
    have c1' : i < m := by omega
    rw [Int.toNat_natCast, Nat.zero_add, wr_in (x := (i : Int) + 1) (by omega)]
    refine good_needs (by simp only [ob_cons, ob_nil, and_true, decide_eq_true_eq, Nat.ble_eq]; omega) (good_out ⟨i + 1, ⟨rfl, c1', trivial⟩, rfl, ?_⟩)
    show Hsim _ (hpCMi m f t (i + 1) (wfun ((listW f (i + 1)).map chMi)))
    rw [listW_succ, List.map_append]
    refine (.cons (ABeq.refl _) (.cons (ABeq.row fun q hq => ?_) .nil))
    exact ch_row _ (chMi (whOf (f i))) i (by rw [List.length_map, listW_length]) q hq
  · have c1 := of_decide_eq_false c1
    have : i = m := by omega
    subst this
    refine good_out ⟨_, Hsim.refl _, ?_⟩
    rw [if_pos rfl]
    exact hk

def FchYMi (okd : List Wh → Bool) (ti : List Wh → List Wh) (okt : List Wh → Bool) (mp : List Wh → List Wh) : List AV → List AB → Option HR
  | [.sl 0 9 0 0 m none, .fn 58 []], [.row false n 9 g t] => some { val := .tup [.sl 1 9 0 0 (ti (mp (listW (itW g) m))).length (some (ti (mp (listW (itW g) m))).length), .v (.bool true)], out := [.row false n 9 g t], new := newY (ti (mp (listW (itW g) m))), obl := [Nat.beq n m, allW m g, decide (m ≤ 2 ^ 38), okd (listW (itW g) m) && okt (mp (listW (itW g) m))] }
  | _, _ => none
def FchNMi (okd : List Wh → Bool) (okt : List Wh → Bool) (mp : List Wh → List Wh) : List AV → List AB → Option HR
  | [.sl 0 9 0 0 m none, .fn 58 []], [.row false n 9 g t] => some { val := valN, out := [.row false n 9 g t], obl := [Nat.beq n m, allW m g, decide (m ≤ 2 ^ 38), !(okd (listW (itW g) m) && okt (mp (listW (itW g) m)))] }
  | _, _ => none
theorem ok_chYMi : SpecOk Try.prog 57 (specH [true] (FchYMi okD tidyL okT mpMi)) := by
  refine specH_ok gmChY_ok Try.func57 rfl fun avs H hr hF ho => ?_
  unfold FchYMi at hF
  split at hF
  · rename_i m n g t
    cases hF
    simp only [ob_cons] at ho
    obtain ⟨h0, h1, h2, h3, _⟩ := ho
    have h0 := Nat.eq_of_beq_eq_true h0
    subst h0
    have hm := of_decide_eq_true h2
    rw [Bool.and_eq_true] at h3
    obtain ⟨hd, ht⟩ := h3
    have hin := inwMi hd
    have hs := sumCMi n (itW g) t hm (fun w hw => valid_inB hd hw)
    refine ⟨[.row false n 9 (row9 (itW g)) t], lamCMi n (itW g) t n (wfun ((listW (itW g) n).map chMi)), 100, .cons (ABeq.row fun j hj => allW_get h1 j hj) .nil, lam1 (by kernel_rfl) hs, ?_⟩
    show GoodQ (execF Try.prog (gmChY okD tidyL okT inWB) (lamCMi n (itW g) t n (wfun ((listW (itW g) n).map chMi))) 100 Try.f57 [.sl 0 9 0 0 n none, fnMi] [.row false n 9 (row9 (itW g)) t] (packK 1)) _
    rw [treeYMi, row0, listW_itW, listW_self ((listW (itW g) n).map chMi) n (by rw [List.length_map, listW_length])]
    refine good_needs (by simp only [ob_cons, ob_nil, and_true, decide_eq_true_eq, Nat.ble_eq, allW_row, true_and]; omega) (good_false (by rw [hd]; rfl) (good_needs ?_ (good_out ⟨rfl, .cons (ABeq.row fun j hj => (allW_get h1 j hj).symm) (Hsim.refl _)⟩)))
    simp only [ob_cons, ob_nil, and_true, allW_row]
    exact ⟨decide_eq_true (by omega), chk_of ⟨rfl, (.cons (ABeq.refl _) (.cons (ABeq.row fun j hj => absurd hj (Nat.not_lt_zero _)) .nil))⟩, by simp, trivial, decide_eq_true (by omega), chk_of hin, ht⟩
  · cases hF
theorem ok_chNMi : SpecOk Try.prog 57 (specH [true] (FchNMi okD okT mpMi)) := by
  refine specH_ok gmChN_ok Try.func57 rfl fun avs H hr hF ho => ?_
  unfold FchNMi at hF
  split at hF
  · rename_i m n g t
    cases hF
    simp only [ob_cons] at ho
    obtain ⟨h0, h1, h2, h3, _⟩ := ho
    have h0 := Nat.eq_of_beq_eq_true h0
    subst h0
    have hm := of_decide_eq_true h2
    cases hd : okD (listW (itW g) n) with
    | false =>
      have hz : SumOk Try.prog 1 (.block 0 (.loop (loopAt 0 Try.f57))) errS := errS_ok
      refine ⟨[.row false n 9 (row9 (itW g)) t], oneL 0 errS, 100, .cons (ABeq.row fun j hj => allW_get h1 j hj) .nil, lam1 (by kernel_rfl) hz, ?_⟩
      show GoodQ (execF Try.prog (gmChN okD okT inWB) (oneL 0 errS) 100 Try.f57 [.sl 0 9 0 0 n none, fnMi] [.row false n 9 (row9 (itW g)) t] (packK 1)) _
      rw [treeEMi, row0, listW_itW]
      exact good_needs (by simp only [ob_cons, ob_nil, and_true, decide_eq_true_eq, Nat.ble_eq, allW_row, true_and]; omega) (good_true (by rw [hd]; rfl) (good_out ⟨rfl, .cons (ABeq.row fun j hj => (allW_get h1 j hj).symm) .nil⟩))
    | true =>
    rw [hd, Bool.true_and] at h3
    have ht : okT ((listW (itW g) n).map chMi) = false := by simpa using h3
    have hin := inwMi hd
    have hs := sumCMi n (itW g) t hm (fun w hw => valid_inB hd hw)
    refine ⟨[.row false n 9 (row9 (itW g)) t], lamCMi n (itW g) t n (wfun ((listW (itW g) n).map chMi)), 100, .cons (ABeq.row fun j hj => allW_get h1 j hj) .nil, lam1 (by kernel_rfl) hs, ?_⟩
    show GoodQ (execF Try.prog (gmChN okD okT inWB) (lamCMi n (itW g) t n (wfun ((listW (itW g) n).map chMi))) 100 Try.f57 [.sl 0 9 0 0 n none, fnMi] [.row false n 9 (row9 (itW g)) t] (packK 1)) _
    rw [treeNMi, row0, listW_itW, listW_self ((listW (itW g) n).map chMi) n (by rw [List.length_map, listW_length])]
    refine good_needs (by simp only [ob_cons, ob_nil, and_true, decide_eq_true_eq, Nat.ble_eq, allW_row, true_and]; omega) (good_false (by rw [hd]; rfl) (good_needs ?_ (good_out ⟨rfl, .cons (ABeq.row fun j hj => (allW_get h1 j hj).symm) .nil⟩)))
    simp only [ob_cons, ob_nil, and_true, allW_row]
    exact ⟨decide_eq_true (by omega), chk_of ⟨rfl, (.cons (ABeq.refl _) (.cons (ABeq.row fun j hj => absurd hj (Nat.not_lt_zero _)) .nil))⟩, by simp, trivial, decide_eq_true (by omega), chk_of hin, by rw [ht]; rfl⟩
  · cases hF

end Go.Proofs.Ytnlfdcjpeoafhaa

/- The program's designs changed: DesignTidy, DesignTurned, DesignLater, DesignBack, DesignMirror. Conditions: a list of wheels. -/
namespace Go.Proofs.Ytnlfdcjpeoafhaa
open Go.RowKit
set_option maxRecDepth 100000

/-- The list is a design, and what comes of it too. -/
def yesTi (L : List Wh) : Bool := (okD L && okT (L.map chTi))
def FdeYTi (yes : List Wh → Bool) (ti : List Wh → List Wh) (mp : List Wh → List Wh) : List SA → Option FR
  | [.row m g] => some { val := valY (ti (mp (listW (itW g) m))), new := newY (ti (mp (listW (itW g) m))), obl := [allW m g, decide (m ≤ 2 ^ 38), yes (listW (itW g) m)] }
  | _ => none
def FdeNTi (yes : List Wh → Bool) : List SA → Option FR
  | [.row m g] => some { val := valN, obl := [allW m g, decide (m ≤ 2 ^ 38), !yes (listW (itW g) m)] }
  | _ => none
theorem treeDYTi (okd : List Wh → Bool) (ti : List Wh → List Wh) (okt : List Wh → Bool) (mp : List Wh → List Wh) (m : Nat) (f : Nat → Nat → Int) : execF Try.prog (ext gm_within 57 (specH [true] (FchYTi okd ti okt mp))) noLam 100 Try.f52 [.sl 0 9 0 0 m none] [.row false m 9 (row9 f) 67] (packK 1)
    = needs [Nat.beq m m, allW m (row9 f), decide (m ≤ (274877906944 : Nat)), okd (listW (itW (row9 f)) m) && okt (mp (listW (itW (row9 f)) m))] (Res.out Ex.ret [AV.tup [AV.sl (1 : Nat) (9 : Nat) (0 : Nat) (0 : Nat) (List.length (ti (mp (listW (itW (row9 f)) m)))) (some (List.length (ti (mp (listW (itW (row9 f)) m))))), AV.v (Value.bool true)]] [AB.row false m (9 : Nat) (row9 f) (67 : TypeId), AB.row true (List.length (ti (mp (listW (itW (row9 f)) m)))) (9 : Nat) (row9 (wfun (ti (mp (listW (itW (row9 f)) m))))) (67 : TypeId)]) := by kernel_rfl

theorem treeDNTi (okd : List Wh → Bool) (okt : List Wh → Bool) (mp : List Wh → List Wh) (m : Nat) (f : Nat → Nat → Int) : execF Try.prog (ext gm_within 57 (specH [true] (FchNTi okd okt mp))) noLam 100 Try.f52 [.sl 0 9 0 0 m none] [.row false m 9 (row9 f) 67] (packK 1)
    = needs [Nat.beq m m, allW m (row9 f), decide (m ≤ (274877906944 : Nat)), !(okd (listW (itW (row9 f)) m) && okt (mp (listW (itW (row9 f)) m)))] (Res.out Ex.ret [AV.tup [AV.v (Value.slice none (0 : Nat) (0 : Nat)), AV.v (Value.bool false)]] [AB.row false m (9 : Nat) (row9 f) (67 : TypeId)]) := by kernel_rfl

theorem ok_deYTi : SpecOk Try.prog 52 (specR md_ws (FdeYTi yesTi tidyL mpTi)) := by
  refine specR_hr (ext_ok gm_within_ok ok_chYTi) Try.func52 rfl fun sas fr hF ho => ?_
  unfold FdeYTi at hF
  split at hF
  · rename_i m g
    cases hF
    simp only [ob_cons] at ho
    obtain ⟨h1, h2, h3, _⟩ := ho
    have hm := of_decide_eq_true h2
    refine ⟨[.row false m 9 (row9 (itW g)) 67], noLam, 100, .cons (ABeq.row fun j hj => allW_get h1 j hj) .nil, noLam' _, ?_⟩
    show GoodQ (execF Try.prog (ext gm_within 57 (specH [true] (FchYTi okD tidyL okT mpTi))) noLam 100 Try.f52 [.sl 0 9 0 0 m none] [.row false m 9 (row9 (itW g)) 67] (packK 1)) _
    rw [treeDYTi]
    rw [yesTi] at h3
    exact good_needs (by simp only [ob_cons, ob_nil, and_true, beq_me, allW_row, listW_itW, true_and]; exact ⟨decide_eq_true hm, h3⟩) (good_out ⟨_, rfl, rfl, .cons (ABeq.row fun j hj => (allW_get h1 j hj).symm) (Hsim.refl _)⟩)
  · cases hF
theorem ok_deNTi : SpecOk Try.prog 52 (specR md_ws (FdeNTi yesTi)) := by
  refine specR_hr (ext_ok gm_within_ok ok_chNTi) Try.func52 rfl fun sas fr hF ho => ?_
  unfold FdeNTi at hF
  split at hF
  · rename_i m g
    cases hF
    simp only [ob_cons] at ho
    obtain ⟨h1, h2, h3, _⟩ := ho
    have hm := of_decide_eq_true h2
    refine ⟨[.row false m 9 (row9 (itW g)) 67], noLam, 100, .cons (ABeq.row fun j hj => allW_get h1 j hj) .nil, noLam' _, ?_⟩
    show GoodQ (execF Try.prog (ext gm_within 57 (specH [true] (FchNTi okD okT mpTi))) noLam 100 Try.f52 [.sl 0 9 0 0 m none] [.row false m 9 (row9 (itW g)) 67] (packK 1)) _
    rw [treeDNTi]
    rw [yesTi] at h3
    exact good_needs (by simp only [ob_cons, ob_nil, and_true, beq_me, allW_row, listW_itW, true_and]; exact ⟨decide_eq_true hm, h3⟩) (good_out ⟨_, rfl, rfl, .cons (ABeq.row fun j hj => (allW_get h1 j hj).symm) .nil⟩)
  · cases hF

/-- The list is a design, and what comes of it too. -/
def yesTu (x : Int) (L : List Wh) : Bool := inR x 0 23 && (okD L && okT (L.map (chTu x)))
def FdeYTu (yes : Int → List Wh → Bool) (ti : List Wh → List Wh) (mp : Int → List Wh → List Wh) : List SA → Option FR
  | [.row m g, .v (.int .i64 x)] => some { val := valY (ti (mp x (listW (itW g) m))), new := newY (ti (mp x (listW (itW g) m))), obl := [allW m g, decide (m ≤ 2 ^ 38), yes x (listW (itW g) m)] }
  | _ => none
def FdeNTu (yes : Int → List Wh → Bool) : List SA → Option FR
  | [.row m g, .v (.int .i64 x)] => some { val := valN, obl := [allW m g, decide (m ≤ 2 ^ 38), !yes x (listW (itW g) m)] }
  | _ => none
theorem treeDYTu (okd : List Wh → Bool) (ti : List Wh → List Wh) (okt : List Wh → Bool) (mp : Int → List Wh → List Wh) (m : Nat) (f : Nat → Nat → Int) (x : Int) : execF Try.prog (ext gm_within 57 (specH [true] (FchYTu okd ti okt mp))) noLam 100 Try.f27 [.sl 0 9 0 0 m none, .v (i64 x)] [.row false m 9 (row9 f) 67] (packK 1)
    = bif !inR x (0 : Int) (23 : Int) then Res.out Ex.ret [AV.tup [AV.v (Value.slice none (0 : Nat) (0 : Nat)), AV.v (Value.bool false)]] [AB.row false m (9 : Nat) (row9 f) (67 : TypeId)] else needs [Nat.beq m m, allW m (row9 f), decide (m ≤ (274877906944 : Nat)), okd (listW (itW (row9 f)) m) && okt (mp x (listW (itW (row9 f)) m)), inR x (-9223372036854775808 : Int) (9223372036854775807 : Int)] (Res.out Ex.ret [AV.tup [AV.sl (1 : Nat) (9 : Nat) (0 : Nat) (0 : Nat) (List.length (ti (mp x (listW (itW (row9 f)) m)))) (some (List.length (ti (mp x (listW (itW (row9 f)) m))))), AV.v (Value.bool true)]] [AB.row false m (9 : Nat) (row9 f) (67 : TypeId), AB.row true (List.length (ti (mp x (listW (itW (row9 f)) m)))) (9 : Nat) (row9 (wfun (ti (mp x (listW (itW (row9 f)) m))))) (67 : TypeId)]) := by kernel_rfl

theorem treeDNTu (okd : List Wh → Bool) (okt : List Wh → Bool) (mp : Int → List Wh → List Wh) (m : Nat) (f : Nat → Nat → Int) (x : Int) : execF Try.prog (ext gm_within 57 (specH [true] (FchNTu okd okt mp))) noLam 100 Try.f27 [.sl 0 9 0 0 m none, .v (i64 x)] [.row false m 9 (row9 f) 67] (packK 1)
    = bif !inR x (0 : Int) (23 : Int) then Res.out Ex.ret [AV.tup [AV.v (Value.slice none (0 : Nat) (0 : Nat)), AV.v (Value.bool false)]] [AB.row false m (9 : Nat) (row9 f) (67 : TypeId)] else needs [Nat.beq m m, allW m (row9 f), decide (m ≤ (274877906944 : Nat)), !(okd (listW (itW (row9 f)) m) && okt (mp x (listW (itW (row9 f)) m))), inR x (-9223372036854775808 : Int) (9223372036854775807 : Int)] (Res.out Ex.ret [AV.tup [AV.v (Value.slice none (0 : Nat) (0 : Nat)), AV.v (Value.bool false)]] [AB.row false m (9 : Nat) (row9 f) (67 : TypeId)]) := by kernel_rfl

theorem ok_deYTu : SpecOk Try.prog 27 (specR md_wv (FdeYTu yesTu tidyL mpTu)) := by
  refine specR_hr (ext_ok gm_within_ok ok_chYTu) Try.func27 rfl fun sas fr hF ho => ?_
  unfold FdeYTu at hF
  split at hF
  · rename_i m g x
    cases hF
    simp only [ob_cons] at ho
    obtain ⟨h1, h2, h3, _⟩ := ho
    have hm := of_decide_eq_true h2
    refine ⟨[.row false m 9 (row9 (itW g)) 67], noLam, 100, .cons (ABeq.row fun j hj => allW_get h1 j hj) .nil, noLam' _, ?_⟩
    show GoodQ (execF Try.prog (ext gm_within 57 (specH [true] (FchYTu okD tidyL okT mpTu))) noLam 100 Try.f27 [.sl 0 9 0 0 m none, .v (i64 x)] [.row false m 9 (row9 (itW g)) 67] (packK 1)) _
    rw [treeDYTu]
    rw [yesTu, Bool.and_eq_true] at h3
    obtain ⟨hx, h3⟩ := h3
    have hx2 := inR_iff.1 hx
    exact good_false (by rw [hx]; rfl) (good_needs (by simp only [ob_cons, ob_nil, and_true, beq_me, allW_row, listW_itW, true_and]; exact ⟨decide_eq_true hm, h3, inR_iff.2 (by omega)⟩) (good_out ⟨_, rfl, rfl, .cons (ABeq.row fun j hj => (allW_get h1 j hj).symm) (Hsim.refl _)⟩))
  · cases hF
theorem ok_deNTu : SpecOk Try.prog 27 (specR md_wv (FdeNTu yesTu)) := by
  refine specR_hr (ext_ok gm_within_ok ok_chNTu) Try.func27 rfl fun sas fr hF ho => ?_
  unfold FdeNTu at hF
  split at hF
  · rename_i m g x
    cases hF
    simp only [ob_cons] at ho
    obtain ⟨h1, h2, h3, _⟩ := ho
    have hm := of_decide_eq_true h2
    refine ⟨[.row false m 9 (row9 (itW g)) 67], noLam, 100, .cons (ABeq.row fun j hj => allW_get h1 j hj) .nil, noLam' _, ?_⟩
    show GoodQ (execF Try.prog (ext gm_within 57 (specH [true] (FchNTu okD okT mpTu))) noLam 100 Try.f27 [.sl 0 9 0 0 m none, .v (i64 x)] [.row false m 9 (row9 (itW g)) 67] (packK 1)) _
    rw [treeDNTu]
    cases hx : inR x 0 23 with
    | false => exact good_true rfl (good_out ⟨_, rfl, rfl, .cons (ABeq.row fun j hj => (allW_get h1 j hj).symm) .nil⟩)
    | true =>
      rw [yesTu, hx, Bool.true_and] at h3
      have hx2 := inR_iff.1 hx
      exact good_false rfl (good_needs (by simp only [ob_cons, ob_nil, and_true, beq_me, allW_row, listW_itW, true_and]; exact ⟨decide_eq_true hm, h3, inR_iff.2 (by omega)⟩) (good_out ⟨_, rfl, rfl, .cons (ABeq.row fun j hj => (allW_get h1 j hj).symm) .nil⟩))
  · cases hF

/-- The list is a design, and what comes of it too. -/
def yesLa (x : Int) (L : List Wh) : Bool := inR x 0 23 && (okD L && okT (L.map (chLa x)))
def FdeYLa (yes : Int → List Wh → Bool) (ti : List Wh → List Wh) (mp : Int → List Wh → List Wh) : List SA → Option FR
  | [.row m g, .v (.int .i64 x)] => some { val := valY (ti (mp x (listW (itW g) m))), new := newY (ti (mp x (listW (itW g) m))), obl := [allW m g, decide (m ≤ 2 ^ 38), yes x (listW (itW g) m)] }
  | _ => none
def FdeNLa (yes : Int → List Wh → Bool) : List SA → Option FR
  | [.row m g, .v (.int .i64 x)] => some { val := valN, obl := [allW m g, decide (m ≤ 2 ^ 38), !yes x (listW (itW g) m)] }
  | _ => none
theorem treeDYLa (okd : List Wh → Bool) (ti : List Wh → List Wh) (okt : List Wh → Bool) (mp : Int → List Wh → List Wh) (m : Nat) (f : Nat → Nat → Int) (x : Int) : execF Try.prog (ext gm_within 57 (specH [true] (FchYLa okd ti okt mp))) noLam 100 Try.f25 [.sl 0 9 0 0 m none, .v (i64 x)] [.row false m 9 (row9 f) 67] (packK 1)
    = bif !inR x (0 : Int) (23 : Int) then Res.out Ex.ret [AV.tup [AV.v (Value.slice none (0 : Nat) (0 : Nat)), AV.v (Value.bool false)]] [AB.row false m (9 : Nat) (row9 f) (67 : TypeId)] else needs [Nat.beq m m, allW m (row9 f), decide (m ≤ (274877906944 : Nat)), okd (listW (itW (row9 f)) m) && okt (mp x (listW (itW (row9 f)) m))] (Res.out Ex.ret [AV.tup [AV.sl (1 : Nat) (9 : Nat) (0 : Nat) (0 : Nat) (List.length (ti (mp x (listW (itW (row9 f)) m)))) (some (List.length (ti (mp x (listW (itW (row9 f)) m))))), AV.v (Value.bool true)]] [AB.row false m (9 : Nat) (row9 f) (67 : TypeId), AB.row true (List.length (ti (mp x (listW (itW (row9 f)) m)))) (9 : Nat) (row9 (wfun (ti (mp x (listW (itW (row9 f)) m))))) (67 : TypeId)]) := by kernel_rfl

theorem treeDNLa (okd : List Wh → Bool) (okt : List Wh → Bool) (mp : Int → List Wh → List Wh) (m : Nat) (f : Nat → Nat → Int) (x : Int) : execF Try.prog (ext gm_within 57 (specH [true] (FchNLa okd okt mp))) noLam 100 Try.f25 [.sl 0 9 0 0 m none, .v (i64 x)] [.row false m 9 (row9 f) 67] (packK 1)
    = bif !inR x (0 : Int) (23 : Int) then Res.out Ex.ret [AV.tup [AV.v (Value.slice none (0 : Nat) (0 : Nat)), AV.v (Value.bool false)]] [AB.row false m (9 : Nat) (row9 f) (67 : TypeId)] else needs [Nat.beq m m, allW m (row9 f), decide (m ≤ (274877906944 : Nat)), !(okd (listW (itW (row9 f)) m) && okt (mp x (listW (itW (row9 f)) m)))] (Res.out Ex.ret [AV.tup [AV.v (Value.slice none (0 : Nat) (0 : Nat)), AV.v (Value.bool false)]] [AB.row false m (9 : Nat) (row9 f) (67 : TypeId)]) := by kernel_rfl

theorem ok_deYLa : SpecOk Try.prog 25 (specR md_wv (FdeYLa yesLa tidyL mpLa)) := by
  refine specR_hr (ext_ok gm_within_ok ok_chYLa) Try.func25 rfl fun sas fr hF ho => ?_
  unfold FdeYLa at hF
  split at hF
  · rename_i m g x
    cases hF
    simp only [ob_cons] at ho
    obtain ⟨h1, h2, h3, _⟩ := ho
    have hm := of_decide_eq_true h2
    refine ⟨[.row false m 9 (row9 (itW g)) 67], noLam, 100, .cons (ABeq.row fun j hj => allW_get h1 j hj) .nil, noLam' _, ?_⟩
    show GoodQ (execF Try.prog (ext gm_within 57 (specH [true] (FchYLa okD tidyL okT mpLa))) noLam 100 Try.f25 [.sl 0 9 0 0 m none, .v (i64 x)] [.row false m 9 (row9 (itW g)) 67] (packK 1)) _
    rw [treeDYLa]
    rw [yesLa, Bool.and_eq_true] at h3
    obtain ⟨hx, h3⟩ := h3
    have hx2 := inR_iff.1 hx
    exact good_false (by rw [hx]; rfl) (good_needs (by simp only [ob_cons, ob_nil, and_true, beq_me, allW_row, listW_itW, true_and]; exact ⟨decide_eq_true hm, h3⟩) (good_out ⟨_, rfl, rfl, .cons (ABeq.row fun j hj => (allW_get h1 j hj).symm) (Hsim.refl _)⟩))
  · cases hF
theorem ok_deNLa : SpecOk Try.prog 25 (specR md_wv (FdeNLa yesLa)) := by
  refine specR_hr (ext_ok gm_within_ok ok_chNLa) Try.func25 rfl fun sas fr hF ho => ?_
  unfold FdeNLa at hF
  split at hF
  · rename_i m g x
    cases hF
    simp only [ob_cons] at ho
    obtain ⟨h1, h2, h3, _⟩ := ho
    have hm := of_decide_eq_true h2
    refine ⟨[.row false m 9 (row9 (itW g)) 67], noLam, 100, .cons (ABeq.row fun j hj => allW_get h1 j hj) .nil, noLam' _, ?_⟩
    show GoodQ (execF Try.prog (ext gm_within 57 (specH [true] (FchNLa okD okT mpLa))) noLam 100 Try.f25 [.sl 0 9 0 0 m none, .v (i64 x)] [.row false m 9 (row9 (itW g)) 67] (packK 1)) _
    rw [treeDNLa]
    cases hx : inR x 0 23 with
    | false => exact good_true rfl (good_out ⟨_, rfl, rfl, .cons (ABeq.row fun j hj => (allW_get h1 j hj).symm) .nil⟩)
    | true =>
      rw [yesLa, hx, Bool.true_and] at h3
      have hx2 := inR_iff.1 hx
      exact good_false rfl (good_needs (by simp only [ob_cons, ob_nil, and_true, beq_me, allW_row, listW_itW, true_and]; exact ⟨decide_eq_true hm, h3⟩) (good_out ⟨_, rfl, rfl, .cons (ABeq.row fun j hj => (allW_get h1 j hj).symm) .nil⟩))
  · cases hF

/-- The list is a design, and what comes of it too. -/
def yesBa (L : List Wh) : Bool := (okD L && okT (L.map chBa))
def FdeYBa (yes : List Wh → Bool) (ti : List Wh → List Wh) (mp : List Wh → List Wh) : List SA → Option FR
  | [.row m g] => some { val := valY (ti (mp (listW (itW g) m))), new := newY (ti (mp (listW (itW g) m))), obl := [allW m g, decide (m ≤ 2 ^ 38), yes (listW (itW g) m)] }
  | _ => none
def FdeNBa (yes : List Wh → Bool) : List SA → Option FR
  | [.row m g] => some { val := valN, obl := [allW m g, decide (m ≤ 2 ^ 38), !yes (listW (itW g) m)] }
  | _ => none
theorem treeDYBa (okd : List Wh → Bool) (ti : List Wh → List Wh) (okt : List Wh → Bool) (mp : List Wh → List Wh) (m : Nat) (f : Nat → Nat → Int) : execF Try.prog (ext gm_within 57 (specH [true] (FchYBa okd ti okt mp))) noLam 100 Try.f89 [.sl 0 9 0 0 m none] [.row false m 9 (row9 f) 67] (packK 1)
    = needs [Nat.beq m m, allW m (row9 f), decide (m ≤ (274877906944 : Nat)), okd (listW (itW (row9 f)) m) && okt (mp (listW (itW (row9 f)) m))] (Res.out Ex.ret [AV.tup [AV.sl (1 : Nat) (9 : Nat) (0 : Nat) (0 : Nat) (List.length (ti (mp (listW (itW (row9 f)) m)))) (some (List.length (ti (mp (listW (itW (row9 f)) m))))), AV.v (Value.bool true)]] [AB.row false m (9 : Nat) (row9 f) (67 : TypeId), AB.row true (List.length (ti (mp (listW (itW (row9 f)) m)))) (9 : Nat) (row9 (wfun (ti (mp (listW (itW (row9 f)) m))))) (67 : TypeId)]) := by kernel_rfl

theorem treeDNBa (okd : List Wh → Bool) (okt : List Wh → Bool) (mp : List Wh → List Wh) (m : Nat) (f : Nat → Nat → Int) : execF Try.prog (ext gm_within 57 (specH [true] (FchNBa okd okt mp))) noLam 100 Try.f89 [.sl 0 9 0 0 m none] [.row false m 9 (row9 f) 67] (packK 1)
    = needs [Nat.beq m m, allW m (row9 f), decide (m ≤ (274877906944 : Nat)), !(okd (listW (itW (row9 f)) m) && okt (mp (listW (itW (row9 f)) m)))] (Res.out Ex.ret [AV.tup [AV.v (Value.slice none (0 : Nat) (0 : Nat)), AV.v (Value.bool false)]] [AB.row false m (9 : Nat) (row9 f) (67 : TypeId)]) := by kernel_rfl

theorem ok_deYBa : SpecOk Try.prog 89 (specR md_ws (FdeYBa yesBa tidyL mpBa)) := by
  refine specR_hr (ext_ok gm_within_ok ok_chYBa) Try.func89 rfl fun sas fr hF ho => ?_
  unfold FdeYBa at hF
  split at hF
  · rename_i m g
    cases hF
    simp only [ob_cons] at ho
    obtain ⟨h1, h2, h3, _⟩ := ho
    have hm := of_decide_eq_true h2
    refine ⟨[.row false m 9 (row9 (itW g)) 67], noLam, 100, .cons (ABeq.row fun j hj => allW_get h1 j hj) .nil, noLam' _, ?_⟩
    show GoodQ (execF Try.prog (ext gm_within 57 (specH [true] (FchYBa okD tidyL okT mpBa))) noLam 100 Try.f89 [.sl 0 9 0 0 m none] [.row false m 9 (row9 (itW g)) 67] (packK 1)) _
    rw [treeDYBa]
    rw [yesBa] at h3
    exact good_needs (by simp only [ob_cons, ob_nil, and_true, beq_me, allW_row, listW_itW, true_and]; exact ⟨decide_eq_true hm, h3⟩) (good_out ⟨_, rfl, rfl, .cons (ABeq.row fun j hj => (allW_get h1 j hj).symm) (Hsim.refl _)⟩)
  · cases hF
theorem ok_deNBa : SpecOk Try.prog 89 (specR md_ws (FdeNBa yesBa)) := by
  refine specR_hr (ext_ok gm_within_ok ok_chNBa) Try.func89 rfl fun sas fr hF ho => ?_
  unfold FdeNBa at hF
  split at hF
  · rename_i m g
    cases hF
    simp only [ob_cons] at ho
    obtain ⟨h1, h2, h3, _⟩ := ho
    have hm := of_decide_eq_true h2
    refine ⟨[.row false m 9 (row9 (itW g)) 67], noLam, 100, .cons (ABeq.row fun j hj => allW_get h1 j hj) .nil, noLam' _, ?_⟩
    show GoodQ (execF Try.prog (ext gm_within 57 (specH [true] (FchNBa okD okT mpBa))) noLam 100 Try.f89 [.sl 0 9 0 0 m none] [.row false m 9 (row9 (itW g)) 67] (packK 1)) _
    rw [treeDNBa]
    rw [yesBa] at h3
    exact good_needs (by simp only [ob_cons, ob_nil, and_true, beq_me, allW_row, listW_itW, true_and]; exact ⟨decide_eq_true hm, h3⟩) (good_out ⟨_, rfl, rfl, .cons (ABeq.row fun j hj => (allW_get h1 j hj).symm) .nil⟩)
  · cases hF

/-- The list is a design, and what comes of it too. -/
def yesMi (L : List Wh) : Bool := (okD L && okT (L.map chMi))
def FdeYMi (yes : List Wh → Bool) (ti : List Wh → List Wh) (mp : List Wh → List Wh) : List SA → Option FR
  | [.row m g] => some { val := valY (ti (mp (listW (itW g) m))), new := newY (ti (mp (listW (itW g) m))), obl := [allW m g, decide (m ≤ 2 ^ 38), yes (listW (itW g) m)] }
  | _ => none
def FdeNMi (yes : List Wh → Bool) : List SA → Option FR
  | [.row m g] => some { val := valN, obl := [allW m g, decide (m ≤ 2 ^ 38), !yes (listW (itW g) m)] }
  | _ => none
theorem treeDYMi (okd : List Wh → Bool) (ti : List Wh → List Wh) (okt : List Wh → Bool) (mp : List Wh → List Wh) (m : Nat) (f : Nat → Nat → Int) : execF Try.prog (ext gm_within 57 (specH [true] (FchYMi okd ti okt mp))) noLam 100 Try.f18 [.sl 0 9 0 0 m none] [.row false m 9 (row9 f) 67] (packK 1)
    = needs [Nat.beq m m, allW m (row9 f), decide (m ≤ (274877906944 : Nat)), okd (listW (itW (row9 f)) m) && okt (mp (listW (itW (row9 f)) m))] (Res.out Ex.ret [AV.tup [AV.sl (1 : Nat) (9 : Nat) (0 : Nat) (0 : Nat) (List.length (ti (mp (listW (itW (row9 f)) m)))) (some (List.length (ti (mp (listW (itW (row9 f)) m))))), AV.v (Value.bool true)]] [AB.row false m (9 : Nat) (row9 f) (67 : TypeId), AB.row true (List.length (ti (mp (listW (itW (row9 f)) m)))) (9 : Nat) (row9 (wfun (ti (mp (listW (itW (row9 f)) m))))) (67 : TypeId)]) := by kernel_rfl

theorem treeDNMi (okd : List Wh → Bool) (okt : List Wh → Bool) (mp : List Wh → List Wh) (m : Nat) (f : Nat → Nat → Int) : execF Try.prog (ext gm_within 57 (specH [true] (FchNMi okd okt mp))) noLam 100 Try.f18 [.sl 0 9 0 0 m none] [.row false m 9 (row9 f) 67] (packK 1)
    = needs [Nat.beq m m, allW m (row9 f), decide (m ≤ (274877906944 : Nat)), !(okd (listW (itW (row9 f)) m) && okt (mp (listW (itW (row9 f)) m)))] (Res.out Ex.ret [AV.tup [AV.v (Value.slice none (0 : Nat) (0 : Nat)), AV.v (Value.bool false)]] [AB.row false m (9 : Nat) (row9 f) (67 : TypeId)]) := by kernel_rfl

theorem ok_deYMi : SpecOk Try.prog 18 (specR md_ws (FdeYMi yesMi tidyL mpMi)) := by
  refine specR_hr (ext_ok gm_within_ok ok_chYMi) Try.func18 rfl fun sas fr hF ho => ?_
  unfold FdeYMi at hF
  split at hF
  · rename_i m g
    cases hF
    simp only [ob_cons] at ho
    obtain ⟨h1, h2, h3, _⟩ := ho
    have hm := of_decide_eq_true h2
    refine ⟨[.row false m 9 (row9 (itW g)) 67], noLam, 100, .cons (ABeq.row fun j hj => allW_get h1 j hj) .nil, noLam' _, ?_⟩
    show GoodQ (execF Try.prog (ext gm_within 57 (specH [true] (FchYMi okD tidyL okT mpMi))) noLam 100 Try.f18 [.sl 0 9 0 0 m none] [.row false m 9 (row9 (itW g)) 67] (packK 1)) _
    rw [treeDYMi]
    rw [yesMi] at h3
    exact good_needs (by simp only [ob_cons, ob_nil, and_true, beq_me, allW_row, listW_itW, true_and]; exact ⟨decide_eq_true hm, h3⟩) (good_out ⟨_, rfl, rfl, .cons (ABeq.row fun j hj => (allW_get h1 j hj).symm) (Hsim.refl _)⟩)
  · cases hF
theorem ok_deNMi : SpecOk Try.prog 18 (specR md_ws (FdeNMi yesMi)) := by
  refine specR_hr (ext_ok gm_within_ok ok_chNMi) Try.func18 rfl fun sas fr hF ho => ?_
  unfold FdeNMi at hF
  split at hF
  · rename_i m g
    cases hF
    simp only [ob_cons] at ho
    obtain ⟨h1, h2, h3, _⟩ := ho
    have hm := of_decide_eq_true h2
    refine ⟨[.row false m 9 (row9 (itW g)) 67], noLam, 100, .cons (ABeq.row fun j hj => allW_get h1 j hj) .nil, noLam' _, ?_⟩
    show GoodQ (execF Try.prog (ext gm_within 57 (specH [true] (FchNMi okD okT mpMi))) noLam 100 Try.f18 [.sl 0 9 0 0 m none] [.row false m 9 (row9 (itW g)) 67] (packK 1)) _
    rw [treeDNMi]
    rw [yesMi] at h3
    exact good_needs (by simp only [ob_cons, ob_nil, and_true, beq_me, allW_row, listW_itW, true_and]; exact ⟨decide_eq_true hm, h3⟩) (good_out ⟨_, rfl, rfl, .cons (ABeq.row fun j hj => (allW_get h1 j hj).symm) .nil⟩)
  · cases hF

end Go.Proofs.Ytnlfdcjpeoafhaa

/- l5At and DesignAt, the reference's: their words. Conditions: a list of wheels. -/
namespace Go.Proofs.Ytnlfdcjpeoafhaa
open Go.RowKit
set_option maxRecDepth 100000

def fMd (md : Int → Int) : List Value → Option (Value × List Bool)
  | [.int .i64 n] => some (.int .i64 (md n), [])
  | _ => none
def FtuO (tu : (Nat → Int) → Int → Nat → Int) : List SA → Option FR
  | [.v (.agg ⟨[.int .i64 a0, .int .i64 a1, .int .i64 a2, .int .i64 a3, .int .i64 a4, .int .i64 a5, .int .i64 a6, .int .i64 a7]⟩), .v (.int .i64 n)] => some { val := .agg (cyC (tu (v8 a0 a1 a2 a3 a4 a5 a6 a7) n)), obl := [decide (n ≤ 2 ^ 40)] }
  | _ => none
def gmAt (md : Int → Int) (tu : (Nat → Int) → Int → Nat → Int) (ad : (Nat → Int) → Int → (Nat → Int) → Nat → Int) : Gam := ext (ext (ext g0 72 (specV (fMd md))) 73 (specR [.val, .val] (FtuO tu))) 135 (specV (fAdd3 ad))
abbrev lvAt : Ex → List Nat := lv3 [0, 1, 4, 5, 6] [4, 5] [4]
abbrev hpAt (m : Nat) (f : Nat → Nat → Int) (t : TypeId) (a : Nat → Int) : List AB := [.row false m 9 (row9 f) t, .cells (cyC fun _ => 0) 60, .cells (cyC a) 60]
abbrev stAt (m : Nat) (n : Int) (i : Nat) : List AV := [.sl 0 9 0 0 m none, .v (i64 n), .ptr 1 0 0 0, .ptr 2 0 0 0, .v (i64 i)]
theorem rndAt (md : Int → Int) (tu : (Nat → Int) → Int → Nat → Int) (ad : (Nat → Int) → Int → (Nat → Int) → Nat → Int) (m : Nat) (f : Nat → Nat → Int) (t : TypeId) (a : Nat → Int) (n : Int) (i : Nat) : execC Try.prog (gmAt md tu ad) 100 noLam (loopAt 0 Try.f95) (mkT 0 31 ((lvAt .normal).zip (stAt m n i))) (hpAt m f t a) (leafV 31 lvAt 1)
    = bif decide ((↑i : Int) < (↑m : Int)) then needs [decide ((↑i : Int) < (↑m : Int)), decide ((0 : Nat) + Int.toNat (↑i : Int) < m), decide ((↑i : Int) < (↑m : Int)), decide ((0 : Nat) + Int.toNat (↑i : Int) < m), decide (md (IntKind.wrap IntKind.i64 (n * f ((0 : Nat) + Int.toNat (↑i : Int)) (0 : Nat))) ≤ (1099511627776 : Int))] (Res.out Ex.normal [AV.sl (0 : Nat) (9 : Nat) (0 : Nat) (0 : Nat) m none, AV.v (Value.int IntKind.i64 n), AV.ptr (1 : Nat) (0 : Nat) (0 : Nat) (0 : Nat), AV.ptr (2 : Nat) (0 : Nat) (0 : Nat) (0 : Nat), AV.v (Value.int IntKind.i64 (IntKind.wrap IntKind.i64 ((↑i : Int) + (1 : Int))))] [AB.row false m (9 : Nat) (row9 f) t, AB.cells [AV.v (Value.int IntKind.i64 (0 : Int)), AV.v (Value.int IntKind.i64 (0 : Int)), AV.v (Value.int IntKind.i64 (0 : Int)), AV.v (Value.int IntKind.i64 (0 : Int)), AV.v (Value.int IntKind.i64 (0 : Int)), AV.v (Value.int IntKind.i64 (0 : Int)), AV.v (Value.int IntKind.i64 (0 : Int)), AV.v (Value.int IntKind.i64 (0 : Int))] (60 : TypeId), AB.cells [AV.v (Value.int IntKind.i64 (ad (w8 a) (1 : Int) (w8 (tu (v8 (f ((0 : Nat) + Int.toNat (↑i : Int)) (1 : Nat)) (f ((0 : Nat) + Int.toNat (↑i : Int)) (2 : Nat)) (f ((0 : Nat) + Int.toNat (↑i : Int)) (3 : Nat)) (f ((0 : Nat) + Int.toNat (↑i : Int)) (4 : Nat)) (f ((0 : Nat) + Int.toNat (↑i : Int)) (5 : Nat)) (f ((0 : Nat) + Int.toNat (↑i : Int)) (6 : Nat)) (f ((0 : Nat) + Int.toNat (↑i : Int)) (7 : Nat)) (f ((0 : Nat) + Int.toNat (↑i : Int)) (8 : Nat))) (md (IntKind.wrap IntKind.i64 (n * f ((0 : Nat) + Int.toNat (↑i : Int)) (0 : Nat)))))) (0 : Nat))), AV.v (Value.int IntKind.i64 (ad (w8 a) (1 : Int) (w8 (tu (v8 (f ((0 : Nat) + Int.toNat (↑i : Int)) (1 : Nat)) (f ((0 : Nat) + Int.toNat (↑i : Int)) (2 : Nat)) (f ((0 : Nat) + Int.toNat (↑i : Int)) (3 : Nat)) (f ((0 : Nat) + Int.toNat (↑i : Int)) (4 : Nat)) (f ((0 : Nat) + Int.toNat (↑i : Int)) (5 : Nat)) (f ((0 : Nat) + Int.toNat (↑i : Int)) (6 : Nat)) (f ((0 : Nat) + Int.toNat (↑i : Int)) (7 : Nat)) (f ((0 : Nat) + Int.toNat (↑i : Int)) (8 : Nat))) (md (IntKind.wrap IntKind.i64 (n * f ((0 : Nat) + Int.toNat (↑i : Int)) (0 : Nat)))))) (1 : Nat))), AV.v (Value.int IntKind.i64 (ad (w8 a) (1 : Int) (w8 (tu (v8 (f ((0 : Nat) + Int.toNat (↑i : Int)) (1 : Nat)) (f ((0 : Nat) + Int.toNat (↑i : Int)) (2 : Nat)) (f ((0 : Nat) + Int.toNat (↑i : Int)) (3 : Nat)) (f ((0 : Nat) + Int.toNat (↑i : Int)) (4 : Nat)) (f ((0 : Nat) + Int.toNat (↑i : Int)) (5 : Nat)) (f ((0 : Nat) + Int.toNat (↑i : Int)) (6 : Nat)) (f ((0 : Nat) + Int.toNat (↑i : Int)) (7 : Nat)) (f ((0 : Nat) + Int.toNat (↑i : Int)) (8 : Nat))) (md (IntKind.wrap IntKind.i64 (n * f ((0 : Nat) + Int.toNat (↑i : Int)) (0 : Nat)))))) (2 : Nat))), AV.v (Value.int IntKind.i64 (ad (w8 a) (1 : Int) (w8 (tu (v8 (f ((0 : Nat) + Int.toNat (↑i : Int)) (1 : Nat)) (f ((0 : Nat) + Int.toNat (↑i : Int)) (2 : Nat)) (f ((0 : Nat) + Int.toNat (↑i : Int)) (3 : Nat)) (f ((0 : Nat) + Int.toNat (↑i : Int)) (4 : Nat)) (f ((0 : Nat) + Int.toNat (↑i : Int)) (5 : Nat)) (f ((0 : Nat) + Int.toNat (↑i : Int)) (6 : Nat)) (f ((0 : Nat) + Int.toNat (↑i : Int)) (7 : Nat)) (f ((0 : Nat) + Int.toNat (↑i : Int)) (8 : Nat))) (md (IntKind.wrap IntKind.i64 (n * f ((0 : Nat) + Int.toNat (↑i : Int)) (0 : Nat)))))) (3 : Nat))), AV.v (Value.int IntKind.i64 (ad (w8 a) (1 : Int) (w8 (tu (v8 (f ((0 : Nat) + Int.toNat (↑i : Int)) (1 : Nat)) (f ((0 : Nat) + Int.toNat (↑i : Int)) (2 : Nat)) (f ((0 : Nat) + Int.toNat (↑i : Int)) (3 : Nat)) (f ((0 : Nat) + Int.toNat (↑i : Int)) (4 : Nat)) (f ((0 : Nat) + Int.toNat (↑i : Int)) (5 : Nat)) (f ((0 : Nat) + Int.toNat (↑i : Int)) (6 : Nat)) (f ((0 : Nat) + Int.toNat (↑i : Int)) (7 : Nat)) (f ((0 : Nat) + Int.toNat (↑i : Int)) (8 : Nat))) (md (IntKind.wrap IntKind.i64 (n * f ((0 : Nat) + Int.toNat (↑i : Int)) (0 : Nat)))))) (4 : Nat))), AV.v (Value.int IntKind.i64 (ad (w8 a) (1 : Int) (w8 (tu (v8 (f ((0 : Nat) + Int.toNat (↑i : Int)) (1 : Nat)) (f ((0 : Nat) + Int.toNat (↑i : Int)) (2 : Nat)) (f ((0 : Nat) + Int.toNat (↑i : Int)) (3 : Nat)) (f ((0 : Nat) + Int.toNat (↑i : Int)) (4 : Nat)) (f ((0 : Nat) + Int.toNat (↑i : Int)) (5 : Nat)) (f ((0 : Nat) + Int.toNat (↑i : Int)) (6 : Nat)) (f ((0 : Nat) + Int.toNat (↑i : Int)) (7 : Nat)) (f ((0 : Nat) + Int.toNat (↑i : Int)) (8 : Nat))) (md (IntKind.wrap IntKind.i64 (n * f ((0 : Nat) + Int.toNat (↑i : Int)) (0 : Nat)))))) (5 : Nat))), AV.v (Value.int IntKind.i64 (ad (w8 a) (1 : Int) (w8 (tu (v8 (f ((0 : Nat) + Int.toNat (↑i : Int)) (1 : Nat)) (f ((0 : Nat) + Int.toNat (↑i : Int)) (2 : Nat)) (f ((0 : Nat) + Int.toNat (↑i : Int)) (3 : Nat)) (f ((0 : Nat) + Int.toNat (↑i : Int)) (4 : Nat)) (f ((0 : Nat) + Int.toNat (↑i : Int)) (5 : Nat)) (f ((0 : Nat) + Int.toNat (↑i : Int)) (6 : Nat)) (f ((0 : Nat) + Int.toNat (↑i : Int)) (7 : Nat)) (f ((0 : Nat) + Int.toNat (↑i : Int)) (8 : Nat))) (md (IntKind.wrap IntKind.i64 (n * f ((0 : Nat) + Int.toNat (↑i : Int)) (0 : Nat)))))) (6 : Nat))), AV.v (Value.int IntKind.i64 (ad (w8 a) (1 : Int) (w8 (tu (v8 (f ((0 : Nat) + Int.toNat (↑i : Int)) (1 : Nat)) (f ((0 : Nat) + Int.toNat (↑i : Int)) (2 : Nat)) (f ((0 : Nat) + Int.toNat (↑i : Int)) (3 : Nat)) (f ((0 : Nat) + Int.toNat (↑i : Int)) (4 : Nat)) (f ((0 : Nat) + Int.toNat (↑i : Int)) (5 : Nat)) (f ((0 : Nat) + Int.toNat (↑i : Int)) (6 : Nat)) (f ((0 : Nat) + Int.toNat (↑i : Int)) (7 : Nat)) (f ((0 : Nat) + Int.toNat (↑i : Int)) (8 : Nat))) (md (IntKind.wrap IntKind.i64 (n * f ((0 : Nat) + Int.toNat (↑i : Int)) (0 : Nat)))))) (7 : Nat)))] (60 : TypeId)]) else Res.out (Ex.exit (0 : Nat)) [AV.ptr (1 : Nat) (0 : Nat) (0 : Nat) (0 : Nat), AV.ptr (2 : Nat) (0 : Nat) (0 : Nat) (0 : Nat)] [AB.row false m (9 : Nat) (row9 f) t, AB.cells [AV.v (Value.int IntKind.i64 (0 : Int)), AV.v (Value.int IntKind.i64 (0 : Int)), AV.v (Value.int IntKind.i64 (0 : Int)), AV.v (Value.int IntKind.i64 (0 : Int)), AV.v (Value.int IntKind.i64 (0 : Int)), AV.v (Value.int IntKind.i64 (0 : Int)), AV.v (Value.int IntKind.i64 (0 : Int)), AV.v (Value.int IntKind.i64 (0 : Int))] (60 : TypeId), AB.cells [AV.v (Value.int IntKind.i64 (a (0 : Nat))), AV.v (Value.int IntKind.i64 (a (1 : Nat))), AV.v (Value.int IntKind.i64 (a (2 : Nat))), AV.v (Value.int IntKind.i64 (a (3 : Nat))), AV.v (Value.int IntKind.i64 (a (4 : Nat))), AV.v (Value.int IntKind.i64 (a (5 : Nat))), AV.v (Value.int IntKind.i64 (a (6 : Nat))), AV.v (Value.int IntKind.i64 (a (7 : Nat)))] (60 : TypeId)] := by kernel_rfl

noncomputable abbrev lamAt (m : Nat) (f : Nat → Nat → Int) (t : TypeId) (n : Int) (b : Nat → Int) : Nat → Option Sum := oneL 0 (atS 31 (lvAt .normal) 1 (stAt m n 0) (hpAt m f t fun _ => 0) (fun K => K .normal (mkT 0 31 [(4, .ptr 1 0 0 0), (5, .ptr 2 0 0 0)]) (hpAt m f t b)))
theorem treeAt (m : Nat) (f : Nat → Nat → Int) (t : TypeId) (n : Int) (b : Nat → Int) : execF Try.prog g0 (lamAt m f t n b) 100 Try.f95 [.sl 0 9 0 0 m none, .v (i64 n)] [.row false m 9 (row9 f) t] (packK 1)
    = needs [chk ([AV.sl (0 : Nat) (9 : Nat) (0 : Nat) (0 : Nat) m none, AV.v (Value.int IntKind.i64 n), AV.ptr (1 : Nat) (0 : Nat) (0 : Nat) (0 : Nat), AV.ptr (2 : Nat) (0 : Nat) (0 : Nat) (0 : Nat), AV.v (Value.int IntKind.i64 (0 : Int))] = stAt m n (0 : Nat) ∧ Hsim [AB.row false m (9 : Nat) (row9 f) t, AB.cells [AV.v (Value.int IntKind.i64 (0 : Int)), AV.v (Value.int IntKind.i64 (0 : Int)), AV.v (Value.int IntKind.i64 (0 : Int)), AV.v (Value.int IntKind.i64 (0 : Int)), AV.v (Value.int IntKind.i64 (0 : Int)), AV.v (Value.int IntKind.i64 (0 : Int)), AV.v (Value.int IntKind.i64 (0 : Int)), AV.v (Value.int IntKind.i64 (0 : Int))] (60 : Nat), AB.cells [AV.v (Value.int IntKind.i64 (0 : Int)), AV.v (Value.int IntKind.i64 (0 : Int)), AV.v (Value.int IntKind.i64 (0 : Int)), AV.v (Value.int IntKind.i64 (0 : Int)), AV.v (Value.int IntKind.i64 (0 : Int)), AV.v (Value.int IntKind.i64 (0 : Int)), AV.v (Value.int IntKind.i64 (0 : Int)), AV.v (Value.int IntKind.i64 (0 : Int))] (60 : Nat)] (hpAt m f t fun x ↦ (0 : Int)))] (Res.out Ex.ret [AV.agg [AV.v (Value.int IntKind.i64 (b (0 : Nat))), AV.v (Value.int IntKind.i64 (b (1 : Nat))), AV.v (Value.int IntKind.i64 (b (2 : Nat))), AV.v (Value.int IntKind.i64 (b (3 : Nat))), AV.v (Value.int IntKind.i64 (b (4 : Nat))), AV.v (Value.int IntKind.i64 (b (5 : Nat))), AV.v (Value.int IntKind.i64 (b (6 : Nat))), AV.v (Value.int IntKind.i64 (b (7 : Nat)))]] [AB.row false m (9 : Nat) (row9 f) t]) := by kernel_rfl

theorem fMd_eq : fMd (fun n => n % 24) = f_l1Mod := by
  funext l
  rfl
theorem FtuO_eq : FtuO (fun a n => turnedF a n.toNat) = F_turned := by
  funext l
  rfl
theorem gmAt_ok : GamOk Try.prog (gmAt (fun n => n % 24) (fun a n => turnedF a n.toNat) sumF) := by
  unfold gmAt
  rw [fMd_eq, FtuO_eq, fAdd3_eq]
  exact ext_ok (ext_ok (ext_ok g0_ok ok_l1Mod) ok_turnedS) ok_l2Sum
/-- The sum of the turned radii. -/
def atF (f : Nat → Nat → Int) (n : Int) : Nat → Nat → Int
  | 0 => fun _ => 0
  | i + 1 => sumF (atF f n i) 1 (turnedF (v8 (f i 1) (f i 2) (f i 3) (f i 4) (f i 5) (f i 6) (f i 7) (f i 8)) (IntKind.wrap IntKind.i64 (n * f i 0) % 24).toNat)
theorem sumAt (m : Nat) (f : Nat → Nat → Int) (t : TypeId) (n : Int) (hm : m ≤ 2 ^ 40) :
    SumOk Try.prog 1 (.block 0 (.loop (loopAt 0 Try.f95))) (atS 31 (lvAt .normal) 1 (stAt m n 0) (hpAt m f t fun _ => 0) (fun K => K .normal (mkT 0 31 [(4, .ptr 1 0 0 0), (5, .ptr 2 0 0 0)]) (hpAt m f t (atF f n m)))) := by
  refine for_at gmAt_ok (n := 100) (m := 1) (lv := lvAt) (fun i => stAt m n i) (fun i => hpAt m f t (atF f n i)) (fun _ => True) m (fun _ => noLam) (lv3_ris rfl rfl rfl) (Nat.le_refl _) trivial fun K Q hk i hi him => ⟨noLam_ok _ _ _, ?_⟩
  rw [rndAt]
  refine good_cond (fun c1 => ?_) fun c1 => ?_
  · have c1 := of_decide_eq_true c1
    have c1' : i < m := by omega
    rw [Int.toNat_natCast, Nat.zero_add, wr_in (x := (i : Int) + 1) (by omega)]
    refine good_needs (by simp only [ob_cons, ob_nil, and_true, decide_eq_true_eq]; omega) (good_out ⟨i + 1, ⟨rfl, c1', trivial⟩, rfl, Hsim.refl _⟩)
  · have c1 := of_decide_eq_false c1
    have : i = m := by omega
    subst this
    refine good_out ⟨_, Hsim.refl _, ?_⟩
    rw [if_pos rfl]
    exact hk

def FatO (at_ : (Nat → Nat → Int) → Int → Nat → Nat → Int) : List SA → Option FR
  | [.row m g, .v (.int .i64 n)] => some { val := .agg (cyC (at_ (itW g) n m)), obl := [allW m g, decide (m ≤ 2 ^ 38)] }
  | _ => none
theorem atF_row (g : Nat → Nat → Int) (n : Int) (m : Nat) : atF (itW (row9 g)) n m = atF g n m := by
  induction m with
  | zero => rfl
  | succ m ih => rw [atF, ih]; rfl
theorem ok_l5At : SpecOk Try.prog 95 (specR md_wv (FatO atF)) := by
  refine specR_hr g0_ok Try.func95 rfl fun sas fr hF ho => ?_
  unfold FatO at hF
  split at hF
  · rename_i m g n
    cases hF
    simp only [ob_cons] at ho
    obtain ⟨h1, h2, _⟩ := ho
    have hm := of_decide_eq_true h2
    refine ⟨[.row false m 9 (row9 (itW g)) 67], lamAt m (itW g) 67 n (atF (itW g) n m), 100, .cons (ABeq.row fun j hj => allW_get h1 j hj) .nil, lam1 (by kernel_rfl) (sumAt m (itW g) 67 n (by omega)), ?_⟩
    show GoodQ (execF Try.prog g0 (lamAt m (itW g) 67 n (atF (itW g) n m)) 100 Try.f95 [.sl 0 9 0 0 m none, .v (i64 n)] [.row false m 9 (row9 (itW g)) 67] (packK 1)) _
    rw [treeAt]
    exact good_needs (by rw [ob_cons]; exact ⟨chk_of ⟨rfl, Hsim.refl _⟩, rfl⟩) (good_out ⟨_, rfl, rfl, .cons (ABeq.row fun j hj => (allW_get h1 j hj).symm) .nil⟩)
  · cases hF

def FdoO (dn : (Nat → Int) → Nat → Int) (ok : (Nat → Int) → Bool) : List SA → Option FR
  | [.v (.agg ⟨[.int .i64 a0, .int .i64 a1, .int .i64 a2, .int .i64 a3, .int .i64 a4, .int .i64 a5, .int .i64 a6, .int .i64 a7]⟩)] => some { val := .tup [.agg (cyC (dn (v8 a0 a1 a2 a3 a4 a5 a6 a7))), .v (.bool (ok (v8 a0 a1 a2 a3 a4 a5 a6 a7)))] }
  | _ => none
theorem FdoO_eq : FdoO doneC (fun v => cyOk (cyOf v)) = F_l2Done := by
  funext l
  rfl
def gmDA (at_ : (Nat → Nat → Int) → Int → Nat → Nat → Int) (dn : (Nat → Int) → Nat → Int) (ok : (Nat → Int) → Bool) : Gam := ext (ext (ext (ext g0 61 (specR md_ws F_dv)) 93 (specV f_l1Is)) 95 (specR md_wv (FatO at_))) 94 (specR [.val] (FdoO dn ok))
theorem treeDA (at_ : (Nat → Nat → Int) → Int → Nat → Nat → Int) (dn : (Nat → Int) → Nat → Int) (ok : (Nat → Int) → Bool) (m : Nat) (f : Nat → Nat → Int) (t : TypeId) (n : Int) : execF Try.prog (gmDA at_ dn ok) noLam 100 Try.f49 [.sl 0 9 0 0 m none, .v (i64 n)] [.row false m 9 (row9 f) t] (packK 1)
    = needs [Nat.ble ((0 : Nat) + m) m, allW m fun q ↦ row9 f ((0 : Nat) + q), decide (m ≤ (549755813888 : Nat))] (bif !okD (listW (itW fun q ↦ row9 f ((0 : Nat) + q)) m) then Res.out Ex.ret [AV.tup [AV.agg [AV.v (Value.int IntKind.i64 (0 : Int)), AV.v (Value.int IntKind.i64 (0 : Int)), AV.v (Value.int IntKind.i64 (0 : Int)), AV.v (Value.int IntKind.i64 (0 : Int)), AV.v (Value.int IntKind.i64 (0 : Int)), AV.v (Value.int IntKind.i64 (0 : Int)), AV.v (Value.int IntKind.i64 (0 : Int)), AV.v (Value.int IntKind.i64 (0 : Int))], AV.v (Value.bool false)]] [AB.row false m (9 : Nat) (row9 f) t] else bif !inR n (0 : Int) (23 : Int) then Res.out Ex.ret [AV.tup [AV.agg [AV.v (Value.int IntKind.i64 (0 : Int)), AV.v (Value.int IntKind.i64 (0 : Int)), AV.v (Value.int IntKind.i64 (0 : Int)), AV.v (Value.int IntKind.i64 (0 : Int)), AV.v (Value.int IntKind.i64 (0 : Int)), AV.v (Value.int IntKind.i64 (0 : Int)), AV.v (Value.int IntKind.i64 (0 : Int)), AV.v (Value.int IntKind.i64 (0 : Int))], AV.v (Value.bool false)]] [AB.row false m (9 : Nat) (row9 f) t] else needs [Nat.ble ((0 : Nat) + m) m, allW m fun q ↦ row9 f ((0 : Nat) + q), decide (m ≤ (274877906944 : Nat))] (Res.out Ex.ret [AV.tup [AV.agg [AV.v (Value.int IntKind.i64 (dn (w8 (at_ (itW fun q ↦ row9 f ((0 : Nat) + q)) n m)) (0 : Nat))), AV.v (Value.int IntKind.i64 (dn (w8 (at_ (itW fun q ↦ row9 f ((0 : Nat) + q)) n m)) (1 : Nat))), AV.v (Value.int IntKind.i64 (dn (w8 (at_ (itW fun q ↦ row9 f ((0 : Nat) + q)) n m)) (2 : Nat))), AV.v (Value.int IntKind.i64 (dn (w8 (at_ (itW fun q ↦ row9 f ((0 : Nat) + q)) n m)) (3 : Nat))), AV.v (Value.int IntKind.i64 (dn (w8 (at_ (itW fun q ↦ row9 f ((0 : Nat) + q)) n m)) (4 : Nat))), AV.v (Value.int IntKind.i64 (dn (w8 (at_ (itW fun q ↦ row9 f ((0 : Nat) + q)) n m)) (5 : Nat))), AV.v (Value.int IntKind.i64 (dn (w8 (at_ (itW fun q ↦ row9 f ((0 : Nat) + q)) n m)) (6 : Nat))), AV.v (Value.int IntKind.i64 (dn (w8 (at_ (itW fun q ↦ row9 f ((0 : Nat) + q)) n m)) (7 : Nat)))], AV.v (Value.bool (ok (w8 (at_ (itW fun q ↦ row9 f ((0 : Nat) + q)) n m))))]] [AB.row false m (9 : Nat) (row9 f) t])) := by kernel_rfl

end Go.Proofs.Ytnlfdcjpeoafhaa

/- l5Each, the reference's. Conditions: a list of wheels. -/
namespace Go.Proofs.Ytnlfdcjpeoafhaa
open Go.RowKit
set_option maxRecDepth 100000

def fIsO (ok : Int → Bool) : List Value → Option (Value × List Bool)
  | [.int .i64 n] => some (.bool (ok n), [])
  | _ => none
def FtidyO (ti : List Wh → List Wh) (okt : List Wh → Bool) : List SA → Option FR
  | [.row m g] => some { val := .tup [.own 0 (ti (listW (itW g) m)).length, .v (.bool (okt (listW (itW g) m)))], new := [.row true (ti (listW (itW g) m)).length 9 (row9 (wfun (ti (listW (itW g) m)))) 67], obl := [allW m g, decide (m ≤ 2 ^ 38)] }
  | _ => none
def gmE1 (md : Int → Int) (mi : (Nat → Int) → Nat → Int) (tu : (Nat → Int) → Int → Nat → Int) : Gam := ext (ext (ext g0 72 (specV (fMd md))) 100 (specV (fMirO mi))) 73 (specR [.val, .val] (FtuO tu))
abbrev lvEa : Ex → List Nat := lv3 [0, 1, 2, 3, 4, 12, 13] [12] [10, 11]
abbrev stEa (m : Nat) (sp tn la : Int) (mir : Bool) (n i : Nat) : List AV := [.sl 0 9 0 0 m none, .v (i64 sp), .v (i64 tn), .v (i64 la), .v (.bool mir), .own 1 n, .v (i64 i)]
theorem rndEa (md : Int → Int) (mi : (Nat → Int) → Nat → Int) (tu : (Nat → Int) → Int → Nat → Int) (m : Nat) (f : Nat → Nat → Int) (t : TypeId) (sp tn la : Int) (mir : Bool) (n : Nat) (h : Nat → Nat → Int) (i : Nat) : execC Try.prog (gmE1 md mi tu) 100 noLam (loopAt 0 Try.f55) (mkT 0 71 ((lvEa .normal).zip (stEa m sp tn la mir n i))) (hpTI m f t n h) (leafV 71 lvEa 1)
    = bif decide ((↑i : Int) < (↑m : Int)) then needs [decide ((↑i : Int) < (↑m : Int)), decide ((0 : Nat) + Int.toNat (↑i : Int) < m)] (bif mir then needs [decide ((↑i : Int) < (↑m : Int)), decide ((0 : Nat) + Int.toNat (↑i : Int) < m), decide ((↑i : Int) < (↑m : Int)), decide ((0 : Nat) + Int.toNat (↑i : Int) < m), decide (md (IntKind.wrap IntKind.i64 (tn + IntKind.wrap IntKind.i64 (la * f ((0 : Nat) + Int.toNat (↑i : Int)) (0 : Nat)))) ≤ (1099511627776 : Int)), Nat.ble n n, Nat.ble (n + (1 : Nat)) (549755813888 : Nat)] (Res.out Ex.normal [AV.sl (0 : Nat) (9 : Nat) (0 : Nat) (0 : Nat) m none, AV.v (Value.int IntKind.i64 sp), AV.v (Value.int IntKind.i64 tn), AV.v (Value.int IntKind.i64 la), AV.v (Value.bool mir), AV.own (1 : Nat) (n + (1 : Nat)), AV.v (Value.int IntKind.i64 (IntKind.wrap IntKind.i64 ((↑i : Int) + (1 : Int))))] [AB.row false m (9 : Nat) (row9 f) t, AB.row true (n + (1 : Nat)) (9 : Nat) (fun q ↦ [Value.int IntKind.i64 (bif Nat.blt q n then h q (0 : Nat) else IntKind.wrap IntKind.i64 (sp * f ((0 : Nat) + Int.toNat (↑i : Int)) (0 : Nat))), Value.int IntKind.i64 (bif Nat.blt q n then h q (1 : Nat) else tu (w8 (mi (v8 (f ((0 : Nat) + Int.toNat (↑i : Int)) (1 : Nat)) (f ((0 : Nat) + Int.toNat (↑i : Int)) (2 : Nat)) (f ((0 : Nat) + Int.toNat (↑i : Int)) (3 : Nat)) (f ((0 : Nat) + Int.toNat (↑i : Int)) (4 : Nat)) (f ((0 : Nat) + Int.toNat (↑i : Int)) (5 : Nat)) (f ((0 : Nat) + Int.toNat (↑i : Int)) (6 : Nat)) (f ((0 : Nat) + Int.toNat (↑i : Int)) (7 : Nat)) (f ((0 : Nat) + Int.toNat (↑i : Int)) (8 : Nat))))) (md (IntKind.wrap IntKind.i64 (tn + IntKind.wrap IntKind.i64 (la * f ((0 : Nat) + Int.toNat (↑i : Int)) (0 : Nat))))) (0 : Nat)), Value.int IntKind.i64 (bif Nat.blt q n then h q (2 : Nat) else tu (w8 (mi (v8 (f ((0 : Nat) + Int.toNat (↑i : Int)) (1 : Nat)) (f ((0 : Nat) + Int.toNat (↑i : Int)) (2 : Nat)) (f ((0 : Nat) + Int.toNat (↑i : Int)) (3 : Nat)) (f ((0 : Nat) + Int.toNat (↑i : Int)) (4 : Nat)) (f ((0 : Nat) + Int.toNat (↑i : Int)) (5 : Nat)) (f ((0 : Nat) + Int.toNat (↑i : Int)) (6 : Nat)) (f ((0 : Nat) + Int.toNat (↑i : Int)) (7 : Nat)) (f ((0 : Nat) + Int.toNat (↑i : Int)) (8 : Nat))))) (md (IntKind.wrap IntKind.i64 (tn + IntKind.wrap IntKind.i64 (la * f ((0 : Nat) + Int.toNat (↑i : Int)) (0 : Nat))))) (1 : Nat)), Value.int IntKind.i64 (bif Nat.blt q n then h q (3 : Nat) else tu (w8 (mi (v8 (f ((0 : Nat) + Int.toNat (↑i : Int)) (1 : Nat)) (f ((0 : Nat) + Int.toNat (↑i : Int)) (2 : Nat)) (f ((0 : Nat) + Int.toNat (↑i : Int)) (3 : Nat)) (f ((0 : Nat) + Int.toNat (↑i : Int)) (4 : Nat)) (f ((0 : Nat) + Int.toNat (↑i : Int)) (5 : Nat)) (f ((0 : Nat) + Int.toNat (↑i : Int)) (6 : Nat)) (f ((0 : Nat) + Int.toNat (↑i : Int)) (7 : Nat)) (f ((0 : Nat) + Int.toNat (↑i : Int)) (8 : Nat))))) (md (IntKind.wrap IntKind.i64 (tn + IntKind.wrap IntKind.i64 (la * f ((0 : Nat) + Int.toNat (↑i : Int)) (0 : Nat))))) (2 : Nat)), Value.int IntKind.i64 (bif Nat.blt q n then h q (4 : Nat) else tu (w8 (mi (v8 (f ((0 : Nat) + Int.toNat (↑i : Int)) (1 : Nat)) (f ((0 : Nat) + Int.toNat (↑i : Int)) (2 : Nat)) (f ((0 : Nat) + Int.toNat (↑i : Int)) (3 : Nat)) (f ((0 : Nat) + Int.toNat (↑i : Int)) (4 : Nat)) (f ((0 : Nat) + Int.toNat (↑i : Int)) (5 : Nat)) (f ((0 : Nat) + Int.toNat (↑i : Int)) (6 : Nat)) (f ((0 : Nat) + Int.toNat (↑i : Int)) (7 : Nat)) (f ((0 : Nat) + Int.toNat (↑i : Int)) (8 : Nat))))) (md (IntKind.wrap IntKind.i64 (tn + IntKind.wrap IntKind.i64 (la * f ((0 : Nat) + Int.toNat (↑i : Int)) (0 : Nat))))) (3 : Nat)), Value.int IntKind.i64 (bif Nat.blt q n then h q (5 : Nat) else tu (w8 (mi (v8 (f ((0 : Nat) + Int.toNat (↑i : Int)) (1 : Nat)) (f ((0 : Nat) + Int.toNat (↑i : Int)) (2 : Nat)) (f ((0 : Nat) + Int.toNat (↑i : Int)) (3 : Nat)) (f ((0 : Nat) + Int.toNat (↑i : Int)) (4 : Nat)) (f ((0 : Nat) + Int.toNat (↑i : Int)) (5 : Nat)) (f ((0 : Nat) + Int.toNat (↑i : Int)) (6 : Nat)) (f ((0 : Nat) + Int.toNat (↑i : Int)) (7 : Nat)) (f ((0 : Nat) + Int.toNat (↑i : Int)) (8 : Nat))))) (md (IntKind.wrap IntKind.i64 (tn + IntKind.wrap IntKind.i64 (la * f ((0 : Nat) + Int.toNat (↑i : Int)) (0 : Nat))))) (4 : Nat)), Value.int IntKind.i64 (bif Nat.blt q n then h q (6 : Nat) else tu (w8 (mi (v8 (f ((0 : Nat) + Int.toNat (↑i : Int)) (1 : Nat)) (f ((0 : Nat) + Int.toNat (↑i : Int)) (2 : Nat)) (f ((0 : Nat) + Int.toNat (↑i : Int)) (3 : Nat)) (f ((0 : Nat) + Int.toNat (↑i : Int)) (4 : Nat)) (f ((0 : Nat) + Int.toNat (↑i : Int)) (5 : Nat)) (f ((0 : Nat) + Int.toNat (↑i : Int)) (6 : Nat)) (f ((0 : Nat) + Int.toNat (↑i : Int)) (7 : Nat)) (f ((0 : Nat) + Int.toNat (↑i : Int)) (8 : Nat))))) (md (IntKind.wrap IntKind.i64 (tn + IntKind.wrap IntKind.i64 (la * f ((0 : Nat) + Int.toNat (↑i : Int)) (0 : Nat))))) (5 : Nat)), Value.int IntKind.i64 (bif Nat.blt q n then h q (7 : Nat) else tu (w8 (mi (v8 (f ((0 : Nat) + Int.toNat (↑i : Int)) (1 : Nat)) (f ((0 : Nat) + Int.toNat (↑i : Int)) (2 : Nat)) (f ((0 : Nat) + Int.toNat (↑i : Int)) (3 : Nat)) (f ((0 : Nat) + Int.toNat (↑i : Int)) (4 : Nat)) (f ((0 : Nat) + Int.toNat (↑i : Int)) (5 : Nat)) (f ((0 : Nat) + Int.toNat (↑i : Int)) (6 : Nat)) (f ((0 : Nat) + Int.toNat (↑i : Int)) (7 : Nat)) (f ((0 : Nat) + Int.toNat (↑i : Int)) (8 : Nat))))) (md (IntKind.wrap IntKind.i64 (tn + IntKind.wrap IntKind.i64 (la * f ((0 : Nat) + Int.toNat (↑i : Int)) (0 : Nat))))) (6 : Nat)), Value.int IntKind.i64 (bif Nat.blt q n then h q (8 : Nat) else tu (w8 (mi (v8 (f ((0 : Nat) + Int.toNat (↑i : Int)) (1 : Nat)) (f ((0 : Nat) + Int.toNat (↑i : Int)) (2 : Nat)) (f ((0 : Nat) + Int.toNat (↑i : Int)) (3 : Nat)) (f ((0 : Nat) + Int.toNat (↑i : Int)) (4 : Nat)) (f ((0 : Nat) + Int.toNat (↑i : Int)) (5 : Nat)) (f ((0 : Nat) + Int.toNat (↑i : Int)) (6 : Nat)) (f ((0 : Nat) + Int.toNat (↑i : Int)) (7 : Nat)) (f ((0 : Nat) + Int.toNat (↑i : Int)) (8 : Nat))))) (md (IntKind.wrap IntKind.i64 (tn + IntKind.wrap IntKind.i64 (la * f ((0 : Nat) + Int.toNat (↑i : Int)) (0 : Nat))))) (7 : Nat))]) (67 : Nat)]) else needs [decide ((↑i : Int) < (↑m : Int)), decide ((0 : Nat) + Int.toNat (↑i : Int) < m), decide ((↑i : Int) < (↑m : Int)), decide ((0 : Nat) + Int.toNat (↑i : Int) < m), decide (md (IntKind.wrap IntKind.i64 (tn + IntKind.wrap IntKind.i64 (la * f ((0 : Nat) + Int.toNat (↑i : Int)) (0 : Nat)))) ≤ (1099511627776 : Int)), Nat.ble n n, Nat.ble (n + (1 : Nat)) (549755813888 : Nat)] (Res.out Ex.normal [AV.sl (0 : Nat) (9 : Nat) (0 : Nat) (0 : Nat) m none, AV.v (Value.int IntKind.i64 sp), AV.v (Value.int IntKind.i64 tn), AV.v (Value.int IntKind.i64 la), AV.v (Value.bool mir), AV.own (1 : Nat) (n + (1 : Nat)), AV.v (Value.int IntKind.i64 (IntKind.wrap IntKind.i64 ((↑i : Int) + (1 : Int))))] [AB.row false m (9 : Nat) (row9 f) t, AB.row true (n + (1 : Nat)) (9 : Nat) (fun q ↦ [Value.int IntKind.i64 (bif Nat.blt q n then h q (0 : Nat) else IntKind.wrap IntKind.i64 (sp * f ((0 : Nat) + Int.toNat (↑i : Int)) (0 : Nat))), Value.int IntKind.i64 (bif Nat.blt q n then h q (1 : Nat) else tu (v8 (f ((0 : Nat) + Int.toNat (↑i : Int)) (1 : Nat)) (f ((0 : Nat) + Int.toNat (↑i : Int)) (2 : Nat)) (f ((0 : Nat) + Int.toNat (↑i : Int)) (3 : Nat)) (f ((0 : Nat) + Int.toNat (↑i : Int)) (4 : Nat)) (f ((0 : Nat) + Int.toNat (↑i : Int)) (5 : Nat)) (f ((0 : Nat) + Int.toNat (↑i : Int)) (6 : Nat)) (f ((0 : Nat) + Int.toNat (↑i : Int)) (7 : Nat)) (f ((0 : Nat) + Int.toNat (↑i : Int)) (8 : Nat))) (md (IntKind.wrap IntKind.i64 (tn + IntKind.wrap IntKind.i64 (la * f ((0 : Nat) + Int.toNat (↑i : Int)) (0 : Nat))))) (0 : Nat)), Value.int IntKind.i64 (bif Nat.blt q n then h q (2 : Nat) else tu (v8 (f ((0 : Nat) + Int.toNat (↑i : Int)) (1 : Nat)) (f ((0 : Nat) + Int.toNat (↑i : Int)) (2 : Nat)) (f ((0 : Nat) + Int.toNat (↑i : Int)) (3 : Nat)) (f ((0 : Nat) + Int.toNat (↑i : Int)) (4 : Nat)) (f ((0 : Nat) + Int.toNat (↑i : Int)) (5 : Nat)) (f ((0 : Nat) + Int.toNat (↑i : Int)) (6 : Nat)) (f ((0 : Nat) + Int.toNat (↑i : Int)) (7 : Nat)) (f ((0 : Nat) + Int.toNat (↑i : Int)) (8 : Nat))) (md (IntKind.wrap IntKind.i64 (tn + IntKind.wrap IntKind.i64 (la * f ((0 : Nat) + Int.toNat (↑i : Int)) (0 : Nat))))) (1 : Nat)), Value.int IntKind.i64 (bif Nat.blt q n then h q (3 : Nat) else tu (v8 (f ((0 : Nat) + Int.toNat (↑i : Int)) (1 : Nat)) (f ((0 : Nat) + Int.toNat (↑i : Int)) (2 : Nat)) (f ((0 : Nat) + Int.toNat (↑i : Int)) (3 : Nat)) (f ((0 : Nat) + Int.toNat (↑i : Int)) (4 : Nat)) (f ((0 : Nat) + Int.toNat (↑i : Int)) (5 : Nat)) (f ((0 : Nat) + Int.toNat (↑i : Int)) (6 : Nat)) (f ((0 : Nat) + Int.toNat (↑i : Int)) (7 : Nat)) (f ((0 : Nat) + Int.toNat (↑i : Int)) (8 : Nat))) (md (IntKind.wrap IntKind.i64 (tn + IntKind.wrap IntKind.i64 (la * f ((0 : Nat) + Int.toNat (↑i : Int)) (0 : Nat))))) (2 : Nat)), Value.int IntKind.i64 (bif Nat.blt q n then h q (4 : Nat) else tu (v8 (f ((0 : Nat) + Int.toNat (↑i : Int)) (1 : Nat)) (f ((0 : Nat) + Int.toNat (↑i : Int)) (2 : Nat)) (f ((0 : Nat) + Int.toNat (↑i : Int)) (3 : Nat)) (f ((0 : Nat) + Int.toNat (↑i : Int)) (4 : Nat)) (f ((0 : Nat) + Int.toNat (↑i : Int)) (5 : Nat)) (f ((0 : Nat) + Int.toNat (↑i : Int)) (6 : Nat)) (f ((0 : Nat) + Int.toNat (↑i : Int)) (7 : Nat)) (f ((0 : Nat) + Int.toNat (↑i : Int)) (8 : Nat))) (md (IntKind.wrap IntKind.i64 (tn + IntKind.wrap IntKind.i64 (la * f ((0 : Nat) + Int.toNat (↑i : Int)) (0 : Nat))))) (3 : Nat)), Value.int IntKind.i64 (bif Nat.blt q n then h q (5 : Nat) else tu (v8 (f ((0 : Nat) + Int.toNat (↑i : Int)) (1 : Nat)) (f ((0 : Nat) + Int.toNat (↑i : Int)) (2 : Nat)) (f ((0 : Nat) + Int.toNat (↑i : Int)) (3 : Nat)) (f ((0 : Nat) + Int.toNat (↑i : Int)) (4 : Nat)) (f ((0 : Nat) + Int.toNat (↑i : Int)) (5 : Nat)) (f ((0 : Nat) + Int.toNat (↑i : Int)) (6 : Nat)) (f ((0 : Nat) + Int.toNat (↑i : Int)) (7 : Nat)) (f ((0 : Nat) + Int.toNat (↑i : Int)) (8 : Nat))) (md (IntKind.wrap IntKind.i64 (tn + IntKind.wrap IntKind.i64 (la * f ((0 : Nat) + Int.toNat (↑i : Int)) (0 : Nat))))) (4 : Nat)), Value.int IntKind.i64 (bif Nat.blt q n then h q (6 : Nat) else tu (v8 (f ((0 : Nat) + Int.toNat (↑i : Int)) (1 : Nat)) (f ((0 : Nat) + Int.toNat (↑i : Int)) (2 : Nat)) (f ((0 : Nat) + Int.toNat (↑i : Int)) (3 : Nat)) (f ((0 : Nat) + Int.toNat (↑i : Int)) (4 : Nat)) (f ((0 : Nat) + Int.toNat (↑i : Int)) (5 : Nat)) (f ((0 : Nat) + Int.toNat (↑i : Int)) (6 : Nat)) (f ((0 : Nat) + Int.toNat (↑i : Int)) (7 : Nat)) (f ((0 : Nat) + Int.toNat (↑i : Int)) (8 : Nat))) (md (IntKind.wrap IntKind.i64 (tn + IntKind.wrap IntKind.i64 (la * f ((0 : Nat) + Int.toNat (↑i : Int)) (0 : Nat))))) (5 : Nat)), Value.int IntKind.i64 (bif Nat.blt q n then h q (7 : Nat) else tu (v8 (f ((0 : Nat) + Int.toNat (↑i : Int)) (1 : Nat)) (f ((0 : Nat) + Int.toNat (↑i : Int)) (2 : Nat)) (f ((0 : Nat) + Int.toNat (↑i : Int)) (3 : Nat)) (f ((0 : Nat) + Int.toNat (↑i : Int)) (4 : Nat)) (f ((0 : Nat) + Int.toNat (↑i : Int)) (5 : Nat)) (f ((0 : Nat) + Int.toNat (↑i : Int)) (6 : Nat)) (f ((0 : Nat) + Int.toNat (↑i : Int)) (7 : Nat)) (f ((0 : Nat) + Int.toNat (↑i : Int)) (8 : Nat))) (md (IntKind.wrap IntKind.i64 (tn + IntKind.wrap IntKind.i64 (la * f ((0 : Nat) + Int.toNat (↑i : Int)) (0 : Nat))))) (6 : Nat)), Value.int IntKind.i64 (bif Nat.blt q n then h q (8 : Nat) else tu (v8 (f ((0 : Nat) + Int.toNat (↑i : Int)) (1 : Nat)) (f ((0 : Nat) + Int.toNat (↑i : Int)) (2 : Nat)) (f ((0 : Nat) + Int.toNat (↑i : Int)) (3 : Nat)) (f ((0 : Nat) + Int.toNat (↑i : Int)) (4 : Nat)) (f ((0 : Nat) + Int.toNat (↑i : Int)) (5 : Nat)) (f ((0 : Nat) + Int.toNat (↑i : Int)) (6 : Nat)) (f ((0 : Nat) + Int.toNat (↑i : Int)) (7 : Nat)) (f ((0 : Nat) + Int.toNat (↑i : Int)) (8 : Nat))) (md (IntKind.wrap IntKind.i64 (tn + IntKind.wrap IntKind.i64 (la * f ((0 : Nat) + Int.toNat (↑i : Int)) (0 : Nat))))) (7 : Nat))]) (67 : Nat)])) else Res.out (Ex.exit (0 : Nat)) [AV.own (1 : Nat) n] [AB.row false m (9 : Nat) (row9 f) t, AB.row true n (9 : Nat) (row9 h) (67 : TypeId)] := by kernel_rfl

noncomputable abbrev lamEa (m : Nat) (f : Nat → Nat → Int) (t : TypeId) (sp tn la : Int) (mir : Bool) (n : Nat) (h : Nat → Nat → Int) : Nat → Option Sum := oneL 0 (atS 71 (lvEa .normal) 1 (stEa m sp tn la mir 0 0) (hpTI m f t 0 (wfun [])) (fun K => K .normal (mkT 0 71 [(12, .own 1 n)]) (hpTI m f t n h)))
def gmE2 (okd : List Wh → Bool) (is : Int → Bool) (ti : List Wh → List Wh) (okt : List Wh → Bool) : Gam := ext (ext (ext g0 61 (specR md_ws (FdvO okd))) 93 (specV (fIsO is))) 63 (specR md_ws (FtidyO ti okt))
theorem treeEa (okd : List Wh → Bool) (is : Int → Bool) (ti : List Wh → List Wh) (okt : List Wh → Bool) (m : Nat) (f : Nat → Nat → Int) (t : TypeId) (sp tn la : Int) (mir : Bool) (n : Nat) (h : Nat → Nat → Int) : execF Try.prog (gmE2 okd is ti okt) (lamEa m f t sp tn la mir n h) 100 Try.f55 [.sl 0 9 0 0 m none, .v (i64 sp), .v (i64 tn), .v (i64 la), .v (.bool mir)] [.row false m 9 (row9 f) t] (packK 1)
    = needs [Nat.ble ((0 : Nat) + m) m, allW m fun q ↦ row9 f ((0 : Nat) + q), decide (m ≤ (549755813888 : Nat))] (bif !okd (listW (itW fun q ↦ row9 f ((0 : Nat) + q)) m) then Res.out Ex.ret [AV.tup [AV.own (1 : Nat) (0 : Nat), AV.v (Value.bool false)]] [AB.row false m (9 : Nat) (row9 f) t, AB.row true (0 : Nat) (9 : Nat) (fun x ↦ []) (67 : Nat)] else bif !is tn then Res.out Ex.ret [AV.tup [AV.own (1 : Nat) (0 : Nat), AV.v (Value.bool false)]] [AB.row false m (9 : Nat) (row9 f) t, AB.row true (0 : Nat) (9 : Nat) (fun x ↦ []) (67 : Nat)] else bif !is la then Res.out Ex.ret [AV.tup [AV.own (1 : Nat) (0 : Nat), AV.v (Value.bool false)]] [AB.row false m (9 : Nat) (row9 f) t, AB.row true (0 : Nat) (9 : Nat) (fun x ↦ []) (67 : Nat)] else needs [chk ([AV.sl (0 : Nat) (9 : Nat) (0 : Nat) (0 : Nat) m none, AV.v (Value.int IntKind.i64 sp), AV.v (Value.int IntKind.i64 tn), AV.v (Value.int IntKind.i64 la), AV.v (Value.bool mir), AV.own (1 : Nat) (0 : Nat), AV.v (Value.int IntKind.i64 (0 : Int))] = stEa m sp tn la mir (0 : Nat) (0 : Nat) ∧ Hsim [AB.row false m (9 : Nat) (row9 f) t, AB.row true (0 : Nat) (9 : Nat) (fun x ↦ []) (67 : Nat)] (hpTI m f t (0 : Nat) (wfun []))), Nat.ble n n, allW n (row9 h), decide (n ≤ (274877906944 : Nat))] (Res.out Ex.ret [AV.tup [AV.own (1 : Nat) (List.length (ti (listW (itW (row9 h)) n))), AV.v (Value.bool (okt (listW (itW (row9 h)) n)))]] [AB.row false m (9 : Nat) (row9 f) t, AB.row true (List.length (ti (listW (itW (row9 h)) n))) (9 : Nat) (row9 (wfun (ti (listW (itW (row9 h)) n)))) (67 : TypeId)])) := by kernel_rfl

theorem fIsO_eq : fIsO (fun n => inR n 0 23) = f_l1Is := by
  funext l
  rfl
theorem FtidyO_eq : FtidyO tidyL okT = F_tidy := by
  funext l
  rfl
theorem gmE1_ok : GamOk Try.prog (gmE1 (fun n => n % 24) mirF (fun a n => turnedF a n.toNat)) := by
  have e : fMirO mirF = f_l2Mirror := by funext l; rfl
  unfold gmE1
  rw [fMd_eq, FtuO_eq, e]
  exact ext_ok (ext_ok (ext_ok g0_ok ok_l1Mod) ok_l2Mirror) ok_turnedS
theorem gmE2_ok : GamOk Try.prog (gmE2 okD (fun n => inR n 0 23) tidyL okT) := by
  unfold gmE2
  rw [fIsO_eq, FtidyO_eq, FdvO_eq]
  exact ext_ok (ext_ok (ext_ok g0_ok ok_dv) ok_l1Is) ok_tidyS
/-- One wheel, changed by the reference. -/
def chE (sp tn la : Int) (mir : Bool) (w : Wh) : Wh := ⟨IntKind.wrap IntKind.i64 (sp * w.s), cyOf (turnedF (bif mir then w8 (mirF w.r.f) else w.r.f) ((IntKind.wrap IntKind.i64 (tn + IntKind.wrap IntKind.i64 (la * w.s))) % 24).toNat)⟩
theorem sumEa (m : Nat) (f : Nat → Nat → Int) (t : TypeId) (sp tn la : Int) (mir : Bool) (hm : m ≤ 2 ^ 38) :
    SumOk Try.prog 1 (.block 0 (.loop (loopAt 0 Try.f55))) (atS 71 (lvEa .normal) 1 (stEa m sp tn la mir 0 0) (hpTI m f t 0 (wfun [])) (fun K => K .normal (mkT 0 71 [(12, .own 1 m)]) (hpTI m f t m (wfun ((listW f m).map (chE sp tn la mir)))))) := by
  refine for_at gmE1_ok (n := 100) (m := 1) (lv := lvEa) (fun i => stEa m sp tn la mir i i) (fun i => hpTI m f t i (wfun ((listW f i).map (chE sp tn la mir)))) (fun _ => True) m (fun _ => noLam) (lv3_ris rfl rfl rfl) (Nat.le_refl _) trivial fun K Q hk i hi him => ⟨noLam_ok _ _ _, ?_⟩
  rw [rndEa]
  refine good_cond (fun c1 => ?_) fun c1 => ?_
  · have c1 := of_decide_eq_true c1
    have c1' : i < m := by omega
    rw [Int.toNat_natCast, Nat.zero_add, wr_in (x := (i : Int) + 1) (by omega)]
    refine good_needs (by simp only [ob_cons, ob_nil, and_true, decide_eq_true_eq, Nat.ble_eq]; omega) ?_
    cases mir with
    | true =>
      refine good_needs (by simp only [ob_cons, ob_nil, and_true, decide_eq_true_eq, Nat.ble_eq]; omega) (good_out ⟨i + 1, ⟨rfl, c1', trivial⟩, rfl, ?_⟩)
      show Hsim _ (hpTI m f t (i + 1) (wfun ((listW f (i + 1)).map (chE sp tn la true))))
      rw [listW_succ, List.map_append]
      refine .cons (ABeq.refl _) (.cons (ABeq.row fun q hq => ?_) .nil)
      exact ch_row _ (chE sp tn la true (whOf (f i))) i (by rw [List.length_map, listW_length]) q hq
    | false =>
      refine good_needs (by simp only [ob_cons, ob_nil, and_true, decide_eq_true_eq, Nat.ble_eq]; omega) (good_out ⟨i + 1, ⟨rfl, c1', trivial⟩, rfl, ?_⟩)
      show Hsim _ (hpTI m f t (i + 1) (wfun ((listW f (i + 1)).map (chE sp tn la false))))
      rw [listW_succ, List.map_append]
      refine .cons (ABeq.refl _) (.cons (ABeq.row fun q hq => ?_) .nil)
      exact ch_row _ (chE sp tn la false (whOf (f i))) i (by rw [List.length_map, listW_length]) q hq
  · have c1 := of_decide_eq_false c1
    have : i = m := by omega
    subst this
    refine good_out ⟨_, Hsim.refl _, ?_⟩
    rw [if_pos rfl]
    exact hk

def eachP (tn la : Int) (L : List Wh) : Bool := okD L && (inR tn 0 23 && inR la 0 23)
def eachOk (sp tn la : Int) (mir : Bool) (L : List Wh) : Bool := eachP tn la L && okT (L.map (chE sp tn la mir))
def eachL (sp tn la : Int) (mir : Bool) (L : List Wh) : List Wh := bif eachP tn la L then tidyL (L.map (chE sp tn la mir)) else []
def FeaO (ok : Int → Int → Int → Bool → List Wh → Bool) (el : Int → Int → Int → Bool → List Wh → List Wh) : List SA → Option FR
  | [.row m g, .v (.int .i64 sp), .v (.int .i64 tn), .v (.int .i64 la), .v (.bool mir)] => some { val := .tup [.own 0 (el sp tn la mir (listW (itW g) m)).length, .v (.bool (ok sp tn la mir (listW (itW g) m)))], new := [.row true (el sp tn la mir (listW (itW g) m)).length 9 (row9 (wfun (el sp tn la mir (listW (itW g) m)))) 67], obl := [allW m g, decide (m ≤ 2 ^ 38)] }
  | _ => none
def md_ea : List Md := [.rd 9 67, .val, .val, .val, .val]
theorem ok_each : SpecOk Try.prog 55 (specR md_ea (FeaO eachOk eachL)) := by
  refine specR_hr gmE2_ok Try.func55 rfl fun sas fr hF ho => ?_
  unfold FeaO at hF
  split at hF
  · rename_i m g sp tn la mir
    cases hF
    simp only [ob_cons] at ho
    obtain ⟨h1, h2, _⟩ := ho
    have hm := of_decide_eq_true h2
    refine ⟨[.row false m 9 (row9 (itW g)) 67], lamEa m (itW g) 67 sp tn la mir m (wfun ((listW (itW g) m).map (chE sp tn la mir))), 100, .cons (ABeq.row fun j hj => allW_get h1 j hj) .nil, lam1 (by kernel_rfl) (sumEa m (itW g) 67 sp tn la mir hm), ?_⟩
    show GoodQ (execF Try.prog (gmE2 okD (fun n => inR n 0 23) tidyL okT) (lamEa m (itW g) 67 sp tn la mir m (wfun ((listW (itW g) m).map (chE sp tn la mir)))) 100 Try.f55 [.sl 0 9 0 0 m none, .v (i64 sp), .v (i64 tn), .v (i64 la), .v (.bool mir)] [.row false m 9 (row9 (itW g)) 67] (packK 1)) _
    rw [treeEa, row0, listW_itW, listW_self ((listW (itW g) m).map (chE sp tn la mir)) m (by rw [List.length_map, listW_length])]
    have fin : ∀ (D : List Wh) (b : Bool) (G : Nat → List Value), eachOk sp tn la mir (listW (itW g) m) = b → eachL sp tn la mir (listW (itW g) m) = D → (∀ j, j < D.length → G j = row9 (wfun D) j) → GoodQ (.out .ret [.tup [.own 1 D.length, .v (.bool b)]] [.row false m 9 (row9 (itW g)) 67, .row true D.length 9 G 67])
        (GivR (abP md_ea [.row m g, .v (.int .i64 sp), .v (.int .i64 tn), .v (.int .i64 la), .v (.bool mir)] []) { val := .tup [.own 0 (eachL sp tn la mir (listW (itW g) m)).length, .v (.bool (eachOk sp tn la mir (listW (itW g) m)))], new := [.row true (eachL sp tn la mir (listW (itW g) m)).length 9 (row9 (wfun (eachL sp tn la mir (listW (itW g) m)))) 67], obl := [allW m g, decide (m ≤ 2 ^ 38)] }) := by
      rintro D b G rfl rfl hG
      exact good_out ⟨_, rfl, rfl, .cons (ABeq.row fun j hj => (allW_get h1 j hj).symm) (.cons (ABeq.row hG) .nil)⟩
    have bad : eachP tn la (listW (itW g) m) = false → GoodQ (.out .ret [.tup [.own 1 0, .v (.bool false)]] [.row false m 9 (row9 (itW g)) 67, .row true 0 9 (fun _ => []) 67]) _ := fun e =>
      fin [] false _ (by rw [eachOk, e]; rfl) (by rw [eachL, e]; rfl) fun j hj => absurd hj (Nat.not_lt_zero _)
    refine good_needs (by simp only [ob_cons, ob_nil, and_true, decide_eq_true_eq, Nat.ble_eq, allW_row, true_and]; omega) ?_
    cases q1 : okD (listW (itW g) m) with
    | false => exact good_true rfl (bad (by rw [eachP, q1]; rfl))
    | true =>
      refine good_false rfl ?_
      cases q2 : inR tn 0 23 with
      | false => exact good_true rfl (bad (by rw [eachP, q1, q2]; rfl))
      | true =>
        refine good_false rfl ?_
        cases q3 : inR la 0 23 with
        | false => exact good_true rfl (bad (by rw [eachP, q1, q2, q3]; rfl))
        | true =>
          refine good_false rfl (good_needs ?_ (fin _ _ _ (by rw [eachOk, eachP, q1, q2, q3]; rfl) (by rw [eachL, eachP, q1, q2, q3]; rfl) fun j hj => rfl))
          simp only [ob_cons, ob_nil, and_true, allW_row]
          exact ⟨chk_of ⟨rfl, .cons (ABeq.refl _) (.cons (ABeq.row fun j hj => absurd hj (Nat.not_lt_zero _)) .nil)⟩, by simp, trivial, decide_eq_true hm⟩
  · cases hF

end Go.Proofs.Ytnlfdcjpeoafhaa

/- The laws' helpers on lists of wheels: trees. Conditions: a list of wheels. -/
namespace Go.Proofs.Ytnlfdcjpeoafhaa
open Go.RowKit
set_option maxRecDepth 100000

abbrev lvTW : Ex → List Nat := lv3 [0, 3, 4] [3] [2]
abbrev hpTW (m : Nat) (f : Nat → Nat → Int) (t : TypeId) (h : Nat → Nat → Int) : List AB := [.row false m 9 (row9 f) t, .row true m 9 (row9 h) 67]
theorem rndTW (m : Nat) (f : Nat → Nat → Int) (t : TypeId) (h : Nat → Nat → Int) (i : Nat) : execC Try.prog g0 100 noLam (loopAt 0 Try.f17) (mkT 0 23 ((lvTW .normal).zip [.sl 0 9 0 0 m none, .own 1 m, .v (i64 i)])) (hpTW m f t h) (leafV 23 lvTW 1)
    = bif decide ((↑i : Int) < (↑m : Int)) then needs [decide ((↑i : Int) < (↑m : Int)), decide ((0 : Nat) + Int.toNat (↑i : Int) < m), decide ((↑i : Int) < (↑m : Int)), decide (Int.toNat (↑i : Int) < m)] (Res.out Ex.normal [AV.sl (0 : Nat) (9 : Nat) (0 : Nat) (0 : Nat) m none, AV.own (1 : Nat) m, AV.v (Value.int IntKind.i64 (IntKind.wrap IntKind.i64 ((↑i : Int) + (1 : Int))))] [AB.row false m (9 : Nat) (row9 f) t, AB.row true m (9 : Nat) (fun q ↦ [Value.int IntKind.i64 (bif Nat.beq q (Int.toNat (↑i : Int)) then f ((0 : Nat) + Int.toNat (↑i : Int)) (0 : Nat) else h q (0 : Nat)), Value.int IntKind.i64 (bif Nat.beq q (Int.toNat (↑i : Int)) then f ((0 : Nat) + Int.toNat (↑i : Int)) (1 : Nat) else h q (1 : Nat)), Value.int IntKind.i64 (bif Nat.beq q (Int.toNat (↑i : Int)) then f ((0 : Nat) + Int.toNat (↑i : Int)) (2 : Nat) else h q (2 : Nat)), Value.int IntKind.i64 (bif Nat.beq q (Int.toNat (↑i : Int)) then f ((0 : Nat) + Int.toNat (↑i : Int)) (3 : Nat) else h q (3 : Nat)), Value.int IntKind.i64 (bif Nat.beq q (Int.toNat (↑i : Int)) then f ((0 : Nat) + Int.toNat (↑i : Int)) (4 : Nat) else h q (4 : Nat)), Value.int IntKind.i64 (bif Nat.beq q (Int.toNat (↑i : Int)) then f ((0 : Nat) + Int.toNat (↑i : Int)) (5 : Nat) else h q (5 : Nat)), Value.int IntKind.i64 (bif Nat.beq q (Int.toNat (↑i : Int)) then f ((0 : Nat) + Int.toNat (↑i : Int)) (6 : Nat) else h q (6 : Nat)), Value.int IntKind.i64 (bif Nat.beq q (Int.toNat (↑i : Int)) then f ((0 : Nat) + Int.toNat (↑i : Int)) (7 : Nat) else h q (7 : Nat)), Value.int IntKind.i64 (bif Nat.beq q (Int.toNat (↑i : Int)) then f ((0 : Nat) + Int.toNat (↑i : Int)) (8 : Nat) else h q (8 : Nat))]) (67 : TypeId)]) else Res.out (Ex.exit (0 : Nat)) [AV.own (1 : Nat) m] [AB.row false m (9 : Nat) (row9 f) t, AB.row true m (9 : Nat) (row9 h) (67 : TypeId)] := by kernel_rfl

noncomputable abbrev lamTW (m : Nat) (f : Nat → Nat → Int) (t : TypeId) : Nat → Option Sum := oneL 0 (atS 23 (lvTW .normal) 1 [.sl 0 9 0 0 m none, .own 1 m, .v (i64 (0 : Nat))] (hpTW m f t (fun j k => bif Nat.blt j 0 then f j k else 0)) (fun K => K .normal (mkT 0 23 [(3, .own 1 m)]) (hpTW m f t f)))
theorem treeTW (m : Nat) (f : Nat → Nat → Int) (t : TypeId) : execF Try.prog g0 (lamTW m f t) 100 Try.f17 [.sl 0 9 0 0 m none] [.row false m 9 (row9 f) t] (packK 1)
    = needs [decide ((↑m : Int) ≤ (↑m : Int)), decide ((↑m : Int) ≤ (1099511627776 : Int)), chk ([AV.sl (0 : Nat) (9 : Nat) (0 : Nat) (0 : Nat) m none, AV.own (1 : Nat) (Int.toNat (↑m : Int)), AV.v (Value.int IntKind.i64 (0 : Int))] = [AV.sl (0 : Nat) (9 : Nat) (0 : Nat) (0 : Nat) m none, AV.own (1 : Nat) m, AV.v (Value.int IntKind.i64 (0 : Int))] ∧ Hsim [AB.row false m (9 : Nat) (row9 f) t, AB.row true (Int.toNat (↑m : Int)) (9 : Nat) (fun x ↦ [Value.int IntKind.i64 (0 : Int), Value.int IntKind.i64 (0 : Int), Value.int IntKind.i64 (0 : Int), Value.int IntKind.i64 (0 : Int), Value.int IntKind.i64 (0 : Int), Value.int IntKind.i64 (0 : Int), Value.int IntKind.i64 (0 : Int), Value.int IntKind.i64 (0 : Int), Value.int IntKind.i64 (0 : Int)]) (67 : Nat)] (hpTW m f t fun j k ↦ bif Nat.blt j (0 : Nat) then f j k else (0 : Int)))] (Res.out Ex.ret [AV.own (1 : Nat) m] [AB.row false m (9 : Nat) (row9 f) t, AB.row true m (9 : Nat) (row9 f) (67 : TypeId)]) := by kernel_rfl

theorem treeQW (a b : Nat → Int) : execF Try.prog g0 noLam 100 Try.f60 ([Value.agg ⟨[i64 (a 0), i64 (a 1), i64 (a 2), i64 (a 3), i64 (a 4), i64 (a 5), i64 (a 6), i64 (a 7), i64 (a 8)]⟩, Value.agg ⟨[i64 (b 0), i64 (b 1), i64 (b 2), i64 (b 3), i64 (b 4), i64 (b 5), i64 (b 6), i64 (b 7), i64 (b 8)]⟩].map .v) [] valK
    = bif a (0 : Nat) != b (0 : Nat) then Res.out Ex.ret [AV.v (Value.bool false)] [] else bif a (1 : Nat) != b (1 : Nat) then Res.out Ex.ret [AV.v (Value.bool false)] [] else bif a (2 : Nat) != b (2 : Nat) then Res.out Ex.ret [AV.v (Value.bool false)] [] else bif a (3 : Nat) != b (3 : Nat) then Res.out Ex.ret [AV.v (Value.bool false)] [] else bif a (4 : Nat) != b (4 : Nat) then Res.out Ex.ret [AV.v (Value.bool false)] [] else bif a (5 : Nat) != b (5 : Nat) then Res.out Ex.ret [AV.v (Value.bool false)] [] else bif a (6 : Nat) != b (6 : Nat) then Res.out Ex.ret [AV.v (Value.bool false)] [] else bif a (7 : Nat) != b (7 : Nat) then Res.out Ex.ret [AV.v (Value.bool false)] [] else bif a (8 : Nat) != b (8 : Nat) then Res.out Ex.ret [AV.v (Value.bool false)] [] else Res.out Ex.ret [AV.v (Value.bool true)] [] := by kernel_rfl

def f_eqW : List Value → Option (Value × List Bool)
  | [.agg ⟨[.int .i64 a0, .int .i64 a1, .int .i64 a2, .int .i64 a3, .int .i64 a4, .int .i64 a5, .int .i64 a6, .int .i64 a7, .int .i64 a8]⟩, .agg ⟨[.int .i64 b0, .int .i64 b1, .int .i64 b2, .int .i64 b3, .int .i64 b4, .int .i64 b5, .int .i64 b6, .int .i64 b7, .int .i64 b8]⟩] => some (.bool true, [decide (a0 = b0), decide (a1 = b1), decide (a2 = b2), decide (a3 = b3), decide (a4 = b4), decide (a5 = b5), decide (a6 = b6), decide (a7 = b7), decide (a8 = b8)])
  | _ => none
def gmQ : Gam := ext g0 60 (specV f_eqW)
abbrev lvQW : Ex → List Nat := lv3 [0, 1, 5] [] [4]
abbrev hpQW (m : Nat) (f h : Nat → Nat → Int) : List AB := [.row false m 9 (row9 f) 67, .row false m 9 (row9 h) 67]
theorem rndQW (m : Nat) (f h : Nat → Nat → Int) (i : Nat) : execC Try.prog gmQ 100 noLam (loopAt 0 Try.f19) (mkT 0 27 ((lvQW .normal).zip [.sl 0 9 0 0 m none, .sl 1 9 0 0 m none, .v (i64 i)])) (hpQW m f h) (leafV 27 lvQW 2)
    = bif decide ((↑i : Int) < (↑m : Int)) then needs [decide ((↑i : Int) < (↑m : Int)), decide ((0 : Nat) + Int.toNat (↑i : Int) < m), decide ((↑i : Int) < (↑m : Int)), decide ((0 : Nat) + Int.toNat (↑i : Int) < m), decide (f ((0 : Nat) + Int.toNat (↑i : Int)) (0 : Nat) = h ((0 : Nat) + Int.toNat (↑i : Int)) (0 : Nat)), decide (f ((0 : Nat) + Int.toNat (↑i : Int)) (1 : Nat) = h ((0 : Nat) + Int.toNat (↑i : Int)) (1 : Nat)), decide (f ((0 : Nat) + Int.toNat (↑i : Int)) (2 : Nat) = h ((0 : Nat) + Int.toNat (↑i : Int)) (2 : Nat)), decide (f ((0 : Nat) + Int.toNat (↑i : Int)) (3 : Nat) = h ((0 : Nat) + Int.toNat (↑i : Int)) (3 : Nat)), decide (f ((0 : Nat) + Int.toNat (↑i : Int)) (4 : Nat) = h ((0 : Nat) + Int.toNat (↑i : Int)) (4 : Nat)), decide (f ((0 : Nat) + Int.toNat (↑i : Int)) (5 : Nat) = h ((0 : Nat) + Int.toNat (↑i : Int)) (5 : Nat)), decide (f ((0 : Nat) + Int.toNat (↑i : Int)) (6 : Nat) = h ((0 : Nat) + Int.toNat (↑i : Int)) (6 : Nat)), decide (f ((0 : Nat) + Int.toNat (↑i : Int)) (7 : Nat) = h ((0 : Nat) + Int.toNat (↑i : Int)) (7 : Nat)), decide (f ((0 : Nat) + Int.toNat (↑i : Int)) (8 : Nat) = h ((0 : Nat) + Int.toNat (↑i : Int)) (8 : Nat))] (Res.out Ex.normal [AV.sl (0 : Nat) (9 : Nat) (0 : Nat) (0 : Nat) m none, AV.sl (1 : Nat) (9 : Nat) (0 : Nat) (0 : Nat) m none, AV.v (Value.int IntKind.i64 (IntKind.wrap IntKind.i64 ((↑i : Int) + (1 : Int))))] [AB.row false m (9 : Nat) (row9 f) (67 : TypeId), AB.row false m (9 : Nat) (row9 h) (67 : TypeId)]) else Res.out (Ex.exit (0 : Nat)) [] [AB.row false m (9 : Nat) (row9 f) (67 : TypeId), AB.row false m (9 : Nat) (row9 h) (67 : TypeId)] := by kernel_rfl

noncomputable abbrev lamQW (m : Nat) (f h : Nat → Nat → Int) : Nat → Option Sum := oneL 0 (atS 27 (lvQW .normal) 2 [.sl 0 9 0 0 m none, .sl 1 9 0 0 m none, .v (i64 (0 : Nat))] (hpQW m f h) (fun K => K .normal (mkT 0 27 []) (hpQW m f h)))
theorem treeQS (m : Nat) (f h : Nat → Nat → Int) : execF Try.prog g0 (lamQW m f h) 100 Try.f19 [.sl 0 9 0 0 m none, .sl 1 9 0 0 m none] (hpQW m f h) (packK 2)
    = bif (↑m : Int) != (↑m : Int) then Res.out Ex.ret [AV.v (Value.bool false)] [AB.row false m (9 : Nat) (row9 f) (67 : TypeId), AB.row false m (9 : Nat) (row9 h) (67 : TypeId)] else needs [chk ([AV.sl (0 : Nat) (9 : Nat) (0 : Nat) (0 : Nat) m none, AV.sl (1 : Nat) (9 : Nat) (0 : Nat) (0 : Nat) m none, AV.v (Value.int IntKind.i64 (0 : Int))] = [AV.sl (0 : Nat) (9 : Nat) (0 : Nat) (0 : Nat) m none, AV.sl (1 : Nat) (9 : Nat) (0 : Nat) (0 : Nat) m none, AV.v (Value.int IntKind.i64 (0 : Int))] ∧ Hsim [AB.row false m (9 : Nat) (row9 f) (67 : TypeId), AB.row false m (9 : Nat) (row9 h) (67 : TypeId)] (hpQW m f h))] (Res.out Ex.ret [AV.v (Value.bool true)] [AB.row false m (9 : Nat) (row9 f) (67 : TypeId), AB.row false m (9 : Nat) (row9 h) (67 : TypeId)]) := by kernel_rfl

abbrev lvHW : Ex → List Nat := lv3 [0, 1, 5] [1] [4]
abbrev hpHW (m : Nat) (f : Nat → Nat → Int) : List AB := [.row false m 9 (row9 f) 67]
theorem rndHW (m : Nat) (f : Nat → Nat → Int) (k : Int) (i : Nat) : execC Try.prog g0 100 noLam (loopAt 0 Try.f21) (mkT 0 39 ((lvHW .normal).zip [.sl 0 9 0 0 m none, .v (i64 k), .v (i64 i)])) (hpHW m f) (leafV 39 lvHW 1)
    = bif decide ((↑i : Int) < (↑m : Int)) then needs [decide ((↑i : Int) < (↑m : Int)), decide ((0 : Nat) + Int.toNat (↑i : Int) < m)] (bif f ((0 : Nat) + Int.toNat (↑i : Int)) (0 : Nat) != k then Res.out Ex.ret [AV.v (Value.int IntKind.i64 (-1 : Int))] [AB.row false m (9 : Nat) (row9 f) (67 : TypeId)] else needs [decide ((↑i : Int) < (↑m : Int)), decide ((0 : Nat) + Int.toNat (↑i : Int) < m)] (bif f ((0 : Nat) + Int.toNat (↑i : Int)) (1 : Nat) != IntKind.wrap IntKind.i64 (k + (1 : Int)) then Res.out Ex.ret [AV.v (Value.int IntKind.i64 (-1 : Int))] [AB.row false m (9 : Nat) (row9 f) (67 : TypeId)] else needs [decide ((↑i : Int) < (↑m : Int)), decide ((0 : Nat) + Int.toNat (↑i : Int) < m)] (bif f ((0 : Nat) + Int.toNat (↑i : Int)) (2 : Nat) != IntKind.wrap IntKind.i64 (IntKind.wrap IntKind.i64 (k + (1 : Int)) + (1 : Int)) then Res.out Ex.ret [AV.v (Value.int IntKind.i64 (-1 : Int))] [AB.row false m (9 : Nat) (row9 f) (67 : TypeId)] else needs [decide ((↑i : Int) < (↑m : Int)), decide ((0 : Nat) + Int.toNat (↑i : Int) < m)] (bif f ((0 : Nat) + Int.toNat (↑i : Int)) (3 : Nat) != IntKind.wrap IntKind.i64 (IntKind.wrap IntKind.i64 (IntKind.wrap IntKind.i64 (k + (1 : Int)) + (1 : Int)) + (1 : Int)) then Res.out Ex.ret [AV.v (Value.int IntKind.i64 (-1 : Int))] [AB.row false m (9 : Nat) (row9 f) (67 : TypeId)] else needs [decide ((↑i : Int) < (↑m : Int)), decide ((0 : Nat) + Int.toNat (↑i : Int) < m)] (bif f ((0 : Nat) + Int.toNat (↑i : Int)) (4 : Nat) != IntKind.wrap IntKind.i64 (IntKind.wrap IntKind.i64 (IntKind.wrap IntKind.i64 (IntKind.wrap IntKind.i64 (k + (1 : Int)) + (1 : Int)) + (1 : Int)) + (1 : Int)) then Res.out Ex.ret [AV.v (Value.int IntKind.i64 (-1 : Int))] [AB.row false m (9 : Nat) (row9 f) (67 : TypeId)] else needs [decide ((↑i : Int) < (↑m : Int)), decide ((0 : Nat) + Int.toNat (↑i : Int) < m)] (bif f ((0 : Nat) + Int.toNat (↑i : Int)) (5 : Nat) != IntKind.wrap IntKind.i64 (IntKind.wrap IntKind.i64 (IntKind.wrap IntKind.i64 (IntKind.wrap IntKind.i64 (IntKind.wrap IntKind.i64 (k + (1 : Int)) + (1 : Int)) + (1 : Int)) + (1 : Int)) + (1 : Int)) then Res.out Ex.ret [AV.v (Value.int IntKind.i64 (-1 : Int))] [AB.row false m (9 : Nat) (row9 f) (67 : TypeId)] else needs [decide ((↑i : Int) < (↑m : Int)), decide ((0 : Nat) + Int.toNat (↑i : Int) < m)] (bif f ((0 : Nat) + Int.toNat (↑i : Int)) (6 : Nat) != IntKind.wrap IntKind.i64 (IntKind.wrap IntKind.i64 (IntKind.wrap IntKind.i64 (IntKind.wrap IntKind.i64 (IntKind.wrap IntKind.i64 (IntKind.wrap IntKind.i64 (k + (1 : Int)) + (1 : Int)) + (1 : Int)) + (1 : Int)) + (1 : Int)) + (1 : Int)) then Res.out Ex.ret [AV.v (Value.int IntKind.i64 (-1 : Int))] [AB.row false m (9 : Nat) (row9 f) (67 : TypeId)] else needs [decide ((↑i : Int) < (↑m : Int)), decide ((0 : Nat) + Int.toNat (↑i : Int) < m)] (bif f ((0 : Nat) + Int.toNat (↑i : Int)) (7 : Nat) != IntKind.wrap IntKind.i64 (IntKind.wrap IntKind.i64 (IntKind.wrap IntKind.i64 (IntKind.wrap IntKind.i64 (IntKind.wrap IntKind.i64 (IntKind.wrap IntKind.i64 (IntKind.wrap IntKind.i64 (k + (1 : Int)) + (1 : Int)) + (1 : Int)) + (1 : Int)) + (1 : Int)) + (1 : Int)) + (1 : Int)) then Res.out Ex.ret [AV.v (Value.int IntKind.i64 (-1 : Int))] [AB.row false m (9 : Nat) (row9 f) (67 : TypeId)] else needs [decide ((↑i : Int) < (↑m : Int)), decide ((0 : Nat) + Int.toNat (↑i : Int) < m)] (bif f ((0 : Nat) + Int.toNat (↑i : Int)) (8 : Nat) != IntKind.wrap IntKind.i64 (IntKind.wrap IntKind.i64 (IntKind.wrap IntKind.i64 (IntKind.wrap IntKind.i64 (IntKind.wrap IntKind.i64 (IntKind.wrap IntKind.i64 (IntKind.wrap IntKind.i64 (IntKind.wrap IntKind.i64 (k + (1 : Int)) + (1 : Int)) + (1 : Int)) + (1 : Int)) + (1 : Int)) + (1 : Int)) + (1 : Int)) + (1 : Int)) then Res.out Ex.ret [AV.v (Value.int IntKind.i64 (-1 : Int))] [AB.row false m (9 : Nat) (row9 f) (67 : TypeId)] else Res.out Ex.normal [AV.sl (0 : Nat) (9 : Nat) (0 : Nat) (0 : Nat) m none, AV.v (Value.int IntKind.i64 (IntKind.wrap IntKind.i64 (IntKind.wrap IntKind.i64 (IntKind.wrap IntKind.i64 (IntKind.wrap IntKind.i64 (IntKind.wrap IntKind.i64 (IntKind.wrap IntKind.i64 (IntKind.wrap IntKind.i64 (IntKind.wrap IntKind.i64 (IntKind.wrap IntKind.i64 (k + (1 : Int)) + (1 : Int)) + (1 : Int)) + (1 : Int)) + (1 : Int)) + (1 : Int)) + (1 : Int)) + (1 : Int)) + (1 : Int)))), AV.v (Value.int IntKind.i64 (IntKind.wrap IntKind.i64 ((↑i : Int) + (1 : Int))))] [AB.row false m (9 : Nat) (row9 f) (67 : TypeId)]))))))))) else Res.out (Ex.exit (0 : Nat)) [AV.v (Value.int IntKind.i64 k)] [AB.row false m (9 : Nat) (row9 f) (67 : TypeId)] := by kernel_rfl

noncomputable abbrev lamHW (m : Nat) (f : Nat → Nat → Int) (k k2 : Int) : Nat → Option Sum := oneL 0 (atS 39 (lvHW .normal) 1 [.sl 0 9 0 0 m none, .v (i64 k), .v (i64 (0 : Nat))] (hpHW m f) (fun K => K .normal (mkT 0 39 [(1, .v (i64 k2))]) (hpHW m f)))
theorem treeHW (m : Nat) (f : Nat → Nat → Int) (k k2 : Int) : execF Try.prog g0 (lamHW m f k k2) 100 Try.f21 [.sl 0 9 0 0 m none, .v (i64 k)] (hpHW m f) (packK 1)
    = needs [chk ([AV.sl (0 : Nat) (9 : Nat) (0 : Nat) (0 : Nat) m none, AV.v (Value.int IntKind.i64 k), AV.v (Value.int IntKind.i64 (0 : Int))] = [AV.sl (0 : Nat) (9 : Nat) (0 : Nat) (0 : Nat) m none, AV.v (Value.int IntKind.i64 k), AV.v (Value.int IntKind.i64 (0 : Int))] ∧ Hsim [AB.row false m (9 : Nat) (row9 f) (67 : TypeId)] (hpHW m f))] (Res.out Ex.ret [AV.v (Value.int IntKind.i64 k2)] [AB.row false m (9 : Nat) (row9 f) (67 : TypeId)]) := by kernel_rfl

abbrev lvMW : Ex → List Nat := lv3 [0, 1, 5] [1] [4]
abbrev hpMW (m : Nat) (f : Nat → Nat → Int) : List AB := [.row true m 9 (row9 f) 67]
abbrev wr1 (k : Int) : Int := IntKind.i64.wrap (k + 1)
def upd1 (G : Nat → List Value) (i q : Nat) (v : Value) : Nat → List Value := fun j => mergeL (Nat.beq j i) (splice (G i) q [v]) (G j)
theorem rndMo (m : Nat) (f : Nat → Nat → Int) (k : Int) (i : Nat) : execC Try.prog g0 100 noLam (loopAt 0 Try.f20) (mkT 0 35 ((lvMW .normal).zip [.own 0 m, .v (i64 k), .v (i64 i)])) (hpMW m f) (leafV 35 lvMW 1)
    = cond (decide ((i : Int) < m)) (needs ((List.range 9).flatMap fun _ => [decide ((i : Int) < m), decide (i < m)])
        (.out .normal [.own 0 m, .v (i64 (wr1 (wr1 (wr1 (wr1 (wr1 (wr1 (wr1 (wr1 (wr1 k)))))))))), .v (i64 (wr1 i))] [.row true m 9 (upd1 (upd1 (upd1 (upd1 (upd1 (upd1 (upd1 (upd1 (upd1 (row9 f) i 0 (i64 k)) i 1 (i64 (wr1 k))) i 2 (i64 (wr1 (wr1 k)))) i 3 (i64 (wr1 (wr1 (wr1 k))))) i 4 (i64 (wr1 (wr1 (wr1 (wr1 k)))))) i 5 (i64 (wr1 (wr1 (wr1 (wr1 (wr1 k))))))) i 6 (i64 (wr1 (wr1 (wr1 (wr1 (wr1 (wr1 k)))))))) i 7 (i64 (wr1 (wr1 (wr1 (wr1 (wr1 (wr1 (wr1 k))))))))) i 8 (i64 (wr1 (wr1 (wr1 (wr1 (wr1 (wr1 (wr1 (wr1 k)))))))))) 67]))
      (.out (.exit 0) [.v (i64 k)] (hpMW m f)) := by kernel_rfl
theorem rndMs (m : Nat) (f : Nat → Nat → Int) (k : Int) (i : Nat) : execC Try.prog g0 100 noLam (loopAt 0 Try.f20) (mkT 0 35 ((lvMW .normal).zip [.sl 0 9 0 0 m (some m), .v (i64 k), .v (i64 i)])) (hpMW m f) (leafV 35 lvMW 1)
    = cond (decide ((i : Int) < m)) (needs ((List.range 9).flatMap fun _ => [decide ((i : Int) < m), decide (0 + i < m)])
        (.out .normal [.sl 0 9 0 0 m (some m), .v (i64 (wr1 (wr1 (wr1 (wr1 (wr1 (wr1 (wr1 (wr1 (wr1 k)))))))))), .v (i64 (wr1 i))] [.row true m 9 (upd1 (upd1 (upd1 (upd1 (upd1 (upd1 (upd1 (upd1 (upd1 (row9 f) (0 + i) 0 (i64 k)) (0 + i) 1 (i64 (wr1 k))) (0 + i) 2 (i64 (wr1 (wr1 k)))) (0 + i) 3 (i64 (wr1 (wr1 (wr1 k))))) (0 + i) 4 (i64 (wr1 (wr1 (wr1 (wr1 k)))))) (0 + i) 5 (i64 (wr1 (wr1 (wr1 (wr1 (wr1 k))))))) (0 + i) 6 (i64 (wr1 (wr1 (wr1 (wr1 (wr1 (wr1 k)))))))) (0 + i) 7 (i64 (wr1 (wr1 (wr1 (wr1 (wr1 (wr1 (wr1 k))))))))) (0 + i) 8 (i64 (wr1 (wr1 (wr1 (wr1 (wr1 (wr1 (wr1 (wr1 k)))))))))) 67]))
      (.out (.exit 0) [.v (i64 k)] (hpMW m f)) := by kernel_rfl

noncomputable abbrev lamMW (s : AV) (m : Nat) (f h : Nat → Nat → Int) (k k2 : Int) : Nat → Option Sum := oneL 0 (atS 35 (lvMW .normal) 1 [s, .v (i64 k), .v (i64 (0 : Nat))] (hpMW m f) (fun K => K .normal (mkT 0 35 [(1, .v (i64 k2))]) (hpMW m h)))
theorem treeMo (m : Nat) (f h : Nat → Nat → Int) (k k2 : Int) : execF Try.prog g0 (lamMW (.own 0 m) m f h k k2) 100 Try.f20 [.own 0 m, .v (i64 k)] (hpMW m f) (packK 1)
    = needs [chk ([AV.own (0 : Nat) m, AV.v (Value.int IntKind.i64 k), AV.v (Value.int IntKind.i64 (0 : Int))] = [AV.own (0 : Nat) m, AV.v (Value.int IntKind.i64 k), AV.v (Value.int IntKind.i64 (0 : Int))] ∧ Hsim [AB.row true m (9 : Nat) (row9 f) (67 : TypeId)] (hpMW m f))] (Res.out Ex.ret [AV.v (Value.int IntKind.i64 k2)] [AB.row true m (9 : Nat) (row9 h) (67 : TypeId)]) := by kernel_rfl

theorem treeMs (m : Nat) (f h : Nat → Nat → Int) (k k2 : Int) : execF Try.prog g0 (lamMW (.sl 0 9 0 0 m (some m)) m f h k k2) 100 Try.f20 [.sl 0 9 0 0 m (some m), .v (i64 k)] (hpMW m f) (packK 1)
    = needs [chk ([AV.sl (0 : Nat) (9 : Nat) (0 : Nat) (0 : Nat) m (some m), AV.v (Value.int IntKind.i64 k), AV.v (Value.int IntKind.i64 (0 : Int))] = [AV.sl (0 : Nat) (9 : Nat) (0 : Nat) (0 : Nat) m (some m), AV.v (Value.int IntKind.i64 k), AV.v (Value.int IntKind.i64 (0 : Int))] ∧ Hsim [AB.row true m (9 : Nat) (row9 f) (67 : TypeId)] (hpMW m f))] (Res.out Ex.ret [AV.v (Value.int IntKind.i64 k2)] [AB.row true m (9 : Nat) (row9 h) (67 : TypeId)]) := by kernel_rfl

end Go.Proofs.Ytnlfdcjpeoafhaa

/- The laws' helpers on lists of wheels. Conditions: those that the words name. -/
namespace Go.Proofs.Ytnlfdcjpeoafhaa
open Go.RowKit
set_option maxRecDepth 100000

theorem sumTW (m : Nat) (f : Nat → Nat → Int) (t : TypeId) (hm : m ≤ 2 ^ 40) :
    SumOk Try.prog 1 (.block 0 (.loop (loopAt 0 Try.f17))) (atS 23 (lvTW .normal) 1 [.sl 0 9 0 0 m none, .own 1 m, .v (i64 (0 : Nat))] (hpTW m f t (fun j k => bif Nat.blt j 0 then f j k else 0)) (fun K => K .normal (mkT 0 23 [(3, .own 1 m)]) (hpTW m f t f))) := by
  refine for_at g0_ok (n := 100) (m := 1) (lv := lvTW) (fun i => [.sl 0 9 0 0 m none, .own 1 m, .v (i64 (i : Nat))]) (fun i => hpTW m f t (fun j k => bif Nat.blt j i then f j k else 0)) (fun _ => True) m (fun _ => noLam) (lv3_ris rfl rfl rfl) (Nat.le_refl _) trivial fun K Q hk i hi him => ⟨noLam_ok _ _ _, ?_⟩
  rw [rndTW]
  refine good_cond (fun c1 => ?_) fun c1 => ?_
  · have c1 := of_decide_eq_true c1
    have c1' : i < m := by omega
    rw [Int.toNat_natCast, Nat.zero_add, wr_in (x := (i : Int) + 1) (by omega)]
    refine good_needs (by simp only [ob_cons, ob_nil, and_true, decide_eq_true_eq]; omega) (good_out ⟨i + 1, ⟨rfl, c1', trivial⟩, rfl, .cons (ABeq.refl _) (.cons (ABeq.row fun q hq => ?_) .nil)⟩)
    show row9 (fun q k => bif Nat.beq q i then f i k else bif Nat.blt q i then f q k else 0) q = _
    refine row9_congr fun k hk9 => ?_
    by_cases e : q = i
    · rw [e, show Nat.beq i i = true from Nat.beq_refl i, blt_yes (Nat.lt_succ_self i), cond_true, cond_true]
    · rw [beq_ne e, cond_false]
      by_cases h : q < i
      · rw [blt_yes h, blt_yes (by omega : q < i + 1)]
      · have b1 : Nat.blt q i = false := by
          cases hb : Nat.blt q i with
          | false => rfl
          | true => rw [Nat.blt_eq] at hb; omega
        have b2 : Nat.blt q (i + 1) = false := by
          cases hb : Nat.blt q (i + 1) with
          | false => rfl
          | true => rw [Nat.blt_eq] at hb; omega
        rw [b1, b2]
  · have c1 := of_decide_eq_false c1
    have : i = m := by omega
    subst this
    refine good_out ⟨hpTW i f t f, .cons (ABeq.refl _) (.cons (ABeq.row fun q hq => ?_) .nil), ?_⟩
    · exact row9_congr fun k _ => by rw [blt_yes hq]; rfl
    · rw [if_pos rfl]
      exact hk
def F_toW : List SA → Option FR
  | [.row m g] => some { val := .own 0 m, new := [.row true m 9 (row9 (itW g)) 67], obl := [allW m g, decide (m ≤ 2 ^ 39)] }
  | _ => none
def md_toW : List Md := [.rd 9 72]
theorem ok_toW : SpecOk Try.prog 17 (specR md_toW F_toW) := by
  refine specR_hr g0_ok Try.func17 rfl fun sas fr hF ho => ?_
  unfold F_toW at hF
  split at hF
  · rename_i m g
    cases hF
    simp only [ob_cons] at ho
    obtain ⟨h1, h2, _⟩ := ho
    have hm := of_decide_eq_true h2
    refine ⟨[.row false m 9 (row9 (itW g)) 72], lamTW m (itW g) 72, 100, .cons (ABeq.row fun j hj => allW_get h1 j hj) .nil, lam1 (by kernel_rfl) (sumTW m (itW g) 72 (by omega)), ?_⟩
    show GoodQ (execF Try.prog g0 (lamTW m (itW g) 72) 100 Try.f17 [.sl 0 9 0 0 m none] [.row false m 9 (row9 (itW g)) 72] (packK 1)) _
    rw [treeTW]
    simp only [Int.toNat_natCast]
    refine good_needs ?_ (good_out ⟨_, rfl, rfl, .cons (ABeq.row fun j hj => (allW_get h1 j hj).symm) (Hsim.refl _)⟩)
    simp only [ob_cons, ob_nil, and_true]
    exact ⟨by simp, decide_eq_true (by omega), chk_of ⟨trivial, .cons (ABeq.refl _) (.cons (ABeq.row fun j hj => rfl) .nil)⟩⟩
  · cases hF

theorem ok_eqW : SpecOk Try.prog 60 (specV f_eqW) := by
  refine mkV (n := 100) g0_ok Try.func60 rfl fun vs v ob hF ho => ?_
  unfold f_eqW at hF
  split at hF
  · rename_i a0 a1 a2 a3 a4 a5 a6 a7 a8 b0 b1 b2 b3 b4 b5 b6 b7 b8
    cases hF
    simp only [ob_cons, decide_eq_true_eq] at ho
    obtain ⟨rfl, rfl, rfl, rfl, rfl, rfl, rfl, rfl, rfl, _⟩ := ho
    show Good (execF Try.prog g0 noLam 100 Try.f60 ([Value.agg ⟨[i64 (v9 a0 a1 a2 a3 a4 a5 a6 a7 a8 0), i64 (v9 a0 a1 a2 a3 a4 a5 a6 a7 a8 1), i64 (v9 a0 a1 a2 a3 a4 a5 a6 a7 a8 2), i64 (v9 a0 a1 a2 a3 a4 a5 a6 a7 a8 3), i64 (v9 a0 a1 a2 a3 a4 a5 a6 a7 a8 4), i64 (v9 a0 a1 a2 a3 a4 a5 a6 a7 a8 5), i64 (v9 a0 a1 a2 a3 a4 a5 a6 a7 a8 6), i64 (v9 a0 a1 a2 a3 a4 a5 a6 a7 a8 7), i64 (v9 a0 a1 a2 a3 a4 a5 a6 a7 a8 8)]⟩, Value.agg ⟨[i64 (v9 a0 a1 a2 a3 a4 a5 a6 a7 a8 0), i64 (v9 a0 a1 a2 a3 a4 a5 a6 a7 a8 1), i64 (v9 a0 a1 a2 a3 a4 a5 a6 a7 a8 2), i64 (v9 a0 a1 a2 a3 a4 a5 a6 a7 a8 3), i64 (v9 a0 a1 a2 a3 a4 a5 a6 a7 a8 4), i64 (v9 a0 a1 a2 a3 a4 a5 a6 a7 a8 5), i64 (v9 a0 a1 a2 a3 a4 a5 a6 a7 a8 6), i64 (v9 a0 a1 a2 a3 a4 a5 a6 a7 a8 7), i64 (v9 a0 a1 a2 a3 a4 a5 a6 a7 a8 8)]⟩].map .v) [] valK) _
    rw [treeQW]
    simp only [bne_self_eq_false, cond_false]
    exact one rfl
  · cases hF
theorem gmQ_ok : GamOk Try.prog gmQ := ext_ok g0_ok ok_eqW

/-- The first m wheels are the same. -/
def sameP (m : Nat) (f h : Nat → Nat → Int) : Prop := ∀ j, j < m → ∀ k, k < 9 → f j k = h j k
noncomputable def sameW (m : Nat) (f h : Nat → Nat → Int) : Bool := chk (sameP m f h)
theorem sumQW (m : Nat) (f h : Nat → Nat → Int) (hm : m ≤ 2 ^ 40) (hs : sameP m f h) :
    SumOk Try.prog 2 (.block 0 (.loop (loopAt 0 Try.f19))) (atS 27 (lvQW .normal) 2 [.sl 0 9 0 0 m none, .sl 1 9 0 0 m none, .v (i64 (0 : Nat))] (hpQW m f h) (fun K => K .normal (mkT 0 27 []) (hpQW m f h))) := by
  refine for_at gmQ_ok (n := 100) (m := 2) (lv := lvQW) (fun i => [.sl 0 9 0 0 m none, .sl 1 9 0 0 m none, .v (i64 (i : Nat))]) (fun _ => hpQW m f h) (fun _ => True) m (fun _ => noLam) (lv3_ris rfl rfl rfl) (Nat.le_refl _) trivial fun K Q hk i hi him => ⟨noLam_ok _ _ _, ?_⟩
  rw [rndQW]
  refine good_cond (fun c1 => ?_) fun c1 => ?_
  · have c1 := of_decide_eq_true c1
    have c1' : i < m := by omega
    rw [Int.toNat_natCast, Nat.zero_add, wr_in (x := (i : Int) + 1) (by omega)]
    have e := hs i c1'
    refine good_needs ?_ (good_out ⟨i + 1, ⟨rfl, c1', trivial⟩, rfl, Hsim.refl _⟩)
    simp only [ob_cons, ob_nil, and_true, decide_eq_true_eq]
    exact ⟨by omega, by omega, by omega, by omega, e 0 (by omega), e 1 (by omega), e 2 (by omega), e 3 (by omega), e 4 (by omega), e 5 (by omega), e 6 (by omega), e 7 (by omega), e 8 (by omega)⟩
  · have c1 := of_decide_eq_false c1
    have : i = m := by omega
    subst this
    refine good_out ⟨_, Hsim.refl _, ?_⟩
    rw [if_pos rfl]
    exact hk
/-- Two lists of wheels that are the same. -/
noncomputable def F_eqWS : List SA → Option FR
  | [.row m g, .row m2 g2] => some { val := .v (.bool true), obl := [Nat.beq m2 m, allW m g, allW m g2, sameW m (itW g) (itW g2), decide (m ≤ 2 ^ 40)] }
  | _ => none
def md_eqWS : List Md := [.rd 9 67, .rd 9 67]
theorem ok_eqWS : SpecOk Try.prog 19 (specR md_eqWS F_eqWS) := by
  refine specR_hr g0_ok Try.func19 rfl fun sas fr hF ho => ?_
  unfold F_eqWS at hF
  split at hF
  · rename_i m g m2 g2
    cases hF
    simp only [ob_cons] at ho
    obtain ⟨h0, h1, h2, h3, h4, _⟩ := ho
    have h0 := Nat.eq_of_beq_eq_true h0
    subst h0
    have hm := of_decide_eq_true h4
    refine ⟨hpQW m2 (itW g) (itW g2), lamQW m2 (itW g) (itW g2), 100, .cons (ABeq.row fun j hj => allW_get h1 j hj) (.cons (ABeq.row fun j hj => allW_get h2 j hj) .nil), lam1 (by kernel_rfl) (sumQW m2 (itW g) (itW g2) hm (of_chk h3)), ?_⟩
    show GoodQ (execF Try.prog g0 (lamQW m2 (itW g) (itW g2)) 100 Try.f19 [.sl 0 9 0 0 m2 none, .sl 1 9 0 0 m2 none] (hpQW m2 (itW g) (itW g2)) (packK 2)) _
    rw [treeQS]
    exact good_false (by simp) (good_needs (by rw [ob_cons]; exact ⟨chk_of ⟨rfl, Hsim.refl _⟩, rfl⟩) (good_out ⟨_, rfl, rfl, .cons (ABeq.row fun j hj => (allW_get h1 j hj).symm) (.cons (ABeq.row fun j hj => (allW_get h2 j hj).symm) .nil)⟩))
  · cases hF

/-- Marks, from k on. -/
def markF (k : Int) : Nat → Nat → Int := fun j c => k + 9 * (j : Int) + c
theorem sumHW (m : Nat) (f : Nat → Nat → Int) (k : Int) (hm : m ≤ 2 ^ 40) (hk0 : 0 ≤ k ∧ k ≤ 2 ^ 50) (hs : sameP m f (markF k)) :
    SumOk Try.prog 1 (.block 0 (.loop (loopAt 0 Try.f21))) (atS 39 (lvHW .normal) 1 [.sl 0 9 0 0 m none, .v (i64 (k + 9 * (0 : Nat))), .v (i64 (0 : Nat))] (hpHW m f) (fun K => K .normal (mkT 0 39 [(1, .v (i64 (k + 9 * m)))]) (hpHW m f))) := by
  refine for_at g0_ok (n := 100) (m := 1) (lv := lvHW) (fun i => [.sl 0 9 0 0 m none, .v (i64 (k + 9 * (i : Nat))), .v (i64 (i : Nat))]) (fun _ => hpHW m f) (fun _ => True) m (fun _ => noLam) (lv3_ris rfl rfl rfl) (Nat.le_refl _) trivial fun K Q hk i hi him => ⟨noLam_ok _ _ _, ?_⟩
  rw [rndHW]
  refine good_cond (fun c1 => ?_) fun c1 => ?_
  · have c1 := of_decide_eq_true c1
    have c1' : i < m := by omega
    have e1 : IntKind.wrap IntKind.i64 (k + 9 * (i : Int) + 1) = k + 9 * (i : Int) + 1 := (wr_in (by omega)).trans (by omega)
    have e2 : IntKind.wrap IntKind.i64 (k + 9 * (i : Int) + 1 + 1) = k + 9 * (i : Int) + 2 := (wr_in (by omega)).trans (by omega)
    have e3 : IntKind.wrap IntKind.i64 (k + 9 * (i : Int) + 2 + 1) = k + 9 * (i : Int) + 3 := (wr_in (by omega)).trans (by omega)
    have e4 : IntKind.wrap IntKind.i64 (k + 9 * (i : Int) + 3 + 1) = k + 9 * (i : Int) + 4 := (wr_in (by omega)).trans (by omega)
    have e5 : IntKind.wrap IntKind.i64 (k + 9 * (i : Int) + 4 + 1) = k + 9 * (i : Int) + 5 := (wr_in (by omega)).trans (by omega)
    have e6 : IntKind.wrap IntKind.i64 (k + 9 * (i : Int) + 5 + 1) = k + 9 * (i : Int) + 6 := (wr_in (by omega)).trans (by omega)
    have e7 : IntKind.wrap IntKind.i64 (k + 9 * (i : Int) + 6 + 1) = k + 9 * (i : Int) + 7 := (wr_in (by omega)).trans (by omega)
    have e8 : IntKind.wrap IntKind.i64 (k + 9 * (i : Int) + 7 + 1) = k + 9 * (i : Int) + 8 := (wr_in (by omega)).trans (by omega)
    have e9 : IntKind.wrap IntKind.i64 (k + 9 * (i : Int) + 8 + 1) = k + 9 * ((i + 1 : Nat) : Int) := (wr_in (by omega)).trans (by omega)
    rw [Int.toNat_natCast, Nat.zero_add]
    rw [e1, e2, e3, e4, e5, e6, e7, e8, e9, wr_in (x := (i : Int) + 1) (by omega)]
    have ob : obls [decide ((i : Int) < m), decide (i < m)] = true := by simp only [ob_cons, ob_nil, and_true, decide_eq_true_eq]; omega
    have e := hs i c1'
    have h0 : f i 0 = k + 9 * (i : Int) := by rw [e 0 (by omega)]; simp [markF]
    have h1 : f i 1 = k + 9 * (i : Int) + 1 := e 1 (by omega)
    have h2 : f i 2 = k + 9 * (i : Int) + 2 := e 2 (by omega)
    have h3 : f i 3 = k + 9 * (i : Int) + 3 := e 3 (by omega)
    have h4 : f i 4 = k + 9 * (i : Int) + 4 := e 4 (by omega)
    have h5 : f i 5 = k + 9 * (i : Int) + 5 := e 5 (by omega)
    have h6 : f i 6 = k + 9 * (i : Int) + 6 := e 6 (by omega)
    have h7 : f i 7 = k + 9 * (i : Int) + 7 := e 7 (by omega)
    have h8 : f i 8 = k + 9 * (i : Int) + 8 := e 8 (by omega)
    exact good_needs ob (good_false (by simp [h0]) (good_needs ob (good_false (by simp [h1]) (good_needs ob (good_false (by simp [h2]) (good_needs ob (good_false (by simp [h3]) (good_needs ob (good_false (by simp [h4]) (good_needs ob (good_false (by simp [h5]) (good_needs ob (good_false (by simp [h6]) (good_needs ob (good_false (by simp [h7]) (good_needs ob (good_false (by simp [h8]) (good_out ⟨i + 1, ⟨rfl, c1', trivial⟩, rfl, Hsim.refl _⟩))))))))))))))))))
  · have c1 := of_decide_eq_false c1
    have : i = m := by omega
    subst this
    refine good_out ⟨_, Hsim.refl _, ?_⟩
    rw [if_pos rfl]
    exact hk
/-- A list that holds the marks. -/
noncomputable def F_heldW : List SA → Option FR
  | [.row m g, .v (.int .i64 k)] => some { val := .v (i64 (k + 9 * m)), obl := [allW m g, sameW m (itW g) (markF k), decide (0 ≤ k), decide (k ≤ 2 ^ 50), decide (m ≤ 2 ^ 40)] }
  | _ => none
theorem ok_heldW : SpecOk Try.prog 21 (specR md_wv F_heldW) := by
  refine specR_hr g0_ok Try.func21 rfl fun sas fr hF ho => ?_
  unfold F_heldW at hF
  split at hF
  · rename_i m g k
    cases hF
    simp only [ob_cons] at ho
    obtain ⟨h1, h3, h4, h5, h6, _⟩ := ho
    have h4 := of_decide_eq_true h4
    have h5 := of_decide_eq_true h5
    have hm := of_decide_eq_true h6
    have e0 : k = k + 9 * ((0 : Nat) : Int) := by omega
    have hS := sumHW m (itW g) k hm ⟨h4, h5⟩ (of_chk h3)
    rw [← e0] at hS
    refine ⟨hpHW m (itW g), lamHW m (itW g) k (k + 9 * m), 100, .cons (ABeq.row fun j hj => allW_get h1 j hj) .nil, lam1 (by kernel_rfl) hS, ?_⟩
    show GoodQ (execF Try.prog g0 (lamHW m (itW g) k (k + 9 * m)) 100 Try.f21 [.sl 0 9 0 0 m none, .v (i64 k)] (hpHW m (itW g)) (packK 1)) _
    rw [treeHW]
    exact good_needs (by rw [ob_cons]; exact ⟨chk_of ⟨rfl, Hsim.refl _⟩, rfl⟩) (good_out ⟨_, rfl, rfl, .cons (ABeq.row fun j hj => (allW_get h1 j hj).symm) .nil⟩)
  · cases hF

theorem upd9 (G : Nat → List Value) (i : Nat) (v0 v1 v2 v3 v4 v5 v6 v7 v8 : Value) (h : ∃ a : Nat → Int, G i = [i64 (a 0), i64 (a 1), i64 (a 2), i64 (a 3), i64 (a 4), i64 (a 5), i64 (a 6), i64 (a 7), i64 (a 8)]) (j : Nat) :
    (upd1 (upd1 (upd1 (upd1 (upd1 (upd1 (upd1 (upd1 (upd1 G i 0 v0) i 1 v1) i 2 v2) i 3 v3) i 4 v4) i 5 v5) i 6 v6) i 7 v7) i 8 v8) j = if j = i then [v0, v1, v2, v3, v4, v5, v6, v7, v8] else G j := by
  obtain ⟨a, ha⟩ := h
  have b1 : Nat.beq i i = true := Nat.beq_refl i
  by_cases e : j = i
  · subst e
    simp only [upd1, mergeL_eq, b1, cond_true, ha, if_pos]
    rfl
  · simp only [upd1, mergeL_eq, beq_ne e, cond_false, if_neg e]
/-- Marked below i. -/
def mkF (k : Int) (f : Nat → Nat → Int) (i : Nat) : Nat → Nat → Int := fun j c => bif Nat.blt j i then markF k j c else f j c
theorem sumMo (m : Nat) (f : Nat → Nat → Int) (k : Int) (hm : m ≤ 2 ^ 40) (hk0 : 0 ≤ k ∧ k ≤ 2 ^ 50) :
    SumOk Try.prog 1 (.block 0 (.loop (loopAt 0 Try.f20))) (atS 35 (lvMW .normal) 1 [.own 0 m, .v (i64 (k + 9 * (0 : Nat))), .v (i64 (0 : Nat))] (hpMW m f) (fun K => K .normal (mkT 0 35 [(1, .v (i64 (k + 9 * m)))]) (hpMW m (markF k)))) := by
  refine for_at g0_ok (n := 100) (m := 1) (lv := lvMW) (fun i => [.own 0 m, .v (i64 (k + 9 * (i : Nat))), .v (i64 (i : Nat))]) (fun i => hpMW m (mkF k f i)) (fun _ => True) m (fun _ => noLam) (lv3_ris rfl rfl rfl) (Nat.le_refl _) trivial fun K Q hk i hi him => ⟨noLam_ok _ _ _, ?_⟩
  rw [rndMo]
  refine good_cond (fun c1 => ?_) fun c1 => ?_
  · have c1 := of_decide_eq_true c1
    have c1' : i < m := by omega
    have e1 : IntKind.wrap IntKind.i64 (k + 9 * (i : Int) + 1) = k + 9 * (i : Int) + 1 := (wr_in (by omega)).trans (by omega)
    have e2 : IntKind.wrap IntKind.i64 (k + 9 * (i : Int) + 1 + 1) = k + 9 * (i : Int) + 2 := (wr_in (by omega)).trans (by omega)
    have e3 : IntKind.wrap IntKind.i64 (k + 9 * (i : Int) + 2 + 1) = k + 9 * (i : Int) + 3 := (wr_in (by omega)).trans (by omega)
    have e4 : IntKind.wrap IntKind.i64 (k + 9 * (i : Int) + 3 + 1) = k + 9 * (i : Int) + 4 := (wr_in (by omega)).trans (by omega)
    have e5 : IntKind.wrap IntKind.i64 (k + 9 * (i : Int) + 4 + 1) = k + 9 * (i : Int) + 5 := (wr_in (by omega)).trans (by omega)
    have e6 : IntKind.wrap IntKind.i64 (k + 9 * (i : Int) + 5 + 1) = k + 9 * (i : Int) + 6 := (wr_in (by omega)).trans (by omega)
    have e7 : IntKind.wrap IntKind.i64 (k + 9 * (i : Int) + 6 + 1) = k + 9 * (i : Int) + 7 := (wr_in (by omega)).trans (by omega)
    have e8 : IntKind.wrap IntKind.i64 (k + 9 * (i : Int) + 7 + 1) = k + 9 * (i : Int) + 8 := (wr_in (by omega)).trans (by omega)
    have e9 : IntKind.wrap IntKind.i64 (k + 9 * (i : Int) + 8 + 1) = k + 9 * ((i + 1 : Nat) : Int) := (wr_in (by omega)).trans (by omega)
    simp only [wr1]
    rw [e1, e2, e3, e4, e5, e6, e7, e8, e9, wr_in (x := (i : Int) + 1) (by omega)]
    refine good_needs (by simp [obls, List.all_flatMap, c1']) (good_out ⟨i + 1, ⟨rfl, c1', trivial⟩, rfl, .cons (ABeq.row fun j hj => ?_) .nil⟩)
    rw [upd9 _ _ _ _ _ _ _ _ _ _ _ ⟨mkF k f i i, rfl⟩]
    by_cases e : j = i
    · subst e
      rw [if_pos rfl]
      simp only [row9, mkF, blt_yes (Nat.lt_succ_self j), cond_true, markF]
      simp
    · rw [if_neg e]
      refine row9_congr fun c _ => ?_
      have b2 : Nat.blt j (i + 1) = Nat.blt j i := by
        rw [Bool.eq_iff_iff, Nat.blt_eq, Nat.blt_eq]
        omega
      simp only [mkF, b2]
  · have c1 := of_decide_eq_false c1
    have : i = m := by omega
    subst this
    refine good_out ⟨hpMW i (markF k), .cons (ABeq.row fun q hq => ?_) .nil, ?_⟩
    · exact row9_congr fun c _ => by simp only [mkF, blt_yes hq, cond_true]
    · rw [if_pos rfl]
      exact hk
theorem sumMs (m : Nat) (f : Nat → Nat → Int) (k : Int) (hm : m ≤ 2 ^ 40) (hk0 : 0 ≤ k ∧ k ≤ 2 ^ 50) :
    SumOk Try.prog 1 (.block 0 (.loop (loopAt 0 Try.f20))) (atS 35 (lvMW .normal) 1 [.sl 0 9 0 0 m (some m), .v (i64 (k + 9 * (0 : Nat))), .v (i64 (0 : Nat))] (hpMW m f) (fun K => K .normal (mkT 0 35 [(1, .v (i64 (k + 9 * m)))]) (hpMW m (markF k)))) := by
  refine for_at g0_ok (n := 100) (m := 1) (lv := lvMW) (fun i => [.sl 0 9 0 0 m (some m), .v (i64 (k + 9 * (i : Nat))), .v (i64 (i : Nat))]) (fun i => hpMW m (mkF k f i)) (fun _ => True) m (fun _ => noLam) (lv3_ris rfl rfl rfl) (Nat.le_refl _) trivial fun K Q hk i hi him => ⟨noLam_ok _ _ _, ?_⟩
  rw [rndMs]
  refine good_cond (fun c1 => ?_) fun c1 => ?_
  · have c1 := of_decide_eq_true c1
    have c1' : i < m := by omega
    have e1 : IntKind.wrap IntKind.i64 (k + 9 * (i : Int) + 1) = k + 9 * (i : Int) + 1 := (wr_in (by omega)).trans (by omega)
    have e2 : IntKind.wrap IntKind.i64 (k + 9 * (i : Int) + 1 + 1) = k + 9 * (i : Int) + 2 := (wr_in (by omega)).trans (by omega)
    have e3 : IntKind.wrap IntKind.i64 (k + 9 * (i : Int) + 2 + 1) = k + 9 * (i : Int) + 3 := (wr_in (by omega)).trans (by omega)
    have e4 : IntKind.wrap IntKind.i64 (k + 9 * (i : Int) + 3 + 1) = k + 9 * (i : Int) + 4 := (wr_in (by omega)).trans (by omega)
    have e5 : IntKind.wrap IntKind.i64 (k + 9 * (i : Int) + 4 + 1) = k + 9 * (i : Int) + 5 := (wr_in (by omega)).trans (by omega)
    have e6 : IntKind.wrap IntKind.i64 (k + 9 * (i : Int) + 5 + 1) = k + 9 * (i : Int) + 6 := (wr_in (by omega)).trans (by omega)
    have e7 : IntKind.wrap IntKind.i64 (k + 9 * (i : Int) + 6 + 1) = k + 9 * (i : Int) + 7 := (wr_in (by omega)).trans (by omega)
    have e8 : IntKind.wrap IntKind.i64 (k + 9 * (i : Int) + 7 + 1) = k + 9 * (i : Int) + 8 := (wr_in (by omega)).trans (by omega)
    have e9 : IntKind.wrap IntKind.i64 (k + 9 * (i : Int) + 8 + 1) = k + 9 * ((i + 1 : Nat) : Int) := (wr_in (by omega)).trans (by omega)
    simp only [wr1, Nat.zero_add]
    rw [e1, e2, e3, e4, e5, e6, e7, e8, e9, wr_in (x := (i : Int) + 1) (by omega)]
    refine good_needs (by simp [obls, List.all_flatMap, c1']) (good_out ⟨i + 1, ⟨rfl, c1', trivial⟩, rfl, .cons (ABeq.row fun j hj => ?_) .nil⟩)
    rw [upd9 _ _ _ _ _ _ _ _ _ _ _ ⟨mkF k f i i, rfl⟩]
    by_cases e : j = i
    · subst e
      rw [if_pos rfl]
      simp only [row9, mkF, blt_yes (Nat.lt_succ_self j), cond_true, markF]
      simp
    · rw [if_neg e]
      refine row9_congr fun c _ => ?_
      have b2 : Nat.blt j (i + 1) = Nat.blt j i := by
        rw [Bool.eq_iff_iff, Nat.blt_eq, Nat.blt_eq]
        omega
      simp only [mkF, b2]
  · have c1 := of_decide_eq_false c1
    have : i = m := by omega
    subst this
    refine good_out ⟨hpMW i (markF k), .cons (ABeq.row fun q hq => ?_) .nil, ?_⟩
    · exact row9_congr fun c _ => by simp only [mkF, blt_yes hq, cond_true]
    · rw [if_pos rfl]
      exact hk
def F_markW : List AV → List AB → Option HR
  | [.own 0 m, .v (.int .i64 k)], [.row true n 9 g t] => some { val := .v (i64 (k + 9 * m)), out := [.row true m 9 (row9 (markF k)) t], obl := [Nat.beq n m, Nat.beq t 67, allW m g, decide (0 ≤ k), decide (k ≤ 2 ^ 50), decide (m ≤ 2 ^ 40)] }
  | [.sl 0 9 0 0 m (some c), .v (.int .i64 k)], [.row true n 9 g t] => some { val := .v (i64 (k + 9 * m)), out := [.row true m 9 (row9 (markF k)) t], obl := [Nat.beq n m, Nat.beq c m, Nat.beq t 67, allW m g, decide (0 ≤ k), decide (k ≤ 2 ^ 50), decide (m ≤ 2 ^ 40)] }
  | _, _ => none
theorem ok_markW : SpecOk Try.prog 20 (specH [] F_markW) := by
  refine specH_ok g0_ok Try.func20 rfl fun avs H hr hF ho => ?_
  unfold F_markW at hF
  split at hF
  · rename_i m k n g t
    cases hF
    simp only [ob_cons] at ho
    obtain ⟨h0, ht, h1, h4, h5, h6, _⟩ := ho
    have h0 := Nat.eq_of_beq_eq_true h0
    have ht := Nat.eq_of_beq_eq_true ht
    have h4 := of_decide_eq_true h4
    have h5 := of_decide_eq_true h5
    have hm := of_decide_eq_true h6
    subst ht h0
    have e0 : k = k + 9 * ((0 : Nat) : Int) := by omega
    have hS := sumMo n (itW g) k hm ⟨h4, h5⟩
    rw [← e0] at hS
    refine ⟨hpMW n (itW g), lamMW (.own 0 n) n (itW g) (markF k) k (k + 9 * n), 100, .cons (ABeq.row fun j hj => allW_get h1 j hj) .nil, lam1 (by kernel_rfl) hS, ?_⟩
    show GoodQ (execF Try.prog g0 (lamMW (.own 0 n) n (itW g) (markF k) k (k + 9 * n)) 100 Try.f20 [.own 0 n, .v (i64 k)] (hpMW n (itW g)) (packK 1)) _
    rw [treeMo]
    exact good_needs (by rw [ob_cons]; exact ⟨chk_of ⟨rfl, Hsim.refl _⟩, rfl⟩) (good_out ⟨rfl, Hsim.refl _⟩)
  · rename_i m c k n g t
    cases hF
    simp only [ob_cons] at ho
    obtain ⟨h0, hc, ht, h1, h4, h5, h6, _⟩ := ho
    have h0 := Nat.eq_of_beq_eq_true h0
    have ht := Nat.eq_of_beq_eq_true ht
    have hc := Nat.eq_of_beq_eq_true hc
    have h4 := of_decide_eq_true h4
    have h5 := of_decide_eq_true h5
    have hm := of_decide_eq_true h6
    subst ht hc h0
    have e0 : k = k + 9 * ((0 : Nat) : Int) := by omega
    have hS := sumMs n (itW g) k hm ⟨h4, h5⟩
    rw [← e0] at hS
    refine ⟨hpMW n (itW g), lamMW (.sl 0 9 0 0 n (some n)) n (itW g) (markF k) k (k + 9 * n), 100, .cons (ABeq.row fun j hj => allW_get h1 j hj) .nil, lam1 (by kernel_rfl) hS, ?_⟩
    show GoodQ (execF Try.prog g0 (lamMW (.sl 0 9 0 0 n (some n)) n (itW g) (markF k) k (k + 9 * n)) 100 Try.f20 [.sl 0 9 0 0 n (some n), .v (i64 k)] (hpMW n (itW g)) (packK 1)) _
    rw [treeMs]
    exact good_needs (by rw [ob_cons]; exact ⟨chk_of ⟨rfl, Hsim.refl _⟩, rfl⟩) (good_out ⟨rfl, Hsim.refl _⟩)
  · cases hF

end Go.Proofs.Ytnlfdcjpeoafhaa

/- The laws on designs changed: trees. Conditions: a list of wheels. -/
namespace Go.Proofs.Ytnlfdcjpeoafhaa
open Go.RowKit
set_option maxRecDepth 100000

noncomputable def gmH : Gam := ext (ext (ext (ext g0 17 (specR md_toW F_toW)) 19 (specR md_eqWS F_eqWS)) 20 (specH [] F_markW)) 21 (specR md_wv F_heldW)
theorem gmH_ok : GamOk Try.prog gmH := ext_ok (ext_ok (ext_ok (ext_ok g0_ok ok_toW) ok_eqWS) ok_markW) ok_heldW
noncomputable def gmHE (ok : Int → Int → Int → Bool → List Wh → Bool) (el : Int → Int → Int → Bool → List Wh → List Wh) : Gam := ext gmH 55 (specR md_ea (FeaO ok el))
theorem lawYMi (ok : Int → Int → Int → Bool → List Wh → Bool) (el : Int → Int → Int → Bool → List Wh → List Wh) (yes : List Wh → Bool) (ti : List Wh → List Wh) (mp : List Wh → List Wh) (m : Nat) (f : Nat → Nat → Int) (t : TypeId) : execF Try.prog (ext (gmHE ok el) 18 (specR md_ws (FdeYMi yes ti mp))) noLam 100 Try.f3 [.sl 0 9 0 0 m none] [.row false m 9 (row9 f) t] (packK 1)
    = bif decide (IntKind.wrap IntKind.i64 ((1048576 : Int) - (↑m : Int)) < (0 : Int)) then Res.out Ex.ret [AV.v (Value.bool true)] [AB.row false m (9 : Nat) (row9 f) t] else bif decide (IntKind.wrap IntKind.i64 ((1048576 : Int) - (↑m : Int)) < (0 : Int)) then Res.out Ex.ret [AV.v (Value.bool true)] [AB.row false m (9 : Nat) (row9 f) t] else needs [Nat.ble ((0 : Nat) + m) m, allW m fun q ↦ row9 f ((0 : Nat) + q), decide (m ≤ (549755813888 : Nat)), Nat.ble m m, allW m (row9 (itW fun q ↦ row9 f ((0 : Nat) + q))), decide (m ≤ (274877906944 : Nat)), Nat.ble ((0 : Nat) + m) m, allW m fun q ↦ row9 f ((0 : Nat) + q), decide (m ≤ (549755813888 : Nat)), Nat.ble m m, allW m (row9 (itW fun q ↦ row9 f ((0 : Nat) + q))), decide (m ≤ (274877906944 : Nat)), yes (listW (itW (row9 (itW fun q ↦ row9 f ((0 : Nat) + q)))) m), Nat.ble ((0 : Nat) + List.length (ti (mp (listW (itW (row9 (itW fun q ↦ row9 f ((0 : Nat) + q)))) m)))) (List.length (ti (mp (listW (itW (row9 (itW fun q ↦ row9 f ((0 : Nat) + q)))) m)))), Nat.ble (List.length (el (-1 : Int) (0 : Int) (0 : Int) true (listW (itW (row9 (itW fun q ↦ row9 f ((0 : Nat) + q)))) m))) (List.length (el (-1 : Int) (0 : Int) (0 : Int) true (listW (itW (row9 (itW fun q ↦ row9 f ((0 : Nat) + q)))) m))), Nat.beq (List.length (el (-1 : Int) (0 : Int) (0 : Int) true (listW (itW (row9 (itW fun q ↦ row9 f ((0 : Nat) + q)))) m))) (List.length (ti (mp (listW (itW (row9 (itW fun q ↦ row9 f ((0 : Nat) + q)))) m)))), allW (List.length (ti (mp (listW (itW (row9 (itW fun q ↦ row9 f ((0 : Nat) + q)))) m)))) fun q ↦ row9 (wfun (ti (mp (listW (itW (row9 (itW fun q ↦ row9 f ((0 : Nat) + q)))) m)))) ((0 : Nat) + q), allW (List.length (ti (mp (listW (itW (row9 (itW fun q ↦ row9 f ((0 : Nat) + q)))) m)))) (row9 (wfun (el (-1 : Int) (0 : Int) (0 : Int) true (listW (itW (row9 (itW fun q ↦ row9 f ((0 : Nat) + q)))) m)))), sameW (List.length (ti (mp (listW (itW (row9 (itW fun q ↦ row9 f ((0 : Nat) + q)))) m)))) (itW fun q ↦ row9 (wfun (ti (mp (listW (itW (row9 (itW fun q ↦ row9 f ((0 : Nat) + q)))) m)))) ((0 : Nat) + q)) (itW (row9 (wfun (el (-1 : Int) (0 : Int) (0 : Int) true (listW (itW (row9 (itW fun q ↦ row9 f ((0 : Nat) + q)))) m))))), decide (List.length (ti (mp (listW (itW (row9 (itW fun q ↦ row9 f ((0 : Nat) + q)))) m))) ≤ (1099511627776 : Nat))] (bif !true == ok (-1 : Int) (0 : Int) (0 : Int) true (listW (itW (row9 (itW fun q ↦ row9 f ((0 : Nat) + q)))) m) then Res.out Ex.ret [AV.v (Value.bool false)] [AB.row false m (9 : Nat) (row9 f) t] else needs [Nat.ble ((0 : Nat) + m) m, allW m fun q ↦ row9 f ((0 : Nat) + q), decide (m ≤ (549755813888 : Nat)), Nat.ble m m, Nat.ble m m, Nat.beq m m, allW m (row9 (itW fun q ↦ row9 f ((0 : Nat) + q))), allW m (row9 (itW fun q ↦ row9 f ((0 : Nat) + q))), sameW m (itW (row9 (itW fun q ↦ row9 f ((0 : Nat) + q)))) (itW (row9 (itW fun q ↦ row9 f ((0 : Nat) + q)))), decide (m ≤ (1099511627776 : Nat)), Nat.beq m m, allW m (row9 (itW fun q ↦ row9 f ((0 : Nat) + q))), decide (m ≤ (1099511627776 : Nat)), Nat.ble ((0 : Nat) + List.length (ti (mp (listW (itW (row9 (itW fun q ↦ row9 f ((0 : Nat) + q)))) m)))) (List.length (ti (mp (listW (itW (row9 (itW fun q ↦ row9 f ((0 : Nat) + q)))) m)))), Nat.ble (List.length (el (-1 : Int) (0 : Int) (0 : Int) true (listW (itW (row9 (itW fun q ↦ row9 f ((0 : Nat) + q)))) m))) (List.length (el (-1 : Int) (0 : Int) (0 : Int) true (listW (itW (row9 (itW fun q ↦ row9 f ((0 : Nat) + q)))) m))), Nat.beq (List.length (el (-1 : Int) (0 : Int) (0 : Int) true (listW (itW (row9 (itW fun q ↦ row9 f ((0 : Nat) + q)))) m))) (List.length (ti (mp (listW (itW (row9 (itW fun q ↦ row9 f ((0 : Nat) + q)))) m)))), allW (List.length (ti (mp (listW (itW (row9 (itW fun q ↦ row9 f ((0 : Nat) + q)))) m)))) fun q ↦ row9 (wfun (ti (mp (listW (itW (row9 (itW fun q ↦ row9 f ((0 : Nat) + q)))) m)))) ((0 : Nat) + q), allW (List.length (ti (mp (listW (itW (row9 (itW fun q ↦ row9 f ((0 : Nat) + q)))) m)))) (row9 (wfun (el (-1 : Int) (0 : Int) (0 : Int) true (listW (itW (row9 (itW fun q ↦ row9 f ((0 : Nat) + q)))) m)))), sameW (List.length (ti (mp (listW (itW (row9 (itW fun q ↦ row9 f ((0 : Nat) + q)))) m)))) (itW fun q ↦ row9 (wfun (ti (mp (listW (itW (row9 (itW fun q ↦ row9 f ((0 : Nat) + q)))) m)))) ((0 : Nat) + q)) (itW (row9 (wfun (el (-1 : Int) (0 : Int) (0 : Int) true (listW (itW (row9 (itW fun q ↦ row9 f ((0 : Nat) + q)))) m))))), decide (List.length (ti (mp (listW (itW (row9 (itW fun q ↦ row9 f ((0 : Nat) + q)))) m))) ≤ (1099511627776 : Nat))] (bif !true == ok (-1 : Int) (0 : Int) (0 : Int) true (listW (itW (row9 (itW fun q ↦ row9 f ((0 : Nat) + q)))) m) then Res.out Ex.ret [AV.v (Value.bool false)] [AB.row false m (9 : Nat) (row9 f) t] else needs [Nat.beq (List.length (ti (mp (listW (itW (row9 (itW fun q ↦ row9 f ((0 : Nat) + q)))) m)))) (List.length (ti (mp (listW (itW (row9 (itW fun q ↦ row9 f ((0 : Nat) + q)))) m)))), Nat.beq (List.length (ti (mp (listW (itW (row9 (itW fun q ↦ row9 f ((0 : Nat) + q)))) m)))) (List.length (ti (mp (listW (itW (row9 (itW fun q ↦ row9 f ((0 : Nat) + q)))) m)))), allW (List.length (ti (mp (listW (itW (row9 (itW fun q ↦ row9 f ((0 : Nat) + q)))) m)))) (row9 (wfun (ti (mp (listW (itW (row9 (itW fun q ↦ row9 f ((0 : Nat) + q)))) m))))), decide (List.length (ti (mp (listW (itW (row9 (itW fun q ↦ row9 f ((0 : Nat) + q)))) m))) ≤ (1099511627776 : Nat)), Nat.ble ((0 : Nat) + List.length (ti (mp (listW (itW (row9 (itW fun q ↦ row9 f ((0 : Nat) + q)))) m)))) (List.length (ti (mp (listW (itW (row9 (itW fun q ↦ row9 f ((0 : Nat) + q)))) m)))), allW (List.length (ti (mp (listW (itW (row9 (itW fun q ↦ row9 f ((0 : Nat) + q)))) m)))) fun q ↦ row9 (markF (1 : Int)) ((0 : Nat) + q), sameW (List.length (ti (mp (listW (itW (row9 (itW fun q ↦ row9 f ((0 : Nat) + q)))) m)))) (itW fun q ↦ row9 (markF (1 : Int)) ((0 : Nat) + q)) (markF (1 : Int)), decide (List.length (ti (mp (listW (itW (row9 (itW fun q ↦ row9 f ((0 : Nat) + q)))) m))) ≤ (1099511627776 : Nat))] (bif (1 : Int) + (9 : Int) * (↑(List.length (ti (mp (listW (itW (row9 (itW fun q ↦ row9 f ((0 : Nat) + q)))) m)))) : Int) != (1 : Int) + (9 : Int) * (↑(List.length (ti (mp (listW (itW (row9 (itW fun q ↦ row9 f ((0 : Nat) + q)))) m)))) : Int) then Res.out Ex.ret [AV.v (Value.bool false)] [AB.row false m (9 : Nat) (row9 f) t] else needs [Nat.ble ((0 : Nat) + m) m, allW m fun q ↦ row9 f ((0 : Nat) + q), decide (m ≤ (549755813888 : Nat)), Nat.ble m m, allW m (row9 (itW fun q ↦ row9 f ((0 : Nat) + q))), decide (m ≤ (274877906944 : Nat)), yes (listW (itW (row9 (itW fun q ↦ row9 f ((0 : Nat) + q)))) m), Nat.ble ((0 : Nat) + List.length (ti (mp (listW (itW (row9 (itW fun q ↦ row9 f ((0 : Nat) + q)))) m)))) (List.length (ti (mp (listW (itW (row9 (itW fun q ↦ row9 f ((0 : Nat) + q)))) m)))), Nat.ble (List.length (el (-1 : Int) (0 : Int) (0 : Int) true (listW (itW (row9 (itW fun q ↦ row9 f ((0 : Nat) + q)))) m))) (List.length (el (-1 : Int) (0 : Int) (0 : Int) true (listW (itW (row9 (itW fun q ↦ row9 f ((0 : Nat) + q)))) m))), Nat.beq (List.length (el (-1 : Int) (0 : Int) (0 : Int) true (listW (itW (row9 (itW fun q ↦ row9 f ((0 : Nat) + q)))) m))) (List.length (ti (mp (listW (itW (row9 (itW fun q ↦ row9 f ((0 : Nat) + q)))) m)))), allW (List.length (ti (mp (listW (itW (row9 (itW fun q ↦ row9 f ((0 : Nat) + q)))) m)))) fun q ↦ row9 (wfun (ti (mp (listW (itW (row9 (itW fun q ↦ row9 f ((0 : Nat) + q)))) m)))) ((0 : Nat) + q), allW (List.length (ti (mp (listW (itW (row9 (itW fun q ↦ row9 f ((0 : Nat) + q)))) m)))) (row9 (wfun (el (-1 : Int) (0 : Int) (0 : Int) true (listW (itW (row9 (itW fun q ↦ row9 f ((0 : Nat) + q)))) m)))), sameW (List.length (ti (mp (listW (itW (row9 (itW fun q ↦ row9 f ((0 : Nat) + q)))) m)))) (itW fun q ↦ row9 (wfun (ti (mp (listW (itW (row9 (itW fun q ↦ row9 f ((0 : Nat) + q)))) m)))) ((0 : Nat) + q)) (itW (row9 (wfun (el (-1 : Int) (0 : Int) (0 : Int) true (listW (itW (row9 (itW fun q ↦ row9 f ((0 : Nat) + q)))) m))))), decide (List.length (ti (mp (listW (itW (row9 (itW fun q ↦ row9 f ((0 : Nat) + q)))) m))) ≤ (1099511627776 : Nat))] (bif !true == ok (-1 : Int) (0 : Int) (0 : Int) true (listW (itW (row9 (itW fun q ↦ row9 f ((0 : Nat) + q)))) m) then Res.out Ex.ret [AV.v (Value.bool false)] [AB.row false m (9 : Nat) (row9 f) t] else needs [Nat.ble ((0 : Nat) + List.length (ti (mp (listW (itW (row9 (itW fun q ↦ row9 f ((0 : Nat) + q)))) m)))) (List.length (ti (mp (listW (itW (row9 (itW fun q ↦ row9 f ((0 : Nat) + q)))) m)))), allW (List.length (ti (mp (listW (itW (row9 (itW fun q ↦ row9 f ((0 : Nat) + q)))) m)))) fun q ↦ row9 (markF (1 : Int)) ((0 : Nat) + q), sameW (List.length (ti (mp (listW (itW (row9 (itW fun q ↦ row9 f ((0 : Nat) + q)))) m)))) (itW fun q ↦ row9 (markF (1 : Int)) ((0 : Nat) + q)) (markF (1 : Int)), decide (List.length (ti (mp (listW (itW (row9 (itW fun q ↦ row9 f ((0 : Nat) + q)))) m))) ≤ (1099511627776 : Nat))] (bif (1 : Int) + (9 : Int) * (↑(List.length (ti (mp (listW (itW (row9 (itW fun q ↦ row9 f ((0 : Nat) + q)))) m)))) : Int) != (1 : Int) + (9 : Int) * (↑(List.length (ti (mp (listW (itW (row9 (itW fun q ↦ row9 f ((0 : Nat) + q)))) m)))) : Int) then Res.out Ex.ret [AV.v (Value.bool false)] [AB.row false m (9 : Nat) (row9 f) t] else Res.out Ex.ret [AV.v (Value.bool true)] [AB.row false m (9 : Nat) (row9 f) t]))))) := by kernel_rfl

theorem lawNMi (ok : Int → Int → Int → Bool → List Wh → Bool) (el : Int → Int → Int → Bool → List Wh → List Wh) (yes : List Wh → Bool) (m : Nat) (f : Nat → Nat → Int) (t : TypeId) : execF Try.prog (ext (gmHE ok el) 18 (specR md_ws (FdeNMi yes))) noLam 100 Try.f3 [.sl 0 9 0 0 m none] [.row false m 9 (row9 f) t] (packK 1)
    = bif decide (IntKind.wrap IntKind.i64 ((1048576 : Int) - (↑m : Int)) < (0 : Int)) then Res.out Ex.ret [AV.v (Value.bool true)] [AB.row false m (9 : Nat) (row9 f) t] else bif decide (IntKind.wrap IntKind.i64 ((1048576 : Int) - (↑m : Int)) < (0 : Int)) then Res.out Ex.ret [AV.v (Value.bool true)] [AB.row false m (9 : Nat) (row9 f) t] else needs [Nat.ble ((0 : Nat) + m) m, allW m fun q ↦ row9 f ((0 : Nat) + q), decide (m ≤ (549755813888 : Nat)), Nat.ble m m, allW m (row9 (itW fun q ↦ row9 f ((0 : Nat) + q))), decide (m ≤ (274877906944 : Nat)), Nat.ble ((0 : Nat) + m) m, allW m fun q ↦ row9 f ((0 : Nat) + q), decide (m ≤ (549755813888 : Nat)), Nat.ble m m, allW m (row9 (itW fun q ↦ row9 f ((0 : Nat) + q))), decide (m ≤ (274877906944 : Nat)), !yes (listW (itW (row9 (itW fun q ↦ row9 f ((0 : Nat) + q)))) m), Nat.ble (List.length (el (-1 : Int) (0 : Int) (0 : Int) true (listW (itW (row9 (itW fun q ↦ row9 f ((0 : Nat) + q)))) m))) (List.length (el (-1 : Int) (0 : Int) (0 : Int) true (listW (itW (row9 (itW fun q ↦ row9 f ((0 : Nat) + q)))) m))), Nat.beq (List.length (el (-1 : Int) (0 : Int) (0 : Int) true (listW (itW (row9 (itW fun q ↦ row9 f ((0 : Nat) + q)))) m))) (0 : Nat), sameW (0 : Nat) (itW fun x ↦ []) (itW (row9 (wfun (el (-1 : Int) (0 : Int) (0 : Int) true (listW (itW (row9 (itW fun q ↦ row9 f ((0 : Nat) + q)))) m)))))] (bif !false == ok (-1 : Int) (0 : Int) (0 : Int) true (listW (itW (row9 (itW fun q ↦ row9 f ((0 : Nat) + q)))) m) then Res.out Ex.ret [AV.v (Value.bool false)] [AB.row false m (9 : Nat) (row9 f) t] else needs [Nat.ble ((0 : Nat) + m) m, allW m fun q ↦ row9 f ((0 : Nat) + q), decide (m ≤ (549755813888 : Nat)), Nat.ble m m, Nat.ble m m, Nat.beq m m, allW m (row9 (itW fun q ↦ row9 f ((0 : Nat) + q))), allW m (row9 (itW fun q ↦ row9 f ((0 : Nat) + q))), sameW m (itW (row9 (itW fun q ↦ row9 f ((0 : Nat) + q)))) (itW (row9 (itW fun q ↦ row9 f ((0 : Nat) + q)))), decide (m ≤ (1099511627776 : Nat)), Nat.beq m m, allW m (row9 (itW fun q ↦ row9 f ((0 : Nat) + q))), decide (m ≤ (1099511627776 : Nat)), Nat.ble (List.length (el (-1 : Int) (0 : Int) (0 : Int) true (listW (itW (row9 (itW fun q ↦ row9 f ((0 : Nat) + q)))) m))) (List.length (el (-1 : Int) (0 : Int) (0 : Int) true (listW (itW (row9 (itW fun q ↦ row9 f ((0 : Nat) + q)))) m))), Nat.beq (List.length (el (-1 : Int) (0 : Int) (0 : Int) true (listW (itW (row9 (itW fun q ↦ row9 f ((0 : Nat) + q)))) m))) (0 : Nat), sameW (0 : Nat) (itW fun x ↦ []) (itW (row9 (wfun (el (-1 : Int) (0 : Int) (0 : Int) true (listW (itW (row9 (itW fun q ↦ row9 f ((0 : Nat) + q)))) m)))))] (bif !false == ok (-1 : Int) (0 : Int) (0 : Int) true (listW (itW (row9 (itW fun q ↦ row9 f ((0 : Nat) + q)))) m) then Res.out Ex.ret [AV.v (Value.bool false)] [AB.row false m (9 : Nat) (row9 f) t] else needs [sameW (0 : Nat) (itW fun x ↦ []) (markF (1 : Int)), Nat.ble ((0 : Nat) + m) m, allW m fun q ↦ row9 f ((0 : Nat) + q), decide (m ≤ (549755813888 : Nat)), Nat.ble m m, allW m (row9 (itW fun q ↦ row9 f ((0 : Nat) + q))), decide (m ≤ (274877906944 : Nat)), !yes (listW (itW (row9 (itW fun q ↦ row9 f ((0 : Nat) + q)))) m), Nat.ble (List.length (el (-1 : Int) (0 : Int) (0 : Int) true (listW (itW (row9 (itW fun q ↦ row9 f ((0 : Nat) + q)))) m))) (List.length (el (-1 : Int) (0 : Int) (0 : Int) true (listW (itW (row9 (itW fun q ↦ row9 f ((0 : Nat) + q)))) m))), Nat.beq (List.length (el (-1 : Int) (0 : Int) (0 : Int) true (listW (itW (row9 (itW fun q ↦ row9 f ((0 : Nat) + q)))) m))) (0 : Nat), sameW (0 : Nat) (itW fun x ↦ []) (itW (row9 (wfun (el (-1 : Int) (0 : Int) (0 : Int) true (listW (itW (row9 (itW fun q ↦ row9 f ((0 : Nat) + q)))) m)))))] (bif !false == ok (-1 : Int) (0 : Int) (0 : Int) true (listW (itW (row9 (itW fun q ↦ row9 f ((0 : Nat) + q)))) m) then Res.out Ex.ret [AV.v (Value.bool false)] [AB.row false m (9 : Nat) (row9 f) t] else needs [sameW (0 : Nat) (itW fun x ↦ []) (markF (1 : Int))] (Res.out Ex.ret [AV.v (Value.bool true)] [AB.row false m (9 : Nat) (row9 f) t])))) := by kernel_rfl

end Go.Proofs.Ytnlfdcjpeoafhaa
