/- The point of a design at a turn, in whole numbers. No program, no conditions. -/
import Derived.Test.YtmdcafhnjihckaaZD0
import Derived.Test.YtmdcafhnjihckaaZD1
import Derived.Test.YtmdcafhnjihckaaZD2
import Derived.Test.YtmdcafhnjihckaaZD3
/- 'changed', for each change that the program makes: its words. Conditions: a list of wheels. -/
namespace Go.Proofs.Ytmdcafhnjihckaa
open Go.RowKit
set_option maxRecDepth 100000

theorem fMirO_eq : fMirO mirF = f_mirror := by
  funext l
  rfl
theorem gmC_ok : GamOk Try.prog (gmC mirF tuF) := by
  unfold gmC
  rw [fMirO_eq]
  exact ext_ok (ext_ok g0_ok ok_mirror) ok_tuI
theorem ch_row (L : List Wh) (w : Wh) (i : Nat) (hl : L.length = i) (q : Nat) (hq : q < i + 1) : [i64 (bif Nat.blt q i then wfun L q 0 else whN w 0), i64 (bif Nat.blt q i then wfun L q 1 else whN w 1), i64 (bif Nat.blt q i then wfun L q 2 else whN w 2), i64 (bif Nat.blt q i then wfun L q 3 else whN w 3), i64 (bif Nat.blt q i then wfun L q 4 else whN w 4), i64 (bif Nat.blt q i then wfun L q 5 else whN w 5), i64 (bif Nat.blt q i then wfun L q 6 else whN w 6), i64 (bif Nat.blt q i then wfun L q 7 else whN w 7), i64 (bif Nat.blt q i then wfun L q 8 else whN w 8)] = row9 (wfun (L ++ [w])) q := by
  subst hl
  exact row9_snoc L (whN w) q hq
theorem okD_mem {L : List Wh} (h : okD L = true) {w : Wh} (hw : w ∈ L) : (-1000 ≤ w.s ∧ w.s ≤ 1000) ∧ ∀ k, k < 8 → -1000000 ≤ w.r.f k ∧ w.r.f k ≤ 1000000 := by
  rw [okD, Bool.and_eq_true] at h
  have := List.all_eq_true.1 h.2 w hw
  rw [Bool.and_eq_true] at this
  exact ⟨inR_iff.1 this.1, smallF_iff.1 this.2⟩
theorem okD_len {L : List Wh} (h : okD L = true) : L.length ≤ 12 := by
  rw [okD, Bool.and_eq_true] at h
  exact of_decide_eq_true h.1
theorem valid_in {L : List Wh} (h : okD L = true) {w : Wh} (hw : w ∈ L) : cyIn w.r := fun k hk => by
  have := (okD_mem h hw).2 k hk
  omega
theorem valid_inB {L : List Wh} (h : okD L = true) {w : Wh} (hw : w ∈ L) : inB w.r.f = true := smallF_iff.2 (valid_in h hw)
theorem cyOf_f8 (a : Nat → Int) : ∀ k, k < 8 → (cyOf a).f k = a k := forall8 rfl rfl rfl rfl rfl rfl rfl rfl
theorem cyOf_in {a : Nat → Int} (h : ∀ k, k < 8 → -9223372036854775808 ≤ a k ∧ a k ≤ 9223372036854775807) : cyIn (cyOf a) := fun k hk => by
  rw [cyOf_f8 a k hk]
  exact h k hk
theorem stepF_in {a : Nat → Int} (h : ∀ k, k < 8 → -9223372036854775808 ≤ a k ∧ a k ≤ 9223372036854775807) : ∀ k, k < 8 → -9223372036854775808 ≤ stepF a k ∧ stepF a k ≤ 9223372036854775807 :=
  forall8 (w64_range _) (h 0 (by omega)) (h 1 (by omega)) (h 2 (by omega)) (w64_range _) (h 4 (by omega)) (h 5 (by omega)) (h 6 (by omega))
theorem turnedF_in {a : Nat → Int} (h : ∀ k, k < 8 → -9223372036854775808 ≤ a k ∧ a k ≤ 9223372036854775807) : ∀ (n k : Nat), k < 8 → -9223372036854775808 ≤ turnedF a n k ∧ turnedF a n k ≤ 9223372036854775807
  | 0 => h
  | n + 1 => stepF_in (turnedF_in h n)
theorem FtiYO_eq : FtiYO tidyL okT inWB = F_tiY := by
  funext l
  rfl
theorem FtiNO_eq : FtiNO okT inWB = F_tiN := by
  funext l
  rfl
theorem gmChY_ok : GamOk Try.prog (gmChY okD tidyL okT inWB) := by
  unfold gmChY
  rw [FdvO_eq, FtiYO_eq]
  exact ext_ok (ext_ok g0_ok ok_dvI) ok_tiY
theorem gmChN_ok : GamOk Try.prog (gmChN okD okT inWB) := by
  unfold gmChN
  rw [FdvO_eq, FtiNO_eq]
  exact ext_ok (ext_ok g0_ok ok_dvI) ok_tiN
theorem row0 (f : Nat → Nat → Int) : (fun q => row9 f (0 + q)) = row9 f := by
  funext q
  rw [Nat.zero_add]

theorem treeETi (okd : List Wh → Bool) (okt inw : List Wh → Bool) (m : Nat) (f : Nat → Nat → Int) (t : TypeId) : execF Try.prog (gmChN okd okt inw) (oneL 0 errS) 100 Try.f91 [.sl 0 9 0 0 m none, fnTi] [.row false m 9 (row9 f) t] (packK 1)
    = needs [Nat.ble ((0 : Nat) + m) m, allW m fun q ↦ row9 f ((0 : Nat) + q), decide (m ≤ (549755813888 : Nat))] (bif !okd (listW (itW fun q ↦ row9 f ((0 : Nat) + q)) m) then Res.out Ex.ret [AV.tup [AV.v (Value.slice none (0 : Nat) (0 : Nat)), AV.v (Value.bool false)]] [AB.row false m (9 : Nat) (row9 f) t] else needs [decide ((↑m : Int) ≤ (1099511627776 : Int))] Res.err) := by kernel_rfl

def chTi (w : Wh) : Wh := w
abbrev mpTi : List Wh → List Wh := fun L => L.map chTi
theorem inwTi {L : List Wh} (h : okD L = true) : inW (L.map chTi) := by
  intro w' hw'
  obtain ⟨w, hw, rfl⟩ := List.mem_map.1 hw'
  exact valid_in h hw
theorem sumCTi (m : Nat) (f : Nat → Nat → Int) (t : TypeId) (hm : m ≤ 2 ^ 38) (hok : ∀ w ∈ listW f m, inB w.r.f = true) :
    SumOk Try.prog 1 (.block 0 (.loop (loopAt 0 Try.f91))) (atS 32 (lvCh .normal) 1 (stCTi m 0 0) (hpCTi m f t 0 (wfun [])) (fun K => K .normal (mkT 0 32 [(6, .own 1 m)]) (hpCTi m f t m (wfun ((listW f m).map chTi))))) := by
  refine for_at gmC_ok (n := 100) (m := 1) (lv := lvCh) (fun i => stCTi m i i) (fun i => hpCTi m f t i (wfun ((listW f i).map chTi))) (fun _ => True) m (fun _ => noLam) (lv3_ris rfl rfl rfl) (Nat.le_refl _) trivial fun K Q hk i hi him => ⟨noLam_ok _ _ _, ?_⟩
  rw [rndCTi]
  refine good_cond (fun c1 => ?_) fun c1 => ?_
  · have c1 := of_decide_eq_true c1
    have c1' : i < m := by omega
    rw [Int.toNat_natCast, Nat.zero_add, wr_in (x := (i : Int) + 1) (by omega)]
    refine good_needs (by simp only [ob_cons, ob_nil, and_true, decide_eq_true_eq, Nat.ble_eq]; omega) (good_out ⟨i + 1, ⟨rfl, c1', trivial⟩, rfl, ?_⟩)
    show Hsim _ (hpCTi m f t (i + 1) (wfun ((listW f (i + 1)).map chTi)))
    rw [listW_succ, List.map_append]
    refine (.cons (ABeq.refl _) (.cons (ABeq.row fun q hq => ?_) .nil))
    exact ch_row _ (chTi (whOf (f i))) i (by rw [List.length_map, listW_length]) q hq
  · have c1 := of_decide_eq_false c1
    have : i = m := by omega
    subst this
    refine good_out ⟨_, Hsim.refl _, ?_⟩
    rw [if_pos rfl]
    exact hk

def FchYTi (okd : List Wh → Bool) (ti : List Wh → List Wh) (okt : List Wh → Bool) (mp : List Wh → List Wh) : List AV → List AB → Option HR
  | [.sl 0 9 0 0 m none, .fn 92 []], [.row false n 9 g t] => some { val := .tup [.sl 1 9 0 0 (ti (mp (listW (itW g) m))).length (some (ti (mp (listW (itW g) m))).length), .v (.bool true)], out := [.row false n 9 g t], new := newY (ti (mp (listW (itW g) m))), obl := [Nat.beq n m, allW m g, decide (m ≤ 2 ^ 38), okd (listW (itW g) m) && okt (mp (listW (itW g) m))] }
  | _, _ => none
def FchNTi (okd : List Wh → Bool) (okt : List Wh → Bool) (mp : List Wh → List Wh) : List AV → List AB → Option HR
  | [.sl 0 9 0 0 m none, .fn 92 []], [.row false n 9 g t] => some { val := valN, out := [.row false n 9 g t], obl := [Nat.beq n m, allW m g, decide (m ≤ 2 ^ 38), !(okd (listW (itW g) m) && okt (mp (listW (itW g) m)))] }
  | _, _ => none
theorem ok_chYTi : SpecOk Try.prog 91 (specH [true] (FchYTi okD tidyL okT mpTi)) := by
  refine specH_ok gmChY_ok Try.func91 rfl fun avs H hr hF ho => ?_
  unfold FchYTi at hF
  split at hF
  · rename_i m n g t
    cases hF
    simp only [ob_cons] at ho
    obtain ⟨h0, h1, h2, h3, _⟩ := ho
    have h0 := Nat.eq_of_beq_eq_true h0
    subst h0
    have hm := of_decide_eq_true h2
    rw [Bool.and_eq_true] at h3
    obtain ⟨hd, ht⟩ := h3
    have hin := inwTi hd
    have hs := sumCTi n (itW g) t hm (fun w hw => valid_inB hd hw)
    refine ⟨[.row false n 9 (row9 (itW g)) t], lamCTi n (itW g) t n (wfun ((listW (itW g) n).map chTi)), 100, .cons (ABeq.row fun j hj => allW_get h1 j hj) .nil, lam1 (by kernel_rfl) hs, ?_⟩
    show GoodQ (execF Try.prog (gmChY okD tidyL okT inWB) (lamCTi n (itW g) t n (wfun ((listW (itW g) n).map chTi))) 100 Try.f91 [.sl 0 9 0 0 n none, fnTi] [.row false n 9 (row9 (itW g)) t] (packK 1)) _
    rw [treeYTi, row0, listW_itW, listW_self ((listW (itW g) n).map chTi) n (by rw [List.length_map, listW_length])]
    refine good_needs (by simp only [ob_cons, ob_nil, and_true, decide_eq_true_eq, Nat.ble_eq, allW_row, true_and]; omega) (good_false (by rw [hd]; rfl) (good_needs ?_ (good_out ⟨rfl, .cons (ABeq.row fun j hj => (allW_get h1 j hj).symm) (Hsim.refl _)⟩)))
    simp only [ob_cons, ob_nil, and_true, allW_row]
    exact ⟨decide_eq_true (by omega), chk_of ⟨rfl, (.cons (ABeq.refl _) (.cons (ABeq.row fun j hj => absurd hj (Nat.not_lt_zero _)) .nil))⟩, by simp, trivial, decide_eq_true (by omega), chk_of hin, ht⟩
  · cases hF
theorem ok_chNTi : SpecOk Try.prog 91 (specH [true] (FchNTi okD okT mpTi)) := by
  refine specH_ok gmChN_ok Try.func91 rfl fun avs H hr hF ho => ?_
  unfold FchNTi at hF
  split at hF
  · rename_i m n g t
    cases hF
    simp only [ob_cons] at ho
    obtain ⟨h0, h1, h2, h3, _⟩ := ho
    have h0 := Nat.eq_of_beq_eq_true h0
    subst h0
    have hm := of_decide_eq_true h2
    cases hd : okD (listW (itW g) n) with
    | false =>
      have hz : SumOk Try.prog 1 (.block 0 (.loop (loopAt 0 Try.f91))) errS := errS_ok
      refine ⟨[.row false n 9 (row9 (itW g)) t], oneL 0 errS, 100, .cons (ABeq.row fun j hj => allW_get h1 j hj) .nil, lam1 (by kernel_rfl) hz, ?_⟩
      show GoodQ (execF Try.prog (gmChN okD okT inWB) (oneL 0 errS) 100 Try.f91 [.sl 0 9 0 0 n none, fnTi] [.row false n 9 (row9 (itW g)) t] (packK 1)) _
      rw [treeETi, row0, listW_itW]
      exact good_needs (by simp only [ob_cons, ob_nil, and_true, decide_eq_true_eq, Nat.ble_eq, allW_row, true_and]; omega) (good_true (by rw [hd]; rfl) (good_out ⟨rfl, .cons (ABeq.row fun j hj => (allW_get h1 j hj).symm) .nil⟩))
    | true =>
    rw [hd, Bool.true_and] at h3
    have ht : okT ((listW (itW g) n).map chTi) = false := by simpa using h3
    have hin := inwTi hd
    have hs := sumCTi n (itW g) t hm (fun w hw => valid_inB hd hw)
    refine ⟨[.row false n 9 (row9 (itW g)) t], lamCTi n (itW g) t n (wfun ((listW (itW g) n).map chTi)), 100, .cons (ABeq.row fun j hj => allW_get h1 j hj) .nil, lam1 (by kernel_rfl) hs, ?_⟩
    show GoodQ (execF Try.prog (gmChN okD okT inWB) (lamCTi n (itW g) t n (wfun ((listW (itW g) n).map chTi))) 100 Try.f91 [.sl 0 9 0 0 n none, fnTi] [.row false n 9 (row9 (itW g)) t] (packK 1)) _
    rw [treeNTi, row0, listW_itW, listW_self ((listW (itW g) n).map chTi) n (by rw [List.length_map, listW_length])]
    refine good_needs (by simp only [ob_cons, ob_nil, and_true, decide_eq_true_eq, Nat.ble_eq, allW_row, true_and]; omega) (good_false (by rw [hd]; rfl) (good_needs ?_ (good_out ⟨rfl, .cons (ABeq.row fun j hj => (allW_get h1 j hj).symm) .nil⟩)))
    simp only [ob_cons, ob_nil, and_true, allW_row]
    exact ⟨decide_eq_true (by omega), chk_of ⟨rfl, (.cons (ABeq.refl _) (.cons (ABeq.row fun j hj => absurd hj (Nat.not_lt_zero _)) .nil))⟩, by simp, trivial, decide_eq_true (by omega), chk_of hin, by rw [ht]; rfl⟩
  · cases hF

theorem treeETu (okd : List Wh → Bool) (okt inw : List Wh → Bool) (m : Nat) (f : Nat → Nat → Int) (t : TypeId) (x : Int) : execF Try.prog (gmChN okd okt inw) (oneL 0 errS) 100 Try.f91 [.sl 0 9 0 0 m none, fnTu] [.row false m 9 (row9 f) t, .cells [.v (i64 x)] 3] (packK 2)
    = needs [Nat.ble ((0 : Nat) + m) m, allW m fun q ↦ row9 f ((0 : Nat) + q), decide (m ≤ (549755813888 : Nat))] (bif !okd (listW (itW fun q ↦ row9 f ((0 : Nat) + q)) m) then Res.out Ex.ret [AV.tup [AV.v (Value.slice none (0 : Nat) (0 : Nat)), AV.v (Value.bool false)]] [AB.row false m (9 : Nat) (row9 f) t, AB.cells [AV.v (Value.int IntKind.i64 x)] (3 : TypeId)] else needs [decide ((↑m : Int) ≤ (1099511627776 : Int))] Res.err) := by kernel_rfl

def chTu (x : Int) (w : Wh) : Wh := ⟨w.s, cyOf (tuF w.r.f x)⟩
abbrev mpTu : Int → List Wh → List Wh := fun x L => L.map (chTu x)
theorem inwTu (x : Int) {L : List Wh} (h : okD L = true) : inW (L.map (chTu x)) := by
  intro w' hw'
  obtain ⟨w, hw, rfl⟩ := List.mem_map.1 hw'
  exact cyOf_in (turnedF_in (valid_in h hw) _)
theorem sumCTu (m : Nat) (f : Nat → Nat → Int) (t : TypeId) (x : Int) (hm : m ≤ 2 ^ 38) (hok : ∀ w ∈ listW f m, inB w.r.f = true) (hx : inR x (-9223372036854775808) 9223372036854775807 = true) :
    SumOk Try.prog 2 (.block 0 (.loop (loopAt 0 Try.f91))) (atS 32 (lvCh .normal) 2 (stCTu m 0 0) (hpCTu m f t x 0 (wfun [])) (fun K => K .normal (mkT 0 32 [(6, .own 2 m)]) (hpCTu m f t x m (wfun ((listW f m).map (chTu x)))))) := by
  refine for_at gmC_ok (n := 100) (m := 2) (lv := lvCh) (fun i => stCTu m i i) (fun i => hpCTu m f t x i (wfun ((listW f i).map (chTu x)))) (fun _ => True) m (fun _ => noLam) (lv3_ris rfl rfl rfl) (Nat.le_refl _) trivial fun K Q hk i hi him => ⟨noLam_ok _ _ _, ?_⟩
  rw [rndCTu]
  refine good_cond (fun c1 => ?_) fun c1 => ?_
  · have c1 := of_decide_eq_true c1
    have c1' : i < m := by omega
    rw [Int.toNat_natCast, Nat.zero_add, wr_in (x := (i : Int) + 1) (by omega)]
    refine good_needs (by simp only [ob_cons, ob_nil, and_true, decide_eq_true_eq, Nat.ble_eq]; exact ⟨by omega, by omega, hok _ (List.mem_of_getElem? (listW_get f c1')), hx, by omega, by omega⟩) (good_out ⟨i + 1, ⟨rfl, c1', trivial⟩, rfl, ?_⟩)
    show Hsim _ (hpCTu m f t x (i + 1) (wfun ((listW f (i + 1)).map (chTu x))))
    rw [listW_succ, List.map_append]
    refine (.cons (ABeq.refl _) (.cons (ABeq.refl _) (.cons (ABeq.row fun q hq => ?_) .nil)))
    exact ch_row _ ((chTu x) (whOf (f i))) i (by rw [List.length_map, listW_length]) q hq
  · have c1 := of_decide_eq_false c1
    have : i = m := by omega
    subst this
    refine good_out ⟨_, Hsim.refl _, ?_⟩
    rw [if_pos rfl]
    exact hk

def FchYTu (okd : List Wh → Bool) (ti : List Wh → List Wh) (okt : List Wh → Bool) (mp : Int → List Wh → List Wh) : List AV → List AB → Option HR
  | [.sl 0 9 0 0 m none, .fn 97 [.ptr 1 0 0 0]], [.row false n 9 g t, .cells [.v (.int .i64 x)] 3] => some { val := .tup [.sl 2 9 0 0 (ti (mp x (listW (itW g) m))).length (some (ti (mp x (listW (itW g) m))).length), .v (.bool true)], out := [.row false n 9 g t, .cells [.v (.int .i64 x)] 3], new := newY (ti (mp x (listW (itW g) m))), obl := [Nat.beq n m, allW m g, decide (m ≤ 2 ^ 38), okd (listW (itW g) m) && okt (mp x (listW (itW g) m)), inR x (-9223372036854775808) 9223372036854775807] }
  | _, _ => none
def FchNTu (okd : List Wh → Bool) (okt : List Wh → Bool) (mp : Int → List Wh → List Wh) : List AV → List AB → Option HR
  | [.sl 0 9 0 0 m none, .fn 97 [.ptr 1 0 0 0]], [.row false n 9 g t, .cells [.v (.int .i64 x)] 3] => some { val := valN, out := [.row false n 9 g t, .cells [.v (.int .i64 x)] 3], obl := [Nat.beq n m, allW m g, decide (m ≤ 2 ^ 38), !(okd (listW (itW g) m) && okt (mp x (listW (itW g) m))), inR x (-9223372036854775808) 9223372036854775807] }
  | _, _ => none
theorem ok_chYTu : SpecOk Try.prog 91 (specH [true] (FchYTu okD tidyL okT mpTu)) := by
  refine specH_ok gmChY_ok Try.func91 rfl fun avs H hr hF ho => ?_
  unfold FchYTu at hF
  split at hF
  · rename_i m n g t x
    cases hF
    simp only [ob_cons] at ho
    obtain ⟨h0, h1, h2, h3, hx, _⟩ := ho
    have h0 := Nat.eq_of_beq_eq_true h0
    subst h0
    have hm := of_decide_eq_true h2
    rw [Bool.and_eq_true] at h3
    obtain ⟨hd, ht⟩ := h3
    have hin := inwTu x hd
    have hs := sumCTu n (itW g) t x hm (fun w hw => valid_inB hd hw) hx
    refine ⟨[.row false n 9 (row9 (itW g)) t, .cells [.v (i64 x)] 3], lamCTu n (itW g) t x n (wfun ((listW (itW g) n).map (chTu x))), 100, .cons (ABeq.row fun j hj => allW_get h1 j hj) (.cons rfl .nil), lam1 (by kernel_rfl) hs, ?_⟩
    show GoodQ (execF Try.prog (gmChY okD tidyL okT inWB) (lamCTu n (itW g) t x n (wfun ((listW (itW g) n).map (chTu x)))) 100 Try.f91 [.sl 0 9 0 0 n none, fnTu] [.row false n 9 (row9 (itW g)) t, .cells [.v (i64 x)] 3] (packK 2)) _
    rw [treeYTu, row0, listW_itW, listW_self ((listW (itW g) n).map (chTu x)) n (by rw [List.length_map, listW_length])]
    refine good_needs (by simp only [ob_cons, ob_nil, and_true, decide_eq_true_eq, Nat.ble_eq, allW_row, true_and]; omega) (good_false (by rw [hd]; rfl) (good_needs ?_ (good_out ⟨rfl, .cons (ABeq.row fun j hj => (allW_get h1 j hj).symm) (.cons rfl (Hsim.refl _))⟩)))
    simp only [ob_cons, ob_nil, and_true, allW_row]
    exact ⟨decide_eq_true (by omega), chk_of ⟨rfl, (.cons (ABeq.refl _) (.cons (ABeq.refl _) (.cons (ABeq.row fun j hj => absurd hj (Nat.not_lt_zero _)) .nil)))⟩, by simp, trivial, decide_eq_true (by omega), chk_of hin, ht⟩
  · cases hF
theorem ok_chNTu : SpecOk Try.prog 91 (specH [true] (FchNTu okD okT mpTu)) := by
  refine specH_ok gmChN_ok Try.func91 rfl fun avs H hr hF ho => ?_
  unfold FchNTu at hF
  split at hF
  · rename_i m n g t x
    cases hF
    simp only [ob_cons] at ho
    obtain ⟨h0, h1, h2, h3, hx, _⟩ := ho
    have h0 := Nat.eq_of_beq_eq_true h0
    subst h0
    have hm := of_decide_eq_true h2
    cases hd : okD (listW (itW g) n) with
    | false =>
      have hz : SumOk Try.prog 2 (.block 0 (.loop (loopAt 0 Try.f91))) errS := errS_ok
      refine ⟨[.row false n 9 (row9 (itW g)) t, .cells [.v (i64 x)] 3], oneL 0 errS, 100, .cons (ABeq.row fun j hj => allW_get h1 j hj) (.cons rfl .nil), lam1 (by kernel_rfl) hz, ?_⟩
      show GoodQ (execF Try.prog (gmChN okD okT inWB) (oneL 0 errS) 100 Try.f91 [.sl 0 9 0 0 n none, fnTu] [.row false n 9 (row9 (itW g)) t, .cells [.v (i64 x)] 3] (packK 2)) _
      rw [treeETu, row0, listW_itW]
      exact good_needs (by simp only [ob_cons, ob_nil, and_true, decide_eq_true_eq, Nat.ble_eq, allW_row, true_and]; omega) (good_true (by rw [hd]; rfl) (good_out ⟨rfl, .cons (ABeq.row fun j hj => (allW_get h1 j hj).symm) (.cons rfl .nil)⟩))
    | true =>
    rw [hd, Bool.true_and] at h3
    have ht : okT ((listW (itW g) n).map (chTu x)) = false := by simpa using h3
    have hin := inwTu x hd
    have hs := sumCTu n (itW g) t x hm (fun w hw => valid_inB hd hw) hx
    refine ⟨[.row false n 9 (row9 (itW g)) t, .cells [.v (i64 x)] 3], lamCTu n (itW g) t x n (wfun ((listW (itW g) n).map (chTu x))), 100, .cons (ABeq.row fun j hj => allW_get h1 j hj) (.cons rfl .nil), lam1 (by kernel_rfl) hs, ?_⟩
    show GoodQ (execF Try.prog (gmChN okD okT inWB) (lamCTu n (itW g) t x n (wfun ((listW (itW g) n).map (chTu x)))) 100 Try.f91 [.sl 0 9 0 0 n none, fnTu] [.row false n 9 (row9 (itW g)) t, .cells [.v (i64 x)] 3] (packK 2)) _
    rw [treeNTu, row0, listW_itW, listW_self ((listW (itW g) n).map (chTu x)) n (by rw [List.length_map, listW_length])]
    refine good_needs (by simp only [ob_cons, ob_nil, and_true, decide_eq_true_eq, Nat.ble_eq, allW_row, true_and]; omega) (good_false (by rw [hd]; rfl) (good_needs ?_ (good_out ⟨rfl, .cons (ABeq.row fun j hj => (allW_get h1 j hj).symm) (.cons rfl .nil)⟩)))
    simp only [ob_cons, ob_nil, and_true, allW_row]
    exact ⟨decide_eq_true (by omega), chk_of ⟨rfl, (.cons (ABeq.refl _) (.cons (ABeq.refl _) (.cons (ABeq.row fun j hj => absurd hj (Nat.not_lt_zero _)) .nil)))⟩, by simp, trivial, decide_eq_true (by omega), chk_of hin, by rw [ht]; rfl⟩
  · cases hF

theorem treeELa (okd : List Wh → Bool) (okt inw : List Wh → Bool) (m : Nat) (f : Nat → Nat → Int) (t : TypeId) (x : Int) : execF Try.prog (gmChN okd okt inw) (oneL 0 errS) 100 Try.f91 [.sl 0 9 0 0 m none, fnLa] [.row false m 9 (row9 f) t, .cells [.v (i64 x)] 3] (packK 2)
    = needs [Nat.ble ((0 : Nat) + m) m, allW m fun q ↦ row9 f ((0 : Nat) + q), decide (m ≤ (549755813888 : Nat))] (bif !okd (listW (itW fun q ↦ row9 f ((0 : Nat) + q)) m) then Res.out Ex.ret [AV.tup [AV.v (Value.slice none (0 : Nat) (0 : Nat)), AV.v (Value.bool false)]] [AB.row false m (9 : Nat) (row9 f) t, AB.cells [AV.v (Value.int IntKind.i64 x)] (3 : TypeId)] else needs [decide ((↑m : Int) ≤ (1099511627776 : Int))] Res.err) := by kernel_rfl

def chLa (x : Int) (w : Wh) : Wh := ⟨w.s, cyOf (tuF w.r.f (IntKind.wrap IntKind.i64 (x * w.s)))⟩
abbrev mpLa : Int → List Wh → List Wh := fun x L => L.map (chLa x)
theorem inwLa (x : Int) {L : List Wh} (h : okD L = true) : inW (L.map (chLa x)) := by
  intro w' hw'
  obtain ⟨w, hw, rfl⟩ := List.mem_map.1 hw'
  exact cyOf_in (turnedF_in (valid_in h hw) _)
theorem sumCLa (m : Nat) (f : Nat → Nat → Int) (t : TypeId) (x : Int) (hm : m ≤ 2 ^ 38) (hok : ∀ w ∈ listW f m, inB w.r.f = true) :
    SumOk Try.prog 2 (.block 0 (.loop (loopAt 0 Try.f91))) (atS 32 (lvCh .normal) 2 (stCLa m 0 0) (hpCLa m f t x 0 (wfun [])) (fun K => K .normal (mkT 0 32 [(6, .own 2 m)]) (hpCLa m f t x m (wfun ((listW f m).map (chLa x)))))) := by
  refine for_at gmC_ok (n := 100) (m := 2) (lv := lvCh) (fun i => stCLa m i i) (fun i => hpCLa m f t x i (wfun ((listW f i).map (chLa x)))) (fun _ => True) m (fun _ => noLam) (lv3_ris rfl rfl rfl) (Nat.le_refl _) trivial fun K Q hk i hi him => ⟨noLam_ok _ _ _, ?_⟩
  rw [rndCLa]
  refine good_cond (fun c1 => ?_) fun c1 => ?_
  · have c1 := of_decide_eq_true c1
    have c1' : i < m := by omega
    rw [Int.toNat_natCast, Nat.zero_add, wr_in (x := (i : Int) + 1) (by omega)]
    refine good_needs (by simp only [ob_cons, ob_nil, and_true, decide_eq_true_eq, Nat.ble_eq]; exact ⟨by omega, by omega, hok _ (List.mem_of_getElem? (listW_get f c1')), inR_iff.2 (w64_range _), by omega, by omega⟩) (good_out ⟨i + 1, ⟨rfl, c1', trivial⟩, rfl, ?_⟩)
    show Hsim _ (hpCLa m f t x (i + 1) (wfun ((listW f (i + 1)).map (chLa x))))
    rw [listW_succ, List.map_append]
    refine (.cons (ABeq.refl _) (.cons (ABeq.refl _) (.cons (ABeq.row fun q hq => ?_) .nil)))
    exact ch_row _ ((chLa x) (whOf (f i))) i (by rw [List.length_map, listW_length]) q hq
  · have c1 := of_decide_eq_false c1
    have : i = m := by omega
    subst this
    refine good_out ⟨_, Hsim.refl _, ?_⟩
    rw [if_pos rfl]
    exact hk

def FchYLa (okd : List Wh → Bool) (ti : List Wh → List Wh) (okt : List Wh → Bool) (mp : Int → List Wh → List Wh) : List AV → List AB → Option HR
  | [.sl 0 9 0 0 m none, .fn 96 [.ptr 1 0 0 0]], [.row false n 9 g t, .cells [.v (.int .i64 x)] 3] => some { val := .tup [.sl 2 9 0 0 (ti (mp x (listW (itW g) m))).length (some (ti (mp x (listW (itW g) m))).length), .v (.bool true)], out := [.row false n 9 g t, .cells [.v (.int .i64 x)] 3], new := newY (ti (mp x (listW (itW g) m))), obl := [Nat.beq n m, allW m g, decide (m ≤ 2 ^ 38), okd (listW (itW g) m) && okt (mp x (listW (itW g) m))] }
  | _, _ => none
def FchNLa (okd : List Wh → Bool) (okt : List Wh → Bool) (mp : Int → List Wh → List Wh) : List AV → List AB → Option HR
  | [.sl 0 9 0 0 m none, .fn 96 [.ptr 1 0 0 0]], [.row false n 9 g t, .cells [.v (.int .i64 x)] 3] => some { val := valN, out := [.row false n 9 g t, .cells [.v (.int .i64 x)] 3], obl := [Nat.beq n m, allW m g, decide (m ≤ 2 ^ 38), !(okd (listW (itW g) m) && okt (mp x (listW (itW g) m)))] }
  | _, _ => none
theorem ok_chYLa : SpecOk Try.prog 91 (specH [true] (FchYLa okD tidyL okT mpLa)) := by
  refine specH_ok gmChY_ok Try.func91 rfl fun avs H hr hF ho => ?_
  unfold FchYLa at hF
  split at hF
  · rename_i m n g t x
    cases hF
    simp only [ob_cons] at ho
    obtain ⟨h0, h1, h2, h3, _⟩ := ho
    have h0 := Nat.eq_of_beq_eq_true h0
    subst h0
    have hm := of_decide_eq_true h2
    rw [Bool.and_eq_true] at h3
    obtain ⟨hd, ht⟩ := h3
    have hin := inwLa x hd
    have hs := sumCLa n (itW g) t x hm (fun w hw => valid_inB hd hw)
    refine ⟨[.row false n 9 (row9 (itW g)) t, .cells [.v (i64 x)] 3], lamCLa n (itW g) t x n (wfun ((listW (itW g) n).map (chLa x))), 100, .cons (ABeq.row fun j hj => allW_get h1 j hj) (.cons rfl .nil), lam1 (by kernel_rfl) hs, ?_⟩
    show GoodQ (execF Try.prog (gmChY okD tidyL okT inWB) (lamCLa n (itW g) t x n (wfun ((listW (itW g) n).map (chLa x)))) 100 Try.f91 [.sl 0 9 0 0 n none, fnLa] [.row false n 9 (row9 (itW g)) t, .cells [.v (i64 x)] 3] (packK 2)) _
    rw [treeYLa, row0, listW_itW, listW_self ((listW (itW g) n).map (chLa x)) n (by rw [List.length_map, listW_length])]
    refine good_needs (by simp only [ob_cons, ob_nil, and_true, decide_eq_true_eq, Nat.ble_eq, allW_row, true_and]; omega) (good_false (by rw [hd]; rfl) (good_needs ?_ (good_out ⟨rfl, .cons (ABeq.row fun j hj => (allW_get h1 j hj).symm) (.cons rfl (Hsim.refl _))⟩)))
    simp only [ob_cons, ob_nil, and_true, allW_row]
    exact ⟨decide_eq_true (by omega), chk_of ⟨rfl, (.cons (ABeq.refl _) (.cons (ABeq.refl _) (.cons (ABeq.row fun j hj => absurd hj (Nat.not_lt_zero _)) .nil)))⟩, by simp, trivial, decide_eq_true (by omega), chk_of hin, ht⟩
  · cases hF
theorem ok_chNLa : SpecOk Try.prog 91 (specH [true] (FchNLa okD okT mpLa)) := by
  refine specH_ok gmChN_ok Try.func91 rfl fun avs H hr hF ho => ?_
  unfold FchNLa at hF
  split at hF
  · rename_i m n g t x
    cases hF
    simp only [ob_cons] at ho
    obtain ⟨h0, h1, h2, h3, _⟩ := ho
    have h0 := Nat.eq_of_beq_eq_true h0
    subst h0
    have hm := of_decide_eq_true h2
    cases hd : okD (listW (itW g) n) with
    | false =>
      have hz : SumOk Try.prog 2 (.block 0 (.loop (loopAt 0 Try.f91))) errS := errS_ok
      refine ⟨[.row false n 9 (row9 (itW g)) t, .cells [.v (i64 x)] 3], oneL 0 errS, 100, .cons (ABeq.row fun j hj => allW_get h1 j hj) (.cons rfl .nil), lam1 (by kernel_rfl) hz, ?_⟩
      show GoodQ (execF Try.prog (gmChN okD okT inWB) (oneL 0 errS) 100 Try.f91 [.sl 0 9 0 0 n none, fnLa] [.row false n 9 (row9 (itW g)) t, .cells [.v (i64 x)] 3] (packK 2)) _
      rw [treeELa, row0, listW_itW]
      exact good_needs (by simp only [ob_cons, ob_nil, and_true, decide_eq_true_eq, Nat.ble_eq, allW_row, true_and]; omega) (good_true (by rw [hd]; rfl) (good_out ⟨rfl, .cons (ABeq.row fun j hj => (allW_get h1 j hj).symm) (.cons rfl .nil)⟩))
    | true =>
    rw [hd, Bool.true_and] at h3
    have ht : okT ((listW (itW g) n).map (chLa x)) = false := by simpa using h3
    have hin := inwLa x hd
    have hs := sumCLa n (itW g) t x hm (fun w hw => valid_inB hd hw)
    refine ⟨[.row false n 9 (row9 (itW g)) t, .cells [.v (i64 x)] 3], lamCLa n (itW g) t x n (wfun ((listW (itW g) n).map (chLa x))), 100, .cons (ABeq.row fun j hj => allW_get h1 j hj) (.cons rfl .nil), lam1 (by kernel_rfl) hs, ?_⟩
    show GoodQ (execF Try.prog (gmChN okD okT inWB) (lamCLa n (itW g) t x n (wfun ((listW (itW g) n).map (chLa x)))) 100 Try.f91 [.sl 0 9 0 0 n none, fnLa] [.row false n 9 (row9 (itW g)) t, .cells [.v (i64 x)] 3] (packK 2)) _
    rw [treeNLa, row0, listW_itW, listW_self ((listW (itW g) n).map (chLa x)) n (by rw [List.length_map, listW_length])]
    refine good_needs (by simp only [ob_cons, ob_nil, and_true, decide_eq_true_eq, Nat.ble_eq, allW_row, true_and]; omega) (good_false (by rw [hd]; rfl) (good_needs ?_ (good_out ⟨rfl, .cons (ABeq.row fun j hj => (allW_get h1 j hj).symm) (.cons rfl .nil)⟩)))
    simp only [ob_cons, ob_nil, and_true, allW_row]
    exact ⟨decide_eq_true (by omega), chk_of ⟨rfl, (.cons (ABeq.refl _) (.cons (ABeq.refl _) (.cons (ABeq.row fun j hj => absurd hj (Nat.not_lt_zero _)) .nil)))⟩, by simp, trivial, decide_eq_true (by omega), chk_of hin, by rw [ht]; rfl⟩
  · cases hF

theorem treeEBa (okd : List Wh → Bool) (okt inw : List Wh → Bool) (m : Nat) (f : Nat → Nat → Int) (t : TypeId) : execF Try.prog (gmChN okd okt inw) (oneL 0 errS) 100 Try.f91 [.sl 0 9 0 0 m none, fnBa] [.row false m 9 (row9 f) t] (packK 1)
    = needs [Nat.ble ((0 : Nat) + m) m, allW m fun q ↦ row9 f ((0 : Nat) + q), decide (m ≤ (549755813888 : Nat))] (bif !okd (listW (itW fun q ↦ row9 f ((0 : Nat) + q)) m) then Res.out Ex.ret [AV.tup [AV.v (Value.slice none (0 : Nat) (0 : Nat)), AV.v (Value.bool false)]] [AB.row false m (9 : Nat) (row9 f) t] else needs [decide ((↑m : Int) ≤ (1099511627776 : Int))] Res.err) := by kernel_rfl

def chBa (w : Wh) : Wh := ⟨IntKind.wrap IntKind.i64 (0 - w.s), w.r⟩
abbrev mpBa : List Wh → List Wh := fun L => L.map chBa
theorem inwBa {L : List Wh} (h : okD L = true) : inW (L.map chBa) := by
  intro w' hw'
  obtain ⟨w, hw, rfl⟩ := List.mem_map.1 hw'
  exact (valid_in h hw : cyIn w.r)
theorem sumCBa (m : Nat) (f : Nat → Nat → Int) (t : TypeId) (hm : m ≤ 2 ^ 38) (hok : ∀ w ∈ listW f m, inB w.r.f = true) :
    SumOk Try.prog 1 (.block 0 (.loop (loopAt 0 Try.f91))) (atS 32 (lvCh .normal) 1 (stCBa m 0 0) (hpCBa m f t 0 (wfun [])) (fun K => K .normal (mkT 0 32 [(6, .own 1 m)]) (hpCBa m f t m (wfun ((listW f m).map chBa))))) := by
  refine for_at gmC_ok (n := 100) (m := 1) (lv := lvCh) (fun i => stCBa m i i) (fun i => hpCBa m f t i (wfun ((listW f i).map chBa))) (fun _ => True) m (fun _ => noLam) (lv3_ris rfl rfl rfl) (Nat.le_refl _) trivial fun K Q hk i hi him => ⟨noLam_ok _ _ _, ?_⟩
  rw [rndCBa]
  refine good_cond (fun c1 => ?_) fun c1 => ?_
  · have c1 := of_decide_eq_true c1
    have c1' : i < m := by omega
    rw [Int.toNat_natCast, Nat.zero_add, wr_in (x := (i : Int) + 1) (by omega)]
    refine good_needs (by simp only [ob_cons, ob_nil, and_true, decide_eq_true_eq, Nat.ble_eq]; omega) (good_out ⟨i + 1, ⟨rfl, c1', trivial⟩, rfl, ?_⟩)
    show Hsim _ (hpCBa m f t (i + 1) (wfun ((listW f (i + 1)).map chBa)))
    rw [listW_succ, List.map_append]
    refine (.cons (ABeq.refl _) (.cons (ABeq.row fun q hq => ?_) .nil))
    exact ch_row _ (chBa (whOf (f i))) i (by rw [List.length_map, listW_length]) q hq
  · have c1 := of_decide_eq_false c1
    have : i = m := by omega
    subst this
    refine good_out ⟨_, Hsim.refl _, ?_⟩
    rw [if_pos rfl]
    exact hk

def FchYBa (okd : List Wh → Bool) (ti : List Wh → List Wh) (okt : List Wh → Bool) (mp : List Wh → List Wh) : List AV → List AB → Option HR
  | [.sl 0 9 0 0 m none, .fn 102 []], [.row false n 9 g t] => some { val := .tup [.sl 1 9 0 0 (ti (mp (listW (itW g) m))).length (some (ti (mp (listW (itW g) m))).length), .v (.bool true)], out := [.row false n 9 g t], new := newY (ti (mp (listW (itW g) m))), obl := [Nat.beq n m, allW m g, decide (m ≤ 2 ^ 38), okd (listW (itW g) m) && okt (mp (listW (itW g) m))] }
  | _, _ => none
def FchNBa (okd : List Wh → Bool) (okt : List Wh → Bool) (mp : List Wh → List Wh) : List AV → List AB → Option HR
  | [.sl 0 9 0 0 m none, .fn 102 []], [.row false n 9 g t] => some { val := valN, out := [.row false n 9 g t], obl := [Nat.beq n m, allW m g, decide (m ≤ 2 ^ 38), !(okd (listW (itW g) m) && okt (mp (listW (itW g) m)))] }
  | _, _ => none
theorem ok_chYBa : SpecOk Try.prog 91 (specH [true] (FchYBa okD tidyL okT mpBa)) := by
  refine specH_ok gmChY_ok Try.func91 rfl fun avs H hr hF ho => ?_
  unfold FchYBa at hF
  split at hF
  · rename_i m n g t
    cases hF
    simp only [ob_cons] at ho
    obtain ⟨h0, h1, h2, h3, _⟩ := ho
    have h0 := Nat.eq_of_beq_eq_true h0
    subst h0
    have hm := of_decide_eq_true h2
    rw [Bool.and_eq_true] at h3
    obtain ⟨hd, ht⟩ := h3
    have hin := inwBa hd
    have hs := sumCBa n (itW g) t hm (fun w hw => valid_inB hd hw)
    refine ⟨[.row false n 9 (row9 (itW g)) t], lamCBa n (itW g) t n (wfun ((listW (itW g) n).map chBa)), 100, .cons (ABeq.row fun j hj => allW_get h1 j hj) .nil, lam1 (by kernel_rfl) hs, ?_⟩
    show GoodQ (execF Try.prog (gmChY okD tidyL okT inWB) (lamCBa n (itW g) t n (wfun ((listW (itW g) n).map chBa))) 100 Try.f91 [.sl 0 9 0 0 n none, fnBa] [.row false n 9 (row9 (itW g)) t] (packK 1)) _
    rw [treeYBa, row0, listW_itW, listW_self ((listW (itW g) n).map chBa) n (by rw [List.length_map, listW_length])]
    refine good_needs (by simp only [ob_cons, ob_nil, and_true, decide_eq_true_eq, Nat.ble_eq, allW_row, true_and]; omega) (good_false (by rw [hd]; rfl) (good_needs ?_ (good_out ⟨rfl, .cons (ABeq.row fun j hj => (allW_get h1 j hj).symm) (Hsim.refl _)⟩)))
    simp only [ob_cons, ob_nil, and_true, allW_row]
    exact ⟨decide_eq_true (by omega), chk_of ⟨rfl, (.cons (ABeq.refl _) (.cons (ABeq.row fun j hj => absurd hj (Nat.not_lt_zero _)) .nil))⟩, by simp, trivial, decide_eq_true (by omega), chk_of hin, ht⟩
  · cases hF
theorem ok_chNBa : SpecOk Try.prog 91 (specH [true] (FchNBa okD okT mpBa)) := by
  refine specH_ok gmChN_ok Try.func91 rfl fun avs H hr hF ho => ?_
  unfold FchNBa at hF
  split at hF
  · rename_i m n g t
    cases hF
    simp only [ob_cons] at ho
    obtain ⟨h0, h1, h2, h3, _⟩ := ho
    have h0 := Nat.eq_of_beq_eq_true h0
    subst h0
    have hm := of_decide_eq_true h2
    cases hd : okD (listW (itW g) n) with
    | false =>
      have hz : SumOk Try.prog 1 (.block 0 (.loop (loopAt 0 Try.f91))) errS := errS_ok
      refine ⟨[.row false n 9 (row9 (itW g)) t], oneL 0 errS, 100, .cons (ABeq.row fun j hj => allW_get h1 j hj) .nil, lam1 (by kernel_rfl) hz, ?_⟩
      show GoodQ (execF Try.prog (gmChN okD okT inWB) (oneL 0 errS) 100 Try.f91 [.sl 0 9 0 0 n none, fnBa] [.row false n 9 (row9 (itW g)) t] (packK 1)) _
      rw [treeEBa, row0, listW_itW]
      exact good_needs (by simp only [ob_cons, ob_nil, and_true, decide_eq_true_eq, Nat.ble_eq, allW_row, true_and]; omega) (good_true (by rw [hd]; rfl) (good_out ⟨rfl, .cons (ABeq.row fun j hj => (allW_get h1 j hj).symm) .nil⟩))
    | true =>
    rw [hd, Bool.true_and] at h3
    have ht : okT ((listW (itW g) n).map chBa) = false := by simpa using h3
    have hin := inwBa hd
    have hs := sumCBa n (itW g) t hm (fun w hw => valid_inB hd hw)
    refine ⟨[.row false n 9 (row9 (itW g)) t], lamCBa n (itW g) t n (wfun ((listW (itW g) n).map chBa)), 100, .cons (ABeq.row fun j hj => allW_get h1 j hj) .nil, lam1 (by kernel_rfl) hs, ?_⟩
    show GoodQ (execF Try.prog (gmChN okD okT inWB) (lamCBa n (itW g) t n (wfun ((listW (itW g) n).map chBa))) 100 Try.f91 [.sl 0 9 0 0 n none, fnBa] [.row false n 9 (row9 (itW g)) t] (packK 1)) _
    rw [treeNBa, row0, listW_itW, listW_self ((listW (itW g) n).map chBa) n (by rw [List.length_map, listW_length])]
    refine good_needs (by simp only [ob_cons, ob_nil, and_true, decide_eq_true_eq, Nat.ble_eq, allW_row, true_and]; omega) (good_false (by rw [hd]; rfl) (good_needs ?_ (good_out ⟨rfl, .cons (ABeq.row fun j hj => (allW_get h1 j hj).symm) .nil⟩)))
    simp only [ob_cons, ob_nil, and_true, allW_row]
    exact ⟨decide_eq_true (by omega), chk_of ⟨rfl, (.cons (ABeq.refl _) (.cons (ABeq.row fun j hj => absurd hj (Nat.not_lt_zero _)) .nil))⟩, by simp, trivial, decide_eq_true (by omega), chk_of hin, by rw [ht]; rfl⟩
  · cases hF

theorem treeEMi (okd : List Wh → Bool) (okt inw : List Wh → Bool) (m : Nat) (f : Nat → Nat → Int) (t : TypeId) : execF Try.prog (gmChN okd okt inw) (oneL 0 errS) 100 Try.f91 [.sl 0 9 0 0 m none, fnMi] [.row false m 9 (row9 f) t] (packK 1)
    = needs [Nat.ble ((0 : Nat) + m) m, allW m fun q ↦ row9 f ((0 : Nat) + q), decide (m ≤ (549755813888 : Nat))] (bif !okd (listW (itW fun q ↦ row9 f ((0 : Nat) + q)) m) then Res.out Ex.ret [AV.tup [AV.v (Value.slice none (0 : Nat) (0 : Nat)), AV.v (Value.bool false)]] [AB.row false m (9 : Nat) (row9 f) t] else needs [decide ((↑m : Int) ≤ (1099511627776 : Int))] Res.err) := by kernel_rfl

def chMi (w : Wh) : Wh := ⟨IntKind.wrap IntKind.i64 (0 - w.s), cyOf (mirF w.r.f)⟩
abbrev mpMi : List Wh → List Wh := fun L => L.map chMi
theorem inwMi {L : List Wh} (_ : okD L = true) : inW (L.map chMi) := by
  intro w' hw'
  obtain ⟨w, hw, rfl⟩ := List.mem_map.1 hw'
  exact cyOf_in fun k _ => w64_range _
theorem sumCMi (m : Nat) (f : Nat → Nat → Int) (t : TypeId) (hm : m ≤ 2 ^ 38) (hok : ∀ w ∈ listW f m, inB w.r.f = true) :
    SumOk Try.prog 1 (.block 0 (.loop (loopAt 0 Try.f91))) (atS 32 (lvCh .normal) 1 (stCMi m 0 0) (hpCMi m f t 0 (wfun [])) (fun K => K .normal (mkT 0 32 [(6, .own 1 m)]) (hpCMi m f t m (wfun ((listW f m).map chMi))))) := by
  refine for_at gmC_ok (n := 100) (m := 1) (lv := lvCh) (fun i => stCMi m i i) (fun i => hpCMi m f t i (wfun ((listW f i).map chMi))) (fun _ => True) m (fun _ => noLam) (lv3_ris rfl rfl rfl) (Nat.le_refl _) trivial fun K Q hk i hi him => ⟨noLam_ok _ _ _, ?_⟩
  rw [rndCMi]
  refine good_cond (fun c1 => ?_) fun c1 => ?_
  · have c1 := of_decide_eq_true c1
    have c1' : i < m := by omega
    rw [Int.toNat_natCast, Nat.zero_add, wr_in (x := (i : Int) + 1) (by omega)]
    refine good_needs (by simp only [ob_cons, ob_nil, and_true, decide_eq_true_eq, Nat.ble_eq]; omega) (good_out ⟨i + 1, ⟨rfl, c1', trivial⟩, rfl, ?_⟩)
    show Hsim _ (hpCMi m f t (i + 1) (wfun ((listW f (i + 1)).map chMi)))
    rw [listW_succ, List.map_append]
    refine (.cons (ABeq.refl _) (.cons (ABeq.row fun q hq => ?_) .nil))
    exact ch_row _ (chMi (whOf (f i))) i (by rw [List.length_map, listW_length]) q hq
  · have c1 := of_decide_eq_false c1
    have : i = m := by omega
    subst this
    refine good_out ⟨_, Hsim.refl _, ?_⟩
    rw [if_pos rfl]
    exact hk

def FchYMi (okd : List Wh → Bool) (ti : List Wh → List Wh) (okt : List Wh → Bool) (mp : List Wh → List Wh) : List AV → List AB → Option HR
  | [.sl 0 9 0 0 m none, .fn 100 []], [.row false n 9 g t] => some { val := .tup [.sl 1 9 0 0 (ti (mp (listW (itW g) m))).length (some (ti (mp (listW (itW g) m))).length), .v (.bool true)], out := [.row false n 9 g t], new := newY (ti (mp (listW (itW g) m))), obl := [Nat.beq n m, allW m g, decide (m ≤ 2 ^ 38), okd (listW (itW g) m) && okt (mp (listW (itW g) m))] }
  | _, _ => none
def FchNMi (okd : List Wh → Bool) (okt : List Wh → Bool) (mp : List Wh → List Wh) : List AV → List AB → Option HR
  | [.sl 0 9 0 0 m none, .fn 100 []], [.row false n 9 g t] => some { val := valN, out := [.row false n 9 g t], obl := [Nat.beq n m, allW m g, decide (m ≤ 2 ^ 38), !(okd (listW (itW g) m) && okt (mp (listW (itW g) m)))] }
  | _, _ => none
theorem ok_chYMi : SpecOk Try.prog 91 (specH [true] (FchYMi okD tidyL okT mpMi)) := by
  refine specH_ok gmChY_ok Try.func91 rfl fun avs H hr hF ho => ?_
  unfold FchYMi at hF
  split at hF
  · rename_i m n g t
    cases hF
    simp only [ob_cons] at ho
    obtain ⟨h0, h1, h2, h3, _⟩ := ho
    have h0 := Nat.eq_of_beq_eq_true h0
    subst h0
    have hm := of_decide_eq_true h2
    rw [Bool.and_eq_true] at h3
    obtain ⟨hd, ht⟩ := h3
    have hin := inwMi hd
    have hs := sumCMi n (itW g) t hm (fun w hw => valid_inB hd hw)
    refine ⟨[.row false n 9 (row9 (itW g)) t], lamCMi n (itW g) t n (wfun ((listW (itW g) n).map chMi)), 100, .cons (ABeq.row fun j hj => allW_get h1 j hj) .nil, lam1 (by kernel_rfl) hs, ?_⟩
    show GoodQ (execF Try.prog (gmChY okD tidyL okT inWB) (lamCMi n (itW g) t n (wfun ((listW (itW g) n).map chMi))) 100 Try.f91 [.sl 0 9 0 0 n none, fnMi] [.row false n 9 (row9 (itW g)) t] (packK 1)) _
    rw [treeYMi, row0, listW_itW, listW_self ((listW (itW g) n).map chMi) n (by rw [List.length_map, listW_length])]
    refine good_needs (by simp only [ob_cons, ob_nil, and_true, decide_eq_true_eq, Nat.ble_eq, allW_row, true_and]; omega) (good_false (by rw [hd]; rfl) (good_needs ?_ (good_out ⟨rfl, .cons (ABeq.row fun j hj => (allW_get h1 j hj).symm) (Hsim.refl _)⟩)))
    simp only [ob_cons, ob_nil, and_true, allW_row]
    exact ⟨decide_eq_true (by omega), chk_of ⟨rfl, (.cons (ABeq.refl _) (.cons (ABeq.row fun j hj => absurd hj (Nat.not_lt_zero _)) .nil))⟩, by simp, trivial, decide_eq_true (by omega), chk_of hin, ht⟩
  · cases hF
theorem ok_chNMi : SpecOk Try.prog 91 (specH [true] (FchNMi okD okT mpMi)) := by
  refine specH_ok gmChN_ok Try.func91 rfl fun avs H hr hF ho => ?_
  unfold FchNMi at hF
  split at hF
  · rename_i m n g t
    cases hF
    simp only [ob_cons] at ho
    obtain ⟨h0, h1, h2, h3, _⟩ := ho
    have h0 := Nat.eq_of_beq_eq_true h0
    subst h0
    have hm := of_decide_eq_true h2
    cases hd : okD (listW (itW g) n) with
    | false =>
      have hz : SumOk Try.prog 1 (.block 0 (.loop (loopAt 0 Try.f91))) errS := errS_ok
      refine ⟨[.row false n 9 (row9 (itW g)) t], oneL 0 errS, 100, .cons (ABeq.row fun j hj => allW_get h1 j hj) .nil, lam1 (by kernel_rfl) hz, ?_⟩
      show GoodQ (execF Try.prog (gmChN okD okT inWB) (oneL 0 errS) 100 Try.f91 [.sl 0 9 0 0 n none, fnMi] [.row false n 9 (row9 (itW g)) t] (packK 1)) _
      rw [treeEMi, row0, listW_itW]
      exact good_needs (by simp only [ob_cons, ob_nil, and_true, decide_eq_true_eq, Nat.ble_eq, allW_row, true_and]; omega) (good_true (by rw [hd]; rfl) (good_out ⟨rfl, .cons (ABeq.row fun j hj => (allW_get h1 j hj).symm) .nil⟩))
    | true =>
    rw [hd, Bool.true_and] at h3
    have ht : okT ((listW (itW g) n).map chMi) = false := by simpa using h3
    have hin := inwMi hd
    have hs := sumCMi n (itW g) t hm (fun w hw => valid_inB hd hw)
    refine ⟨[.row false n 9 (row9 (itW g)) t], lamCMi n (itW g) t n (wfun ((listW (itW g) n).map chMi)), 100, .cons (ABeq.row fun j hj => allW_get h1 j hj) .nil, lam1 (by kernel_rfl) hs, ?_⟩
    show GoodQ (execF Try.prog (gmChN okD okT inWB) (lamCMi n (itW g) t n (wfun ((listW (itW g) n).map chMi))) 100 Try.f91 [.sl 0 9 0 0 n none, fnMi] [.row false n 9 (row9 (itW g)) t] (packK 1)) _
    rw [treeNMi, row0, listW_itW, listW_self ((listW (itW g) n).map chMi) n (by rw [List.length_map, listW_length])]
    refine good_needs (by simp only [ob_cons, ob_nil, and_true, decide_eq_true_eq, Nat.ble_eq, allW_row, true_and]; omega) (good_false (by rw [hd]; rfl) (good_needs ?_ (good_out ⟨rfl, .cons (ABeq.row fun j hj => (allW_get h1 j hj).symm) .nil⟩)))
    simp only [ob_cons, ob_nil, and_true, allW_row]
    exact ⟨decide_eq_true (by omega), chk_of ⟨rfl, (.cons (ABeq.refl _) (.cons (ABeq.row fun j hj => absurd hj (Nat.not_lt_zero _)) .nil))⟩, by simp, trivial, decide_eq_true (by omega), chk_of hin, by rw [ht]; rfl⟩
  · cases hF

end Go.Proofs.Ytmdcafhnjihckaa

/- The program's designs changed: DesignTidy, DesignTurned, DesignLater, DesignBack, DesignMirror. Conditions: a list of wheels. -/
namespace Go.Proofs.Ytmdcafhnjihckaa
open Go.RowKit
set_option maxRecDepth 100000

/-- The list is a design, and what comes of it too. -/
def yesTi (L : List Wh) : Bool := (okD L && okT (L.map chTi))
def FdeYTi (yes : List Wh → Bool) (ti : List Wh → List Wh) (mp : List Wh → List Wh) : List SA → Option FR
  | [.row m g] => some { val := valY (ti (mp (listW (itW g) m))), new := newY (ti (mp (listW (itW g) m))), obl := [allW m g, decide (m ≤ 2 ^ 38), yes (listW (itW g) m)] }
  | _ => none
def FdeNTi (yes : List Wh → Bool) : List SA → Option FR
  | [.row m g] => some { val := valN, obl := [allW m g, decide (m ≤ 2 ^ 38), !yes (listW (itW g) m)] }
  | _ => none
theorem treeDYTi (okd : List Wh → Bool) (ti : List Wh → List Wh) (okt : List Wh → Bool) (mp : List Wh → List Wh) (m : Nat) (f : Nat → Nat → Int) : execF Try.prog (ext gm_within 91 (specH [true] (FchYTi okd ti okt mp))) noLam 100 Try.f37 [.sl 0 9 0 0 m none] [.row false m 9 (row9 f) 46] (packK 1)
    = needs [Nat.beq m m, allW m (row9 f), decide (m ≤ (274877906944 : Nat)), okd (listW (itW (row9 f)) m) && okt (mp (listW (itW (row9 f)) m))] (Res.out Ex.ret [AV.tup [AV.sl (1 : Nat) (9 : Nat) (0 : Nat) (0 : Nat) (List.length (ti (mp (listW (itW (row9 f)) m)))) (some (List.length (ti (mp (listW (itW (row9 f)) m))))), AV.v (Value.bool true)]] [AB.row false m (9 : Nat) (row9 f) (46 : TypeId), AB.row true (List.length (ti (mp (listW (itW (row9 f)) m)))) (9 : Nat) (row9 (wfun (ti (mp (listW (itW (row9 f)) m))))) (46 : TypeId)]) := by kernel_rfl

theorem treeDNTi (okd : List Wh → Bool) (okt : List Wh → Bool) (mp : List Wh → List Wh) (m : Nat) (f : Nat → Nat → Int) : execF Try.prog (ext gm_within 91 (specH [true] (FchNTi okd okt mp))) noLam 100 Try.f37 [.sl 0 9 0 0 m none] [.row false m 9 (row9 f) 46] (packK 1)
    = needs [Nat.beq m m, allW m (row9 f), decide (m ≤ (274877906944 : Nat)), !(okd (listW (itW (row9 f)) m) && okt (mp (listW (itW (row9 f)) m)))] (Res.out Ex.ret [AV.tup [AV.v (Value.slice none (0 : Nat) (0 : Nat)), AV.v (Value.bool false)]] [AB.row false m (9 : Nat) (row9 f) (46 : TypeId)]) := by kernel_rfl

theorem ok_deYTi : SpecOk Try.prog 37 (specR md_ws (FdeYTi yesTi tidyL mpTi)) := by
  refine specR_hr (ext_ok gm_within_ok ok_chYTi) Try.func37 rfl fun sas fr hF ho => ?_
  unfold FdeYTi at hF
  split at hF
  · rename_i m g
    cases hF
    simp only [ob_cons] at ho
    obtain ⟨h1, h2, h3, _⟩ := ho
    have hm := of_decide_eq_true h2
    refine ⟨[.row false m 9 (row9 (itW g)) 46], noLam, 100, .cons (ABeq.row fun j hj => allW_get h1 j hj) .nil, noLam' _, ?_⟩
    show GoodQ (execF Try.prog (ext gm_within 91 (specH [true] (FchYTi okD tidyL okT mpTi))) noLam 100 Try.f37 [.sl 0 9 0 0 m none] [.row false m 9 (row9 (itW g)) 46] (packK 1)) _
    rw [treeDYTi]
    rw [yesTi] at h3
    exact good_needs (by simp only [ob_cons, ob_nil, and_true, beq_me, allW_row, listW_itW, true_and]; exact ⟨decide_eq_true hm, h3⟩) (good_out ⟨_, rfl, rfl, .cons (ABeq.row fun j hj => (allW_get h1 j hj).symm) (Hsim.refl _)⟩)
  · cases hF
theorem ok_deNTi : SpecOk Try.prog 37 (specR md_ws (FdeNTi yesTi)) := by
  refine specR_hr (ext_ok gm_within_ok ok_chNTi) Try.func37 rfl fun sas fr hF ho => ?_
  unfold FdeNTi at hF
  split at hF
  · rename_i m g
    cases hF
    simp only [ob_cons] at ho
    obtain ⟨h1, h2, h3, _⟩ := ho
    have hm := of_decide_eq_true h2
    refine ⟨[.row false m 9 (row9 (itW g)) 46], noLam, 100, .cons (ABeq.row fun j hj => allW_get h1 j hj) .nil, noLam' _, ?_⟩
    show GoodQ (execF Try.prog (ext gm_within 91 (specH [true] (FchNTi okD okT mpTi))) noLam 100 Try.f37 [.sl 0 9 0 0 m none] [.row false m 9 (row9 (itW g)) 46] (packK 1)) _
    rw [treeDNTi]
    rw [yesTi] at h3
    exact good_needs (by simp only [ob_cons, ob_nil, and_true, beq_me, allW_row, listW_itW, true_and]; exact ⟨decide_eq_true hm, h3⟩) (good_out ⟨_, rfl, rfl, .cons (ABeq.row fun j hj => (allW_get h1 j hj).symm) .nil⟩)
  · cases hF

/-- The list is a design, and what comes of it too. -/
def yesTu (x : Int) (L : List Wh) : Bool := inR x 0 23 && (okD L && okT (L.map (chTu x)))
def FdeYTu (yes : Int → List Wh → Bool) (ti : List Wh → List Wh) (mp : Int → List Wh → List Wh) : List SA → Option FR
  | [.row m g, .v (.int .i64 x)] => some { val := valY (ti (mp x (listW (itW g) m))), new := newY (ti (mp x (listW (itW g) m))), obl := [allW m g, decide (m ≤ 2 ^ 38), yes x (listW (itW g) m)] }
  | _ => none
def FdeNTu (yes : Int → List Wh → Bool) : List SA → Option FR
  | [.row m g, .v (.int .i64 x)] => some { val := valN, obl := [allW m g, decide (m ≤ 2 ^ 38), !yes x (listW (itW g) m)] }
  | _ => none
theorem treeDYTu (okd : List Wh → Bool) (ti : List Wh → List Wh) (okt : List Wh → Bool) (mp : Int → List Wh → List Wh) (m : Nat) (f : Nat → Nat → Int) (x : Int) : execF Try.prog (ext gm_within 91 (specH [true] (FchYTu okd ti okt mp))) noLam 100 Try.f42 [.sl 0 9 0 0 m none, .v (i64 x)] [.row false m 9 (row9 f) 46] (packK 1)
    = bif !inR x (0 : Int) (23 : Int) then Res.out Ex.ret [AV.tup [AV.v (Value.slice none (0 : Nat) (0 : Nat)), AV.v (Value.bool false)]] [AB.row false m (9 : Nat) (row9 f) (46 : TypeId)] else needs [Nat.beq m m, allW m (row9 f), decide (m ≤ (274877906944 : Nat)), okd (listW (itW (row9 f)) m) && okt (mp x (listW (itW (row9 f)) m)), inR x (-9223372036854775808 : Int) (9223372036854775807 : Int)] (Res.out Ex.ret [AV.tup [AV.sl (1 : Nat) (9 : Nat) (0 : Nat) (0 : Nat) (List.length (ti (mp x (listW (itW (row9 f)) m)))) (some (List.length (ti (mp x (listW (itW (row9 f)) m))))), AV.v (Value.bool true)]] [AB.row false m (9 : Nat) (row9 f) (46 : TypeId), AB.row true (List.length (ti (mp x (listW (itW (row9 f)) m)))) (9 : Nat) (row9 (wfun (ti (mp x (listW (itW (row9 f)) m))))) (46 : TypeId)]) := by kernel_rfl

theorem treeDNTu (okd : List Wh → Bool) (okt : List Wh → Bool) (mp : Int → List Wh → List Wh) (m : Nat) (f : Nat → Nat → Int) (x : Int) : execF Try.prog (ext gm_within 91 (specH [true] (FchNTu okd okt mp))) noLam 100 Try.f42 [.sl 0 9 0 0 m none, .v (i64 x)] [.row false m 9 (row9 f) 46] (packK 1)
    = bif !inR x (0 : Int) (23 : Int) then Res.out Ex.ret [AV.tup [AV.v (Value.slice none (0 : Nat) (0 : Nat)), AV.v (Value.bool false)]] [AB.row false m (9 : Nat) (row9 f) (46 : TypeId)] else needs [Nat.beq m m, allW m (row9 f), decide (m ≤ (274877906944 : Nat)), !(okd (listW (itW (row9 f)) m) && okt (mp x (listW (itW (row9 f)) m))), inR x (-9223372036854775808 : Int) (9223372036854775807 : Int)] (Res.out Ex.ret [AV.tup [AV.v (Value.slice none (0 : Nat) (0 : Nat)), AV.v (Value.bool false)]] [AB.row false m (9 : Nat) (row9 f) (46 : TypeId)]) := by kernel_rfl

theorem ok_deYTu : SpecOk Try.prog 42 (specR md_wv (FdeYTu yesTu tidyL mpTu)) := by
  refine specR_hr (ext_ok gm_within_ok ok_chYTu) Try.func42 rfl fun sas fr hF ho => ?_
  unfold FdeYTu at hF
  split at hF
  · rename_i m g x
    cases hF
    simp only [ob_cons] at ho
    obtain ⟨h1, h2, h3, _⟩ := ho
    have hm := of_decide_eq_true h2
    refine ⟨[.row false m 9 (row9 (itW g)) 46], noLam, 100, .cons (ABeq.row fun j hj => allW_get h1 j hj) .nil, noLam' _, ?_⟩
    show GoodQ (execF Try.prog (ext gm_within 91 (specH [true] (FchYTu okD tidyL okT mpTu))) noLam 100 Try.f42 [.sl 0 9 0 0 m none, .v (i64 x)] [.row false m 9 (row9 (itW g)) 46] (packK 1)) _
    rw [treeDYTu]
    rw [yesTu, Bool.and_eq_true] at h3
    obtain ⟨hx, h3⟩ := h3
    have hx2 := inR_iff.1 hx
    exact good_false (by rw [hx]; rfl) (good_needs (by simp only [ob_cons, ob_nil, and_true, beq_me, allW_row, listW_itW, true_and]; exact ⟨decide_eq_true hm, h3, inR_iff.2 (by omega)⟩) (good_out ⟨_, rfl, rfl, .cons (ABeq.row fun j hj => (allW_get h1 j hj).symm) (Hsim.refl _)⟩))
  · cases hF
theorem ok_deNTu : SpecOk Try.prog 42 (specR md_wv (FdeNTu yesTu)) := by
  refine specR_hr (ext_ok gm_within_ok ok_chNTu) Try.func42 rfl fun sas fr hF ho => ?_
  unfold FdeNTu at hF
  split at hF
  · rename_i m g x
    cases hF
    simp only [ob_cons] at ho
    obtain ⟨h1, h2, h3, _⟩ := ho
    have hm := of_decide_eq_true h2
    refine ⟨[.row false m 9 (row9 (itW g)) 46], noLam, 100, .cons (ABeq.row fun j hj => allW_get h1 j hj) .nil, noLam' _, ?_⟩
    show GoodQ (execF Try.prog (ext gm_within 91 (specH [true] (FchNTu okD okT mpTu))) noLam 100 Try.f42 [.sl 0 9 0 0 m none, .v (i64 x)] [.row false m 9 (row9 (itW g)) 46] (packK 1)) _
    rw [treeDNTu]
    cases hx : inR x 0 23 with
    | false => exact good_true rfl (good_out ⟨_, rfl, rfl, .cons (ABeq.row fun j hj => (allW_get h1 j hj).symm) .nil⟩)
    | true =>
      rw [yesTu, hx, Bool.true_and] at h3
      have hx2 := inR_iff.1 hx
      exact good_false rfl (good_needs (by simp only [ob_cons, ob_nil, and_true, beq_me, allW_row, listW_itW, true_and]; exact ⟨decide_eq_true hm, h3, inR_iff.2 (by omega)⟩) (good_out ⟨_, rfl, rfl, .cons (ABeq.row fun j hj => (allW_get h1 j hj).symm) .nil⟩))
  · cases hF

/-- The list is a design, and what comes of it too. -/
def yesLa (x : Int) (L : List Wh) : Bool := inR x 0 23 && (okD L && okT (L.map (chLa x)))
def FdeYLa (yes : Int → List Wh → Bool) (ti : List Wh → List Wh) (mp : Int → List Wh → List Wh) : List SA → Option FR
  | [.row m g, .v (.int .i64 x)] => some { val := valY (ti (mp x (listW (itW g) m))), new := newY (ti (mp x (listW (itW g) m))), obl := [allW m g, decide (m ≤ 2 ^ 38), yes x (listW (itW g) m)] }
  | _ => none
def FdeNLa (yes : Int → List Wh → Bool) : List SA → Option FR
  | [.row m g, .v (.int .i64 x)] => some { val := valN, obl := [allW m g, decide (m ≤ 2 ^ 38), !yes x (listW (itW g) m)] }
  | _ => none
theorem treeDYLa (okd : List Wh → Bool) (ti : List Wh → List Wh) (okt : List Wh → Bool) (mp : Int → List Wh → List Wh) (m : Nat) (f : Nat → Nat → Int) (x : Int) : execF Try.prog (ext gm_within 91 (specH [true] (FchYLa okd ti okt mp))) noLam 100 Try.f41 [.sl 0 9 0 0 m none, .v (i64 x)] [.row false m 9 (row9 f) 46] (packK 1)
    = bif !inR x (0 : Int) (23 : Int) then Res.out Ex.ret [AV.tup [AV.v (Value.slice none (0 : Nat) (0 : Nat)), AV.v (Value.bool false)]] [AB.row false m (9 : Nat) (row9 f) (46 : TypeId)] else needs [Nat.beq m m, allW m (row9 f), decide (m ≤ (274877906944 : Nat)), okd (listW (itW (row9 f)) m) && okt (mp x (listW (itW (row9 f)) m))] (Res.out Ex.ret [AV.tup [AV.sl (1 : Nat) (9 : Nat) (0 : Nat) (0 : Nat) (List.length (ti (mp x (listW (itW (row9 f)) m)))) (some (List.length (ti (mp x (listW (itW (row9 f)) m))))), AV.v (Value.bool true)]] [AB.row false m (9 : Nat) (row9 f) (46 : TypeId), AB.row true (List.length (ti (mp x (listW (itW (row9 f)) m)))) (9 : Nat) (row9 (wfun (ti (mp x (listW (itW (row9 f)) m))))) (46 : TypeId)]) := by kernel_rfl

theorem treeDNLa (okd : List Wh → Bool) (okt : List Wh → Bool) (mp : Int → List Wh → List Wh) (m : Nat) (f : Nat → Nat → Int) (x : Int) : execF Try.prog (ext gm_within 91 (specH [true] (FchNLa okd okt mp))) noLam 100 Try.f41 [.sl 0 9 0 0 m none, .v (i64 x)] [.row false m 9 (row9 f) 46] (packK 1)
    = bif !inR x (0 : Int) (23 : Int) then Res.out Ex.ret [AV.tup [AV.v (Value.slice none (0 : Nat) (0 : Nat)), AV.v (Value.bool false)]] [AB.row false m (9 : Nat) (row9 f) (46 : TypeId)] else needs [Nat.beq m m, allW m (row9 f), decide (m ≤ (274877906944 : Nat)), !(okd (listW (itW (row9 f)) m) && okt (mp x (listW (itW (row9 f)) m)))] (Res.out Ex.ret [AV.tup [AV.v (Value.slice none (0 : Nat) (0 : Nat)), AV.v (Value.bool false)]] [AB.row false m (9 : Nat) (row9 f) (46 : TypeId)]) := by kernel_rfl

theorem ok_deYLa : SpecOk Try.prog 41 (specR md_wv (FdeYLa yesLa tidyL mpLa)) := by
  refine specR_hr (ext_ok gm_within_ok ok_chYLa) Try.func41 rfl fun sas fr hF ho => ?_
  unfold FdeYLa at hF
  split at hF
  · rename_i m g x
    cases hF
    simp only [ob_cons] at ho
    obtain ⟨h1, h2, h3, _⟩ := ho
    have hm := of_decide_eq_true h2
    refine ⟨[.row false m 9 (row9 (itW g)) 46], noLam, 100, .cons (ABeq.row fun j hj => allW_get h1 j hj) .nil, noLam' _, ?_⟩
    show GoodQ (execF Try.prog (ext gm_within 91 (specH [true] (FchYLa okD tidyL okT mpLa))) noLam 100 Try.f41 [.sl 0 9 0 0 m none, .v (i64 x)] [.row false m 9 (row9 (itW g)) 46] (packK 1)) _
    rw [treeDYLa]
    rw [yesLa, Bool.and_eq_true] at h3
    obtain ⟨hx, h3⟩ := h3
    have hx2 := inR_iff.1 hx
    exact good_false (by rw [hx]; rfl) (good_needs (by simp only [ob_cons, ob_nil, and_true, beq_me, allW_row, listW_itW, true_and]; exact ⟨decide_eq_true hm, h3⟩) (good_out ⟨_, rfl, rfl, .cons (ABeq.row fun j hj => (allW_get h1 j hj).symm) (Hsim.refl _)⟩))
  · cases hF
theorem ok_deNLa : SpecOk Try.prog 41 (specR md_wv (FdeNLa yesLa)) := by
  refine specR_hr (ext_ok gm_within_ok ok_chNLa) Try.func41 rfl fun sas fr hF ho => ?_
  unfold FdeNLa at hF
  split at hF
  · rename_i m g x
    cases hF
    simp only [ob_cons] at ho
    obtain ⟨h1, h2, h3, _⟩ := ho
    have hm := of_decide_eq_true h2
    refine ⟨[.row false m 9 (row9 (itW g)) 46], noLam, 100, .cons (ABeq.row fun j hj => allW_get h1 j hj) .nil, noLam' _, ?_⟩
    show GoodQ (execF Try.prog (ext gm_within 91 (specH [true] (FchNLa okD okT mpLa))) noLam 100 Try.f41 [.sl 0 9 0 0 m none, .v (i64 x)] [.row false m 9 (row9 (itW g)) 46] (packK 1)) _
    rw [treeDNLa]
    cases hx : inR x 0 23 with
    | false => exact good_true rfl (good_out ⟨_, rfl, rfl, .cons (ABeq.row fun j hj => (allW_get h1 j hj).symm) .nil⟩)
    | true =>
      rw [yesLa, hx, Bool.true_and] at h3
      have hx2 := inR_iff.1 hx
      exact good_false rfl (good_needs (by simp only [ob_cons, ob_nil, and_true, beq_me, allW_row, listW_itW, true_and]; exact ⟨decide_eq_true hm, h3⟩) (good_out ⟨_, rfl, rfl, .cons (ABeq.row fun j hj => (allW_get h1 j hj).symm) .nil⟩))
  · cases hF

/-- The list is a design, and what comes of it too. -/
def yesBa (L : List Wh) : Bool := (okD L && okT (L.map chBa))
def FdeYBa (yes : List Wh → Bool) (ti : List Wh → List Wh) (mp : List Wh → List Wh) : List SA → Option FR
  | [.row m g] => some { val := valY (ti (mp (listW (itW g) m))), new := newY (ti (mp (listW (itW g) m))), obl := [allW m g, decide (m ≤ 2 ^ 38), yes (listW (itW g) m)] }
  | _ => none
def FdeNBa (yes : List Wh → Bool) : List SA → Option FR
  | [.row m g] => some { val := valN, obl := [allW m g, decide (m ≤ 2 ^ 38), !yes (listW (itW g) m)] }
  | _ => none
theorem treeDYBa (okd : List Wh → Bool) (ti : List Wh → List Wh) (okt : List Wh → Bool) (mp : List Wh → List Wh) (m : Nat) (f : Nat → Nat → Int) : execF Try.prog (ext gm_within 91 (specH [true] (FchYBa okd ti okt mp))) noLam 100 Try.f47 [.sl 0 9 0 0 m none] [.row false m 9 (row9 f) 46] (packK 1)
    = needs [Nat.beq m m, allW m (row9 f), decide (m ≤ (274877906944 : Nat)), okd (listW (itW (row9 f)) m) && okt (mp (listW (itW (row9 f)) m))] (Res.out Ex.ret [AV.tup [AV.sl (1 : Nat) (9 : Nat) (0 : Nat) (0 : Nat) (List.length (ti (mp (listW (itW (row9 f)) m)))) (some (List.length (ti (mp (listW (itW (row9 f)) m))))), AV.v (Value.bool true)]] [AB.row false m (9 : Nat) (row9 f) (46 : TypeId), AB.row true (List.length (ti (mp (listW (itW (row9 f)) m)))) (9 : Nat) (row9 (wfun (ti (mp (listW (itW (row9 f)) m))))) (46 : TypeId)]) := by kernel_rfl

theorem treeDNBa (okd : List Wh → Bool) (okt : List Wh → Bool) (mp : List Wh → List Wh) (m : Nat) (f : Nat → Nat → Int) : execF Try.prog (ext gm_within 91 (specH [true] (FchNBa okd okt mp))) noLam 100 Try.f47 [.sl 0 9 0 0 m none] [.row false m 9 (row9 f) 46] (packK 1)
    = needs [Nat.beq m m, allW m (row9 f), decide (m ≤ (274877906944 : Nat)), !(okd (listW (itW (row9 f)) m) && okt (mp (listW (itW (row9 f)) m)))] (Res.out Ex.ret [AV.tup [AV.v (Value.slice none (0 : Nat) (0 : Nat)), AV.v (Value.bool false)]] [AB.row false m (9 : Nat) (row9 f) (46 : TypeId)]) := by kernel_rfl

theorem ok_deYBa : SpecOk Try.prog 47 (specR md_ws (FdeYBa yesBa tidyL mpBa)) := by
  refine specR_hr (ext_ok gm_within_ok ok_chYBa) Try.func47 rfl fun sas fr hF ho => ?_
  unfold FdeYBa at hF
  split at hF
  · rename_i m g
    cases hF
    simp only [ob_cons] at ho
    obtain ⟨h1, h2, h3, _⟩ := ho
    have hm := of_decide_eq_true h2
    refine ⟨[.row false m 9 (row9 (itW g)) 46], noLam, 100, .cons (ABeq.row fun j hj => allW_get h1 j hj) .nil, noLam' _, ?_⟩
    show GoodQ (execF Try.prog (ext gm_within 91 (specH [true] (FchYBa okD tidyL okT mpBa))) noLam 100 Try.f47 [.sl 0 9 0 0 m none] [.row false m 9 (row9 (itW g)) 46] (packK 1)) _
    rw [treeDYBa]
    rw [yesBa] at h3
    exact good_needs (by simp only [ob_cons, ob_nil, and_true, beq_me, allW_row, listW_itW, true_and]; exact ⟨decide_eq_true hm, h3⟩) (good_out ⟨_, rfl, rfl, .cons (ABeq.row fun j hj => (allW_get h1 j hj).symm) (Hsim.refl _)⟩)
  · cases hF
theorem ok_deNBa : SpecOk Try.prog 47 (specR md_ws (FdeNBa yesBa)) := by
  refine specR_hr (ext_ok gm_within_ok ok_chNBa) Try.func47 rfl fun sas fr hF ho => ?_
  unfold FdeNBa at hF
  split at hF
  · rename_i m g
    cases hF
    simp only [ob_cons] at ho
    obtain ⟨h1, h2, h3, _⟩ := ho
    have hm := of_decide_eq_true h2
    refine ⟨[.row false m 9 (row9 (itW g)) 46], noLam, 100, .cons (ABeq.row fun j hj => allW_get h1 j hj) .nil, noLam' _, ?_⟩
    show GoodQ (execF Try.prog (ext gm_within 91 (specH [true] (FchNBa okD okT mpBa))) noLam 100 Try.f47 [.sl 0 9 0 0 m none] [.row false m 9 (row9 (itW g)) 46] (packK 1)) _
    rw [treeDNBa]
    rw [yesBa] at h3
    exact good_needs (by simp only [ob_cons, ob_nil, and_true, beq_me, allW_row, listW_itW, true_and]; exact ⟨decide_eq_true hm, h3⟩) (good_out ⟨_, rfl, rfl, .cons (ABeq.row fun j hj => (allW_get h1 j hj).symm) .nil⟩)
  · cases hF

/-- The list is a design, and what comes of it too. -/
def yesMi (L : List Wh) : Bool := (okD L && okT (L.map chMi))
def FdeYMi (yes : List Wh → Bool) (ti : List Wh → List Wh) (mp : List Wh → List Wh) : List SA → Option FR
  | [.row m g] => some { val := valY (ti (mp (listW (itW g) m))), new := newY (ti (mp (listW (itW g) m))), obl := [allW m g, decide (m ≤ 2 ^ 38), yes (listW (itW g) m)] }
  | _ => none
def FdeNMi (yes : List Wh → Bool) : List SA → Option FR
  | [.row m g] => some { val := valN, obl := [allW m g, decide (m ≤ 2 ^ 38), !yes (listW (itW g) m)] }
  | _ => none
theorem treeDYMi (okd : List Wh → Bool) (ti : List Wh → List Wh) (okt : List Wh → Bool) (mp : List Wh → List Wh) (m : Nat) (f : Nat → Nat → Int) : execF Try.prog (ext gm_within 91 (specH [true] (FchYMi okd ti okt mp))) noLam 100 Try.f46 [.sl 0 9 0 0 m none] [.row false m 9 (row9 f) 46] (packK 1)
    = needs [Nat.beq m m, allW m (row9 f), decide (m ≤ (274877906944 : Nat)), okd (listW (itW (row9 f)) m) && okt (mp (listW (itW (row9 f)) m))] (Res.out Ex.ret [AV.tup [AV.sl (1 : Nat) (9 : Nat) (0 : Nat) (0 : Nat) (List.length (ti (mp (listW (itW (row9 f)) m)))) (some (List.length (ti (mp (listW (itW (row9 f)) m))))), AV.v (Value.bool true)]] [AB.row false m (9 : Nat) (row9 f) (46 : TypeId), AB.row true (List.length (ti (mp (listW (itW (row9 f)) m)))) (9 : Nat) (row9 (wfun (ti (mp (listW (itW (row9 f)) m))))) (46 : TypeId)]) := by kernel_rfl

theorem treeDNMi (okd : List Wh → Bool) (okt : List Wh → Bool) (mp : List Wh → List Wh) (m : Nat) (f : Nat → Nat → Int) : execF Try.prog (ext gm_within 91 (specH [true] (FchNMi okd okt mp))) noLam 100 Try.f46 [.sl 0 9 0 0 m none] [.row false m 9 (row9 f) 46] (packK 1)
    = needs [Nat.beq m m, allW m (row9 f), decide (m ≤ (274877906944 : Nat)), !(okd (listW (itW (row9 f)) m) && okt (mp (listW (itW (row9 f)) m)))] (Res.out Ex.ret [AV.tup [AV.v (Value.slice none (0 : Nat) (0 : Nat)), AV.v (Value.bool false)]] [AB.row false m (9 : Nat) (row9 f) (46 : TypeId)]) := by kernel_rfl

theorem ok_deYMi : SpecOk Try.prog 46 (specR md_ws (FdeYMi yesMi tidyL mpMi)) := by
  refine specR_hr (ext_ok gm_within_ok ok_chYMi) Try.func46 rfl fun sas fr hF ho => ?_
  unfold FdeYMi at hF
  split at hF
  · rename_i m g
    cases hF
    simp only [ob_cons] at ho
    obtain ⟨h1, h2, h3, _⟩ := ho
    have hm := of_decide_eq_true h2
    refine ⟨[.row false m 9 (row9 (itW g)) 46], noLam, 100, .cons (ABeq.row fun j hj => allW_get h1 j hj) .nil, noLam' _, ?_⟩
    show GoodQ (execF Try.prog (ext gm_within 91 (specH [true] (FchYMi okD tidyL okT mpMi))) noLam 100 Try.f46 [.sl 0 9 0 0 m none] [.row false m 9 (row9 (itW g)) 46] (packK 1)) _
    rw [treeDYMi]
    rw [yesMi] at h3
    exact good_needs (by simp only [ob_cons, ob_nil, and_true, beq_me, allW_row, listW_itW, true_and]; exact ⟨decide_eq_true hm, h3⟩) (good_out ⟨_, rfl, rfl, .cons (ABeq.row fun j hj => (allW_get h1 j hj).symm) (Hsim.refl _)⟩)
  · cases hF
theorem ok_deNMi : SpecOk Try.prog 46 (specR md_ws (FdeNMi yesMi)) := by
  refine specR_hr (ext_ok gm_within_ok ok_chNMi) Try.func46 rfl fun sas fr hF ho => ?_
  unfold FdeNMi at hF
  split at hF
  · rename_i m g
    cases hF
    simp only [ob_cons] at ho
    obtain ⟨h1, h2, h3, _⟩ := ho
    have hm := of_decide_eq_true h2
    refine ⟨[.row false m 9 (row9 (itW g)) 46], noLam, 100, .cons (ABeq.row fun j hj => allW_get h1 j hj) .nil, noLam' _, ?_⟩
    show GoodQ (execF Try.prog (ext gm_within 91 (specH [true] (FchNMi okD okT mpMi))) noLam 100 Try.f46 [.sl 0 9 0 0 m none] [.row false m 9 (row9 (itW g)) 46] (packK 1)) _
    rw [treeDNMi]
    rw [yesMi] at h3
    exact good_needs (by simp only [ob_cons, ob_nil, and_true, beq_me, allW_row, listW_itW, true_and]; exact ⟨decide_eq_true hm, h3⟩) (good_out ⟨_, rfl, rfl, .cons (ABeq.row fun j hj => (allW_get h1 j hj).symm) .nil⟩)
  · cases hF

end Go.Proofs.Ytmdcafhnjihckaa

/- l5At and DesignAt, the reference's: their words. Conditions: a list of wheels. -/
namespace Go.Proofs.Ytmdcafhnjihckaa
open Go.RowKit
set_option maxRecDepth 100000

def fMd (md : Int → Int) : List Value → Option (Value × List Bool)
  | [.int .i64 n] => some (.int .i64 (md n), [])
  | _ => none
def FtuO (tu : (Nat → Int) → Int → Nat → Int) : List SA → Option FR
  | [.v (.agg ⟨[.int .i64 a0, .int .i64 a1, .int .i64 a2, .int .i64 a3, .int .i64 a4, .int .i64 a5, .int .i64 a6, .int .i64 a7]⟩), .v (.int .i64 n)] => some { val := .agg (cyC (tu (v8 a0 a1 a2 a3 a4 a5 a6 a7) n)), obl := [decide (n ≤ 2 ^ 40)] }
  | _ => none
def gmAt (md : Int → Int) (tu : (Nat → Int) → Int → Nat → Int) (ad : (Nat → Int) → Int → (Nat → Int) → Nat → Int) : Gam := ext (ext (ext g0 76 (specV (fMd md))) 77 (specR [.val, .val] (FtuO tu))) 152 (specV (fAdd3 ad))
abbrev lvAt : Ex → List Nat := lv3 [0, 1, 4, 5, 6] [4, 5] [4]
abbrev hpAt (m : Nat) (f : Nat → Nat → Int) (t : TypeId) (a : Nat → Int) : List AB := [.row false m 9 (row9 f) t, .cells (cyC fun _ => 0) 31, .cells (cyC a) 31]
abbrev stAt (m : Nat) (n : Int) (i : Nat) : List AV := [.sl 0 9 0 0 m none, .v (i64 n), .ptr 1 0 0 0, .ptr 2 0 0 0, .v (i64 i)]
theorem rndAt (md : Int → Int) (tu : (Nat → Int) → Int → Nat → Int) (ad : (Nat → Int) → Int → (Nat → Int) → Nat → Int) (m : Nat) (f : Nat → Nat → Int) (t : TypeId) (a : Nat → Int) (n : Int) (i : Nat) : execC Try.prog (gmAt md tu ad) 100 noLam (loopAt 0 Try.f132) (mkT 0 31 ((lvAt .normal).zip (stAt m n i))) (hpAt m f t a) (leafV 31 lvAt 1)
    = bif decide ((↑i : Int) < (↑m : Int)) then needs [decide ((↑i : Int) < (↑m : Int)), decide ((0 : Nat) + Int.toNat (↑i : Int) < m), decide ((↑i : Int) < (↑m : Int)), decide ((0 : Nat) + Int.toNat (↑i : Int) < m), decide (md (IntKind.wrap IntKind.i64 (n * f ((0 : Nat) + Int.toNat (↑i : Int)) (0 : Nat))) ≤ (1099511627776 : Int))] (Res.out Ex.normal [AV.sl (0 : Nat) (9 : Nat) (0 : Nat) (0 : Nat) m none, AV.v (Value.int IntKind.i64 n), AV.ptr (1 : Nat) (0 : Nat) (0 : Nat) (0 : Nat), AV.ptr (2 : Nat) (0 : Nat) (0 : Nat) (0 : Nat), AV.v (Value.int IntKind.i64 (IntKind.wrap IntKind.i64 ((↑i : Int) + (1 : Int))))] [AB.row false m (9 : Nat) (row9 f) t, AB.cells [AV.v (Value.int IntKind.i64 (0 : Int)), AV.v (Value.int IntKind.i64 (0 : Int)), AV.v (Value.int IntKind.i64 (0 : Int)), AV.v (Value.int IntKind.i64 (0 : Int)), AV.v (Value.int IntKind.i64 (0 : Int)), AV.v (Value.int IntKind.i64 (0 : Int)), AV.v (Value.int IntKind.i64 (0 : Int)), AV.v (Value.int IntKind.i64 (0 : Int))] (31 : TypeId), AB.cells [AV.v (Value.int IntKind.i64 (ad (w8 a) (1 : Int) (w8 (tu (v8 (f ((0 : Nat) + Int.toNat (↑i : Int)) (1 : Nat)) (f ((0 : Nat) + Int.toNat (↑i : Int)) (2 : Nat)) (f ((0 : Nat) + Int.toNat (↑i : Int)) (3 : Nat)) (f ((0 : Nat) + Int.toNat (↑i : Int)) (4 : Nat)) (f ((0 : Nat) + Int.toNat (↑i : Int)) (5 : Nat)) (f ((0 : Nat) + Int.toNat (↑i : Int)) (6 : Nat)) (f ((0 : Nat) + Int.toNat (↑i : Int)) (7 : Nat)) (f ((0 : Nat) + Int.toNat (↑i : Int)) (8 : Nat))) (md (IntKind.wrap IntKind.i64 (n * f ((0 : Nat) + Int.toNat (↑i : Int)) (0 : Nat)))))) (0 : Nat))), AV.v (Value.int IntKind.i64 (ad (w8 a) (1 : Int) (w8 (tu (v8 (f ((0 : Nat) + Int.toNat (↑i : Int)) (1 : Nat)) (f ((0 : Nat) + Int.toNat (↑i : Int)) (2 : Nat)) (f ((0 : Nat) + Int.toNat (↑i : Int)) (3 : Nat)) (f ((0 : Nat) + Int.toNat (↑i : Int)) (4 : Nat)) (f ((0 : Nat) + Int.toNat (↑i : Int)) (5 : Nat)) (f ((0 : Nat) + Int.toNat (↑i : Int)) (6 : Nat)) (f ((0 : Nat) + Int.toNat (↑i : Int)) (7 : Nat)) (f ((0 : Nat) + Int.toNat (↑i : Int)) (8 : Nat))) (md (IntKind.wrap IntKind.i64 (n * f ((0 : Nat) + Int.toNat (↑i : Int)) (0 : Nat)))))) (1 : Nat))), AV.v (Value.int IntKind.i64 (ad (w8 a) (1 : Int) (w8 (tu (v8 (f ((0 : Nat) + Int.toNat (↑i : Int)) (1 : Nat)) (f ((0 : Nat) + Int.toNat (↑i : Int)) (2 : Nat)) (f ((0 : Nat) + Int.toNat (↑i : Int)) (3 : Nat)) (f ((0 : Nat) + Int.toNat (↑i : Int)) (4 : Nat)) (f ((0 : Nat) + Int.toNat (↑i : Int)) (5 : Nat)) (f ((0 : Nat) + Int.toNat (↑i : Int)) (6 : Nat)) (f ((0 : Nat) + Int.toNat (↑i : Int)) (7 : Nat)) (f ((0 : Nat) + Int.toNat (↑i : Int)) (8 : Nat))) (md (IntKind.wrap IntKind.i64 (n * f ((0 : Nat) + Int.toNat (↑i : Int)) (0 : Nat)))))) (2 : Nat))), AV.v (Value.int IntKind.i64 (ad (w8 a) (1 : Int) (w8 (tu (v8 (f ((0 : Nat) + Int.toNat (↑i : Int)) (1 : Nat)) (f ((0 : Nat) + Int.toNat (↑i : Int)) (2 : Nat)) (f ((0 : Nat) + Int.toNat (↑i : Int)) (3 : Nat)) (f ((0 : Nat) + Int.toNat (↑i : Int)) (4 : Nat)) (f ((0 : Nat) + Int.toNat (↑i : Int)) (5 : Nat)) (f ((0 : Nat) + Int.toNat (↑i : Int)) (6 : Nat)) (f ((0 : Nat) + Int.toNat (↑i : Int)) (7 : Nat)) (f ((0 : Nat) + Int.toNat (↑i : Int)) (8 : Nat))) (md (IntKind.wrap IntKind.i64 (n * f ((0 : Nat) + Int.toNat (↑i : Int)) (0 : Nat)))))) (3 : Nat))), AV.v (Value.int IntKind.i64 (ad (w8 a) (1 : Int) (w8 (tu (v8 (f ((0 : Nat) + Int.toNat (↑i : Int)) (1 : Nat)) (f ((0 : Nat) + Int.toNat (↑i : Int)) (2 : Nat)) (f ((0 : Nat) + Int.toNat (↑i : Int)) (3 : Nat)) (f ((0 : Nat) + Int.toNat (↑i : Int)) (4 : Nat)) (f ((0 : Nat) + Int.toNat (↑i : Int)) (5 : Nat)) (f ((0 : Nat) + Int.toNat (↑i : Int)) (6 : Nat)) (f ((0 : Nat) + Int.toNat (↑i : Int)) (7 : Nat)) (f ((0 : Nat) + Int.toNat (↑i : Int)) (8 : Nat))) (md (IntKind.wrap IntKind.i64 (n * f ((0 : Nat) + Int.toNat (↑i : Int)) (0 : Nat)))))) (4 : Nat))), AV.v (Value.int IntKind.i64 (ad (w8 a) (1 : Int) (w8 (tu (v8 (f ((0 : Nat) + Int.toNat (↑i : Int)) (1 : Nat)) (f ((0 : Nat) + Int.toNat (↑i : Int)) (2 : Nat)) (f ((0 : Nat) + Int.toNat (↑i : Int)) (3 : Nat)) (f ((0 : Nat) + Int.toNat (↑i : Int)) (4 : Nat)) (f ((0 : Nat) + Int.toNat (↑i : Int)) (5 : Nat)) (f ((0 : Nat) + Int.toNat (↑i : Int)) (6 : Nat)) (f ((0 : Nat) + Int.toNat (↑i : Int)) (7 : Nat)) (f ((0 : Nat) + Int.toNat (↑i : Int)) (8 : Nat))) (md (IntKind.wrap IntKind.i64 (n * f ((0 : Nat) + Int.toNat (↑i : Int)) (0 : Nat)))))) (5 : Nat))), AV.v (Value.int IntKind.i64 (ad (w8 a) (1 : Int) (w8 (tu (v8 (f ((0 : Nat) + Int.toNat (↑i : Int)) (1 : Nat)) (f ((0 : Nat) + Int.toNat (↑i : Int)) (2 : Nat)) (f ((0 : Nat) + Int.toNat (↑i : Int)) (3 : Nat)) (f ((0 : Nat) + Int.toNat (↑i : Int)) (4 : Nat)) (f ((0 : Nat) + Int.toNat (↑i : Int)) (5 : Nat)) (f ((0 : Nat) + Int.toNat (↑i : Int)) (6 : Nat)) (f ((0 : Nat) + Int.toNat (↑i : Int)) (7 : Nat)) (f ((0 : Nat) + Int.toNat (↑i : Int)) (8 : Nat))) (md (IntKind.wrap IntKind.i64 (n * f ((0 : Nat) + Int.toNat (↑i : Int)) (0 : Nat)))))) (6 : Nat))), AV.v (Value.int IntKind.i64 (ad (w8 a) (1 : Int) (w8 (tu (v8 (f ((0 : Nat) + Int.toNat (↑i : Int)) (1 : Nat)) (f ((0 : Nat) + Int.toNat (↑i : Int)) (2 : Nat)) (f ((0 : Nat) + Int.toNat (↑i : Int)) (3 : Nat)) (f ((0 : Nat) + Int.toNat (↑i : Int)) (4 : Nat)) (f ((0 : Nat) + Int.toNat (↑i : Int)) (5 : Nat)) (f ((0 : Nat) + Int.toNat (↑i : Int)) (6 : Nat)) (f ((0 : Nat) + Int.toNat (↑i : Int)) (7 : Nat)) (f ((0 : Nat) + Int.toNat (↑i : Int)) (8 : Nat))) (md (IntKind.wrap IntKind.i64 (n * f ((0 : Nat) + Int.toNat (↑i : Int)) (0 : Nat)))))) (7 : Nat)))] (31 : TypeId)]) else Res.out (Ex.exit (0 : Nat)) [AV.ptr (1 : Nat) (0 : Nat) (0 : Nat) (0 : Nat), AV.ptr (2 : Nat) (0 : Nat) (0 : Nat) (0 : Nat)] [AB.row false m (9 : Nat) (row9 f) t, AB.cells [AV.v (Value.int IntKind.i64 (0 : Int)), AV.v (Value.int IntKind.i64 (0 : Int)), AV.v (Value.int IntKind.i64 (0 : Int)), AV.v (Value.int IntKind.i64 (0 : Int)), AV.v (Value.int IntKind.i64 (0 : Int)), AV.v (Value.int IntKind.i64 (0 : Int)), AV.v (Value.int IntKind.i64 (0 : Int)), AV.v (Value.int IntKind.i64 (0 : Int))] (31 : TypeId), AB.cells [AV.v (Value.int IntKind.i64 (a (0 : Nat))), AV.v (Value.int IntKind.i64 (a (1 : Nat))), AV.v (Value.int IntKind.i64 (a (2 : Nat))), AV.v (Value.int IntKind.i64 (a (3 : Nat))), AV.v (Value.int IntKind.i64 (a (4 : Nat))), AV.v (Value.int IntKind.i64 (a (5 : Nat))), AV.v (Value.int IntKind.i64 (a (6 : Nat))), AV.v (Value.int IntKind.i64 (a (7 : Nat)))] (31 : TypeId)] := by kernel_rfl

noncomputable abbrev lamAt (m : Nat) (f : Nat → Nat → Int) (t : TypeId) (n : Int) (b : Nat → Int) : Nat → Option Sum := oneL 0 (atS 31 (lvAt .normal) 1 (stAt m n 0) (hpAt m f t fun _ => 0) (fun K => K .normal (mkT 0 31 [(4, .ptr 1 0 0 0), (5, .ptr 2 0 0 0)]) (hpAt m f t b)))
theorem treeAt (m : Nat) (f : Nat → Nat → Int) (t : TypeId) (n : Int) (b : Nat → Int) : execF Try.prog g0 (lamAt m f t n b) 100 Try.f132 [.sl 0 9 0 0 m none, .v (i64 n)] [.row false m 9 (row9 f) t] (packK 1)
    = needs [chk ([AV.sl (0 : Nat) (9 : Nat) (0 : Nat) (0 : Nat) m none, AV.v (Value.int IntKind.i64 n), AV.ptr (1 : Nat) (0 : Nat) (0 : Nat) (0 : Nat), AV.ptr (2 : Nat) (0 : Nat) (0 : Nat) (0 : Nat), AV.v (Value.int IntKind.i64 (0 : Int))] = stAt m n (0 : Nat) ∧ Hsim [AB.row false m (9 : Nat) (row9 f) t, AB.cells [AV.v (Value.int IntKind.i64 (0 : Int)), AV.v (Value.int IntKind.i64 (0 : Int)), AV.v (Value.int IntKind.i64 (0 : Int)), AV.v (Value.int IntKind.i64 (0 : Int)), AV.v (Value.int IntKind.i64 (0 : Int)), AV.v (Value.int IntKind.i64 (0 : Int)), AV.v (Value.int IntKind.i64 (0 : Int)), AV.v (Value.int IntKind.i64 (0 : Int))] (31 : Nat), AB.cells [AV.v (Value.int IntKind.i64 (0 : Int)), AV.v (Value.int IntKind.i64 (0 : Int)), AV.v (Value.int IntKind.i64 (0 : Int)), AV.v (Value.int IntKind.i64 (0 : Int)), AV.v (Value.int IntKind.i64 (0 : Int)), AV.v (Value.int IntKind.i64 (0 : Int)), AV.v (Value.int IntKind.i64 (0 : Int)), AV.v (Value.int IntKind.i64 (0 : Int))] (31 : Nat)] (hpAt m f t fun _ ↦ (0 : Int)))] (Res.out Ex.ret [AV.agg [AV.v (Value.int IntKind.i64 (b (0 : Nat))), AV.v (Value.int IntKind.i64 (b (1 : Nat))), AV.v (Value.int IntKind.i64 (b (2 : Nat))), AV.v (Value.int IntKind.i64 (b (3 : Nat))), AV.v (Value.int IntKind.i64 (b (4 : Nat))), AV.v (Value.int IntKind.i64 (b (5 : Nat))), AV.v (Value.int IntKind.i64 (b (6 : Nat))), AV.v (Value.int IntKind.i64 (b (7 : Nat)))]] [AB.row false m (9 : Nat) (row9 f) t]) := by kernel_rfl

theorem fMd_eq : fMd (fun n => n % 24) = f_l1Mod := by
  funext l
  rfl
theorem FtuO_eq : FtuO (fun a n => turnedF a n.toNat) = F_turned := by
  funext l
  rfl
theorem gmAt_ok : GamOk Try.prog (gmAt (fun n => n % 24) (fun a n => turnedF a n.toNat) sumF) := by
  unfold gmAt
  rw [fMd_eq, FtuO_eq, fAdd3_eq]
  exact ext_ok (ext_ok (ext_ok g0_ok ok_l1Mod) ok_turnedS) ok_l2Sum
/-- The sum of the turned radii. -/
def atF (f : Nat → Nat → Int) (n : Int) : Nat → Nat → Int
  | 0 => fun _ => 0
  | i + 1 => sumF (atF f n i) 1 (turnedF (v8 (f i 1) (f i 2) (f i 3) (f i 4) (f i 5) (f i 6) (f i 7) (f i 8)) (IntKind.wrap IntKind.i64 (n * f i 0) % 24).toNat)
theorem sumAt (m : Nat) (f : Nat → Nat → Int) (t : TypeId) (n : Int) (hm : m ≤ 2 ^ 40) :
    SumOk Try.prog 1 (.block 0 (.loop (loopAt 0 Try.f132))) (atS 31 (lvAt .normal) 1 (stAt m n 0) (hpAt m f t fun _ => 0) (fun K => K .normal (mkT 0 31 [(4, .ptr 1 0 0 0), (5, .ptr 2 0 0 0)]) (hpAt m f t (atF f n m)))) := by
  refine for_at gmAt_ok (n := 100) (m := 1) (lv := lvAt) (fun i => stAt m n i) (fun i => hpAt m f t (atF f n i)) (fun _ => True) m (fun _ => noLam) (lv3_ris rfl rfl rfl) (Nat.le_refl _) trivial fun K Q hk i hi him => ⟨noLam_ok _ _ _, ?_⟩
  rw [rndAt]
  refine good_cond (fun c1 => ?_) fun c1 => ?_
  · have c1 := of_decide_eq_true c1
    have c1' : i < m := by omega
    rw [Int.toNat_natCast, Nat.zero_add, wr_in (x := (i : Int) + 1) (by omega)]
    refine good_needs (by simp only [ob_cons, ob_nil, and_true, decide_eq_true_eq]; omega) (good_out ⟨i + 1, ⟨rfl, c1', trivial⟩, rfl, Hsim.refl _⟩)
  · have c1 := of_decide_eq_false c1
    have : i = m := by omega
    subst this
    refine good_out ⟨_, Hsim.refl _, ?_⟩
    rw [if_pos rfl]
    exact hk

def FatO (at_ : (Nat → Nat → Int) → Int → Nat → Nat → Int) : List SA → Option FR
  | [.row m g, .v (.int .i64 n)] => some { val := .agg (cyC (at_ (itW g) n m)), obl := [allW m g, decide (m ≤ 2 ^ 38)] }
  | _ => none
theorem atF_row (g : Nat → Nat → Int) (n : Int) (m : Nat) : atF (itW (row9 g)) n m = atF g n m := by
  induction m with
  | zero => rfl
  | succ m ih => rw [atF, ih]; rfl
theorem ok_l5At : SpecOk Try.prog 132 (specR md_wv (FatO atF)) := by
  refine specR_hr g0_ok Try.func132 rfl fun sas fr hF ho => ?_
  unfold FatO at hF
  split at hF
  · rename_i m g n
    cases hF
    simp only [ob_cons] at ho
    obtain ⟨h1, h2, _⟩ := ho
    have hm := of_decide_eq_true h2
    refine ⟨[.row false m 9 (row9 (itW g)) 46], lamAt m (itW g) 46 n (atF (itW g) n m), 100, .cons (ABeq.row fun j hj => allW_get h1 j hj) .nil, lam1 (by kernel_rfl) (sumAt m (itW g) 46 n (by omega)), ?_⟩
    show GoodQ (execF Try.prog g0 (lamAt m (itW g) 46 n (atF (itW g) n m)) 100 Try.f132 [.sl 0 9 0 0 m none, .v (i64 n)] [.row false m 9 (row9 (itW g)) 46] (packK 1)) _
    rw [treeAt]
    exact good_needs (by rw [ob_cons]; exact ⟨chk_of ⟨rfl, Hsim.refl _⟩, rfl⟩) (good_out ⟨_, rfl, rfl, .cons (ABeq.row fun j hj => (allW_get h1 j hj).symm) .nil⟩)
  · cases hF

def FdoO (dn : (Nat → Int) → Nat → Int) (ok : (Nat → Int) → Bool) : List SA → Option FR
  | [.v (.agg ⟨[.int .i64 a0, .int .i64 a1, .int .i64 a2, .int .i64 a3, .int .i64 a4, .int .i64 a5, .int .i64 a6, .int .i64 a7]⟩)] => some { val := .tup [.agg (cyC (dn (v8 a0 a1 a2 a3 a4 a5 a6 a7))), .v (.bool (ok (v8 a0 a1 a2 a3 a4 a5 a6 a7)))] }
  | _ => none
theorem FdoO_eq : FdoO doneC (fun v => cyOk (cyOf v)) = F_l2Done := by
  funext l
  rfl
def gmDA (at_ : (Nat → Nat → Int) → Int → Nat → Nat → Int) (dn : (Nat → Int) → Nat → Int) (ok : (Nat → Int) → Bool) : Gam := ext (ext (ext (ext g0 61 (specR md_ws F_dv)) 130 (specV f_l1Is)) 132 (specR md_wv (FatO at_))) 131 (specR [.val] (FdoO dn ok))
theorem treeDA (at_ : (Nat → Nat → Int) → Int → Nat → Nat → Int) (dn : (Nat → Int) → Nat → Int) (ok : (Nat → Int) → Bool) (m : Nat) (f : Nat → Nat → Int) (t : TypeId) (n : Int) : execF Try.prog (gmDA at_ dn ok) noLam 100 Try.f75 [.sl 0 9 0 0 m none, .v (i64 n)] [.row false m 9 (row9 f) t] (packK 1)
    = needs [Nat.ble ((0 : Nat) + m) m, allW m fun q ↦ row9 f ((0 : Nat) + q), decide (m ≤ (549755813888 : Nat))] (bif !okD (listW (itW fun q ↦ row9 f ((0 : Nat) + q)) m) then Res.out Ex.ret [AV.tup [AV.agg [AV.v (Value.int IntKind.i64 (0 : Int)), AV.v (Value.int IntKind.i64 (0 : Int)), AV.v (Value.int IntKind.i64 (0 : Int)), AV.v (Value.int IntKind.i64 (0 : Int)), AV.v (Value.int IntKind.i64 (0 : Int)), AV.v (Value.int IntKind.i64 (0 : Int)), AV.v (Value.int IntKind.i64 (0 : Int)), AV.v (Value.int IntKind.i64 (0 : Int))], AV.v (Value.bool false)]] [AB.row false m (9 : Nat) (row9 f) t] else bif !inR n (0 : Int) (23 : Int) then Res.out Ex.ret [AV.tup [AV.agg [AV.v (Value.int IntKind.i64 (0 : Int)), AV.v (Value.int IntKind.i64 (0 : Int)), AV.v (Value.int IntKind.i64 (0 : Int)), AV.v (Value.int IntKind.i64 (0 : Int)), AV.v (Value.int IntKind.i64 (0 : Int)), AV.v (Value.int IntKind.i64 (0 : Int)), AV.v (Value.int IntKind.i64 (0 : Int)), AV.v (Value.int IntKind.i64 (0 : Int))], AV.v (Value.bool false)]] [AB.row false m (9 : Nat) (row9 f) t] else needs [Nat.ble ((0 : Nat) + m) m, allW m fun q ↦ row9 f ((0 : Nat) + q), decide (m ≤ (274877906944 : Nat))] (Res.out Ex.ret [AV.tup [AV.agg [AV.v (Value.int IntKind.i64 (dn (w8 (at_ (itW fun q ↦ row9 f ((0 : Nat) + q)) n m)) (0 : Nat))), AV.v (Value.int IntKind.i64 (dn (w8 (at_ (itW fun q ↦ row9 f ((0 : Nat) + q)) n m)) (1 : Nat))), AV.v (Value.int IntKind.i64 (dn (w8 (at_ (itW fun q ↦ row9 f ((0 : Nat) + q)) n m)) (2 : Nat))), AV.v (Value.int IntKind.i64 (dn (w8 (at_ (itW fun q ↦ row9 f ((0 : Nat) + q)) n m)) (3 : Nat))), AV.v (Value.int IntKind.i64 (dn (w8 (at_ (itW fun q ↦ row9 f ((0 : Nat) + q)) n m)) (4 : Nat))), AV.v (Value.int IntKind.i64 (dn (w8 (at_ (itW fun q ↦ row9 f ((0 : Nat) + q)) n m)) (5 : Nat))), AV.v (Value.int IntKind.i64 (dn (w8 (at_ (itW fun q ↦ row9 f ((0 : Nat) + q)) n m)) (6 : Nat))), AV.v (Value.int IntKind.i64 (dn (w8 (at_ (itW fun q ↦ row9 f ((0 : Nat) + q)) n m)) (7 : Nat)))], AV.v (Value.bool (ok (w8 (at_ (itW fun q ↦ row9 f ((0 : Nat) + q)) n m))))]] [AB.row false m (9 : Nat) (row9 f) t])) := by kernel_rfl

end Go.Proofs.Ytmdcafhnjihckaa

/- l5Each, the reference's. Conditions: a list of wheels. -/
namespace Go.Proofs.Ytmdcafhnjihckaa
open Go.RowKit
set_option maxRecDepth 100000

def fIsO (ok : Int → Bool) : List Value → Option (Value × List Bool)
  | [.int .i64 n] => some (.bool (ok n), [])
  | _ => none
def FtidyO (ti : List Wh → List Wh) (okt : List Wh → Bool) : List SA → Option FR
  | [.row m g] => some { val := .tup [.own 0 (ti (listW (itW g) m)).length, .v (.bool (okt (listW (itW g) m)))], new := [.row true (ti (listW (itW g) m)).length 9 (row9 (wfun (ti (listW (itW g) m)))) 46], obl := [allW m g, decide (m ≤ 2 ^ 38)] }
  | _ => none
def gmE1 (md : Int → Int) (mi : (Nat → Int) → Nat → Int) (tu : (Nat → Int) → Int → Nat → Int) : Gam := ext (ext (ext g0 76 (specV (fMd md))) 158 (specV (fMirO mi))) 77 (specR [.val, .val] (FtuO tu))
abbrev lvEa : Ex → List Nat := lv3 [0, 1, 2, 3, 4, 12, 13] [12] [10, 11]
abbrev stEa (m : Nat) (sp tn la : Int) (mir : Bool) (n i : Nat) : List AV := [.sl 0 9 0 0 m none, .v (i64 sp), .v (i64 tn), .v (i64 la), .v (.bool mir), .own 1 n, .v (i64 i)]
theorem rndEa (md : Int → Int) (mi : (Nat → Int) → Nat → Int) (tu : (Nat → Int) → Int → Nat → Int) (m : Nat) (f : Nat → Nat → Int) (t : TypeId) (sp tn la : Int) (mir : Bool) (n : Nat) (h : Nat → Nat → Int) (i : Nat) : execC Try.prog (gmE1 md mi tu) 100 noLam (loopAt 0 Try.f134) (mkT 0 71 ((lvEa .normal).zip (stEa m sp tn la mir n i))) (hpTI m f t n h) (leafV 71 lvEa 1)
    = bif decide ((↑i : Int) < (↑m : Int)) then needs [decide ((↑i : Int) < (↑m : Int)), decide ((0 : Nat) + Int.toNat (↑i : Int) < m)] (bif mir then needs [decide ((↑i : Int) < (↑m : Int)), decide ((0 : Nat) + Int.toNat (↑i : Int) < m), decide ((↑i : Int) < (↑m : Int)), decide ((0 : Nat) + Int.toNat (↑i : Int) < m), decide (md (IntKind.wrap IntKind.i64 (tn + IntKind.wrap IntKind.i64 (la * f ((0 : Nat) + Int.toNat (↑i : Int)) (0 : Nat)))) ≤ (1099511627776 : Int)), Nat.ble n n, Nat.ble (n + (1 : Nat)) (549755813888 : Nat)] (Res.out Ex.normal [AV.sl (0 : Nat) (9 : Nat) (0 : Nat) (0 : Nat) m none, AV.v (Value.int IntKind.i64 sp), AV.v (Value.int IntKind.i64 tn), AV.v (Value.int IntKind.i64 la), AV.v (Value.bool mir), AV.own (1 : Nat) (n + (1 : Nat)), AV.v (Value.int IntKind.i64 (IntKind.wrap IntKind.i64 ((↑i : Int) + (1 : Int))))] [AB.row false m (9 : Nat) (row9 f) t, AB.row true (n + (1 : Nat)) (9 : Nat) (fun q ↦ [Value.int IntKind.i64 (bif Nat.blt q n then h q (0 : Nat) else IntKind.wrap IntKind.i64 (sp * f ((0 : Nat) + Int.toNat (↑i : Int)) (0 : Nat))), Value.int IntKind.i64 (bif Nat.blt q n then h q (1 : Nat) else tu (w8 (mi (v8 (f ((0 : Nat) + Int.toNat (↑i : Int)) (1 : Nat)) (f ((0 : Nat) + Int.toNat (↑i : Int)) (2 : Nat)) (f ((0 : Nat) + Int.toNat (↑i : Int)) (3 : Nat)) (f ((0 : Nat) + Int.toNat (↑i : Int)) (4 : Nat)) (f ((0 : Nat) + Int.toNat (↑i : Int)) (5 : Nat)) (f ((0 : Nat) + Int.toNat (↑i : Int)) (6 : Nat)) (f ((0 : Nat) + Int.toNat (↑i : Int)) (7 : Nat)) (f ((0 : Nat) + Int.toNat (↑i : Int)) (8 : Nat))))) (md (IntKind.wrap IntKind.i64 (tn + IntKind.wrap IntKind.i64 (la * f ((0 : Nat) + Int.toNat (↑i : Int)) (0 : Nat))))) (0 : Nat)), Value.int IntKind.i64 (bif Nat.blt q n then h q (2 : Nat) else tu (w8 (mi (v8 (f ((0 : Nat) + Int.toNat (↑i : Int)) (1 : Nat)) (f ((0 : Nat) + Int.toNat (↑i : Int)) (2 : Nat)) (f ((0 : Nat) + Int.toNat (↑i : Int)) (3 : Nat)) (f ((0 : Nat) + Int.toNat (↑i : Int)) (4 : Nat)) (f ((0 : Nat) + Int.toNat (↑i : Int)) (5 : Nat)) (f ((0 : Nat) + Int.toNat (↑i : Int)) (6 : Nat)) (f ((0 : Nat) + Int.toNat (↑i : Int)) (7 : Nat)) (f ((0 : Nat) + Int.toNat (↑i : Int)) (8 : Nat))))) (md (IntKind.wrap IntKind.i64 (tn + IntKind.wrap IntKind.i64 (la * f ((0 : Nat) + Int.toNat (↑i : Int)) (0 : Nat))))) (1 : Nat)), Value.int IntKind.i64 (bif Nat.blt q n then h q (3 : Nat) else tu (w8 (mi (v8 (f ((0 : Nat) + Int.toNat (↑i : Int)) (1 : Nat)) (f ((0 : Nat) + Int.toNat (↑i : Int)) (2 : Nat)) (f ((0 : Nat) + Int.toNat (↑i : Int)) (3 : Nat)) (f ((0 : Nat) + Int.toNat (↑i : Int)) (4 : Nat)) (f ((0 : Nat) + Int.toNat (↑i : Int)) (5 : Nat)) (f ((0 : Nat) + Int.toNat (↑i : Int)) (6 : Nat)) (f ((0 : Nat) + Int.toNat (↑i : Int)) (7 : Nat)) (f ((0 : Nat) + Int.toNat (↑i : Int)) (8 : Nat))))) (md (IntKind.wrap IntKind.i64 (tn + IntKind.wrap IntKind.i64 (la * f ((0 : Nat) + Int.toNat (↑i : Int)) (0 : Nat))))) (2 : Nat)), Value.int IntKind.i64 (bif Nat.blt q n then h q (4 : Nat) else tu (w8 (mi (v8 (f ((0 : Nat) + Int.toNat (↑i : Int)) (1 : Nat)) (f ((0 : Nat) + Int.toNat (↑i : Int)) (2 : Nat)) (f ((0 : Nat) + Int.toNat (↑i : Int)) (3 : Nat)) (f ((0 : Nat) + Int.toNat (↑i : Int)) (4 : Nat)) (f ((0 : Nat) + Int.toNat (↑i : Int)) (5 : Nat)) (f ((0 : Nat) + Int.toNat (↑i : Int)) (6 : Nat)) (f ((0 : Nat) + Int.toNat (↑i : Int)) (7 : Nat)) (f ((0 : Nat) + Int.toNat (↑i : Int)) (8 : Nat))))) (md (IntKind.wrap IntKind.i64 (tn + IntKind.wrap IntKind.i64 (la * f ((0 : Nat) + Int.toNat (↑i : Int)) (0 : Nat))))) (3 : Nat)), Value.int IntKind.i64 (bif Nat.blt q n then h q (5 : Nat) else tu (w8 (mi (v8 (f ((0 : Nat) + Int.toNat (↑i : Int)) (1 : Nat)) (f ((0 : Nat) + Int.toNat (↑i : Int)) (2 : Nat)) (f ((0 : Nat) + Int.toNat (↑i : Int)) (3 : Nat)) (f ((0 : Nat) + Int.toNat (↑i : Int)) (4 : Nat)) (f ((0 : Nat) + Int.toNat (↑i : Int)) (5 : Nat)) (f ((0 : Nat) + Int.toNat (↑i : Int)) (6 : Nat)) (f ((0 : Nat) + Int.toNat (↑i : Int)) (7 : Nat)) (f ((0 : Nat) + Int.toNat (↑i : Int)) (8 : Nat))))) (md (IntKind.wrap IntKind.i64 (tn + IntKind.wrap IntKind.i64 (la * f ((0 : Nat) + Int.toNat (↑i : Int)) (0 : Nat))))) (4 : Nat)), Value.int IntKind.i64 (bif Nat.blt q n then h q (6 : Nat) else tu (w8 (mi (v8 (f ((0 : Nat) + Int.toNat (↑i : Int)) (1 : Nat)) (f ((0 : Nat) + Int.toNat (↑i : Int)) (2 : Nat)) (f ((0 : Nat) + Int.toNat (↑i : Int)) (3 : Nat)) (f ((0 : Nat) + Int.toNat (↑i : Int)) (4 : Nat)) (f ((0 : Nat) + Int.toNat (↑i : Int)) (5 : Nat)) (f ((0 : Nat) + Int.toNat (↑i : Int)) (6 : Nat)) (f ((0 : Nat) + Int.toNat (↑i : Int)) (7 : Nat)) (f ((0 : Nat) + Int.toNat (↑i : Int)) (8 : Nat))))) (md (IntKind.wrap IntKind.i64 (tn + IntKind.wrap IntKind.i64 (la * f ((0 : Nat) + Int.toNat (↑i : Int)) (0 : Nat))))) (5 : Nat)), Value.int IntKind.i64 (bif Nat.blt q n then h q (7 : Nat) else tu (w8 (mi (v8 (f ((0 : Nat) + Int.toNat (↑i : Int)) (1 : Nat)) (f ((0 : Nat) + Int.toNat (↑i : Int)) (2 : Nat)) (f ((0 : Nat) + Int.toNat (↑i : Int)) (3 : Nat)) (f ((0 : Nat) + Int.toNat (↑i : Int)) (4 : Nat)) (f ((0 : Nat) + Int.toNat (↑i : Int)) (5 : Nat)) (f ((0 : Nat) + Int.toNat (↑i : Int)) (6 : Nat)) (f ((0 : Nat) + Int.toNat (↑i : Int)) (7 : Nat)) (f ((0 : Nat) + Int.toNat (↑i : Int)) (8 : Nat))))) (md (IntKind.wrap IntKind.i64 (tn + IntKind.wrap IntKind.i64 (la * f ((0 : Nat) + Int.toNat (↑i : Int)) (0 : Nat))))) (6 : Nat)), Value.int IntKind.i64 (bif Nat.blt q n then h q (8 : Nat) else tu (w8 (mi (v8 (f ((0 : Nat) + Int.toNat (↑i : Int)) (1 : Nat)) (f ((0 : Nat) + Int.toNat (↑i : Int)) (2 : Nat)) (f ((0 : Nat) + Int.toNat (↑i : Int)) (3 : Nat)) (f ((0 : Nat) + Int.toNat (↑i : Int)) (4 : Nat)) (f ((0 : Nat) + Int.toNat (↑i : Int)) (5 : Nat)) (f ((0 : Nat) + Int.toNat (↑i : Int)) (6 : Nat)) (f ((0 : Nat) + Int.toNat (↑i : Int)) (7 : Nat)) (f ((0 : Nat) + Int.toNat (↑i : Int)) (8 : Nat))))) (md (IntKind.wrap IntKind.i64 (tn + IntKind.wrap IntKind.i64 (la * f ((0 : Nat) + Int.toNat (↑i : Int)) (0 : Nat))))) (7 : Nat))]) (46 : Nat)]) else needs [decide ((↑i : Int) < (↑m : Int)), decide ((0 : Nat) + Int.toNat (↑i : Int) < m), decide ((↑i : Int) < (↑m : Int)), decide ((0 : Nat) + Int.toNat (↑i : Int) < m), decide (md (IntKind.wrap IntKind.i64 (tn + IntKind.wrap IntKind.i64 (la * f ((0 : Nat) + Int.toNat (↑i : Int)) (0 : Nat)))) ≤ (1099511627776 : Int)), Nat.ble n n, Nat.ble (n + (1 : Nat)) (549755813888 : Nat)] (Res.out Ex.normal [AV.sl (0 : Nat) (9 : Nat) (0 : Nat) (0 : Nat) m none, AV.v (Value.int IntKind.i64 sp), AV.v (Value.int IntKind.i64 tn), AV.v (Value.int IntKind.i64 la), AV.v (Value.bool mir), AV.own (1 : Nat) (n + (1 : Nat)), AV.v (Value.int IntKind.i64 (IntKind.wrap IntKind.i64 ((↑i : Int) + (1 : Int))))] [AB.row false m (9 : Nat) (row9 f) t, AB.row true (n + (1 : Nat)) (9 : Nat) (fun q ↦ [Value.int IntKind.i64 (bif Nat.blt q n then h q (0 : Nat) else IntKind.wrap IntKind.i64 (sp * f ((0 : Nat) + Int.toNat (↑i : Int)) (0 : Nat))), Value.int IntKind.i64 (bif Nat.blt q n then h q (1 : Nat) else tu (v8 (f ((0 : Nat) + Int.toNat (↑i : Int)) (1 : Nat)) (f ((0 : Nat) + Int.toNat (↑i : Int)) (2 : Nat)) (f ((0 : Nat) + Int.toNat (↑i : Int)) (3 : Nat)) (f ((0 : Nat) + Int.toNat (↑i : Int)) (4 : Nat)) (f ((0 : Nat) + Int.toNat (↑i : Int)) (5 : Nat)) (f ((0 : Nat) + Int.toNat (↑i : Int)) (6 : Nat)) (f ((0 : Nat) + Int.toNat (↑i : Int)) (7 : Nat)) (f ((0 : Nat) + Int.toNat (↑i : Int)) (8 : Nat))) (md (IntKind.wrap IntKind.i64 (tn + IntKind.wrap IntKind.i64 (la * f ((0 : Nat) + Int.toNat (↑i : Int)) (0 : Nat))))) (0 : Nat)), Value.int IntKind.i64 (bif Nat.blt q n then h q (2 : Nat) else tu (v8 (f ((0 : Nat) + Int.toNat (↑i : Int)) (1 : Nat)) (f ((0 : Nat) + Int.toNat (↑i : Int)) (2 : Nat)) (f ((0 : Nat) + Int.toNat (↑i : Int)) (3 : Nat)) (f ((0 : Nat) + Int.toNat (↑i : Int)) (4 : Nat)) (f ((0 : Nat) + Int.toNat (↑i : Int)) (5 : Nat)) (f ((0 : Nat) + Int.toNat (↑i : Int)) (6 : Nat)) (f ((0 : Nat) + Int.toNat (↑i : Int)) (7 : Nat)) (f ((0 : Nat) + Int.toNat (↑i : Int)) (8 : Nat))) (md (IntKind.wrap IntKind.i64 (tn + IntKind.wrap IntKind.i64 (la * f ((0 : Nat) + Int.toNat (↑i : Int)) (0 : Nat))))) (1 : Nat)), Value.int IntKind.i64 (bif Nat.blt q n then h q (3 : Nat) else tu (v8 (f ((0 : Nat) + Int.toNat (↑i : Int)) (1 : Nat)) (f ((0 : Nat) + Int.toNat (↑i : Int)) (2 : Nat)) (f ((0 : Nat) + Int.toNat (↑i : Int)) (3 : Nat)) (f ((0 : Nat) + Int.toNat (↑i : Int)) (4 : Nat)) (f ((0 : Nat) + Int.toNat (↑i : Int)) (5 : Nat)) (f ((0 : Nat) + Int.toNat (↑i : Int)) (6 : Nat)) (f ((0 : Nat) + Int.toNat (↑i : Int)) (7 : Nat)) (f ((0 : Nat) + Int.toNat (↑i : Int)) (8 : Nat))) (md (IntKind.wrap IntKind.i64 (tn + IntKind.wrap IntKind.i64 (la * f ((0 : Nat) + Int.toNat (↑i : Int)) (0 : Nat))))) (2 : Nat)), Value.int IntKind.i64 (bif Nat.blt q n then h q (4 : Nat) else tu (v8 (f ((0 : Nat) + Int.toNat (↑i : Int)) (1 : Nat)) (f ((0 : Nat) + Int.toNat (↑i : Int)) (2 : Nat)) (f ((0 : Nat) + Int.toNat (↑i : Int)) (3 : Nat)) (f ((0 : Nat) + Int.toNat (↑i : Int)) (4 : Nat)) (f ((0 : Nat) + Int.toNat (↑i : Int)) (5 : Nat)) (f ((0 : Nat) + Int.toNat (↑i : Int)) (6 : Nat)) (f ((0 : Nat) + Int.toNat (↑i : Int)) (7 : Nat)) (f ((0 : Nat) + Int.toNat (↑i : Int)) (8 : Nat))) (md (IntKind.wrap IntKind.i64 (tn + IntKind.wrap IntKind.i64 (la * f ((0 : Nat) + Int.toNat (↑i : Int)) (0 : Nat))))) (3 : Nat)), Value.int IntKind.i64 (bif Nat.blt q n then h q (5 : Nat) else tu (v8 (f ((0 : Nat) + Int.toNat (↑i : Int)) (1 : Nat)) (f ((0 : Nat) + Int.toNat (↑i : Int)) (2 : Nat)) (f ((0 : Nat) + Int.toNat (↑i : Int)) (3 : Nat)) (f ((0 : Nat) + Int.toNat (↑i : Int)) (4 : Nat)) (f ((0 : Nat) + Int.toNat (↑i : Int)) (5 : Nat)) (f ((0 : Nat) + Int.toNat (↑i : Int)) (6 : Nat)) (f ((0 : Nat) + Int.toNat (↑i : Int)) (7 : Nat)) (f ((0 : Nat) + Int.toNat (↑i : Int)) (8 : Nat))) (md (IntKind.wrap IntKind.i64 (tn + IntKind.wrap IntKind.i64 (la * f ((0 : Nat) + Int.toNat (↑i : Int)) (0 : Nat))))) (4 : Nat)), Value.int IntKind.i64 (bif Nat.blt q n then h q (6 : Nat) else tu (v8 (f ((0 : Nat) + Int.toNat (↑i : Int)) (1 : Nat)) (f ((0 : Nat) + Int.toNat (↑i : Int)) (2 : Nat)) (f ((0 : Nat) + Int.toNat (↑i : Int)) (3 : Nat)) (f ((0 : Nat) + Int.toNat (↑i : Int)) (4 : Nat)) (f ((0 : Nat) + Int.toNat (↑i : Int)) (5 : Nat)) (f ((0 : Nat) + Int.toNat (↑i : Int)) (6 : Nat)) (f ((0 : Nat) + Int.toNat (↑i : Int)) (7 : Nat)) (f ((0 : Nat) + Int.toNat (↑i : Int)) (8 : Nat))) (md (IntKind.wrap IntKind.i64 (tn + IntKind.wrap IntKind.i64 (la * f ((0 : Nat) + Int.toNat (↑i : Int)) (0 : Nat))))) (5 : Nat)), Value.int IntKind.i64 (bif Nat.blt q n then h q (7 : Nat) else tu (v8 (f ((0 : Nat) + Int.toNat (↑i : Int)) (1 : Nat)) (f ((0 : Nat) + Int.toNat (↑i : Int)) (2 : Nat)) (f ((0 : Nat) + Int.toNat (↑i : Int)) (3 : Nat)) (f ((0 : Nat) + Int.toNat (↑i : Int)) (4 : Nat)) (f ((0 : Nat) + Int.toNat (↑i : Int)) (5 : Nat)) (f ((0 : Nat) + Int.toNat (↑i : Int)) (6 : Nat)) (f ((0 : Nat) + Int.toNat (↑i : Int)) (7 : Nat)) (f ((0 : Nat) + Int.toNat (↑i : Int)) (8 : Nat))) (md (IntKind.wrap IntKind.i64 (tn + IntKind.wrap IntKind.i64 (la * f ((0 : Nat) + Int.toNat (↑i : Int)) (0 : Nat))))) (6 : Nat)), Value.int IntKind.i64 (bif Nat.blt q n then h q (8 : Nat) else tu (v8 (f ((0 : Nat) + Int.toNat (↑i : Int)) (1 : Nat)) (f ((0 : Nat) + Int.toNat (↑i : Int)) (2 : Nat)) (f ((0 : Nat) + Int.toNat (↑i : Int)) (3 : Nat)) (f ((0 : Nat) + Int.toNat (↑i : Int)) (4 : Nat)) (f ((0 : Nat) + Int.toNat (↑i : Int)) (5 : Nat)) (f ((0 : Nat) + Int.toNat (↑i : Int)) (6 : Nat)) (f ((0 : Nat) + Int.toNat (↑i : Int)) (7 : Nat)) (f ((0 : Nat) + Int.toNat (↑i : Int)) (8 : Nat))) (md (IntKind.wrap IntKind.i64 (tn + IntKind.wrap IntKind.i64 (la * f ((0 : Nat) + Int.toNat (↑i : Int)) (0 : Nat))))) (7 : Nat))]) (46 : Nat)])) else Res.out (Ex.exit (0 : Nat)) [AV.own (1 : Nat) n] [AB.row false m (9 : Nat) (row9 f) t, AB.row true n (9 : Nat) (row9 h) (46 : TypeId)] := by kernel_rfl

noncomputable abbrev lamEa (m : Nat) (f : Nat → Nat → Int) (t : TypeId) (sp tn la : Int) (mir : Bool) (n : Nat) (h : Nat → Nat → Int) : Nat → Option Sum := oneL 0 (atS 71 (lvEa .normal) 1 (stEa m sp tn la mir 0 0) (hpTI m f t 0 (wfun [])) (fun K => K .normal (mkT 0 71 [(12, .own 1 n)]) (hpTI m f t n h)))
def gmE2 (okd : List Wh → Bool) (is : Int → Bool) (ti : List Wh → List Wh) (okt : List Wh → Bool) : Gam := ext (ext (ext g0 61 (specR md_ws (FdvO okd))) 130 (specV (fIsO is))) 62 (specR md_ws (FtidyO ti okt))
theorem treeEa (okd : List Wh → Bool) (is : Int → Bool) (ti : List Wh → List Wh) (okt : List Wh → Bool) (m : Nat) (f : Nat → Nat → Int) (t : TypeId) (sp tn la : Int) (mir : Bool) (n : Nat) (h : Nat → Nat → Int) : execF Try.prog (gmE2 okd is ti okt) (lamEa m f t sp tn la mir n h) 100 Try.f134 [.sl 0 9 0 0 m none, .v (i64 sp), .v (i64 tn), .v (i64 la), .v (.bool mir)] [.row false m 9 (row9 f) t] (packK 1)
    = needs [Nat.ble ((0 : Nat) + m) m, allW m fun q ↦ row9 f ((0 : Nat) + q), decide (m ≤ (549755813888 : Nat))] (bif !okd (listW (itW fun q ↦ row9 f ((0 : Nat) + q)) m) then Res.out Ex.ret [AV.tup [AV.own (1 : Nat) (0 : Nat), AV.v (Value.bool false)]] [AB.row false m (9 : Nat) (row9 f) t, AB.row true (0 : Nat) (9 : Nat) (fun _ ↦ []) (46 : Nat)] else bif !is tn then Res.out Ex.ret [AV.tup [AV.own (1 : Nat) (0 : Nat), AV.v (Value.bool false)]] [AB.row false m (9 : Nat) (row9 f) t, AB.row true (0 : Nat) (9 : Nat) (fun _ ↦ []) (46 : Nat)] else bif !is la then Res.out Ex.ret [AV.tup [AV.own (1 : Nat) (0 : Nat), AV.v (Value.bool false)]] [AB.row false m (9 : Nat) (row9 f) t, AB.row true (0 : Nat) (9 : Nat) (fun _ ↦ []) (46 : Nat)] else needs [chk ([AV.sl (0 : Nat) (9 : Nat) (0 : Nat) (0 : Nat) m none, AV.v (Value.int IntKind.i64 sp), AV.v (Value.int IntKind.i64 tn), AV.v (Value.int IntKind.i64 la), AV.v (Value.bool mir), AV.own (1 : Nat) (0 : Nat), AV.v (Value.int IntKind.i64 (0 : Int))] = stEa m sp tn la mir (0 : Nat) (0 : Nat) ∧ Hsim [AB.row false m (9 : Nat) (row9 f) t, AB.row true (0 : Nat) (9 : Nat) (fun _ ↦ []) (46 : Nat)] (hpTI m f t (0 : Nat) (wfun []))), Nat.ble n n, allW n (row9 h), decide (n ≤ (274877906944 : Nat))] (Res.out Ex.ret [AV.tup [AV.own (1 : Nat) (List.length (ti (listW (itW (row9 h)) n))), AV.v (Value.bool (okt (listW (itW (row9 h)) n)))]] [AB.row false m (9 : Nat) (row9 f) t, AB.row true (List.length (ti (listW (itW (row9 h)) n))) (9 : Nat) (row9 (wfun (ti (listW (itW (row9 h)) n)))) (46 : TypeId)])) := by kernel_rfl

theorem fIsO_eq : fIsO (fun n => inR n 0 23) = f_l1Is := by
  funext l
  rfl
theorem FtidyO_eq : FtidyO tidyL okT = F_tidy := by
  funext l
  rfl
theorem gmE1_ok : GamOk Try.prog (gmE1 (fun n => n % 24) mirF (fun a n => turnedF a n.toNat)) := by
  have e : fMirO mirF = f_l2Mirror := by funext l; rfl
  unfold gmE1
  rw [fMd_eq, FtuO_eq, e]
  exact ext_ok (ext_ok (ext_ok g0_ok ok_l1Mod) ok_l2Mirror) ok_turnedS
theorem gmE2_ok : GamOk Try.prog (gmE2 okD (fun n => inR n 0 23) tidyL okT) := by
  unfold gmE2
  rw [fIsO_eq, FtidyO_eq, FdvO_eq]
  exact ext_ok (ext_ok (ext_ok g0_ok ok_dv) ok_l1Is) ok_tidyS
/-- One wheel, changed by the reference. -/
def chE (sp tn la : Int) (mir : Bool) (w : Wh) : Wh := ⟨IntKind.wrap IntKind.i64 (sp * w.s), cyOf (turnedF (bif mir then w8 (mirF w.r.f) else w.r.f) ((IntKind.wrap IntKind.i64 (tn + IntKind.wrap IntKind.i64 (la * w.s))) % 24).toNat)⟩
theorem sumEa (m : Nat) (f : Nat → Nat → Int) (t : TypeId) (sp tn la : Int) (mir : Bool) (hm : m ≤ 2 ^ 38) :
    SumOk Try.prog 1 (.block 0 (.loop (loopAt 0 Try.f134))) (atS 71 (lvEa .normal) 1 (stEa m sp tn la mir 0 0) (hpTI m f t 0 (wfun [])) (fun K => K .normal (mkT 0 71 [(12, .own 1 m)]) (hpTI m f t m (wfun ((listW f m).map (chE sp tn la mir)))))) := by
  refine for_at gmE1_ok (n := 100) (m := 1) (lv := lvEa) (fun i => stEa m sp tn la mir i i) (fun i => hpTI m f t i (wfun ((listW f i).map (chE sp tn la mir)))) (fun _ => True) m (fun _ => noLam) (lv3_ris rfl rfl rfl) (Nat.le_refl _) trivial fun K Q hk i hi him => ⟨noLam_ok _ _ _, ?_⟩
  rw [rndEa]
  refine good_cond (fun c1 => ?_) fun c1 => ?_
  · have c1 := of_decide_eq_true c1
    have c1' : i < m := by omega
    rw [Int.toNat_natCast, Nat.zero_add, wr_in (x := (i : Int) + 1) (by omega)]
    refine good_needs (by simp only [ob_cons, ob_nil, and_true, decide_eq_true_eq]; omega) ?_
    cases mir with
    | true =>
      refine good_needs (by simp only [ob_cons, ob_nil, and_true, decide_eq_true_eq, Nat.ble_eq]; omega) (good_out ⟨i + 1, ⟨rfl, c1', trivial⟩, rfl, ?_⟩)
      show Hsim _ (hpTI m f t (i + 1) (wfun ((listW f (i + 1)).map (chE sp tn la true))))
      rw [listW_succ, List.map_append]
      refine .cons (ABeq.refl _) (.cons (ABeq.row fun q hq => ?_) .nil)
      exact ch_row _ (chE sp tn la true (whOf (f i))) i (by rw [List.length_map, listW_length]) q hq
    | false =>
      refine good_needs (by simp only [ob_cons, ob_nil, and_true, decide_eq_true_eq, Nat.ble_eq]; omega) (good_out ⟨i + 1, ⟨rfl, c1', trivial⟩, rfl, ?_⟩)
      show Hsim _ (hpTI m f t (i + 1) (wfun ((listW f (i + 1)).map (chE sp tn la false))))
      rw [listW_succ, List.map_append]
      refine .cons (ABeq.refl _) (.cons (ABeq.row fun q hq => ?_) .nil)
      exact ch_row _ (chE sp tn la false (whOf (f i))) i (by rw [List.length_map, listW_length]) q hq
  · have c1 := of_decide_eq_false c1
    have : i = m := by omega
    subst this
    refine good_out ⟨_, Hsim.refl _, ?_⟩
    rw [if_pos rfl]
    exact hk

def eachP (tn la : Int) (L : List Wh) : Bool := okD L && (inR tn 0 23 && inR la 0 23)
def eachOk (sp tn la : Int) (mir : Bool) (L : List Wh) : Bool := eachP tn la L && okT (L.map (chE sp tn la mir))
def eachL (sp tn la : Int) (mir : Bool) (L : List Wh) : List Wh := bif eachP tn la L then tidyL (L.map (chE sp tn la mir)) else []
def FeaO (ok : Int → Int → Int → Bool → List Wh → Bool) (el : Int → Int → Int → Bool → List Wh → List Wh) : List SA → Option FR
  | [.row m g, .v (.int .i64 sp), .v (.int .i64 tn), .v (.int .i64 la), .v (.bool mir)] => some { val := .tup [.own 0 (el sp tn la mir (listW (itW g) m)).length, .v (.bool (ok sp tn la mir (listW (itW g) m)))], new := [.row true (el sp tn la mir (listW (itW g) m)).length 9 (row9 (wfun (el sp tn la mir (listW (itW g) m)))) 46], obl := [allW m g, decide (m ≤ 2 ^ 38)] }
  | _ => none
def md_ea : List Md := [.rd 9 46, .val, .val, .val, .val]
theorem ok_each : SpecOk Try.prog 134 (specR md_ea (FeaO eachOk eachL)) := by
  refine specR_hr gmE2_ok Try.func134 rfl fun sas fr hF ho => ?_
  unfold FeaO at hF
  split at hF
  · rename_i m g sp tn la mir
    cases hF
    simp only [ob_cons] at ho
    obtain ⟨h1, h2, _⟩ := ho
    have hm := of_decide_eq_true h2
    refine ⟨[.row false m 9 (row9 (itW g)) 46], lamEa m (itW g) 46 sp tn la mir m (wfun ((listW (itW g) m).map (chE sp tn la mir))), 100, .cons (ABeq.row fun j hj => allW_get h1 j hj) .nil, lam1 (by kernel_rfl) (sumEa m (itW g) 46 sp tn la mir hm), ?_⟩
    show GoodQ (execF Try.prog (gmE2 okD (fun n => inR n 0 23) tidyL okT) (lamEa m (itW g) 46 sp tn la mir m (wfun ((listW (itW g) m).map (chE sp tn la mir)))) 100 Try.f134 [.sl 0 9 0 0 m none, .v (i64 sp), .v (i64 tn), .v (i64 la), .v (.bool mir)] [.row false m 9 (row9 (itW g)) 46] (packK 1)) _
    rw [treeEa, row0, listW_itW, listW_self ((listW (itW g) m).map (chE sp tn la mir)) m (by rw [List.length_map, listW_length])]
    have fin : ∀ (D : List Wh) (b : Bool) (G : Nat → List Value), eachOk sp tn la mir (listW (itW g) m) = b → eachL sp tn la mir (listW (itW g) m) = D → (∀ j, j < D.length → G j = row9 (wfun D) j) → GoodQ (.out .ret [.tup [.own 1 D.length, .v (.bool b)]] [.row false m 9 (row9 (itW g)) 46, .row true D.length 9 G 46])
        (GivR (abP md_ea [.row m g, .v (.int .i64 sp), .v (.int .i64 tn), .v (.int .i64 la), .v (.bool mir)] []) { val := .tup [.own 0 (eachL sp tn la mir (listW (itW g) m)).length, .v (.bool (eachOk sp tn la mir (listW (itW g) m)))], new := [.row true (eachL sp tn la mir (listW (itW g) m)).length 9 (row9 (wfun (eachL sp tn la mir (listW (itW g) m)))) 46], obl := [allW m g, decide (m ≤ 2 ^ 38)] }) := by
      rintro D b G rfl rfl hG
      exact good_out ⟨_, rfl, rfl, .cons (ABeq.row fun j hj => (allW_get h1 j hj).symm) (.cons (ABeq.row hG) .nil)⟩
    have bad : eachP tn la (listW (itW g) m) = false → GoodQ (.out .ret [.tup [.own 1 0, .v (.bool false)]] [.row false m 9 (row9 (itW g)) 46, .row true 0 9 (fun _ => []) 46]) _ := fun e =>
      fin [] false _ (by rw [eachOk, e]; rfl) (by rw [eachL, e]; rfl) fun j hj => absurd hj (Nat.not_lt_zero _)
    refine good_needs (by simp only [ob_cons, ob_nil, and_true, decide_eq_true_eq, Nat.ble_eq, allW_row, true_and]; omega) ?_
    cases q1 : okD (listW (itW g) m) with
    | false => exact good_true rfl (bad (by rw [eachP, q1]; rfl))
    | true =>
      refine good_false rfl ?_
      cases q2 : inR tn 0 23 with
      | false => exact good_true rfl (bad (by rw [eachP, q1, q2]; rfl))
      | true =>
        refine good_false rfl ?_
        cases q3 : inR la 0 23 with
        | false => exact good_true rfl (bad (by rw [eachP, q1, q2, q3]; rfl))
        | true =>
          refine good_false rfl (good_needs ?_ (fin _ _ _ (by rw [eachOk, eachP, q1, q2, q3]; rfl) (by rw [eachL, eachP, q1, q2, q3]; rfl) fun j hj => rfl))
          simp only [ob_cons, ob_nil, and_true, allW_row]
          exact ⟨chk_of ⟨rfl, .cons (ABeq.refl _) (.cons (ABeq.row fun j hj => absurd hj (Nat.not_lt_zero _)) .nil)⟩, by simp, trivial, decide_eq_true hm⟩
  · cases hF
/-- Two lists of one length. -/
abbrev hpQW (m : Nat) (f h : Nat → Nat → Int) : List AB := [.row false m 9 (row9 f) 46, .row false m 9 (row9 h) 46]

end Go.Proofs.Ytmdcafhnjihckaa

/- Helpers on what l5Each and the changes come to. No conditions. -/
namespace Go.Proofs.Ytmdcafhnjihckaa
open Go.RowKit
set_option maxRecDepth 100000

def md_eqWS : List Md := [.rd 9 46, .rd 9 46]
theorem ble_me (n : Nat) : Nat.ble n n = true := by simp
theorem needs_nil (r : Res) : needs [] r = r := rfl
theorem needs_t (l : List Bool) (r : Res) : needs (true :: l) r = needs l r := rfl
theorem le_b {m n : Nat} (h : m ≤ n) : decide (m ≤ n) = true := decide_eq_true h
theorem itW_row (f : Nat → Nat → Int) (j : Nat) : ∀ k, k < 9 → itW (row9 f) j k = f j k := by
  intro k hk
  rcases (by omega : k = 0 ∨ k = 1 ∨ k = 2 ∨ k = 3 ∨ k = 4 ∨ k = 5 ∨ k = 6 ∨ k = 7 ∨ k = 8) with rfl | rfl | rfl | rfl | rfl | rfl | rfl | rfl | rfl <;> rfl
theorem map_same {c d : Wh → Wh} {L : List Wh} (h : ∀ w ∈ L, c w = d w) : L.map c = L.map d := List.map_congr_left h
theorem tidyL_no {L : List Wh} (h : okT L = false) : tidyL L = [] := by
  unfold okT at h
  unfold tidyL
  cases e : tidyS L with
  | none => rfl
  | some T => rw [e] at h; cases h
theorem tidyL_len {L : List Wh} (h : okT L = true) : (tidyL L).length ≤ 12 := by
  unfold okT at h
  unfold tidyL
  cases e : tidyS L with
  | none => rw [e] at h; cases h
  | some T =>
    unfold tidyS at e
    split at e
    · split at e
      · rename_i hv
        cases e
        rw [dValid, Bool.and_eq_true] at hv
        exact of_decide_eq_true hv.1
      · cases e
    · cases e
/-- Where the lists agree, so do the tidy ones. -/
theorem each_yes {sp tn la : Int} {mir : Bool} {L M : List Wh} (hp : eachP tn la L = true) (hM : L.map (chE sp tn la mir) = M) (ht : okT M = true) : eachL sp tn la mir L = tidyL M ∧ eachOk sp tn la mir L = true := by
  subst hM
  refine ⟨?_, ?_⟩
  · rw [eachL, hp]; rfl
  · rw [eachOk, hp, ht]; rfl
theorem each_no {sp tn la : Int} {mir : Bool} {L : List Wh} (h : eachP tn la L = true → okT (L.map (chE sp tn la mir)) = false) : eachL sp tn la mir L = [] ∧ eachOk sp tn la mir L = false := by
  cases hp : eachP tn la L with
  | false => exact ⟨by rw [eachL, hp]; rfl, by rw [eachOk, hp]; rfl⟩
  | true => exact ⟨by rw [eachL, hp]; exact tidyL_no (h hp), by rw [eachOk, hp, h hp]; rfl⟩
theorem wr_w (x : Int) : IntKind.wrap IntKind.i64 (IntKind.wrap IntKind.i64 x) = IntKind.wrap IntKind.i64 x := w64_w64 x
theorem chMi_same (w : Wh) : chMi w = chE (-1) 0 0 true w := by
  have e1 : (-1 : Int) * w.s = 0 - w.s := by omega
  have e2 : (IntKind.wrap IntKind.i64 ((0 : Int) + IntKind.wrap IntKind.i64 (0 * w.s)) % 24).toNat = 0 := by rw [Int.zero_mul]; rfl
  rw [chMi, chE, e1, e2]
  rfl

theorem chTu_same {x : Int} (hx : inR x 0 23 = true) {w : Wh} (h1 : -1000 ≤ w.s ∧ w.s ≤ 1000) : chTu x w = chE 1 x 0 false w := by
  have hx := inR_iff.1 hx
  have e1 : IntKind.wrap IntKind.i64 (1 * w.s) = w.s := by rw [Int.one_mul, wr_in (by omega)]
  have e2 : IntKind.wrap IntKind.i64 (x + IntKind.wrap IntKind.i64 (0 * w.s)) = x := by
    rw [Int.zero_mul, wr_in (x := 0) (by omega), Int.add_zero, wr_in (by omega)]
  rw [chTu, chE, e1, e2]
  rfl
theorem chLa_same {x : Int} (hx : inR x 0 23 = true) {w : Wh} (h1 : -1000 ≤ w.s ∧ w.s ≤ 1000) : chLa x w = chE 1 0 x false w := by
  have hx := inR_iff.1 hx
  have e1 : IntKind.wrap IntKind.i64 (1 * w.s) = w.s := by rw [Int.one_mul, wr_in (by omega)]
  have e2 : IntKind.wrap IntKind.i64 (0 + IntKind.wrap IntKind.i64 (x * w.s)) = IntKind.wrap IntKind.i64 (x * w.s) := by
    rw [Int.zero_add, wr_w]
  rw [chLa, chE, e1, e2]
  rfl

end Go.Proofs.Ytmdcafhnjihckaa

/- Plain algebra: how great products, mirrored points and parts can be. No program, no conditions. -/
namespace Go.Proofs.Ytmdcafhnjihckaa
open Go.RowKit

theorem mul_bd {x y A B : Int} (h1 : -A ≤ x) (h2 : x ≤ A) (h3 : -B ≤ y) (h4 : y ≤ B) : -(A * B) ≤ x * y ∧ x * y ≤ A * B := by
  have hA : 0 ≤ A := by omega
  have hB : 0 ≤ B := by omega
  have e1 : 0 ≤ (A - x) * (B - y) := Int.mul_nonneg (by omega) (by omega)
  have e2 : 0 ≤ (A + x) * (B + y) := Int.mul_nonneg (by omega) (by omega)
  have e3 : 0 ≤ (A - x) * (B + y) := Int.mul_nonneg (by omega) (by omega)
  have e4 : 0 ≤ (A + x) * (B - y) := Int.mul_nonneg (by omega) (by omega)
  have g1 : (A - x) * (B - y) = A * B - A * y - x * B + x * y := by grind
  have g2 : (A + x) * (B + y) = A * B + A * y + x * B + x * y := by grind
  have g3 : (A - x) * (B + y) = A * B + A * y - x * B - x * y := by grind
  have g4 : (A + x) * (B - y) = A * B - A * y + x * B - x * y := by grind
  omega
/-- All eight lie between -B and B. -/
def bd8 (B : Int) (f : Nat → Int) : Prop := ∀ k, k < 8 → -B ≤ f k ∧ f k ≤ B
def bd4 (B : Int) (f : Nat → Int) : Prop := ∀ k, k < 4 → -B ≤ f k ∧ f k ≤ B

theorem conv_bd0 {a b : Nat → Int} {A B : Int} (ha : bd8 A a) (hb : bd8 B b) : -(8 * (A * B)) ≤ convF a b 0 ∧ convF a b 0 ≤ 8 * (A * B) := by
  have h0 : 0 ≤ A * B := by
    have := ha 0 (by omega); have := hb 0 (by omega)
    exact Int.mul_nonneg (by omega) (by omega)
  have p0 := mul_bd (ha 0 (by omega)).1 (ha 0 (by omega)).2 (hb 0 (by omega)).1 (hb 0 (by omega)).2
  simp only [convF]
  omega
theorem conv_bd1 {a b : Nat → Int} {A B : Int} (ha : bd8 A a) (hb : bd8 B b) : -(8 * (A * B)) ≤ convF a b 1 ∧ convF a b 1 ≤ 8 * (A * B) := by
  have h0 : 0 ≤ A * B := by
    have := ha 0 (by omega); have := hb 0 (by omega)
    exact Int.mul_nonneg (by omega) (by omega)
  have p0 := mul_bd (ha 0 (by omega)).1 (ha 0 (by omega)).2 (hb 1 (by omega)).1 (hb 1 (by omega)).2
  have p1 := mul_bd (ha 1 (by omega)).1 (ha 1 (by omega)).2 (hb 0 (by omega)).1 (hb 0 (by omega)).2
  simp only [convF]
  omega
theorem conv_bd2 {a b : Nat → Int} {A B : Int} (ha : bd8 A a) (hb : bd8 B b) : -(8 * (A * B)) ≤ convF a b 2 ∧ convF a b 2 ≤ 8 * (A * B) := by
  have h0 : 0 ≤ A * B := by
    have := ha 0 (by omega); have := hb 0 (by omega)
    exact Int.mul_nonneg (by omega) (by omega)
  have p0 := mul_bd (ha 0 (by omega)).1 (ha 0 (by omega)).2 (hb 2 (by omega)).1 (hb 2 (by omega)).2
  have p1 := mul_bd (ha 1 (by omega)).1 (ha 1 (by omega)).2 (hb 1 (by omega)).1 (hb 1 (by omega)).2
  have p2 := mul_bd (ha 2 (by omega)).1 (ha 2 (by omega)).2 (hb 0 (by omega)).1 (hb 0 (by omega)).2
  simp only [convF]
  omega
theorem conv_bd3 {a b : Nat → Int} {A B : Int} (ha : bd8 A a) (hb : bd8 B b) : -(8 * (A * B)) ≤ convF a b 3 ∧ convF a b 3 ≤ 8 * (A * B) := by
  have h0 : 0 ≤ A * B := by
    have := ha 0 (by omega); have := hb 0 (by omega)
    exact Int.mul_nonneg (by omega) (by omega)
  have p0 := mul_bd (ha 0 (by omega)).1 (ha 0 (by omega)).2 (hb 3 (by omega)).1 (hb 3 (by omega)).2
  have p1 := mul_bd (ha 1 (by omega)).1 (ha 1 (by omega)).2 (hb 2 (by omega)).1 (hb 2 (by omega)).2
  have p2 := mul_bd (ha 2 (by omega)).1 (ha 2 (by omega)).2 (hb 1 (by omega)).1 (hb 1 (by omega)).2
  have p3 := mul_bd (ha 3 (by omega)).1 (ha 3 (by omega)).2 (hb 0 (by omega)).1 (hb 0 (by omega)).2
  simp only [convF]
  omega
theorem conv_bd4 {a b : Nat → Int} {A B : Int} (ha : bd8 A a) (hb : bd8 B b) : -(8 * (A * B)) ≤ convF a b 4 ∧ convF a b 4 ≤ 8 * (A * B) := by
  have h0 : 0 ≤ A * B := by
    have := ha 0 (by omega); have := hb 0 (by omega)
    exact Int.mul_nonneg (by omega) (by omega)
  have p0 := mul_bd (ha 0 (by omega)).1 (ha 0 (by omega)).2 (hb 4 (by omega)).1 (hb 4 (by omega)).2
  have p1 := mul_bd (ha 1 (by omega)).1 (ha 1 (by omega)).2 (hb 3 (by omega)).1 (hb 3 (by omega)).2
  have p2 := mul_bd (ha 2 (by omega)).1 (ha 2 (by omega)).2 (hb 2 (by omega)).1 (hb 2 (by omega)).2
  have p3 := mul_bd (ha 3 (by omega)).1 (ha 3 (by omega)).2 (hb 1 (by omega)).1 (hb 1 (by omega)).2
  have p4 := mul_bd (ha 4 (by omega)).1 (ha 4 (by omega)).2 (hb 0 (by omega)).1 (hb 0 (by omega)).2
  simp only [convF]
  omega
theorem conv_bd5 {a b : Nat → Int} {A B : Int} (ha : bd8 A a) (hb : bd8 B b) : -(8 * (A * B)) ≤ convF a b 5 ∧ convF a b 5 ≤ 8 * (A * B) := by
  have h0 : 0 ≤ A * B := by
    have := ha 0 (by omega); have := hb 0 (by omega)
    exact Int.mul_nonneg (by omega) (by omega)
  have p0 := mul_bd (ha 0 (by omega)).1 (ha 0 (by omega)).2 (hb 5 (by omega)).1 (hb 5 (by omega)).2
  have p1 := mul_bd (ha 1 (by omega)).1 (ha 1 (by omega)).2 (hb 4 (by omega)).1 (hb 4 (by omega)).2
  have p2 := mul_bd (ha 2 (by omega)).1 (ha 2 (by omega)).2 (hb 3 (by omega)).1 (hb 3 (by omega)).2
  have p3 := mul_bd (ha 3 (by omega)).1 (ha 3 (by omega)).2 (hb 2 (by omega)).1 (hb 2 (by omega)).2
  have p4 := mul_bd (ha 4 (by omega)).1 (ha 4 (by omega)).2 (hb 1 (by omega)).1 (hb 1 (by omega)).2
  have p5 := mul_bd (ha 5 (by omega)).1 (ha 5 (by omega)).2 (hb 0 (by omega)).1 (hb 0 (by omega)).2
  simp only [convF]
  omega
theorem conv_bd6 {a b : Nat → Int} {A B : Int} (ha : bd8 A a) (hb : bd8 B b) : -(8 * (A * B)) ≤ convF a b 6 ∧ convF a b 6 ≤ 8 * (A * B) := by
  have h0 : 0 ≤ A * B := by
    have := ha 0 (by omega); have := hb 0 (by omega)
    exact Int.mul_nonneg (by omega) (by omega)
  have p0 := mul_bd (ha 0 (by omega)).1 (ha 0 (by omega)).2 (hb 6 (by omega)).1 (hb 6 (by omega)).2
  have p1 := mul_bd (ha 1 (by omega)).1 (ha 1 (by omega)).2 (hb 5 (by omega)).1 (hb 5 (by omega)).2
  have p2 := mul_bd (ha 2 (by omega)).1 (ha 2 (by omega)).2 (hb 4 (by omega)).1 (hb 4 (by omega)).2
  have p3 := mul_bd (ha 3 (by omega)).1 (ha 3 (by omega)).2 (hb 3 (by omega)).1 (hb 3 (by omega)).2
  have p4 := mul_bd (ha 4 (by omega)).1 (ha 4 (by omega)).2 (hb 2 (by omega)).1 (hb 2 (by omega)).2
  have p5 := mul_bd (ha 5 (by omega)).1 (ha 5 (by omega)).2 (hb 1 (by omega)).1 (hb 1 (by omega)).2
  have p6 := mul_bd (ha 6 (by omega)).1 (ha 6 (by omega)).2 (hb 0 (by omega)).1 (hb 0 (by omega)).2
  simp only [convF]
  omega
theorem conv_bd7 {a b : Nat → Int} {A B : Int} (ha : bd8 A a) (hb : bd8 B b) : -(8 * (A * B)) ≤ convF a b 7 ∧ convF a b 7 ≤ 8 * (A * B) := by
  have h0 : 0 ≤ A * B := by
    have := ha 0 (by omega); have := hb 0 (by omega)
    exact Int.mul_nonneg (by omega) (by omega)
  have p0 := mul_bd (ha 0 (by omega)).1 (ha 0 (by omega)).2 (hb 7 (by omega)).1 (hb 7 (by omega)).2
  have p1 := mul_bd (ha 1 (by omega)).1 (ha 1 (by omega)).2 (hb 6 (by omega)).1 (hb 6 (by omega)).2
  have p2 := mul_bd (ha 2 (by omega)).1 (ha 2 (by omega)).2 (hb 5 (by omega)).1 (hb 5 (by omega)).2
  have p3 := mul_bd (ha 3 (by omega)).1 (ha 3 (by omega)).2 (hb 4 (by omega)).1 (hb 4 (by omega)).2
  have p4 := mul_bd (ha 4 (by omega)).1 (ha 4 (by omega)).2 (hb 3 (by omega)).1 (hb 3 (by omega)).2
  have p5 := mul_bd (ha 5 (by omega)).1 (ha 5 (by omega)).2 (hb 2 (by omega)).1 (hb 2 (by omega)).2
  have p6 := mul_bd (ha 6 (by omega)).1 (ha 6 (by omega)).2 (hb 1 (by omega)).1 (hb 1 (by omega)).2
  have p7 := mul_bd (ha 7 (by omega)).1 (ha 7 (by omega)).2 (hb 0 (by omega)).1 (hb 0 (by omega)).2
  simp only [convF]
  omega
theorem conv_bd8 {a b : Nat → Int} {A B : Int} (ha : bd8 A a) (hb : bd8 B b) : -(8 * (A * B)) ≤ convF a b 8 ∧ convF a b 8 ≤ 8 * (A * B) := by
  have h0 : 0 ≤ A * B := by
    have := ha 0 (by omega); have := hb 0 (by omega)
    exact Int.mul_nonneg (by omega) (by omega)
  have p1 := mul_bd (ha 1 (by omega)).1 (ha 1 (by omega)).2 (hb 7 (by omega)).1 (hb 7 (by omega)).2
  have p2 := mul_bd (ha 2 (by omega)).1 (ha 2 (by omega)).2 (hb 6 (by omega)).1 (hb 6 (by omega)).2
  have p3 := mul_bd (ha 3 (by omega)).1 (ha 3 (by omega)).2 (hb 5 (by omega)).1 (hb 5 (by omega)).2
  have p4 := mul_bd (ha 4 (by omega)).1 (ha 4 (by omega)).2 (hb 4 (by omega)).1 (hb 4 (by omega)).2
  have p5 := mul_bd (ha 5 (by omega)).1 (ha 5 (by omega)).2 (hb 3 (by omega)).1 (hb 3 (by omega)).2
  have p6 := mul_bd (ha 6 (by omega)).1 (ha 6 (by omega)).2 (hb 2 (by omega)).1 (hb 2 (by omega)).2
  have p7 := mul_bd (ha 7 (by omega)).1 (ha 7 (by omega)).2 (hb 1 (by omega)).1 (hb 1 (by omega)).2
  simp only [convF]
  omega
theorem conv_bd9 {a b : Nat → Int} {A B : Int} (ha : bd8 A a) (hb : bd8 B b) : -(8 * (A * B)) ≤ convF a b 9 ∧ convF a b 9 ≤ 8 * (A * B) := by
  have h0 : 0 ≤ A * B := by
    have := ha 0 (by omega); have := hb 0 (by omega)
    exact Int.mul_nonneg (by omega) (by omega)
  have p2 := mul_bd (ha 2 (by omega)).1 (ha 2 (by omega)).2 (hb 7 (by omega)).1 (hb 7 (by omega)).2
  have p3 := mul_bd (ha 3 (by omega)).1 (ha 3 (by omega)).2 (hb 6 (by omega)).1 (hb 6 (by omega)).2
  have p4 := mul_bd (ha 4 (by omega)).1 (ha 4 (by omega)).2 (hb 5 (by omega)).1 (hb 5 (by omega)).2
  have p5 := mul_bd (ha 5 (by omega)).1 (ha 5 (by omega)).2 (hb 4 (by omega)).1 (hb 4 (by omega)).2
  have p6 := mul_bd (ha 6 (by omega)).1 (ha 6 (by omega)).2 (hb 3 (by omega)).1 (hb 3 (by omega)).2
  have p7 := mul_bd (ha 7 (by omega)).1 (ha 7 (by omega)).2 (hb 2 (by omega)).1 (hb 2 (by omega)).2
  simp only [convF]
  omega
theorem conv_bd10 {a b : Nat → Int} {A B : Int} (ha : bd8 A a) (hb : bd8 B b) : -(8 * (A * B)) ≤ convF a b 10 ∧ convF a b 10 ≤ 8 * (A * B) := by
  have h0 : 0 ≤ A * B := by
    have := ha 0 (by omega); have := hb 0 (by omega)
    exact Int.mul_nonneg (by omega) (by omega)
  have p3 := mul_bd (ha 3 (by omega)).1 (ha 3 (by omega)).2 (hb 7 (by omega)).1 (hb 7 (by omega)).2
  have p4 := mul_bd (ha 4 (by omega)).1 (ha 4 (by omega)).2 (hb 6 (by omega)).1 (hb 6 (by omega)).2
  have p5 := mul_bd (ha 5 (by omega)).1 (ha 5 (by omega)).2 (hb 5 (by omega)).1 (hb 5 (by omega)).2
  have p6 := mul_bd (ha 6 (by omega)).1 (ha 6 (by omega)).2 (hb 4 (by omega)).1 (hb 4 (by omega)).2
  have p7 := mul_bd (ha 7 (by omega)).1 (ha 7 (by omega)).2 (hb 3 (by omega)).1 (hb 3 (by omega)).2
  simp only [convF]
  omega
theorem conv_bd11 {a b : Nat → Int} {A B : Int} (ha : bd8 A a) (hb : bd8 B b) : -(8 * (A * B)) ≤ convF a b 11 ∧ convF a b 11 ≤ 8 * (A * B) := by
  have h0 : 0 ≤ A * B := by
    have := ha 0 (by omega); have := hb 0 (by omega)
    exact Int.mul_nonneg (by omega) (by omega)
  have p4 := mul_bd (ha 4 (by omega)).1 (ha 4 (by omega)).2 (hb 7 (by omega)).1 (hb 7 (by omega)).2
  have p5 := mul_bd (ha 5 (by omega)).1 (ha 5 (by omega)).2 (hb 6 (by omega)).1 (hb 6 (by omega)).2
  have p6 := mul_bd (ha 6 (by omega)).1 (ha 6 (by omega)).2 (hb 5 (by omega)).1 (hb 5 (by omega)).2
  have p7 := mul_bd (ha 7 (by omega)).1 (ha 7 (by omega)).2 (hb 4 (by omega)).1 (hb 4 (by omega)).2
  simp only [convF]
  omega
theorem conv_bd12 {a b : Nat → Int} {A B : Int} (ha : bd8 A a) (hb : bd8 B b) : -(8 * (A * B)) ≤ convF a b 12 ∧ convF a b 12 ≤ 8 * (A * B) := by
  have h0 : 0 ≤ A * B := by
    have := ha 0 (by omega); have := hb 0 (by omega)
    exact Int.mul_nonneg (by omega) (by omega)
  have p5 := mul_bd (ha 5 (by omega)).1 (ha 5 (by omega)).2 (hb 7 (by omega)).1 (hb 7 (by omega)).2
  have p6 := mul_bd (ha 6 (by omega)).1 (ha 6 (by omega)).2 (hb 6 (by omega)).1 (hb 6 (by omega)).2
  have p7 := mul_bd (ha 7 (by omega)).1 (ha 7 (by omega)).2 (hb 5 (by omega)).1 (hb 5 (by omega)).2
  simp only [convF]
  omega
theorem conv_bd13 {a b : Nat → Int} {A B : Int} (ha : bd8 A a) (hb : bd8 B b) : -(8 * (A * B)) ≤ convF a b 13 ∧ convF a b 13 ≤ 8 * (A * B) := by
  have h0 : 0 ≤ A * B := by
    have := ha 0 (by omega); have := hb 0 (by omega)
    exact Int.mul_nonneg (by omega) (by omega)
  have p6 := mul_bd (ha 6 (by omega)).1 (ha 6 (by omega)).2 (hb 7 (by omega)).1 (hb 7 (by omega)).2
  have p7 := mul_bd (ha 7 (by omega)).1 (ha 7 (by omega)).2 (hb 6 (by omega)).1 (hb 6 (by omega)).2
  simp only [convF]
  omega
theorem conv_bd14 {a b : Nat → Int} {A B : Int} (ha : bd8 A a) (hb : bd8 B b) : -(8 * (A * B)) ≤ convF a b 14 ∧ convF a b 14 ≤ 8 * (A * B) := by
  have h0 : 0 ≤ A * B := by
    have := ha 0 (by omega); have := hb 0 (by omega)
    exact Int.mul_nonneg (by omega) (by omega)
  have p7 := mul_bd (ha 7 (by omega)).1 (ha 7 (by omega)).2 (hb 7 (by omega)).1 (hb 7 (by omega)).2
  simp only [convF]
  omega
theorem mul_bd8 {a b : Nat → Int} {A B : Int} (ha : bd8 A a) (hb : bd8 B b) : bd8 (24 * (A * B)) (mulZ a b) := by
  intro k hk
  have c0 := conv_bd0 ha hb
  have c1 := conv_bd1 ha hb
  have c2 := conv_bd2 ha hb
  have c3 := conv_bd3 ha hb
  have c4 := conv_bd4 ha hb
  have c5 := conv_bd5 ha hb
  have c6 := conv_bd6 ha hb
  have c7 := conv_bd7 ha hb
  have c8 := conv_bd8 ha hb
  have c9 := conv_bd9 ha hb
  have c10 := conv_bd10 ha hb
  have c11 := conv_bd11 ha hb
  have c12 := conv_bd12 ha hb
  have c13 := conv_bd13 ha hb
  have c14 := conv_bd14 ha hb
  rcases (by omega : k = 0 ∨ k = 1 ∨ k = 2 ∨ k = 3 ∨ k = 4 ∨ k = 5 ∨ k = 6 ∨ k = 7) with rfl | rfl | rfl | rfl | rfl | rfl | rfl | rfl <;> simp only [mulZ] <;> omega
theorem mir_bd {a : Nat → Int} {A : Int} (ha : bd8 A a) : bd8 (2 * A) (mirZ a) := by
  intro k hk
  have h0 := ha 0 (by omega); have h1 := ha 1 (by omega); have h2 := ha 2 (by omega); have h3 := ha 3 (by omega); have h4 := ha 4 (by omega); have h5 := ha 5 (by omega); have h6 := ha 6 (by omega); have h7 := ha 7 (by omega)
  rcases (by omega : k = 0 ∨ k = 1 ∨ k = 2 ∨ k = 3 ∨ k = 4 ∨ k = 5 ∨ k = 6 ∨ k = 7) with rfl | rfl | rfl | rfl | rfl | rfl | rfl | rfl <;> simp only [mirZ] <;> omega
theorem re_bd {a : Nat → Int} {A : Int} (ha : bd8 A a) : bd4 (6 * A) (reZ a) := by
  intro k hk
  have h0 := ha 0 (by omega); have h1 := ha 1 (by omega); have h2 := ha 2 (by omega); have h3 := ha 3 (by omega); have h4 := ha 4 (by omega); have h5 := ha 5 (by omega); have h6 := ha 6 (by omega); have h7 := ha 7 (by omega)
  rcases (by omega : k = 0 ∨ k = 1 ∨ k = 2 ∨ k = 3) with rfl | rfl | rfl | rfl <;> simp only [reZ] <;> omega
theorem im_bd {a : Nat → Int} {A : Int} (ha : bd8 A a) : bd4 (6 * A) (imZ a) := by
  intro k hk
  have h0 := ha 0 (by omega); have h1 := ha 1 (by omega); have h2 := ha 2 (by omega); have h3 := ha 3 (by omega); have h4 := ha 4 (by omega); have h5 := ha 5 (by omega); have h6 := ha 6 (by omega); have h7 := ha 7 (by omega)
  rcases (by omega : k = 0 ∨ k = 1 ∨ k = 2 ∨ k = 3) with rfl | rfl | rfl | rfl <;> simp only [imZ] <;> omega
theorem W8 {f : Nat → Int} {A : Int} (h : bd8 A f) (hA : A ≤ 9223372036854775807) : ∀ k, k < 8 → W (f k) = f k := fun k hk => by
  have := h k hk
  exact w64_in (by omega) (by omega)
theorem W4 {f : Nat → Int} {A : Int} (h : bd4 A f) (hA : A ≤ 9223372036854775807) : ∀ k, k < 4 → W (f k) = f k := fun k hk => by
  have := h k hk
  exact w64_in (by omega) (by omega)
theorem conv_congr {a a' b b' : Nat → Int} (ha : ∀ k, k < 8 → a k = a' k) (hb : ∀ k, k < 8 → b k = b' k) : ∀ k, convF a b k = convF a' b' k := by
  intro k
  have a0 := ha 0 (by omega); have a1 := ha 1 (by omega); have a2 := ha 2 (by omega); have a3 := ha 3 (by omega); have a4 := ha 4 (by omega); have a5 := ha 5 (by omega); have a6 := ha 6 (by omega); have a7 := ha 7 (by omega)
  have b0 := hb 0 (by omega); have b1 := hb 1 (by omega); have b2 := hb 2 (by omega); have b3 := hb 3 (by omega); have b4 := hb 4 (by omega); have b5 := hb 5 (by omega); have b6 := hb 6 (by omega); have b7 := hb 7 (by omega)
  unfold convF
  split <;> simp only [a0, a1, a2, a3, a4, a5, a6, a7, b0, b1, b2, b3, b4, b5, b6, b7]
theorem mul_congr {a a' b b' : Nat → Int} (ha : ∀ k, k < 8 → a k = a' k) (hb : ∀ k, k < 8 → b k = b' k) : ∀ k, mulZ a b k = mulZ a' b' k := by
  intro k
  unfold mulZ
  split <;> simp only [conv_congr ha hb]
theorem mir_congr {a a' : Nat → Int} (ha : ∀ k, k < 8 → a k = a' k) : ∀ k, mirZ a k = mirZ a' k := by
  intro k
  have a0 := ha 0 (by omega); have a1 := ha 1 (by omega); have a2 := ha 2 (by omega); have a3 := ha 3 (by omega); have a4 := ha 4 (by omega); have a5 := ha 5 (by omega); have a6 := ha 6 (by omega); have a7 := ha 7 (by omega)
  unfold mirZ
  split <;> simp only [a0, a1, a2, a3, a4, a5, a6, a7]
theorem re_congr {a a' : Nat → Int} (ha : ∀ k, k < 8 → a k = a' k) : ∀ k, reZ a k = reZ a' k := by
  intro k
  have a0 := ha 0 (by omega); have a1 := ha 1 (by omega); have a2 := ha 2 (by omega); have a3 := ha 3 (by omega); have a4 := ha 4 (by omega); have a5 := ha 5 (by omega); have a6 := ha 6 (by omega); have a7 := ha 7 (by omega)
  unfold reZ
  split <;> simp only [a0, a1, a2, a3, a4, a5, a7]
theorem im_congr {a a' : Nat → Int} (ha : ∀ k, k < 8 → a k = a' k) : ∀ k, imZ a k = imZ a' k := by
  intro k
  have a0 := ha 0 (by omega); have a1 := ha 1 (by omega); have a2 := ha 2 (by omega); have a3 := ha 3 (by omega); have a4 := ha 4 (by omega); have a5 := ha 5 (by omega); have a6 := ha 6 (by omega); have a7 := ha 7 (by omega)
  unfold imZ
  split <;> simp only [a1, a2, a3, a4, a5, a6, a7]
theorem w8_at (f : Nat → Int) : ∀ k, k < 8 → w8 f k = f k := fun k hk => by
  rcases (by omega : k = 0 ∨ k = 1 ∨ k = 2 ∨ k = 3 ∨ k = 4 ∨ k = 5 ∨ k = 6 ∨ k = 7) with rfl | rfl | rfl | rfl | rfl | rfl | rfl | rfl <;> rfl
end Go.Proofs.Ytmdcafhnjihckaa

/- Plain lists of wheels: sums over the wheels that are linear in the radii do not change when the list is tidied; a tidy list is known by its sums. No program, no conditions. -/
namespace Go.Proofs.Ytmdcafhnjihckaa
open Go.RowKit

/-- A sum over the wheels. -/
def linS (φ : Int → (Nat → Int) → Int) : List Wh → Int
  | [] => 0
  | w :: l => φ w.s w.r.f + linS φ l
def Lin (φ : Int → (Nat → Int) → Int) : Prop := ∀ s f g, φ s (fun k => f k + g k) = φ s f + φ s g
theorem Lin.zero {φ : Int → (Nat → Int) → Int} (h : Lin φ) (s : Int) : φ s (fun _ => 0) = 0 := by
  have := h s (fun _ => 0) (fun _ => 0)
  have e : (fun k : Nat => (fun _ : Nat => (0 : Int)) k + (fun _ : Nat => (0 : Int)) k) = fun _ => 0 := by
    funext k
    rfl
  rw [e] at this
  omega
theorem linS_append (φ : Int → (Nat → Int) → Int) : ∀ A B : List Wh, linS φ (A ++ B) = linS φ A + linS φ B
  | [], B => by show linS φ B = 0 + linS φ B; omega
  | w :: l, B => by
    show φ w.s w.r.f + linS φ (l ++ B) = φ w.s w.r.f + linS φ l + linS φ B
    rw [linS_append φ l B]
    omega
theorem linS_map {φ ψ : Int → (Nat → Int) → Int} {c : Wh → Wh} : ∀ {L : List Wh}, (∀ w ∈ L, φ (c w).s (c w).r.f = ψ w.s w.r.f) → linS φ (L.map c) = linS ψ L
  | [], _ => rfl
  | w :: l, h => by
    show φ (c w).s (c w).r.f + linS φ (l.map c) = ψ w.s w.r.f + linS ψ l
    rw [h w (by simp), linS_map fun x hx => h x (by simp [hx])]
theorem linS_congr {φ ψ : Int → (Nat → Int) → Int} : ∀ {L : List Wh}, (∀ w ∈ L, φ w.s w.r.f = ψ w.s w.r.f) → linS φ L = linS ψ L
  | [], _ => rfl
  | w :: l, h => by
    show φ w.s w.r.f + linS φ l = ψ w.s w.r.f + linS ψ l
    rw [h w (by simp), linS_congr fun x hx => h x (by simp [hx])]
/-- All radii are small. -/
def bdW (B : Int) (L : List Wh) : Prop := ∀ w ∈ L, bd8 B w.r.f
theorem cy_ext {a b : Cy} (h : ∀ k, k < 8 → a.f k = b.f k) : a = b := by
  rw [← cyOf_f a, ← cyOf_f b]
  exact cyOf_congr h
theorem Cy.f_out (a : Cy) {k : Nat} (h : 8 ≤ k) : a.f k = 0 := by
  unfold Cy.f
  match k, h with
  | k + 8, _ => rfl
theorem cyAdd_f {a b : Cy} (ha : bd8 2000000000000 a.f) (hb : bd8 2000000000000 b.f) : (cyAdd a b).f = fun k => a.f k + b.f k := by
  funext k
  by_cases hk : k < 8
  · have e : (cyAdd a b).f k = W (a.f k + b.f k) := by
      rcases (by omega : k = 0 ∨ k = 1 ∨ k = 2 ∨ k = 3 ∨ k = 4 ∨ k = 5 ∨ k = 6 ∨ k = 7) with rfl | rfl | rfl | rfl | rfl | rfl | rfl | rfl <;> rfl
    have h1 := ha k hk
    have h2 := hb k hk
    rw [e, w64_in (by omega) (by omega)]
  · rw [Cy.f_out _ (by omega), Cy.f_out _ (by omega), Cy.f_out _ (by omega)]
    rfl
theorem cyOk_bd {a : Cy} (h : cyOk a = true) : bd8 1000000 a.f := fun k hk => by
  have := smallF_iff.1 h k hk
  omega
theorem bd8.mono {A B : Int} {f : Nat → Int} (h : bd8 A f) (hAB : A ≤ B) : bd8 B f := fun k hk => by
  have := h k hk
  omega
theorem bdW.mono {A B : Int} {L : List Wh} (h : bdW A L) (hAB : A ≤ B) : bdW B L := fun w hw => (h w hw).mono hAB

theorem linS_insS {φ : Int → (Nat → Int) → Int} (hφ : Lin φ) {w : Wh} (hw : bd8 2000000000000 w.r.f) : ∀ {l : List Wh}, bdW 2000000000000 l → linS φ (insS l w) = linS φ l + φ w.s w.r.f
  | [], _ => by
    show φ w.s w.r.f + 0 = 0 + φ w.s w.r.f
    omega
  | x :: l, h => by
    unfold insS
    split
    · show φ x.s x.r.f + linS φ (insS l w) = φ x.s x.r.f + linS φ l + φ w.s w.r.f
      rw [linS_insS hφ hw fun y hy => h y (by simp [hy])]
      omega
    · split
      · rename_i e
        show φ x.s (cyAdd x.r w.r).f + linS φ l = φ x.s x.r.f + linS φ l + φ w.s w.r.f
        rw [cyAdd_f (h x (by simp)) hw, hφ, e]
        omega
      · show φ w.s w.r.f + (φ x.s x.r.f + linS φ l) = φ x.s x.r.f + linS φ l + φ w.s w.r.f
        omega
def okW (L : List Wh) : Prop := ∀ w ∈ L, cyOk w.r = true
theorem okW.bd {L : List Wh} (h : okW L) : bdW 1000000 L := fun w hw => cyOk_bd (h w hw)
theorem insS_ok {l : List Wh} {w : Wh} (hr : rising l) (h : okW l) (ho : cyOk (sumR l w) = true) : okW (insS l w) := fun x hx => by
  have := (insS_perm hr).subset hx
  rcases List.mem_cons.1 this with rfl | hx
  · exact ho
  · exact h x (List.mem_filter.1 hx).1
theorem linS_run {φ : Int → (Nat → Int) → Int} (hφ : Lin φ) : ∀ {ws acc B : List Wh}, bdW 2000000000000 ws → rising acc → okW acc → runT insS acc ws = some B → linS φ B = linS φ acc + linS φ ws ∧ rising B ∧ okW B
  | [], acc, B, _, hr, ho, h => by
    simp only [runT, Option.some.injEq] at h
    subst h
    exact ⟨by show linS φ acc = linS φ acc + 0; omega, hr, ho⟩
  | w :: ws, acc, B, hb, hr, ho, h => by
    unfold runT at h
    split at h
    · rename_i hk
      obtain ⟨e, h1, h2⟩ := linS_run hφ (ws := ws) (fun x hx => hb x (by simp [hx])) (insS_rising w hr) (insS_ok hr ho hk) h
      refine ⟨?_, h1, h2⟩
      rw [e, linS_insS hφ (hb w (by simp)) (ho.bd.mono (by omega))]
      show _ = linS φ acc + (φ w.s w.r.f + linS φ ws)
      omega
    · cases h
theorem linS_nonZ {φ : Int → (Nat → Int) → Int} (hφ : Lin φ) : ∀ L : List Wh, linS φ (nonZ L) = linS φ L
  | [] => rfl
  | w :: l => by
    have ih := linS_nonZ hφ l
    unfold nonZ at ih ⊢
    by_cases h : w.r = cyZ
    · rw [List.filter_cons_of_neg (by simp [h]), ih]
      show linS φ l = φ w.s w.r.f + linS φ l
      rw [h, show cyZ.f = fun _ => 0 from funext fun k => by
        by_cases hk : k < 8
        · rcases (by omega : k = 0 ∨ k = 1 ∨ k = 2 ∨ k = 3 ∨ k = 4 ∨ k = 5 ∨ k = 6 ∨ k = 7) with rfl | rfl | rfl | rfl | rfl | rfl | rfl | rfl <;> rfl
        · exact Cy.f_out _ (by omega), hφ.zero]
      omega
    · rw [List.filter_cons_of_pos (by simp [h])]
      show φ w.s w.r.f + linS φ _ = φ w.s w.r.f + linS φ l
      rw [ih]
/-- In order, without radii that are nothing, and a design. -/
def isTidy (T : List Wh) : Prop := rising T ∧ (∀ w ∈ T, w.r ≠ cyZ) ∧ dValid T = true
theorem tidyS_lin {ws T : List Wh} (hb : bdW 2000000000000 ws) (h : tidyS ws = some T) : isTidy T ∧ ∀ φ, Lin φ → linS φ T = linS φ ws := by
  unfold tidyS at h
  split at h
  · rename_i l hl
    split at h
    · rename_i hv
      cases h
      obtain ⟨_, h1, _⟩ := linS_run (φ := fun _ _ => 0) (fun _ _ _ => rfl) hb List.Pairwise.nil (fun w hw => by simp at hw) hl
      refine ⟨⟨List.Pairwise.filter _ h1, fun w hw => by simpa using (List.mem_filter.1 hw).2, hv⟩, fun φ hφ => ?_⟩
      obtain ⟨e, _⟩ := linS_run hφ hb List.Pairwise.nil (fun w hw => by simp at hw) hl
      rw [linS_nonZ hφ, e]
      show 0 + _ = _
      omega
    · cases h
  · cases h
theorem okT_some {L : List Wh} (h : okT L = true) : tidyS L = some (tidyL L) := by
  unfold okT at h
  unfold tidyL
  cases e : tidyS L with
  | none => rw [e] at h; cases h
  | some T => rfl
theorem tidyL_lin {ws : List Wh} (hb : bdW 2000000000000 ws) (h : okT ws = true) : isTidy (tidyL ws) ∧ ∀ φ, Lin φ → linS φ (tidyL ws) = linS φ ws := tidyS_lin hb (okT_some h)

/-- The sum at a speed. -/
def atSp (s0 : Int) (k : Nat) : Int → (Nat → Int) → Int := fun s f => if s = s0 then f k else 0
theorem atSp_lin (s0 : Int) (k : Nat) : Lin (atSp s0 k) := fun s f g => by
  unfold atSp
  split
  · rfl
  · rfl
theorem atSp_none {s0 : Int} {k : Nat} : ∀ {L : List Wh}, (∀ w ∈ L, w.s ≠ s0) → linS (atSp s0 k) L = 0
  | [], _ => rfl
  | w :: l, h => by
    show atSp s0 k w.s w.r.f + linS (atSp s0 k) l = 0
    rw [atSp_none fun x hx => h x (by simp [hx]), atSp, if_neg (h w (by simp))]
    rfl
theorem atSp_of {k : Nat} : ∀ {L : List Wh}, rising L → ∀ {w : Wh}, w ∈ L → linS (atSp w.s k) L = w.r.f k
  | [], _, w, hw => by simp at hw
  | x :: l, hr, w, hw => by
    have h' := List.pairwise_cons.1 hr
    show atSp w.s k x.s x.r.f + linS (atSp w.s k) l = w.r.f k
    rcases List.mem_cons.1 hw with rfl | hw
    · rw [atSp_none fun y hy => by have := h'.1 y hy; omega, atSp, if_pos rfl]
      omega
    · have := h'.1 w hw
      rw [atSp_of h'.2 hw, atSp, if_neg (by omega)]
      omega
theorem tidy_sub {A B : List Wh} (hA : isTidy A) (hB : isTidy B) (h : ∀ s k, k < 8 → linS (atSp s k) A = linS (atSp s k) B) : ∀ w ∈ A, w ∈ B := fun w hw => by
  have hne : ∃ k, k < 8 ∧ w.r.f k ≠ 0 := by
    refine Classical.byContradiction fun hn => hA.2.1 w hw (cy_ext fun k hk => ?_)
    have : w.r.f k = 0 := Classical.byContradiction fun h0 => hn ⟨k, hk, h0⟩
    rw [this]
    rcases (by omega : k = 0 ∨ k = 1 ∨ k = 2 ∨ k = 3 ∨ k = 4 ∨ k = 5 ∨ k = 6 ∨ k = 7) with rfl | rfl | rfl | rfl | rfl | rfl | rfl | rfl <;> rfl
  obtain ⟨k, hk, h0⟩ := hne
  have hex : ∃ x ∈ B, x.s = w.s := by
    refine Classical.byContradiction fun hn => h0 ?_
    rw [← atSp_of hA.1 hw, h w.s k hk]
    exact atSp_none fun x hx e => hn ⟨x, hx, e⟩
  obtain ⟨x, hx, e⟩ := hex
  have hr : x.r = w.r := cy_ext fun j hj => by
    rw [← atSp_of hA.1 hw, h w.s j hj, ← e]
    exact (atSp_of hB.1 hx).symm
  have : x = w := by
    cases x
    cases w
    simp_all
  rw [← this]
  exact hx
theorem rising_ext : ∀ {A B : List Wh}, rising A → rising B → (∀ w, w ∈ A ↔ w ∈ B) → A = B
  | [], [], _, _, _ => rfl
  | [], y :: l, _, _, h => absurd ((h y).2 (by simp)) (by simp)
  | x :: l, [], _, _, h => absurd ((h x).1 (by simp)) (by simp)
  | x :: l, y :: l', h1, h2, h => by
    have g1 := List.pairwise_cons.1 h1
    have g2 := List.pairwise_cons.1 h2
    have hxy : x = y := by
      rcases List.mem_cons.1 ((h x).1 (by simp)) with e | m1
      · exact e
      · rcases List.mem_cons.1 ((h y).2 (by simp)) with e | m2
        · exact e.symm
        · have := g1.1 y m2
          have := g2.1 x m1
          omega
    subst hxy
    rw [rising_ext g1.2 g2.2 fun w => ⟨fun hw => ?_, fun hw => ?_⟩]
    · rcases List.mem_cons.1 ((h w).1 (by simp [hw])) with rfl | m
      · have := g1.1 w hw
        omega
      · exact m
    · rcases List.mem_cons.1 ((h w).2 (by simp [hw])) with rfl | m
      · have := g2.1 w hw
        omega
      · exact m
/-- A tidy list is known by its sums. -/
theorem tidy_unique {A B : List Wh} (hA : isTidy A) (hB : isTidy B) (h : ∀ s k, k < 8 → linS (atSp s k) A = linS (atSp s k) B) : A = B :=
  rising_ext hA.1 hB.1 fun w => ⟨tidy_sub hA hB h w, tidy_sub hB hA (fun s k hk => (h s k hk).symm) w⟩

theorem insS_end : ∀ {l : List Wh} {w : Wh}, (∀ x ∈ l, x.s < w.s) → insS l w = l ++ [w]
  | [], _, _ => rfl
  | x :: l, w, h => by
    unfold insS
    rw [if_pos (h x (by simp)), insS_end fun y hy => h y (by simp [hy])]
    rfl
theorem sumR_end {l : List Wh} {w : Wh} (h : ∀ x ∈ l, x.s < w.s) : sumR l w = w.r := by
  have : (l.find? fun x => decide (x.s = w.s)) = none := List.find?_eq_none.2 fun x hx => by
    have := h x hx
    simp only [decide_eq_true_eq]
    omega
  simp [sumR, radAt, this]
theorem run_tidy : ∀ {ws acc : List Wh}, rising (acc ++ ws) → okW ws → runT insS acc ws = some (acc ++ ws)
  | [], acc, _, _ => by simp [runT]
  | w :: ws, acc, hr, ho => by
    have hl : ∀ x ∈ acc, x.s < w.s := fun x hx => (List.pairwise_append.1 hr).2.2 x hx w (by simp)
    unfold runT
    rw [sumR_end hl, if_pos (ho w (by simp)), insS_end hl, run_tidy (by simpa using hr) fun x hx => ho x (by simp [hx])]
    simp
theorem dValid_ok {L : List Wh} (h : dValid L = true) : okW L := fun w hw => by
  rw [dValid, Bool.and_eq_true, List.all_eq_true] at h
  have := h.2 w hw
  rw [Bool.and_eq_true] at this
  exact this.2
theorem tidyS_self {T : List Wh} (h : isTidy T) : tidyS T = some T := by
  have hz : nonZ T = T := List.filter_eq_self.2 fun w hw => by simpa using h.2.1 w hw
  unfold tidyS
  rw [run_tidy (acc := []) (by simpa using h.1) (dValid_ok h.2.2)]
  simp only [List.nil_append]
  rw [hz, if_pos h.2.2]
theorem okT_self {T : List Wh} (h : isTidy T) : okT T = true := by rw [okT, tidyS_self h]; rfl
theorem tidyL_self {T : List Wh} (h : isTidy T) : tidyL T = T := by rw [tidyL, tidyS_self h]; rfl

/-- Times the root, in whole numbers. -/
def stZ (a : Nat → Int) : Nat → Int
  | 0 => - a 7
  | 4 => a 3 + a 7
  | k + 1 => a k
def tnZ (a : Nat → Int) : Nat → Nat → Int
  | 0 => a
  | n + 1 => stZ (tnZ a n)
theorem stZ_add (f g : Nat → Int) : stZ (fun k => f k + g k) = fun k => stZ f k + stZ g k := by
  funext k
  unfold stZ
  split
  · show -(f 7 + g 7) = -f 7 + -g 7
    omega
  · show f 3 + g 3 + (f 7 + g 7) = f 3 + f 7 + (g 3 + g 7)
    omega
  · rfl
theorem tnZ_add (f g : Nat → Int) : ∀ n, tnZ (fun k => f k + g k) n = fun k => tnZ f n k + tnZ g n k
  | 0 => rfl
  | n + 1 => by
    show stZ (tnZ (fun k => f k + g k) n) = _
    rw [tnZ_add f g n, stZ_add]
    rfl
theorem tnZ_tnZ (f : Nat → Int) (m : Nat) : ∀ n, tnZ (tnZ f m) n = tnZ f (m + n)
  | 0 => rfl
  | n + 1 => by
    show stZ (tnZ (tnZ f m) n) = stZ (tnZ f (m + n))
    rw [tnZ_tnZ f m n]
theorem stZ_congr {f g : Nat → Int} (h : ∀ k, k < 8 → f k = g k) : ∀ k, k < 8 → stZ f k = stZ g k := by
  refine forall8 ?_ ?_ ?_ ?_ ?_ ?_ ?_ ?_
  · show - f 7 = - g 7; rw [h 7 (by omega)]
  · exact h 0 (by omega)
  · exact h 1 (by omega)
  · exact h 2 (by omega)
  · show f 3 + f 7 = g 3 + g 7; rw [h 3 (by omega), h 7 (by omega)]
  · exact h 4 (by omega)
  · exact h 5 (by omega)
  · exact h 6 (by omega)
theorem tnZ_congr {f g : Nat → Int} (h : ∀ k, k < 8 → f k = g k) : ∀ (n k : Nat), k < 8 → tnZ f n k = tnZ g n k
  | 0 => h
  | n + 1 => stZ_congr (tnZ_congr h n)
set_option maxRecDepth 100000 in
theorem tnZ_24 (f : Nat → Int) : ∀ k, k < 8 → tnZ f 24 k = f k := by
  refine forall8 ?_ ?_ ?_ ?_ ?_ ?_ ?_ ?_ <;> (simp only [tnZ, stZ]; omega)
theorem tnZ_period (f : Nat → Int) (m : Nat) : ∀ (q k : Nat), k < 8 → tnZ f (m + 24 * q) k = tnZ f m k
  | 0, _, _ => rfl
  | q + 1, k, hk => by
    rw [show m + 24 * (q + 1) = 24 + (m + 24 * q) by omega, ← tnZ_tnZ, tnZ_congr (tnZ_24 f) _ k hk, tnZ_period f m q k hk]
theorem tnZ_mod (f : Nat → Int) {m n : Nat} (h : m % 24 = n % 24) (k : Nat) (hk : k < 8) : tnZ f m k = tnZ f n k := by
  have e1 : m = m % 24 + 24 * (m / 24) := by omega
  have e2 : n = n % 24 + 24 * (n / 24) := by omega
  rw [e1, e2, tnZ_period f _ _ k hk, tnZ_period f _ _ k hk, h]
/-- Turned by any whole number. -/
def tnI (f : Nat → Int) (n : Int) : Nat → Int := tnZ f (n % 24).toNat
theorem tnI_add (f g : Nat → Int) (n : Int) : tnI (fun k => f k + g k) n = fun k => tnI f n k + tnI g n k := tnZ_add f g _
theorem tnI_congr {f g : Nat → Int} (h : ∀ k, k < 8 → f k = g k) (n : Int) : ∀ k, k < 8 → tnI f n k = tnI g n k := tnZ_congr h _
theorem tnI_tnI (f : Nat → Int) (m n : Int) : ∀ k, k < 8 → tnI (tnI f m) n k = tnI f (m + n) k := fun k hk => by
  unfold tnI
  rw [tnZ_tnZ]
  exact tnZ_mod f (by omega) k hk
theorem tnI_mod (f : Nat → Int) {m n : Int} (h : m % 24 = n % 24) : tnI f m = tnI f n := by unfold tnI; rw [h]
theorem tnI_zero (f : Nat → Int) : tnI f 0 = f := rfl
/-- What a point turned is bounded by. -/
theorem tnZ_inv {B : Int} {f : Nat → Int} (h : bd8 B f) : ∀ n, (∀ k, k < 4 → (-(2 * B) ≤ tnZ f n k ∧ tnZ f n k ≤ 2 * B) ∧ (-(2 * B) ≤ tnZ f n (k + 4) ∧ tnZ f n (k + 4) ≤ 2 * B) ∧ (-(2 * B) ≤ tnZ f n k + tnZ f n (k + 4) ∧ tnZ f n k + tnZ f n (k + 4) ≤ 2 * B))
  | 0 => fun k hk => by
    have h1 := h k (by omega)
    have h2 := h (k + 4) (by omega)
    show (-(2 * B) ≤ f k ∧ f k ≤ 2 * B) ∧ (-(2 * B) ≤ f (k + 4) ∧ f (k + 4) ≤ 2 * B) ∧ (-(2 * B) ≤ f k + f (k + 4) ∧ f k + f (k + 4) ≤ 2 * B)
    omega
  | n + 1 => fun k hk => by
    have ih := tnZ_inv h n
    have i0 := ih 0 (by omega)
    have i1 := ih 1 (by omega)
    have i2 := ih 2 (by omega)
    have i3 := ih 3 (by omega)
    have s0 : tnZ f (n + 1) 0 = - tnZ f n 7 := rfl
    have s1 : tnZ f (n + 1) 1 = tnZ f n 0 := rfl
    have s2 : tnZ f (n + 1) 2 = tnZ f n 1 := rfl
    have s3 : tnZ f (n + 1) 3 = tnZ f n 2 := rfl
    have s4 : tnZ f (n + 1) 4 = tnZ f n 3 + tnZ f n 7 := rfl
    have s5 : tnZ f (n + 1) 5 = tnZ f n 4 := rfl
    have s6 : tnZ f (n + 1) 6 = tnZ f n 5 := rfl
    have s7 : tnZ f (n + 1) 7 = tnZ f n 6 := rfl
    simp only [Nat.zero_add, Nat.reduceAdd] at i0 i1 i2 i3
    rcases (by omega : k = 0 ∨ k = 1 ∨ k = 2 ∨ k = 3) with rfl | rfl | rfl | rfl
    · simp only [Nat.zero_add]
      rw [s0, s4]
      omega
    · simp only [Nat.reduceAdd]
      rw [s1, s5]
      exact i0
    · simp only [Nat.reduceAdd]
      rw [s2, s6]
      exact i1
    · simp only [Nat.reduceAdd]
      rw [s3, s7]
      exact i2
theorem tnZ_bd {B : Int} {f : Nat → Int} (h : bd8 B f) (n : Nat) : bd8 (2 * B) (tnZ f n) := fun k hk => by
  by_cases h4 : k < 4
  · exact (tnZ_inv h n k h4).1
  · have := (tnZ_inv h n (k - 4) (by omega)).2.1
    rwa [show k - 4 + 4 = k by omega] at this
theorem turnedF_Z {B : Int} {f : Nat → Int} (h : bd8 B f) (hB : 2 * B ≤ 9000000000000000000) : ∀ (n k : Nat), k < 8 → turnedF f n k = tnZ f n k
  | 0, _, _ => rfl
  | n + 1, k, hk => by
    have ih := turnedF_Z h hB n
    have hb := tnZ_bd h (n + 1)
    have hb0 := hb 0 (by omega)
    have hb4 := hb 4 (by omega)
    have s0 : tnZ f (n + 1) 0 = - tnZ f n 7 := rfl
    have s4 : tnZ f (n + 1) 4 = tnZ f n 3 + tnZ f n 7 := rfl
    revert k hk
    refine forall8 ?_ ?_ ?_ ?_ ?_ ?_ ?_ ?_
    · show W (0 - turnedF f n 7) = - tnZ f n 7
      rw [ih 7 (by omega), w64_in (by omega) (by omega)]
      omega
    · exact ih 0 (by omega)
    · exact ih 1 (by omega)
    · exact ih 2 (by omega)
    · show W (turnedF f n 3 + turnedF f n 7) = tnZ f n 3 + tnZ f n 7
      rw [ih 3 (by omega), ih 7 (by omega), w64_in (by omega) (by omega)]
    · exact ih 4 (by omega)
    · exact ih 5 (by omega)
    · exact ih 6 (by omega)
end Go.Proofs.Ytmdcafhnjihckaa

/- DesignAt, the reference's: its word. Conditions: a list of wheels. -/
namespace Go.Proofs.Ytmdcafhnjihckaa
open Go.RowKit
set_option maxRecDepth 100000

theorem gmDA_ok : GamOk Try.prog (gmDA atF doneC (fun v => cyOk (cyOf v))) := by
  unfold gmDA
  rw [FdoO_eq]
  exact ext_ok (ext_ok (ext_ok (ext_ok g0_ok ok_dv) ok_l1Is) ok_l5At) ok_l2Done
theorem zero_row9 (f : Nat → Nat → Int) : (fun q => row9 f (0 + q)) = row9 f := by
  funext q
  rw [Nat.zero_add]
def daOk (f : Nat → Nat → Int) (n : Int) (m : Nat) : Bool := okD (listW f m) && inR n 0 23 && cyOk (cyOf (atF f n m))
def daV (f : Nat → Nat → Int) (n : Int) (m : Nat) : Nat → Int := bif daOk f n m then atF f n m else fun _ => 0
def F_DA : List SA → Option FR
  | [.row m g, .v (.int .i64 n)] => some { val := .tup [.agg (cyC (daV (itW g) n m)), .v (.bool (daOk (itW g) n m))], obl := [allW m g, decide (m ≤ 2 ^ 38)] }
  | _ => none
theorem ok_DA : SpecOk Try.prog 75 (specR md_wv F_DA) := by
  refine specR_hr gmDA_ok Try.func75 rfl fun sas fr hF ho => ?_
  unfold F_DA at hF
  split at hF
  · rename_i m g n
    cases hF
    simp only [ob_cons] at ho
    obtain ⟨h1, h2, _⟩ := ho
    have hm := of_decide_eq_true h2
    refine ⟨[.row false m 9 (row9 (itW g)) 46], noLam, 100, .cons (ABeq.row fun j hj => allW_get h1 j hj) .nil, noLam' _, ?_⟩
    show GoodQ (execF Try.prog (gmDA atF doneC (fun v => cyOk (cyOf v))) noLam 100 Try.f75 [.sl 0 9 0 0 m none, .v (i64 n)] [.row false m 9 (row9 (itW g)) 46] (packK 1)) _
    rw [treeDA, zero_row9, listW_itW, atF_row]
    have fin : ∀ (c : Bool) (b : Nat → Int), daOk (itW g) n m = c → cyC b = cyC (bif c then atF (itW g) n m else fun _ => 0) → GoodQ (.out .ret [.tup [.agg (cyC b), .v (.bool c)]] [.row false m 9 (row9 (itW g)) 46])
        (GivR (abP md_wv [.row m g, .v (.int .i64 n)] []) { val := .tup [.agg (cyC (daV (itW g) n m)), .v (.bool (daOk (itW g) n m))], obl := [allW m g, decide (m ≤ 2 ^ 38)] }) := by
      rintro c b rfl hb
      refine good_out ⟨_, rfl, ?_, .cons (ABeq.row fun j hj => (allW_get h1 j hj).symm) .nil⟩
      rw [hb]
      rfl
    have ob : ∀ k : Nat, m ≤ k → obls [Nat.ble (0 + m) m, allW m (row9 (itW g)), decide (m ≤ k)] = true := fun k hk => by
      simp only [ob_cons, ob_nil, and_true, decide_eq_true_eq, Nat.ble_eq, allW_row, true_and, Nat.zero_add, Nat.le_refl]
      exact hk
    refine good_needs (ob _ (by omega)) (good_cond (fun q => ?_) fun q => ?_)
    · have q : okD (listW (itW g) m) = false := by simpa using q
      exact fin false (fun _ => 0) (by unfold daOk; rw [q]; rfl) rfl
    · have q : okD (listW (itW g) m) = true := by simpa using q
      refine good_cond (fun q2 => ?_) fun q2 => ?_
      · have q2 : inR n 0 23 = false := by simpa using q2
        exact fin false (fun _ => 0) (by unfold daOk; rw [q, q2]; rfl) rfl
      · have q2 : inR n 0 23 = true := by simpa using q2
        refine good_needs (ob _ (by omega)) ?_
        refine fin (cyOk (cyOf (atF (itW g) n m))) (doneC (w8 (atF (itW g) n m))) (by unfold daOk; rw [q, q2]; rfl) ?_
        have e : cyOf (w8 (atF (itW g) n m)) = cyOf (atF (itW g) n m) := rfl
        unfold doneC
        rw [e]
        cases cyOk (cyOf (atF (itW g) n m)) <;> rfl
  · cases hF

end Go.Proofs.Ytmdcafhnjihckaa

/- impl.at and the program's DesignAt: the reference's word. Conditions: a list of wheels. -/
namespace Go.Proofs.Ytmdcafhnjihckaa
open Go.RowKit
set_option maxRecDepth 100000

def gmAI (tu : (Nat → Int) → Int → Nat → Int) (ad : (Nat → Int) → (Nat → Int) → Nat → Int) : Gam := ext (ext g0 72 (specR [.val, .val] (FtuI tu))) 67 (specV (fAdd2 ad))
abbrev lvAI : Ex → List Nat := lv3 [1, 4, 5, 8, 9, 10] [4, 5] [4]
abbrev stAI (m : Nat) (n : Int) (i : Nat) : List AV := [.v (i64 n), .ptr 1 0 0 0, .ptr 2 0 0 0, .sl 0 9 0 0 m none, .v (i64 m), .v (i64 i)]
theorem rndAI (tu : (Nat → Int) → Int → Nat → Int) (ad : (Nat → Int) → (Nat → Int) → Nat → Int) (m : Nat) (f : Nat → Nat → Int) (t : TypeId) (n : Int) (a : Nat → Int) (i : Nat) : execC Try.prog (gmAI tu ad) 100 noLam (loopAt 0 Try.f64) (mkT 0 25 ((lvAI .normal).zip (stAI m n i))) (hpAt m f t a) (leafV 25 lvAI 1)
    = bif decide ((↑i : Int) < (↑m : Int)) then needs [decide ((↑i : Int) < (↑m : Int)), decide ((0 : Nat) + Int.toNat (↑i : Int) < m), inB (v8 (f ((0 : Nat) + Int.toNat (↑i : Int)) (1 : Nat)) (f ((0 : Nat) + Int.toNat (↑i : Int)) (2 : Nat)) (f ((0 : Nat) + Int.toNat (↑i : Int)) (3 : Nat)) (f ((0 : Nat) + Int.toNat (↑i : Int)) (4 : Nat)) (f ((0 : Nat) + Int.toNat (↑i : Int)) (5 : Nat)) (f ((0 : Nat) + Int.toNat (↑i : Int)) (6 : Nat)) (f ((0 : Nat) + Int.toNat (↑i : Int)) (7 : Nat)) (f ((0 : Nat) + Int.toNat (↑i : Int)) (8 : Nat))), inR (IntKind.wrap IntKind.i64 (n * f ((0 : Nat) + Int.toNat (↑i : Int)) (0 : Nat))) (-9223372036854775808 : Int) (9223372036854775807 : Int)] (Res.out Ex.normal [AV.v (Value.int IntKind.i64 n), AV.ptr (1 : Nat) (0 : Nat) (0 : Nat) (0 : Nat), AV.ptr (2 : Nat) (0 : Nat) (0 : Nat) (0 : Nat), AV.sl (0 : Nat) (9 : Nat) (0 : Nat) (0 : Nat) m none, AV.v (Value.int IntKind.i64 (↑m : Int)), AV.v (Value.int IntKind.i64 (IntKind.wrap IntKind.i64 ((↑i : Int) + (1 : Int))))] [AB.row false m (9 : Nat) (row9 f) t, AB.cells [AV.v (Value.int IntKind.i64 (0 : Int)), AV.v (Value.int IntKind.i64 (0 : Int)), AV.v (Value.int IntKind.i64 (0 : Int)), AV.v (Value.int IntKind.i64 (0 : Int)), AV.v (Value.int IntKind.i64 (0 : Int)), AV.v (Value.int IntKind.i64 (0 : Int)), AV.v (Value.int IntKind.i64 (0 : Int)), AV.v (Value.int IntKind.i64 (0 : Int))] (31 : TypeId), AB.cells [AV.v (Value.int IntKind.i64 (ad (w8 a) (w8 (tu (v8 (f ((0 : Nat) + Int.toNat (↑i : Int)) (1 : Nat)) (f ((0 : Nat) + Int.toNat (↑i : Int)) (2 : Nat)) (f ((0 : Nat) + Int.toNat (↑i : Int)) (3 : Nat)) (f ((0 : Nat) + Int.toNat (↑i : Int)) (4 : Nat)) (f ((0 : Nat) + Int.toNat (↑i : Int)) (5 : Nat)) (f ((0 : Nat) + Int.toNat (↑i : Int)) (6 : Nat)) (f ((0 : Nat) + Int.toNat (↑i : Int)) (7 : Nat)) (f ((0 : Nat) + Int.toNat (↑i : Int)) (8 : Nat))) (IntKind.wrap IntKind.i64 (n * f ((0 : Nat) + Int.toNat (↑i : Int)) (0 : Nat))))) (0 : Nat))), AV.v (Value.int IntKind.i64 (ad (w8 a) (w8 (tu (v8 (f ((0 : Nat) + Int.toNat (↑i : Int)) (1 : Nat)) (f ((0 : Nat) + Int.toNat (↑i : Int)) (2 : Nat)) (f ((0 : Nat) + Int.toNat (↑i : Int)) (3 : Nat)) (f ((0 : Nat) + Int.toNat (↑i : Int)) (4 : Nat)) (f ((0 : Nat) + Int.toNat (↑i : Int)) (5 : Nat)) (f ((0 : Nat) + Int.toNat (↑i : Int)) (6 : Nat)) (f ((0 : Nat) + Int.toNat (↑i : Int)) (7 : Nat)) (f ((0 : Nat) + Int.toNat (↑i : Int)) (8 : Nat))) (IntKind.wrap IntKind.i64 (n * f ((0 : Nat) + Int.toNat (↑i : Int)) (0 : Nat))))) (1 : Nat))), AV.v (Value.int IntKind.i64 (ad (w8 a) (w8 (tu (v8 (f ((0 : Nat) + Int.toNat (↑i : Int)) (1 : Nat)) (f ((0 : Nat) + Int.toNat (↑i : Int)) (2 : Nat)) (f ((0 : Nat) + Int.toNat (↑i : Int)) (3 : Nat)) (f ((0 : Nat) + Int.toNat (↑i : Int)) (4 : Nat)) (f ((0 : Nat) + Int.toNat (↑i : Int)) (5 : Nat)) (f ((0 : Nat) + Int.toNat (↑i : Int)) (6 : Nat)) (f ((0 : Nat) + Int.toNat (↑i : Int)) (7 : Nat)) (f ((0 : Nat) + Int.toNat (↑i : Int)) (8 : Nat))) (IntKind.wrap IntKind.i64 (n * f ((0 : Nat) + Int.toNat (↑i : Int)) (0 : Nat))))) (2 : Nat))), AV.v (Value.int IntKind.i64 (ad (w8 a) (w8 (tu (v8 (f ((0 : Nat) + Int.toNat (↑i : Int)) (1 : Nat)) (f ((0 : Nat) + Int.toNat (↑i : Int)) (2 : Nat)) (f ((0 : Nat) + Int.toNat (↑i : Int)) (3 : Nat)) (f ((0 : Nat) + Int.toNat (↑i : Int)) (4 : Nat)) (f ((0 : Nat) + Int.toNat (↑i : Int)) (5 : Nat)) (f ((0 : Nat) + Int.toNat (↑i : Int)) (6 : Nat)) (f ((0 : Nat) + Int.toNat (↑i : Int)) (7 : Nat)) (f ((0 : Nat) + Int.toNat (↑i : Int)) (8 : Nat))) (IntKind.wrap IntKind.i64 (n * f ((0 : Nat) + Int.toNat (↑i : Int)) (0 : Nat))))) (3 : Nat))), AV.v (Value.int IntKind.i64 (ad (w8 a) (w8 (tu (v8 (f ((0 : Nat) + Int.toNat (↑i : Int)) (1 : Nat)) (f ((0 : Nat) + Int.toNat (↑i : Int)) (2 : Nat)) (f ((0 : Nat) + Int.toNat (↑i : Int)) (3 : Nat)) (f ((0 : Nat) + Int.toNat (↑i : Int)) (4 : Nat)) (f ((0 : Nat) + Int.toNat (↑i : Int)) (5 : Nat)) (f ((0 : Nat) + Int.toNat (↑i : Int)) (6 : Nat)) (f ((0 : Nat) + Int.toNat (↑i : Int)) (7 : Nat)) (f ((0 : Nat) + Int.toNat (↑i : Int)) (8 : Nat))) (IntKind.wrap IntKind.i64 (n * f ((0 : Nat) + Int.toNat (↑i : Int)) (0 : Nat))))) (4 : Nat))), AV.v (Value.int IntKind.i64 (ad (w8 a) (w8 (tu (v8 (f ((0 : Nat) + Int.toNat (↑i : Int)) (1 : Nat)) (f ((0 : Nat) + Int.toNat (↑i : Int)) (2 : Nat)) (f ((0 : Nat) + Int.toNat (↑i : Int)) (3 : Nat)) (f ((0 : Nat) + Int.toNat (↑i : Int)) (4 : Nat)) (f ((0 : Nat) + Int.toNat (↑i : Int)) (5 : Nat)) (f ((0 : Nat) + Int.toNat (↑i : Int)) (6 : Nat)) (f ((0 : Nat) + Int.toNat (↑i : Int)) (7 : Nat)) (f ((0 : Nat) + Int.toNat (↑i : Int)) (8 : Nat))) (IntKind.wrap IntKind.i64 (n * f ((0 : Nat) + Int.toNat (↑i : Int)) (0 : Nat))))) (5 : Nat))), AV.v (Value.int IntKind.i64 (ad (w8 a) (w8 (tu (v8 (f ((0 : Nat) + Int.toNat (↑i : Int)) (1 : Nat)) (f ((0 : Nat) + Int.toNat (↑i : Int)) (2 : Nat)) (f ((0 : Nat) + Int.toNat (↑i : Int)) (3 : Nat)) (f ((0 : Nat) + Int.toNat (↑i : Int)) (4 : Nat)) (f ((0 : Nat) + Int.toNat (↑i : Int)) (5 : Nat)) (f ((0 : Nat) + Int.toNat (↑i : Int)) (6 : Nat)) (f ((0 : Nat) + Int.toNat (↑i : Int)) (7 : Nat)) (f ((0 : Nat) + Int.toNat (↑i : Int)) (8 : Nat))) (IntKind.wrap IntKind.i64 (n * f ((0 : Nat) + Int.toNat (↑i : Int)) (0 : Nat))))) (6 : Nat))), AV.v (Value.int IntKind.i64 (ad (w8 a) (w8 (tu (v8 (f ((0 : Nat) + Int.toNat (↑i : Int)) (1 : Nat)) (f ((0 : Nat) + Int.toNat (↑i : Int)) (2 : Nat)) (f ((0 : Nat) + Int.toNat (↑i : Int)) (3 : Nat)) (f ((0 : Nat) + Int.toNat (↑i : Int)) (4 : Nat)) (f ((0 : Nat) + Int.toNat (↑i : Int)) (5 : Nat)) (f ((0 : Nat) + Int.toNat (↑i : Int)) (6 : Nat)) (f ((0 : Nat) + Int.toNat (↑i : Int)) (7 : Nat)) (f ((0 : Nat) + Int.toNat (↑i : Int)) (8 : Nat))) (IntKind.wrap IntKind.i64 (n * f ((0 : Nat) + Int.toNat (↑i : Int)) (0 : Nat))))) (7 : Nat)))] (31 : TypeId)]) else Res.out (Ex.exit (0 : Nat)) [AV.ptr (1 : Nat) (0 : Nat) (0 : Nat) (0 : Nat), AV.ptr (2 : Nat) (0 : Nat) (0 : Nat) (0 : Nat)] [AB.row false m (9 : Nat) (row9 f) t, AB.cells [AV.v (Value.int IntKind.i64 (0 : Int)), AV.v (Value.int IntKind.i64 (0 : Int)), AV.v (Value.int IntKind.i64 (0 : Int)), AV.v (Value.int IntKind.i64 (0 : Int)), AV.v (Value.int IntKind.i64 (0 : Int)), AV.v (Value.int IntKind.i64 (0 : Int)), AV.v (Value.int IntKind.i64 (0 : Int)), AV.v (Value.int IntKind.i64 (0 : Int))] (31 : TypeId), AB.cells [AV.v (Value.int IntKind.i64 (a (0 : Nat))), AV.v (Value.int IntKind.i64 (a (1 : Nat))), AV.v (Value.int IntKind.i64 (a (2 : Nat))), AV.v (Value.int IntKind.i64 (a (3 : Nat))), AV.v (Value.int IntKind.i64 (a (4 : Nat))), AV.v (Value.int IntKind.i64 (a (5 : Nat))), AV.v (Value.int IntKind.i64 (a (6 : Nat))), AV.v (Value.int IntKind.i64 (a (7 : Nat)))] (31 : TypeId)] := by kernel_rfl

noncomputable abbrev lamAI (m : Nat) (f : Nat → Nat → Int) (t : TypeId) (n : Int) (b : Nat → Int) : Nat → Option Sum := oneL 0 (atS 25 (lvAI .normal) 1 (stAI m n 0) (hpAt m f t fun _ => 0) (fun K => K .normal (mkT 0 25 [(4, .ptr 1 0 0 0), (5, .ptr 2 0 0 0)]) (hpAt m f t b)))
theorem treeAI (m : Nat) (f : Nat → Nat → Int) (t : TypeId) (n : Int) (b : Nat → Int) : execF Try.prog g0 (lamAI m f t n b) 100 Try.f64 [.sl 0 9 0 0 m none, .v (i64 n)] [.row false m 9 (row9 f) t] (packK 1)
    = needs [chk ([AV.v (Value.int IntKind.i64 n), AV.ptr (1 : Nat) (0 : Nat) (0 : Nat) (0 : Nat), AV.ptr (2 : Nat) (0 : Nat) (0 : Nat) (0 : Nat), AV.sl (0 : Nat) (9 : Nat) (0 : Nat) (0 : Nat) m none, AV.v (Value.int IntKind.i64 (↑m : Int)), AV.v (Value.int IntKind.i64 (0 : Int))] = stAI m n (0 : Nat) ∧ Hsim [AB.row false m (9 : Nat) (row9 f) t, AB.cells [AV.v (Value.int IntKind.i64 (0 : Int)), AV.v (Value.int IntKind.i64 (0 : Int)), AV.v (Value.int IntKind.i64 (0 : Int)), AV.v (Value.int IntKind.i64 (0 : Int)), AV.v (Value.int IntKind.i64 (0 : Int)), AV.v (Value.int IntKind.i64 (0 : Int)), AV.v (Value.int IntKind.i64 (0 : Int)), AV.v (Value.int IntKind.i64 (0 : Int))] (31 : Nat), AB.cells [AV.v (Value.int IntKind.i64 (0 : Int)), AV.v (Value.int IntKind.i64 (0 : Int)), AV.v (Value.int IntKind.i64 (0 : Int)), AV.v (Value.int IntKind.i64 (0 : Int)), AV.v (Value.int IntKind.i64 (0 : Int)), AV.v (Value.int IntKind.i64 (0 : Int)), AV.v (Value.int IntKind.i64 (0 : Int)), AV.v (Value.int IntKind.i64 (0 : Int))] (31 : Nat)] (hpAt m f t fun _ ↦ (0 : Int)))] (Res.out Ex.ret [AV.agg [AV.v (Value.int IntKind.i64 (b (0 : Nat))), AV.v (Value.int IntKind.i64 (b (1 : Nat))), AV.v (Value.int IntKind.i64 (b (2 : Nat))), AV.v (Value.int IntKind.i64 (b (3 : Nat))), AV.v (Value.int IntKind.i64 (b (4 : Nat))), AV.v (Value.int IntKind.i64 (b (5 : Nat))), AV.v (Value.int IntKind.i64 (b (6 : Nat))), AV.v (Value.int IntKind.i64 (b (7 : Nat)))]] [AB.row false m (9 : Nat) (row9 f) t]) := by kernel_rfl

def FatI (at_ : (Nat → Nat → Int) → Int → Nat → Nat → Int) (okd : List Wh → Bool) : List SA → Option FR
  | [.row m g, .v (.int .i64 n)] => some { val := .agg (cyC (at_ (itW g) n m)), obl := [allW m g, decide (m ≤ 2 ^ 38), okd (listW (itW g) m)] }
  | _ => none
def gmDI (at_ : (Nat → Nat → Int) → Int → Nat → Nat → Int) (okd : List Wh → Bool) (ok : (Nat → Int) → Bool) : Gam := ext (ext (ext gm_within 64 (specR md_wv (FatI at_ okd))) 58 (specR md_ws (FdvO okd))) 66 (specV (fOkc ok))
theorem treeDI (at_ : (Nat → Nat → Int) → Int → Nat → Nat → Int) (okd : List Wh → Bool) (ok : (Nat → Int) → Bool) (m : Nat) (f : Nat → Nat → Int) (t : TypeId) (n : Int) : execF Try.prog (gmDI at_ okd ok) noLam 100 Try.f18 [.sl 0 9 0 0 m none, .v (i64 n)] [.row false m 9 (row9 f) t] (packK 1)
    = needs [Nat.ble ((0 : Nat) + m) m, allW m fun q ↦ row9 f ((0 : Nat) + q), decide (m ≤ (549755813888 : Nat))] (bif !okd (listW (itW fun q ↦ row9 f ((0 : Nat) + q)) m) then Res.out Ex.ret [AV.tup [AV.agg [AV.v (Value.int IntKind.i64 (0 : Int)), AV.v (Value.int IntKind.i64 (0 : Int)), AV.v (Value.int IntKind.i64 (0 : Int)), AV.v (Value.int IntKind.i64 (0 : Int)), AV.v (Value.int IntKind.i64 (0 : Int)), AV.v (Value.int IntKind.i64 (0 : Int)), AV.v (Value.int IntKind.i64 (0 : Int)), AV.v (Value.int IntKind.i64 (0 : Int))], AV.v (Value.bool false)]] [AB.row false m (9 : Nat) (row9 f) t] else bif !inR n (0 : Int) (23 : Int) then Res.out Ex.ret [AV.tup [AV.agg [AV.v (Value.int IntKind.i64 (0 : Int)), AV.v (Value.int IntKind.i64 (0 : Int)), AV.v (Value.int IntKind.i64 (0 : Int)), AV.v (Value.int IntKind.i64 (0 : Int)), AV.v (Value.int IntKind.i64 (0 : Int)), AV.v (Value.int IntKind.i64 (0 : Int)), AV.v (Value.int IntKind.i64 (0 : Int)), AV.v (Value.int IntKind.i64 (0 : Int))], AV.v (Value.bool false)]] [AB.row false m (9 : Nat) (row9 f) t] else needs [Nat.ble ((0 : Nat) + m) m, allW m fun q ↦ row9 f ((0 : Nat) + q), decide (m ≤ (274877906944 : Nat)), okd (listW (itW fun q ↦ row9 f ((0 : Nat) + q)) m)] (bif !ok (w8 (at_ (itW fun q ↦ row9 f ((0 : Nat) + q)) n m)) then Res.out Ex.ret [AV.tup [AV.agg [AV.v (Value.int IntKind.i64 (0 : Int)), AV.v (Value.int IntKind.i64 (0 : Int)), AV.v (Value.int IntKind.i64 (0 : Int)), AV.v (Value.int IntKind.i64 (0 : Int)), AV.v (Value.int IntKind.i64 (0 : Int)), AV.v (Value.int IntKind.i64 (0 : Int)), AV.v (Value.int IntKind.i64 (0 : Int)), AV.v (Value.int IntKind.i64 (0 : Int))], AV.v (Value.bool false)]] [AB.row false m (9 : Nat) (row9 f) t] else Res.out Ex.ret [AV.tup [AV.agg [AV.v (Value.int IntKind.i64 (at_ (itW fun q ↦ row9 f ((0 : Nat) + q)) n m (0 : Nat))), AV.v (Value.int IntKind.i64 (at_ (itW fun q ↦ row9 f ((0 : Nat) + q)) n m (1 : Nat))), AV.v (Value.int IntKind.i64 (at_ (itW fun q ↦ row9 f ((0 : Nat) + q)) n m (2 : Nat))), AV.v (Value.int IntKind.i64 (at_ (itW fun q ↦ row9 f ((0 : Nat) + q)) n m (3 : Nat))), AV.v (Value.int IntKind.i64 (at_ (itW fun q ↦ row9 f ((0 : Nat) + q)) n m (4 : Nat))), AV.v (Value.int IntKind.i64 (at_ (itW fun q ↦ row9 f ((0 : Nat) + q)) n m (5 : Nat))), AV.v (Value.int IntKind.i64 (at_ (itW fun q ↦ row9 f ((0 : Nat) + q)) n m (6 : Nat))), AV.v (Value.int IntKind.i64 (at_ (itW fun q ↦ row9 f ((0 : Nat) + q)) n m (7 : Nat)))], AV.v (Value.bool true)]] [AB.row false m (9 : Nat) (row9 f) t])) := by kernel_rfl

def FDAo (dv : (Nat → Nat → Int) → Int → Nat → Nat → Int) (dk : (Nat → Nat → Int) → Int → Nat → Bool) : List SA → Option FR
  | [.row m g, .v (.int .i64 n)] => some { val := .tup [.agg (cyC (dv (itW g) n m)), .v (.bool (dk (itW g) n m))], obl := [allW m g, decide (m ≤ 2 ^ 38)] }
  | _ => none
theorem gmAI_ok : GamOk Try.prog (gmAI tuF plusF) := by
  unfold gmAI
  rw [fAdd2_eq]
  exact ext_ok (ext_ok g0_ok ok_tuI) ok_plus
theorem atF_next (f : Nat → Nat → Int) (n : Int) (i : Nat) : atF f n (i + 1) = plusF (atF f n i) (tuF (v8 (f i 1) (f i 2) (f i 3) (f i 4) (f i 5) (f i 6) (f i 7) (f i 8)) (IntKind.wrap IntKind.i64 (n * f i 0))) := by
  funext k
  show W (atF f n i k + 1 * _) = W (atF f n i k + _)
  rw [Int.one_mul]
theorem sumAI (m : Nat) (f : Nat → Nat → Int) (t : TypeId) (n : Int) (hm : m ≤ 2 ^ 40) (hok : ∀ w ∈ listW f m, inB w.r.f = true) :
    SumOk Try.prog 1 (.block 0 (.loop (loopAt 0 Try.f64))) (atS 25 (lvAI .normal) 1 (stAI m n 0) (hpAt m f t fun _ => 0) (fun K => K .normal (mkT 0 25 [(4, .ptr 1 0 0 0), (5, .ptr 2 0 0 0)]) (hpAt m f t (atF f n m)))) := by
  refine for_at gmAI_ok (n := 100) (m := 1) (lv := lvAI) (fun i => stAI m n i) (fun i => hpAt m f t (atF f n i)) (fun _ => True) m (fun _ => noLam) (lv3_ris rfl rfl rfl) (Nat.le_refl _) trivial fun K Q hk i hi him => ⟨noLam_ok _ _ _, ?_⟩
  rw [rndAI]
  refine good_cond (fun c1 => ?_) fun c1 => ?_
  · have c1 := of_decide_eq_true c1
    have c1' : i < m := by omega
    rw [Int.toNat_natCast, Nat.zero_add, wr_in (x := (i : Int) + 1) (by omega)]
    refine good_needs ?_ (good_out ⟨i + 1, ⟨rfl, c1', trivial⟩, rfl, ?_⟩)
    · simp only [ob_cons, ob_nil, and_true, decide_eq_true_eq]
      exact ⟨by omega, by omega, hok _ (List.mem_of_getElem? (listW_get f c1')), inR_iff.2 (w64_range _)⟩
    · show Hsim _ (hpAt m f t (atF f n (i + 1)))
      rw [atF_next]
      exact Hsim.refl _
  · have c1 := of_decide_eq_false c1
    have : i = m := by omega
    subst this
    refine good_out ⟨_, Hsim.refl _, ?_⟩
    rw [if_pos rfl]
    exact hk
theorem ok_atI : SpecOk Try.prog 64 (specR md_wv (FatI atF okD)) := by
  refine specR_hr g0_ok Try.func64 rfl fun sas fr hF ho => ?_
  unfold FatI at hF
  split at hF
  · rename_i m g n
    cases hF
    simp only [ob_cons] at ho
    obtain ⟨h1, h2, h3, _⟩ := ho
    have hm := of_decide_eq_true h2
    refine ⟨[.row false m 9 (row9 (itW g)) 46], lamAI m (itW g) 46 n (atF (itW g) n m), 100, .cons (ABeq.row fun j hj => allW_get h1 j hj) .nil, lam1 (by kernel_rfl) (sumAI m (itW g) 46 n (by omega) fun w hw => valid_inB h3 hw), ?_⟩
    show GoodQ (execF Try.prog g0 (lamAI m (itW g) 46 n (atF (itW g) n m)) 100 Try.f64 [.sl 0 9 0 0 m none, .v (i64 n)] [.row false m 9 (row9 (itW g)) 46] (packK 1)) _
    rw [treeAI]
    exact good_needs (by rw [ob_cons]; exact ⟨chk_of ⟨rfl, Hsim.refl _⟩, rfl⟩) (good_out ⟨_, rfl, rfl, .cons (ABeq.row fun j hj => (allW_get h1 j hj).symm) .nil⟩)
  · cases hF
theorem gmDI_ok : GamOk Try.prog (gmDI atF okD (fun v => cyOk (cyOf v))) := by
  unfold gmDI
  rw [fOkc_eq, FdvO_eq]
  exact ext_ok (ext_ok (ext_ok gm_within_ok ok_atI) ok_dvI) ok_cvI
theorem FDAo_eq : FDAo daV daOk = F_DA := by
  funext l
  rfl
theorem ok_DAI : SpecOk Try.prog 18 (specR md_wv (FDAo daV daOk)) := by
  refine specR_hr gmDI_ok Try.func18 rfl fun sas fr hF ho => ?_
  unfold FDAo at hF
  split at hF
  · rename_i m g n
    cases hF
    simp only [ob_cons] at ho
    obtain ⟨h1, h2, _⟩ := ho
    have hm := of_decide_eq_true h2
    refine ⟨[.row false m 9 (row9 (itW g)) 46], noLam, 100, .cons (ABeq.row fun j hj => allW_get h1 j hj) .nil, noLam' _, ?_⟩
    show GoodQ (execF Try.prog (gmDI atF okD (fun v => cyOk (cyOf v))) noLam 100 Try.f18 [.sl 0 9 0 0 m none, .v (i64 n)] [.row false m 9 (row9 (itW g)) 46] (packK 1)) _
    rw [treeDI, row0, listW_itW, atF_row]
    have fin : ∀ (c : Bool) (b : Nat → Int), daOk (itW g) n m = c → cyC b = cyC (bif c then atF (itW g) n m else fun _ => 0) → GoodQ (.out .ret [.tup [.agg (cyC b), .v (.bool c)]] [.row false m 9 (row9 (itW g)) 46])
        (GivR (abP md_wv [.row m g, .v (.int .i64 n)] []) { val := .tup [.agg (cyC (daV (itW g) n m)), .v (.bool (daOk (itW g) n m))], obl := [allW m g, decide (m ≤ 2 ^ 38)] }) := by
      rintro c b rfl hb
      refine good_out ⟨_, rfl, ?_, .cons (ABeq.row fun j hj => (allW_get h1 j hj).symm) .nil⟩
      rw [hb]
      rfl
    refine good_needs (by simp only [ob_cons, ob_nil, and_true, decide_eq_true_eq, Nat.ble_eq, allW_row, true_and]; omega) (good_cond (fun q => ?_) fun q => ?_)
    · have q' : (!okD (listW (itW g) m)) = true := q
      have q2 : okD (listW (itW g) m) = false := by simpa using q'
      exact fin false (fun _ => 0) (by unfold daOk; rw [q2]; rfl) rfl
    · have q' : (!okD (listW (itW g) m)) = false := q
      have qd : okD (listW (itW g) m) = true := by simpa using q'
      refine good_cond (fun q2 => ?_) fun q2 => ?_
      · have q2 : inR n 0 23 = false := by simpa using q2
        exact fin false (fun _ => 0) (by unfold daOk; rw [qd, q2]; rfl) rfl
      · have q2 : inR n 0 23 = true := by simpa using q2
        refine good_needs (by simp only [ob_cons, ob_nil, and_true, decide_eq_true_eq, Nat.ble_eq, allW_row, true_and]; exact ⟨by omega, hm, qd⟩) (good_cond (fun q3 => ?_) fun q3 => ?_)
        · have q3' : (!cyOk (cyOf (atF (itW g) n m))) = true := q3
          have q4 : cyOk (cyOf (atF (itW g) n m)) = false := by simpa using q3'
          exact fin false (fun _ => 0) (by unfold daOk; rw [qd, q2, q4]; rfl) rfl
        · have q3' : (!cyOk (cyOf (atF (itW g) n m))) = false := q3
          have q4 : cyOk (cyOf (atF (itW g) n m)) = true := by simpa using q3'
          exact fin true (atF (itW g) n m) (by unfold daOk; rw [qd, q2, q4]; rfl) rfl
  · cases hF

theorem daOk_row (f : Nat → Nat → Int) (n : Int) (m : Nat) : daOk (itW (row9 f)) n m = daOk f n m := by unfold daOk; rw [listW_itW, atF_row]
theorem daV_row (f : Nat → Nat → Int) (n : Int) (m : Nat) : daV (itW (row9 f)) n m = daV f n m := by unfold daV; rw [daOk_row, atF_row]
theorem daV_in (f : Nat → Nat → Int) (n : Int) (m : Nat) : inB (w8 (daV f n m)) = true := by
  refine smallF_iff.2 fun k hk => ?_
  have e : w8 (daV f n m) k = daV f n m k := by
    rcases (by omega : k = 0 ∨ k = 1 ∨ k = 2 ∨ k = 3 ∨ k = 4 ∨ k = 5 ∨ k = 6 ∨ k = 7) with rfl | rfl | rfl | rfl | rfl | rfl | rfl | rfl <;> rfl
  rw [e]
  unfold daV
  cases h : daOk f n m with
  | false => show (-9223372036854775808 : Int) ≤ 0 ∧ (0 : Int) ≤ 9223372036854775807; omega
  | true =>
    unfold daOk at h
    rw [Bool.and_eq_true] at h
    have := smallF_iff.1 h.2 k hk
    rw [cyOf_f8 _ k hk] at this
    show -9223372036854775808 ≤ atF f n m k ∧ atF f n m k ≤ 9223372036854775807
    omega

end Go.Proofs.Ytmdcafhnjihckaa

/- The point of a design at a turn, in whole numbers. No program, no conditions. -/
namespace Go.Proofs.Ytmdcafhnjihckaa
open Go.RowKit

def atT (t : Int) (k : Nat) : Int → (Nat → Int) → Int := fun s f => tnI f (t * s) k
theorem atT_lin (t : Int) (k : Nat) : Lin (atT t k) := fun s f g => by
  unfold atT
  rw [tnI_add]
/-- The point at a turn. -/
def dAt (L : List Wh) (t : Int) (k : Nat) : Int := linS (atT t k) L
theorem okD_all {L : List Wh} (h : okD L = true) {w : Wh} (hw : w ∈ L) : (-1000 ≤ w.s ∧ w.s ≤ 1000) ∧ bd8 1000000 w.r.f ∧ cyOk w.r = true := by
  rw [okD, Bool.and_eq_true, List.all_eq_true] at h
  have := h.2 w hw
  rw [Bool.and_eq_true] at this
  exact ⟨inR_iff.1 this.1, cyOk_bd this.2, this.2⟩
theorem okD_bd {L : List Wh} (h : okD L = true) : bdW 1000000 L := fun _ hw => (okD_all h hw).2.1
theorem tnI_bd {B : Int} {f : Nat → Int} (h : bd8 B f) (n : Int) : bd8 (2 * B) (tnI f n) := tnZ_bd h _
theorem dAt_nil (t : Int) (k : Nat) : dAt [] t k = 0 := rfl
theorem atF_exact {f : Nat → Nat → Int} {m : Nat} {n : Int} (hd : okD (listW f m) = true) (h0 : 0 ≤ n) (h1 : n ≤ 23) : ∀ i, i ≤ m → ∀ k, k < 8 → atF f n i k = dAt (listW f i) n k ∧ -(2000000 * (i : Int)) ≤ dAt (listW f i) n k ∧ dAt (listW f i) n k ≤ 2000000 * (i : Int)
  | 0, _, k, _ => by
    refine ⟨rfl, ?_⟩
    show -(2000000 * ((0 : Nat) : Int)) ≤ 0 ∧ 0 ≤ 2000000 * ((0 : Nat) : Int)
    omega
  | i + 1, hi, k, hk => by
    have ih := atF_exact hd h0 h1 i (by omega) k hk
    have hmem : whOf (f i) ∈ listW f m := List.mem_of_getElem? (listW_get f (by omega))
    obtain ⟨hs, hb, _⟩ := okD_all hd hmem
    have hlen := okD_len hd
    rw [listW_length] at hlen
    have hs' : -1000 ≤ f i 0 ∧ f i 0 ≤ 1000 := hs
    have hmul := mul_bd (x := n) (y := f i 0) (A := 23) (B := 1000) (by omega) h1 hs'.1 hs'.2
    have e : atF f n (i + 1) k = W (atF f n i k + 1 * turnedF (whOf (f i)).r.f ((IntKind.wrap IntKind.i64 (n * f i 0)) % 24).toNat k) := rfl
    have e2 : IntKind.wrap IntKind.i64 (n * f i 0) = n * f i 0 := wr_in (by omega)
    have hb2 := tnI_bd hb (n * f i 0) k hk
    have e3 : dAt (listW f (i + 1)) n k = dAt (listW f i) n k + tnI (whOf (f i)).r.f (n * f i 0) k := by
      rw [dAt, listW_succ, linS_append]
      show _ + (tnI (whOf (f i)).r.f (n * f i 0) k + 0) = _
      rw [Int.add_zero]
      rfl
    rw [e, e2, turnedF_Z hb (by omega) _ k hk, e3, ih.1]
    show W (dAt (listW f i) n k + 1 * tnI (whOf (f i)).r.f (n * f i 0) k) = _ ∧ _
    rw [Int.one_mul, w64_in (by omega) (by omega)]
    refine ⟨rfl, ?_⟩
    omega
/-- What DesignAt tells. -/
theorem da_spec {f : Nat → Nat → Int} {m : Nat} {n : Int} (h : daOk f n m = true) : okD (listW f m) = true ∧ (0 ≤ n ∧ n ≤ 23) ∧ (∀ k, k < 8 → daV f n m k = dAt (listW f m) n k) ∧ bd8 1000000 (daV f n m) := by
  have hv : daV f n m = atF f n m := by rw [daV, h]; rfl
  rw [hv]
  rw [daOk, Bool.and_eq_true, Bool.and_eq_true] at h
  have hn := inR_iff.1 h.1.2
  refine ⟨h.1.1, hn, fun k hk => (atF_exact h.1.1 hn.1 hn.2 m (Nat.le_refl _) k hk).1, fun k hk => ?_⟩
  have := cyOk_bd h.2 k hk
  rwa [cyOf_f8 _ k hk] at this

/-- Lists changed wheel by wheel: what l5Each makes of a design, in whole numbers. -/
theorem chE_f {sp tn la : Int} {w : Wh} (hs : -1000 ≤ w.s ∧ w.s ≤ 1000) (hb : bd8 1000000 w.r.f) (h1 : -20 ≤ sp ∧ sp ≤ 20) (h2 : 0 ≤ tn ∧ tn ≤ 23) (h3 : 0 ≤ la ∧ la ≤ 23) :
    (chE sp tn la false w).s = sp * w.s ∧ ∀ k, k < 8 → (chE sp tn la false w).r.f k = tnI w.r.f (tn + la * w.s) k := by
  have m1 := mul_bd (x := sp) (y := w.s) (A := 20) (B := 1000) h1.1 h1.2 hs.1 hs.2
  have m2 := mul_bd (x := la) (y := w.s) (A := 23) (B := 1000) (by omega) h3.2 hs.1 hs.2
  refine ⟨wr_in (by omega), fun k hk => ?_⟩
  show (cyOf (turnedF w.r.f (IntKind.wrap IntKind.i64 (tn + IntKind.wrap IntKind.i64 (la * w.s)) % 24).toNat)).f k = _
  rw [cyOf_f8 _ k hk, wr_in (x := la * w.s) (by omega), wr_in (x := tn + la * w.s) (by omega), turnedF_Z hb (by omega) _ k hk]
  rfl
theorem mir_add (f g : Nat → Int) : mirZ (fun k => f k + g k) = fun k => mirZ f k + mirZ g k := by
  funext k
  unfold mirZ
  split <;> (first | rfl | (simp only []; omega))
theorem chE_m {sp tn la : Int} {w : Wh} (hs : -1000 ≤ w.s ∧ w.s ≤ 1000) (hb : bd8 1000000 w.r.f) (h1 : -20 ≤ sp ∧ sp ≤ 20) (h2 : 0 ≤ tn ∧ tn ≤ 23) (h3 : 0 ≤ la ∧ la ≤ 23) :
    (chE sp tn la true w).s = sp * w.s ∧ ∀ k, k < 8 → (chE sp tn la true w).r.f k = tnI (mirZ w.r.f) (tn + la * w.s) k := by
  have m1 := mul_bd (x := sp) (y := w.s) (A := 20) (B := 1000) h1.1 h1.2 hs.1 hs.2
  have m2 := mul_bd (x := la) (y := w.s) (A := 23) (B := 1000) (by omega) h3.2 hs.1 hs.2
  have hm := mir_bd hb
  have e : ∀ k, k < 8 → w8 (mirF w.r.f) k = mirZ w.r.f k := fun k hk => by
    rw [w8_at _ k hk]
    exact W8 hm (by omega) k hk
  have hm' : bd8 2000000 (w8 (mirF w.r.f)) := fun k hk => by
    rw [e k hk]
    have := hm k hk
    omega
  refine ⟨wr_in (by omega), fun k hk => ?_⟩
  show (cyOf (turnedF (w8 (mirF w.r.f)) (IntKind.wrap IntKind.i64 (tn + IntKind.wrap IntKind.i64 (la * w.s)) % 24).toNat)).f k = _
  rw [cyOf_f8 _ k hk, wr_in (x := la * w.s) (by omega), wr_in (x := tn + la * w.s) (by omega), turnedF_Z hm' (by omega) _ k hk]
  exact tnZ_congr e _ k hk
theorem chE_bd {sp tn la : Int} {mir : Bool} {w : Wh} (hs : -1000 ≤ w.s ∧ w.s ≤ 1000) (hb : bd8 1000000 w.r.f) (h1 : -20 ≤ sp ∧ sp ≤ 20) (h2 : 0 ≤ tn ∧ tn ≤ 23) (h3 : 0 ≤ la ∧ la ≤ 23) : bd8 4000000 (chE sp tn la mir w).r.f := fun k hk => by
  cases mir with
  | false =>
    rw [(chE_f hs hb h1 h2 h3).2 k hk]
    have := tnI_bd hb (tn + la * w.s) k hk
    omega
  | true =>
    rw [(chE_m hs hb h1 h2 h3).2 k hk]
    have := tnI_bd (mir_bd hb) (tn + la * w.s) k hk
    omega
/-- What l5Each tells. -/
theorem each_spec {sp tn la : Int} {mir : Bool} {L : List Wh} (h1 : -20 ≤ sp ∧ sp ≤ 20) (h : eachOk sp tn la mir L = true) : okD L = true ∧ (0 ≤ tn ∧ tn ≤ 23) ∧ (0 ≤ la ∧ la ≤ 23) ∧ isTidy (eachL sp tn la mir L) ∧ ∀ φ, Lin φ → linS φ (eachL sp tn la mir L) = linS φ (L.map (chE sp tn la mir)) := by
  rw [eachOk, Bool.and_eq_true] at h
  have hL : eachL sp tn la mir L = tidyL (L.map (chE sp tn la mir)) := by rw [eachL, h.1]; rfl
  have hp := h.1
  rw [eachP, Bool.and_eq_true, Bool.and_eq_true] at hp
  have i1 := inR_iff.1 hp.2.1
  have i2 := inR_iff.1 hp.2.2
  have hb : bdW 2000000000000 (L.map (chE sp tn la mir)) := fun w hw => by
    obtain ⟨x, hx, rfl⟩ := List.mem_map.1 hw
    obtain ⟨a1, a2, _⟩ := okD_all hp.1 hx
    exact (chE_bd a1 a2 h1 i1 i2).mono (by omega)
  rw [hL]
  exact ⟨hp.1, i1, i2, tidyL_lin hb h.2⟩
theorem tidy_okD {T : List Wh} (h : isTidy T) : okD T = true := h.2.2
/-- The sums of what l5Each makes. -/
theorem each_lin {sp tn la : Int} {L : List Wh} (h1 : -20 ≤ sp ∧ sp ≤ 20) (h : eachOk sp tn la false L = true) {φ : Int → (Nat → Int) → Int} (hφ : Lin φ) (hc : ∀ s f g, (∀ k, k < 8 → f k = g k) → φ s f = φ s g) : linS φ (eachL sp tn la false L) = linS (fun s f => φ (sp * s) (tnI f (tn + la * s))) L := by
  obtain ⟨hd, i1, i2, _, hl⟩ := each_spec h1 h
  rw [hl φ hφ]
  refine linS_map fun w hw => ?_
  obtain ⟨a1, a2, _⟩ := okD_all hd hw
  obtain ⟨e1, e2⟩ := chE_f a1 a2 h1 i1 i2
  rw [e1]
  exact hc _ _ _ e2
theorem each_linM {sp tn la : Int} {L : List Wh} (h1 : -20 ≤ sp ∧ sp ≤ 20) (h : eachOk sp tn la true L = true) {φ : Int → (Nat → Int) → Int} (hφ : Lin φ) (hc : ∀ s f g, (∀ k, k < 8 → f k = g k) → φ s f = φ s g) : linS φ (eachL sp tn la true L) = linS (fun s f => φ (sp * s) (tnI (mirZ f) (tn + la * s))) L := by
  obtain ⟨hd, i1, i2, _, hl⟩ := each_spec h1 h
  rw [hl φ hφ]
  refine linS_map fun w hw => ?_
  obtain ⟨a1, a2, _⟩ := okD_all hd hw
  obtain ⟨e1, e2⟩ := chE_m a1 a2 h1 i1 i2
  rw [e1]
  exact hc _ _ _ e2
theorem atT_congr (t : Int) {k : Nat} (hk : k < 8) (s : Int) (f g : Nat → Int) (h : ∀ j, j < 8 → f j = g j) : atT t k s f = atT t k s g := tnI_congr h _ k hk
theorem atSp_congr (s0 : Int) {k : Nat} (hk : k < 8) (s : Int) (f g : Nat → Int) (h : ∀ j, j < 8 → f j = g j) : atSp s0 k s f = atSp s0 k s g := by
  unfold atSp
  rw [h k hk]
/-- A turn is linear in the sums: the point turned is the sum of the wheels turned. -/
theorem linS_tn {φ : Nat → Int → (Nat → Int) → Int} {c : Int} : ∀ (L : List Wh) (k : Nat), tnI (fun k => linS (φ k) L) c k = linS (fun s f => tnI (fun k => φ k s f) c k) L
  | [], k => by
    show tnZ (fun _ => 0) (c % 24).toNat k = 0
    have : ∀ n, tnZ (fun _ => 0) n = fun _ => 0 := fun n => by
      induction n with
      | zero => rfl
      | succ n ih =>
        show stZ (tnZ (fun _ => 0) n) = _
        rw [ih]
        funext k
        unfold stZ
        split <;> rfl
    rw [this]
  | w :: l, k => by
    show tnI (fun k => φ k w.s w.r.f + linS (φ k) l) c k = _
    rw [tnI_add]
    show tnI (fun k => φ k w.s w.r.f) c k + tnI (fun k => linS (φ k) l) c k = _
    rw [linS_tn l k]
    rfl
/-- The point turned. -/
theorem dAt_tn (L : List Wh) (t c : Int) {k : Nat} (hk : k < 8) : tnI (dAt L t) c k = linS (fun s f => tnI f (t * s + c) k) L := by
  show tnI (fun k => linS (atT t k) L) c k = _
  rw [linS_tn]
  refine linS_congr fun w hw => ?_
  show tnI (tnI w.r.f (t * w.s)) c k = tnI w.r.f (t * w.s + c) k
  exact tnI_tnI _ _ _ k hk

end Go.Proofs.Ytmdcafhnjihckaa
