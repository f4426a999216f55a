/- A design's text is set and shown: FnExecuteSet returns true, and its arguments read as before. Conditions: the tables, as the row lists them; tied by the card. -/
import Derived.Test.YtddhmidegldhdaaGreatDoorZD0
import Derived.Test.YtddhmidegldhdaaGreatDoorZD1
import Derived.Test.YtddhmidegldhdaaGreatDoorZD2
import Derived.Test.YtddhmidegldhdaaGreatDoorZD3
import Derived.Test.YtddhmidegldhdaaGreatDoorZD4
import Derived.Test.YtddhmidegldhdaaGreatDoorZD5
import Derived.Test.YtddhmidegldhdaaGreatDoorZD6
import Derived.Test.YtddhmidegldhdaaGreatDoorZD7
import Derived.Test.YtddhmidegldhdaaGreatDoorZD8
import Derived.Test.YtddhmidegldhdaaGreatDoorZD9
import Derived.Test.YtddhmidegldhdaaGreatDoorTie
import Derived.SevenTiedAt
/- The laws' digits, endLine. Conditions: the int's range. -/
namespace Go.Proofs.YtddhmidegldhdaaGreatDoor
open Go.RowKit Go.Shelf
set_option maxRecDepth 100000

def gmDgt (dc : Int → ByteArray) (p : Int → Bool) : Gam := ext g0 16 (specV (fDecP dc p))

theorem treeDgt_h (dc : Int → ByteArray) (p : Int → Bool) (n : Int) (u0 : _) (hu0 : (IntKind.wrap .i64 ((48 : Int) + Int.tmod n (10 : Int))) = u0) (u1 : _) (hu1 : (IntKind.wrap .i64 (Int.tdiv n (10 : Int))) = u1) (u2 : _) (hu2 : (IntKind.wrap .i64 ((48 : Int) + n)) = u2) (u3 : _) (hu3 : (IntKind.wrap .i64 ((0 : Int) - n)) = u3) (u4 : _) (hu4 : (txOf [u8Of (IntKind.wrap .u8 u0)]) = u4) : execF Tryz.prog (gmDgt dc p) noLam 100 Tryz.f16 [.v (i64 n)] [] valK
    = bif decide (n < (0 : Int)) then needs [p u3, Nat.ble ((1 : Nat) + ByteArray.size (dc u3)) (9223372036854775807 : Nat)] (Res.out .ret [AV.v (.string (catB (ByteArray.mk (Array.mk [(45 : UInt8)])) (dc u3)))] []) else bif decide (n < (10 : Int)) then needs [decide ((0 : Int) ≤ IntKind.wrap .u8 u2), decide (IntKind.wrap .u8 u2 < (256 : Int))] (Res.out .ret [AV.v (.string (txOf [u8Of (IntKind.wrap .u8 u2)]))] []) else needs [p u1, decide ((0 : Int) ≤ IntKind.wrap .u8 u0), decide (IntKind.wrap .u8 u0 < (256 : Int)), Nat.ble (ByteArray.size (dc u1) + ByteArray.size u4) (9223372036854775807 : Nat)] (Res.out .ret [AV.v (.string (catB (dc u1) u4))] []) := by
  subst hu4 hu3 hu2 hu1 hu0
  kernel_rfl
theorem treeDgt (dc : Int → ByteArray) (p : Int → Bool) (n : Int) : type_of% (treeDgt_h dc p n _ rfl _ rfl _ rfl _ rfl _ rfl) := treeDgt_h dc p n _ rfl _ rfl _ rfl _ rfl _ rfl

theorem dgt_step {p q : Int → Bool} (hp : SpecOk Tryz.prog 16 (specV (fDecP decB p))) (h1 : ∀ n, q n = true → -9223372036854775807 ≤ n ∧ n ≤ 9223372036854775807) (h2 : ∀ n, q n = true → n < 0 → p (-n) = true)
    (h3 : ∀ n, q n = true → 10 ≤ n → p (n.tdiv 10) = true) : SpecOk Tryz.prog 16 (specV (fDecP decB q)) := by
  refine mkV (n := 100) (ext_ok g0_ok hp) Tryz.func16 rfl fun vs x ob hF ho => ?_
  unfold fDecP at hF
  split at hF
  · rename_i n
    simp only [Option.some.injEq, Prod.mk.injEq] at hF
    obtain ⟨rfl, rfl⟩ := hF
    have hq : q n = true := by simpa [obls] using ho
    obtain ⟨r1, r2⟩ := h1 n hq
    have e := treeDgt decB p n
    unfold gmDgt at e
    simp only [List.map_cons, List.map_nil]
    rw [e]
    have W1 : ∀ {x : Int}, -9223372036854775808 ≤ x → x ≤ 9223372036854775807 → IntKind.wrap IntKind.i64 x = x := fun a b => wr_in ⟨a, b⟩
    have U1 : ∀ {x : Int}, 0 ≤ x → x < 10 → 0 ≤ IntKind.wrap IntKind.u8 (48 + x) ∧ IntKind.wrap IntKind.u8 (48 + x) < 256 := fun _ _ => by rw [IntKind.wrap_u8]; omega
    suffices h : GoodQ _ (Gives (.string (decB n))) from ⟨h.out⟩
    refine good_cond (fun c2 => ?_) fun c2 => good_cond (fun c3 => ?_) fun c3 => ?_
    · have c2 := of_decide_eq_true c2
      rw [W1 (by omega) (by omega), Int.zero_sub]
      have hs := decB_size (n := -n) (by omega) (by omega)
      refine good_needs (by simp only [ob_cons, ob_nil, and_true, Nat.ble_eq]; exact ⟨h2 n hq c2, by omega⟩) (good_out ⟨_, rfl, ?_⟩)
      rw [decB_neg c2]
      rfl
    · have c2 := of_decide_eq_false c2
      have c3 := of_decide_eq_true c3
      rw [W1 (by omega) (by omega)]
      obtain ⟨u1, u2⟩ := U1 (x := n) (by omega) (by omega)
      refine good_needs (by simp only [ob_cons, ob_nil, and_true, decide_eq_true_eq]; exact ⟨u1, u2⟩) (good_out ⟨_, rfl, ?_⟩)
      rw [decB_small (by omega) (by omega)]
      rfl
    · have c2 := of_decide_eq_false c2
      have c3 := of_decide_eq_false c3
      have e1 : n.tdiv 10 = n / 10 := Int.tdiv_eq_ediv_of_nonneg (by omega)
      have e2 : n.tmod 10 = n % 10 := Int.tmod_eq_emod_of_nonneg (by omega)
      have hp := h3 n hq (by omega)
      rw [W1 (x := n.tdiv 10) (by omega) (by omega), W1 (x := 48 + n.tmod 10) (by omega) (by omega)]
      obtain ⟨u1, u2⟩ := U1 (x := n.tmod 10) (by omega) (by omega)
      have hs := decB_size (n := n.tdiv 10) (by omega) (by omega)
      have ht : (txOf [u8Of (IntKind.wrap IntKind.u8 (48 + n.tmod 10))]).size = 1 := rfl
      refine good_needs (by simp only [ob_cons, ob_nil, and_true, decide_eq_true_eq, Nat.ble_eq]; exact ⟨hp, u1, u2, by omega⟩) (good_out ⟨_, rfl, ?_⟩)
      rw [decB_big (n := n) (by omega)]
      rfl
  · cases hF

theorem dgt_zero : SpecOk Tryz.prog 16 (specV (fDecP decB fun _ => false)) := by
  refine specV_ok (fun args w => enters 16 Tryz.f16 Tryz.func16 rfl args w) fun vs x ob hF ho => ?_
  unfold fDecP at hF
  split at hF
  · simp only [Option.some.injEq, Prod.mk.injEq] at hF
    obtain ⟨rfl, rfl⟩ := hF
    simp [obls] at ho
  · cases hF
theorem dgt_at : ∀ k : Nat, SpecOk Tryz.prog 16 (specV (fDecP decB (inDec (k + 1))))
  | 0 => dgt_step dgt_zero (fun n h => by simp only [inDec, decide_eq_true_eq] at h; omega) (fun n h => by simp only [inDec, decide_eq_true_eq] at h; omega) (fun n h => by simp only [inDec, decide_eq_true_eq] at h; omega)
  | k + 1 => dgt_step (dgt_at k) (fun n h => by simp only [inDec, decide_eq_true_eq] at h; omega) (fun n h => by simp only [inDec, decide_eq_true_eq] at h; omega) (fun n h h10 => by
    simp only [inDec, decide_eq_true_eq] at h ⊢
    rw [Int.pow_succ] at h
    have e1 : n.tdiv 10 = n / 10 := Int.tdiv_eq_ediv_of_nonneg (by omega)
    omega)
theorem ok_dgt : SpecOk Tryz.prog 16 (specV (fDecP decB fun n => decide (-9223372036854775807 ≤ n ∧ n ≤ 9223372036854775807))) :=
  dgt_step (dgt_at 19) (fun n h => by simpa using h) (fun n h h0 => by simp only [inDec, decide_eq_true_eq] at h ⊢; omega) (fun n h h0 => by
    simp only [inDec, decide_eq_true_eq] at h ⊢
    have e1 : n.tdiv 10 = n / 10 := Int.tdiv_eq_ediv_of_nonneg (by omega)
    omega)


theorem treeEl (dc : Int → ByteArray) (p : Int → Bool) (n : Nat) (W : Nat → Nat → Int) : execF Tryz.prog (ext g0 16 (specV (fDecP dc p))) noLam 100 Tryz.f17 [.sl 0 9 0 0 n none] (hpC n W) (packK 1)
    = needs [p (↑n : Int), Nat.ble ((7 : Nat) + ByteArray.size (dc (↑n : Int))) (9223372036854775807 : Nat), Nat.ble (ByteArray.size (catB (ByteArray.mk (Array.mk [(119 : UInt8), (104 : UInt8), (101 : UInt8), (101 : UInt8), (108 : UInt8), (115 : UInt8), (32 : UInt8)])) (dc (↑n : Int))) + (1 : Nat)) (9223372036854775807 : Nat)] (Res.out .ret [AV.v (.string (catB (catB (ByteArray.mk (Array.mk [(119 : UInt8), (104 : UInt8), (101 : UInt8), (101 : UInt8), (108 : UInt8), (115 : UInt8), (32 : UInt8)])) (dc (↑n : Int))) (ByteArray.mk (Array.mk [(10 : UInt8)]))))] [AB.row false n 9 (row9 W) 60]) := by kernel_rfl

def elL (n : Nat) : List UInt8 := [119, 104, 101, 101, 108, 115, 32] ++ (Lib.itoa n ++ [10])
def elB (n : Nat) : ByteArray := ⟨(elL n).toArray⟩
theorem catB_ls (a b : List UInt8) : catB ⟨a.toArray⟩ ⟨b.toArray⟩ = ⟨(a ++ b).toArray⟩ := ByteArray.mk_append_mk a b
def FelO (el : Nat → ByteArray) : List SA → Option FR
  | [.row m g] => some { val := .v (.string (el m)), obl := [allW m g, decide (m ≤ 2 ^ 38)] }
  | _ => none
theorem ok_el : SpecOk Tryz.prog 17 (specR md_ws (FelO elB)) := by
  refine specR_hr (ext_ok g0_ok ok_dgt) Tryz.func17 rfl fun sas fr hF ho => ?_
  unfold FelO at hF
  split at hF
  · rename_i m g
    cases hF
    simp only [ob_cons] at ho
    obtain ⟨h1, h2, _⟩ := ho
    have hm := of_decide_eq_true h2
    refine ⟨hpC m (itW g), noLam, 100, .cons (ABeq.row fun j hj => allW_get h1 j hj) .nil, fun _ _ => noLam_ok _ _ _, ?_⟩
    have e := treeEl decB (fun n => decide (-9223372036854775807 ≤ n ∧ n ≤ 9223372036854775807)) m (itW g)
    show GoodQ (execF Tryz.prog (ext g0 16 (specV (fDecP decB fun n => decide (-9223372036854775807 ≤ n ∧ n ≤ 9223372036854775807)))) noLam 100 Tryz.f17 [.sl 0 9 0 0 m none] (hpC m (itW g)) (packK 1)) _
    rw [e]
    have hs := decB_size (n := (m : Int)) (by omega) (by omega)
    have e1 : catB (ByteArray.mk (Array.mk [119, 104, 101, 101, 108, 115, 32])) (decB (m : Int)) = ⟨([119, 104, 101, 101, 108, 115, 32] ++ Lib.itoa m).toArray⟩ := catB_ls _ _
    have hs2 : (catB (ByteArray.mk (Array.mk [119, 104, 101, 101, 108, 115, 32])) (decB (m : Int))).size ≤ 27 := by
      rw [e1]
      have : (decB (m : Int)).size = (Lib.itoa m).length := by simp [decB, ByteArray.size]
      simp only [ByteArray.size, List.size_toArray, List.length_append, List.length_cons, List.length_nil]
      omega
    refine good_needs (by simp only [ob_cons, ob_nil, and_true, decide_eq_true_eq, Nat.ble_eq]; omega) (good_out ⟨_, rfl, ?_, .cons (ABeq.row fun j hj => (allW_get h1 j hj).symm) .nil⟩)
    rw [e1, show (ByteArray.mk (Array.mk [10])) = ⟨([10] : List UInt8).toArray⟩ from rfl, catB_ls, List.append_assoc]
    rfl
  · cases hF

end Go.Proofs.YtddhmidegldhdaaGreatDoor

/- A ring's script. Conditions: the ring's. -/
namespace Go.Proofs.YtddhmidegldhdaaGreatDoor
open Go.RowKit
set_option maxRecDepth 100000

def exB (Sg : CmdT) (s : ByteArray) : ByteArray := ⟨(endQ (exQ Sg (linesQ s.data.toList))).toArray⟩
structure ExOk (Sg : CmdT) (s : ByteArray) : Prop where
  size : s.size ≤ 900
  ok : ∀ l ∈ linesQ s.data.toList, LineOk Sg l
  len : ∀ k, (exQ Sg ((linesQ s.data.toList).take k)).2.length ≤ 90000000
  lst : ∀ k, (exQ Sg ((linesQ s.data.toList).take k)).1.length ≤ 100000
noncomputable def exOk (Sg : CmdT) (s : ByteArray) : Bool := @decide (ExOk Sg s) (Classical.propDecidable _)
theorem exOk_iff {Sg : CmdT} {s : ByteArray} : exOk Sg s = true ↔ ExOk Sg s := by
  unfold exOk
  exact @decide_eq_true_iff _ (Classical.propDecidable _)
def fExO (ex : ByteArray → ByteArray) (ok : ByteArray → Bool) : List Value → Option (Value × List Bool)
  | [.string s] => some (.string (ex s), [ok s])
  | _ => none
theorem Fr.none {w w' : World} (f : Fr (nwM w) w w') : Fr (fun _ => False) w w' := ⟨f.os, f.tape, f.output, f.size, fun k hk _ => f.block k hk (Nat.not_le.2 hk)⟩
theorem ok_ex (Sg : CmdT) : SpecOk Tryz.prog 15 (specV (fExO (exB Sg) (exOk Sg))) := by
  refine specV_ok (fun args w => enters 15 Tryz.f15 Tryz.func15 rfl args w) fun vs x ob hF ho w ht => ?_
  unfold fExO at hF
  split at hF
  · rename_i s
    simp only [Option.some.injEq, Prod.mk.injEq] at hF
    obtain ⟨rfl, rfl⟩ := hF
    simp only [ob_cons, ob_nil, and_true] at ho
    obtain ⟨h1, h2, h3, h4⟩ := exOk_iff.1 ho
    refine (calls_sess s (ht.mono fun _ _ h => h) h1 h2 h3 h4).mono ?_
    rintro e w' ⟨rfl, f⟩
    exact ⟨rfl, f.none⟩
  · cases hF
theorem tab_show : tabF showL = some (false, 99) := rfl
end Go.Proofs.YtddhmidegldhdaaGreatDoor

/- The desk: set, fold, period. Conditions: tidy lists, the rest's length. -/
namespace Go.Proofs.YtddhmidegldhdaaGreatDoor
open Go.RowKit Go.Shelf
set_option maxRecDepth 100000

def setQ (_ : List Wh) (r : List UInt8) : Option (List Wh × List UInt8) := bif yRI ⟨r.toArray⟩ then some (tRI ⟨r.toArray⟩, [111, 107]) else none
def foldQ (L : List Wh) (_ : List UInt8) : Option (List Wh × List UInt8) := some (L, Lib.itoa (fldV L))
def perQ (L : List Wh) (_ : List UInt8) : Option (List Wh × List UInt8) := some (L, Lib.itoa (perV L))
theorem tRI_tidy (s : ByteArray) : isTidy (tRI s) := by
  unfold tRI
  cases yRI s with
  | true => exact tI_tidy _
  | false => exact isTidy_nil
theorem pg_in {h : Nat → Int} {n : Nat} (hh : ∀ i, i < n → -2000 ≤ h i ∧ h i ≤ 2000) : 0 ≤ pgF h n ∧ pgF h n ≤ 2000 := pgF_in hh n (Nat.le_refl _)
theorem fld_in {L : List Wh} (h : isTidy L) : 0 ≤ fldV L ∧ fldV L ≤ 2000 := by
  rw [fldV, yI_self h, cond_true, tI_self h]
  exact pg_in fun i hi => dfH_in h hi
theorem per_in {L : List Wh} (h : isTidy L) : 0 ≤ perV L ∧ perV L ≤ 2000 := by
  rw [perV, yI_self h, cond_true, tI_self h]
  exact pg_in fun i hi => by
    have := tidy_sp h hi
    show -2000 ≤ wfun L i 0 ∧ wfun L i 0 ≤ 2000
    omega
theorem calls_nm {f : FuncId} {v : List Wh → Int} (h : SpecOk Tryz.prog f (specR md_ws (FnmO v))) {x : Value} {L : List Wh} {w : World} (hR : ReadsW w x L) (hT : isTidy L) (ht : TabOk (nwM w) w) : Calls Tryz.prog f #[x] w (VPost w (i64 (v L))) := by
  have e : specR md_ws (FnmO v) [.sl 0 9 0 0 L.length none] [.row false L.length 9 (row9 (wfun L)) 60] 1 = some { val := .v (i64 (v (meL L))), rd := [0], obl := Nat.ble (0 + L.length) L.length :: (obM L ++ []) } := rfl
  rw [meL_eq] at e
  exact v_w h [] hR e rfl (obM_ok (tidy_12 hT) _) rfl rfl ht
theorem told_one (n : Int) : toldL [n] = Lib.itoa n := by simp [toldL, Lib.join, Lib.joinTail]
theorem calls_one (n : Int) (w : World) (ht : TabOk (nwM w) w) (h : -9223372036854775808 ≤ n ∧ n ≤ 9223372036854775807) : Calls Tryz.prog 158 #[.slice (some ⟨w.heap.size, 0, none⟩) 1 1] (w.alloc (.cells #[i64 n] 3)) (VPost (w.alloc (.cells #[i64 n] 3)) (.string ⟨(Lib.itoa n).toArray⟩)) := by
  have f : Fr (nwM w) w (w.alloc (.cells #[i64 n] 3)) := fr_grown (World.grownBy_alloc w _ none) fun k e => by cases e
  have := calls_told [n] w.heap.size 0 1 _ (ht.nwf f) (by simp) (Nat.le_refl _) (by simp) (fun x hx => by rw [List.mem_singleton.1 hx]; exact h) (fun j hj => by
    have hj : j = 0 := by simp at hj; exact hj
    subst hj
    unfold World.cell?
    simp only
    rw [World.alloc_heap_new]
    rfl)
  rw [told_one] at this
  exact this
set_option maxHeartbeats 1000000 in
theorem cmd_set : CmdOk 89 setQ := fun {D L} s {w} hd ht _ hs => by
  have mixed := mixed
  have hr := calls_read s ht.nw
  have hb : ∀ (w1 : World) (v : Value), Fr (nwM w) w w1 → ReadsW w1 v (tRI s) → Calls Tryz.prog 146 #[.pointer (some ⟨D, 0, none⟩), v, .bool true] w1 (CPost D L (some (tRI s, [111, 107])) w) := fun w1 v f h => (calls_become (hd.fr f) (T := tRI s) (b := true) (fun _ => h) fun _ => tRI_tidy s).mono fun e w' h => h.after f
  have hz := fun w1 (f : Fr (nwM w) w w1) => CPost.die (L := L) hd f
  unfold setQ
  rw [show (ByteArray.mk s.data.toList.toArray) = s from bytes_ext rfl]
  clear hd ht hs
  cases hy : yRI s with
  | false =>
    rw [hy] at hr
    clear hy hb
    go_enter Tryz.func89, Tryz.ntmps89
    go_wp2_with (go_at_call 147; refine hr.mono ?_; rintro e w1 ⟨rfl, h1⟩)
    exact ⟨rfl, hz _ h1⟩
  | true =>
    rw [hy] at hr
    clear hy hz
    go_enter Tryz.func89, Tryz.ntmps89
    go_wp2_with (first | (go_at_call 147; refine hr.mono ?_; rintro e w1 ⟨⟨v, rfl, h2⟩, h1⟩) | (go_at_call 146; refine (hb _ _ ‹_› ‹_›).mono ?_; rintro e w2 h3; obtain ⟨rfl, h5⟩ := h3.some_eq))
    go_ret
    exact h5
set_option maxHeartbeats 1000000 in
theorem cmd_fold : CmdOk 100 foldQ := fun {D L} s {w} hd ht hT _ => by
  have mixed := mixed
  obtain ⟨p, n, c, hD, hR⟩ := id hd
  have hx := calls_nm ok_foI hR hT ht.nw
  have c0 : w.cell? ⟨D, 0, none⟩ = some (.slice p n c) := by rw [cell_of_row w D 0 #[.slice p n c] _ (0, 0) hD]; rfl
  have hi := fld_in hT
  have ho := fun (w1 : World) (f : Fr (nwM w) w w1) => calls_one (fldV L) w1 (ht.nw.nwf f) (by omega)
  have fin : ∀ w1 w2, Fr (nwM w) w w1 → Fr (nwM (w1.alloc (.cells #[i64 (fldV L)] 3))) (w1.alloc (.cells #[i64 (fldV L)] 3)) w2 → CPost D L (foldQ L s.data.toList) w (.returned (.string ⟨(Lib.itoa (fldV L)).toArray⟩)) w2 := fun w1 w2 f f2 => CPost.say hd hT (nw_trans (nw_trans f (fr_grown (World.grownBy_alloc w1 _ none) fun k e => by cases e)) f2)
  clear ht hD hR hT hd hi
  generalize fldV L = x at *
  go_enter Tryz.func100, Tryz.ntmps100
  go_wp2_with (first | (go_at_call 24; refine hx.mono ?_; rintro e w1 ⟨rfl, h1⟩) | (go_at_call 158; refine (ho _ ‹_›).mono ?_; rintro e w2 ⟨rfl, h2⟩))
  go_ret
  exact fin _ _ h1 h2
set_option maxHeartbeats 1000000 in
theorem cmd_period : CmdOk 101 perQ := fun {D L} s {w} hd ht hT _ => by
  have mixed := mixed
  obtain ⟨p, n, c, hD, hR⟩ := id hd
  have hx := calls_nm ok_peI hR hT ht.nw
  have c0 : w.cell? ⟨D, 0, none⟩ = some (.slice p n c) := by rw [cell_of_row w D 0 #[.slice p n c] _ (0, 0) hD]; rfl
  have hi := per_in hT
  have ho := fun (w1 : World) (f : Fr (nwM w) w w1) => calls_one (perV L) w1 (ht.nw.nwf f) (by omega)
  have fin : ∀ w1 w2, Fr (nwM w) w w1 → Fr (nwM (w1.alloc (.cells #[i64 (perV L)] 3))) (w1.alloc (.cells #[i64 (perV L)] 3)) w2 → CPost D L (perQ L s.data.toList) w (.returned (.string ⟨(Lib.itoa (perV L)).toArray⟩)) w2 := fun w1 w2 f f2 => CPost.say hd hT (nw_trans (nw_trans f (fr_grown (World.grownBy_alloc w1 _ none) fun k e => by cases e)) f2)
  clear ht hD hR hT hd hi
  generalize perV L = x at *
  go_enter Tryz.func101, Tryz.ntmps101
  go_wp2_with (first | (go_at_call 25; refine hx.mono ?_; rintro e w1 ⟨rfl, h1⟩) | (go_at_call 158; refine (ho _ ‹_›).mono ?_; rintro e w2 ⟨rfl, h2⟩))
  go_ret
  exact fin _ _ h1 h2
end Go.Proofs.YtddhmidegldhdaaGreatDoor

/- The set script. Conditions: a text that reads as a list. -/
namespace Go.Proofs.YtddhmidegldhdaaGreatDoor
open Go.RowKit
set_option maxRecDepth 100000

theorem tailX_mem {c x : UInt8} {xs : List (List UInt8)} (h : c ∈ Lib.joinTail [x] xs) : c = x ∨ ∃ l ∈ xs, c ∈ l := by
  unfold Lib.joinTail at h
  obtain ⟨l', h1, h2⟩ := List.mem_flatten.1 h
  obtain ⟨l, h3, rfl⟩ := List.mem_map.1 h1
  rcases List.mem_append.1 h2 with h2 | h2
  · exact .inl (List.mem_singleton.1 h2)
  · exact .inr ⟨l, h3, h2⟩
theorem joinX_mem {c x : UInt8} : ∀ xs : List (List UInt8), c ∈ Lib.join xs [x] → c = x ∨ ∃ l ∈ xs, c ∈ l
  | [], h => by rw [Lib.join_nil] at h; cases h
  | y :: ys, h => by
    rw [Lib.join_cons, List.mem_append] at h
    rcases h with h | h
    · exact .inr ⟨y, List.mem_cons_self, h⟩
    · rcases tailX_mem h with h | ⟨l, h1, h2⟩
      · exact .inl h
      · exact .inr ⟨l, List.mem_cons_of_mem _ h1, h2⟩
theorem wtxN_free (w : Wh) : (10 : UInt8) ∉ wtxL w := fun h => by
  unfold wtxL at h
  rw [List.mem_append, List.mem_cons] at h
  rcases h with h | h | h
  · exact nl_free _ h
  · exact absurd h (by decide)
  · rcases joinX_mem _ h with h | ⟨l, h1, h2⟩
    · exact absurd h (by decide)
    · simp only [List.mem_cons, List.not_mem_nil, or_false] at h1
      rcases h1 with rfl | rfl | rfl | rfl | rfl | rfl | rfl | rfl <;> exact nl_free _ h2
theorem textN_free (T : List Wh) : (10 : UInt8) ∉ (textB T).data.toList := fun h => by
  unfold textB at h
  cases hT : T.isEmpty with
  | true =>
    rw [hT, cond_true] at h
    exact absurd h (by decide)
  | false =>
    rw [hT, cond_false] at h
    rcases joinX_mem _ (show (10 : UInt8) ∈ textL T from h) with h | ⟨l, h1, h2⟩
    · exact absurd h (by decide)
    · obtain ⟨w, _, rfl⟩ := List.mem_map.1 h1
      exact wtxN_free w h2
def setW : List UInt8 := [115, 101, 116]
def foldW : List UInt8 := [102, 111, 108, 100]
def perW : List UInt8 := [112, 101, 114, 105, 111, 100]
def setL (s : List UInt8) : List UInt8 := setW ++ 32 :: s
def setS (s : List UInt8) : List UInt8 := setL s ++ 10 :: (showL ++ 10 :: (foldW ++ 10 :: (perW ++ 10 :: [])))
theorem setL_cut (s : List UInt8) : Lib.cut (setL s) [32] = (setW, s, true) := cut_app (by decide)
theorem foldW_cut : Lib.cut foldW [32] = (foldW, [], false) := cut_free (by decide)
theorem perW_cut : Lib.cut perW [32] = (perW, [], false) := cut_free (by decide)
theorem setS_lines {s : List UInt8} (h : (10 : UInt8) ∉ s) : linesQ (setS s) = [setL s, showL, foldW, perW] := by
  have h1 : (10 : UInt8) ∉ setL s := by
    unfold setL
    rw [List.mem_append, List.mem_cons]
    rintro (h' | h' | h')
    · exact absurd h' (by decide)
    · exact absurd h' (by decide)
    · exact h h'
  unfold linesQ
  rw [setS, cuC_app _ _ h1, cuC_app _ _ (by decide), cuC_app _ _ (by decide), cuC_app _ _ (by decide), cuC]
  rfl
def SgS : CmdT := fun wd => bif wd == setW then setQ else bif wd == showL then showQ else bif wd == foldW then foldQ else bif wd == perW then perQ else fun _ _ => none
theorem sgS_set : SgS setW = setQ := rfl
theorem sgS_show : SgS showL = showQ := rfl
theorem sgS_fold : SgS foldW = foldQ := rfl
theorem sgS_per : SgS perW = perQ := rfl
theorem line_set (s : List UInt8) : LineOk SgS (setL s) := fun r f h _ => by
  rw [setL_cut] at h ⊢
  have e : (setW, s, true).1 = setW := rfl
  rw [e] at h ⊢
  have : tabF setW = some (true, 89) := rfl
  rw [this] at h
  simp only [Option.some.injEq, Prod.mk.injEq] at h
  obtain ⟨_, rfl⟩ := h
  rw [sgS_set]
  exact @cmd_set
theorem line_show2 : LineOk SgS showL := fun r f h _ => by
  rw [show_cut] at h ⊢
  simp only [tab_show, Option.some.injEq, Prod.mk.injEq] at h ⊢
  obtain ⟨_, rfl⟩ := h
  rw [sgS_show]
  exact @cmd_show
theorem line_fold : LineOk SgS foldW := fun r f h _ => by
  rw [foldW_cut] at h ⊢
  have : tabF foldW = some (false, 100) := rfl
  simp only [this, Option.some.injEq, Prod.mk.injEq] at h ⊢
  obtain ⟨_, rfl⟩ := h
  rw [sgS_fold]
  exact @cmd_fold
theorem line_per : LineOk SgS perW := fun r f h _ => by
  rw [perW_cut] at h ⊢
  have : tabF perW = some (false, 101) := rfl
  simp only [this, Option.some.injEq, Prod.mk.injEq] at h ⊢
  obtain ⟨_, rfl⟩ := h
  rw [sgS_per]
  exact @cmd_period

end Go.Proofs.YtddhmidegldhdaaGreatDoor

/- The set script's session. Conditions: a text that reads as a list. -/
namespace Go.Proofs.YtddhmidegldhdaaGreatDoor
open Go.RowKit
set_option maxRecDepth 100000

theorem set_line {s : ByteArray} (hy : yRI s = true) (L : List Wh) : lineQ SgS L (setL s.data.toList) = (tRI s, [111, 107]) := by
  have e : setQ L s.data.toList = some (tRI s, [111, 107]) := by
    unfold setQ
    rw [show (ByteArray.mk s.data.toList.toArray) = s from bytes_ext rfl, hy]
    rfl
  have ht : tabF setW = some (true, 89) := rfl
  unfold lineQ
  simp only [setL_cut, ht, sgS_set, e]
  rfl
theorem show_lineS (L : List Wh) : lineQ SgS L showL = (L, (txV L).data.toList) := by
  unfold lineQ
  simp only [show_cut, tab_show, sgS_show]
  rfl
theorem fold_line (L : List Wh) : lineQ SgS L foldW = (L, Lib.itoa (fldV L)) := by
  have ht : tabF foldW = some (false, 100) := rfl
  unfold lineQ
  simp only [foldW_cut, ht, sgS_fold]
  rfl
theorem per_line (L : List Wh) : lineQ SgS L perW = (L, Lib.itoa (perV L)) := by
  have ht : tabF perW = some (false, 101) := rfl
  unfold lineQ
  simp only [perW_cut, ht, sgS_per]
  rfl
theorem set_sess {s : ByteArray} (hy : yRI s = true) : exQ SgS [setL s.data.toList, showL, foldW, perW] = (tRI s, [111, 107, 10] ++ (((txV (tRI s)).data.toList ++ [10]) ++ ((Lib.itoa (fldV (tRI s)) ++ [10]) ++ (Lib.itoa (perV (tRI s)) ++ [10])))) := by
  unfold exQ
  simp only [List.foldl_cons, List.foldl_nil, sessQ, set_line hy, show_lineS, fold_line, per_line, List.nil_append, List.append_assoc]
  rfl

end Go.Proofs.YtddhmidegldhdaaGreatDoor

/- l92Design: its trees. Conditions: those of pick. -/
namespace Go.Proofs.YtddhmidegldhdaaGreatDoor
open Go.RowKit
set_option maxRecDepth 100000

noncomputable abbrev fD2 : Func := Tryz.f120
def gmD2 (pk : Nat → (Nat → Int) → Int → Int → Int) (cf : Nat → (Nat → Int) → Int → Nat → Int) (cp : Nat → (Nat → Int) → Int → Int) : Gam := ext (gmPk pk) 175 (specK [] (FcyO cf cp))
abbrev lvD2 : Ex → List Nat := lv3 [0, 5, 6, 7, 8, 9] [7] [2]
abbrev stD2 (st fi : Int) (n : Nat) (i : Nat) : List AV := [.ptr 0 0 0 0, .v (i64 st), .v (i64 fi), .own 2 i, .v (i64 n), .v (i64 i)]
theorem rndD2 (pk : Nat → (Nat → Int) → Int → Int → Int) (cf : Nat → (Nat → Int) → Int → Nat → Int) (cp : Nat → (Nat → Int) → Int → Int) (l : Nat) (c : Option Nat) (p : Int) (m : Nat) (b : Nat → Int) (tr tb : TypeId) (h : Nat → Nat → Int) (st fi : Int) (n : Nat) (i : Nat) : execC Tryz.prog (gmD2 pk cf cp) 100 noLam (loopAt 1 fD2) (mkT 0 65 ((lvD2 .normal).zip (stD2 st fi n i))) (hpDs l c p m b tr tb i h) (leafV 65 lvD2 2)
    = bif decide ((↑i : Int) < (↑n : Int)) then needs [okB m (rowB b), decide (l ≤ m), decide ((0 : Int) ≤ p), decide (p ≤ (1073741824 : Int)), decide ((0 : Nat) < m), okB m (rowB b), decide (l ≤ m), decide ((0 : Int) ≤ p + (1 : Int)), decide (p + (1 : Int) ≤ (536870912 : Int)), decide ((0 : Nat) < m), decide ((0 : Nat) < m), Nat.ble i i, Nat.ble (i + (1 : Nat)) (549755813888 : Nat)] (Res.out .normal [AV.ptr (0 : Nat) (0 : Nat) (0 : Nat) (0 : Nat), AV.v (.int .i64 st), AV.v (.int .i64 fi), AV.own 2 (i + (1 : Nat)), AV.v (.int .i64 (↑n : Int)), AV.v (.int .i64 (IntKind.wrap .i64 ((↑i : Int) + (1 : Int))))] [AB.cells [AV.sl 1 (1 : Nat) (0 : Nat) (0 : Nat) l c, AV.v (.int .i64 (cp l (itB (rowB b)) (p + (1 : Int))))] tr, AB.row false m 1 (rowB b) tb, AB.row true (i + (1 : Nat)) (9 : Nat) (fun q ↦ [Value.int .i64 (bif Nat.blt q i then h q (0 : Nat) else IntKind.wrap .i64 (fi + IntKind.wrap .i64 (st * IntKind.wrap .i64 (pk l (itB (rowB b)) p (5 : Int) - (2 : Int))))), Value.int .i64 (bif Nat.blt q i then h q (1 : Nat) else cf l (itB (rowB b)) (p + (1 : Int)) (0 : Nat)), Value.int .i64 (bif Nat.blt q i then h q (2 : Nat) else cf l (itB (rowB b)) (p + (1 : Int)) (1 : Nat)), Value.int .i64 (bif Nat.blt q i then h q (3 : Nat) else cf l (itB (rowB b)) (p + (1 : Int)) (2 : Nat)), Value.int .i64 (bif Nat.blt q i then h q (4 : Nat) else cf l (itB (rowB b)) (p + (1 : Int)) (3 : Nat)), Value.int .i64 (bif Nat.blt q i then h q (5 : Nat) else cf l (itB (rowB b)) (p + (1 : Int)) (4 : Nat)), Value.int .i64 (bif Nat.blt q i then h q (6 : Nat) else cf l (itB (rowB b)) (p + (1 : Int)) (5 : Nat)), Value.int .i64 (bif Nat.blt q i then h q (7 : Nat) else cf l (itB (rowB b)) (p + (1 : Int)) (6 : Nat)), Value.int .i64 (bif Nat.blt q i then h q (8 : Nat) else cf l (itB (rowB b)) (p + (1 : Int)) (7 : Nat))]) (60 : Nat)]) else Res.out (Ex.exit (1 : Nat)) [AV.own 2 i] [AB.cells [AV.sl 1 (1 : Nat) (0 : Nat) (0 : Nat) l c, AV.v (.int .i64 p)] tr, AB.row false m 1 (rowB b) tb, AB.row true i 9 (row9 h) 60] := by kernel_rfl

noncomputable abbrev lamD2 (l : Nat) (c : Option Nat) (m : Nat) (b : Nat → Int) (tr tb : TypeId) (st fi : Int) (n : Nat) (p1 p2 : Int) (h : Nat → Nat → Int) : Nat → Option Sum := oneL 1 (atS 65 (lvD2 .normal) 2 (stD2 st fi n 0) (hpDs l c p1 m b tr tb 0 (wfun [])) (fun K => K .normal (mkT 0 65 [(7, .own 2 n)]) (hpDs l c p2 m b tr tb n h)))
def gmE2D (pk : Nat → (Nat → Int) → Int → Int → Int) (dl : Nat → (Nat → Int) → Int → List Wh) (dp : Nat → (Nat → Int) → Int → Int) (rd : Int → Int → Bool → Int → List Wh) (ro : Int → Int → Bool → Int → Bool) : Gam := ext (ext (gmPk pk) 174 (specK [] (FdgO dl dp))) 12 (specR [.val, .val, .val, .val] (FrdO rd ro))
theorem treeD2_h (pk : Nat → (Nat → Int) → Int → Int → Int) (dl : Nat → (Nat → Int) → Int → List Wh) (dp : Nat → (Nat → Int) → Int → Int) (rd : Int → Int → Bool → Int → List Wh) (ro : Int → Int → Bool → Int → Bool) (l : Nat) (c : Option Nat) (p : Int) (m : Nat) (b : Nat → Int) (tr tb : TypeId) (st fi : Int) (n : Nat) (p1 p2 : Int) (h : Nat → Nat → Int) (u0 : _) (hu0 : (1 : Int) = u0) (u2 : _) (hu2 : (0 : Nat) = u2) (u3 : _) (hu3 : (itB (rowB b)) = u3) (u5 : _) (hu5 : (1073741824 : Int) = u5) (u6 : _) (hu6 : (decide (u2 < m)) = u6) (u7 : _) (hu7 : (decide (l ≤ m)) = u7) (u8 : _) (hu8 : (AB.row false m 1 (rowB b) tb) = u8) (u9 : _) (hu9 : (AV.sl 1 (1 : Nat) u2 u2 l c) = u9) (u10 : _) (hu10 : (okB m (rowB b)) = u10) (u11 : _) (hu11 : (0 : Int) = u11) (u12 : _) (hu12 : (IntKind.wrap .i64 (pk l u3 (p + u0 + u0 + u0 + u0) (20 : Int) - (10 : Int))) = u12) (u13 : _) (hu13 : (IntKind.wrap .i64 ((6 : Int) + pk l u3 (p + u0 + u0) (12 : Int))) = u13) (u14 : _) (hu14 : (IntKind.wrap .i64 ((6 : Int) + pk l u3 (p + u0) (30 : Int))) = u14) (u15 : _) (hu15 : (AB.row true u2 9 (fun _ ↦ []) (60 : Nat)) = u15) (u16 : _) (hu16 : (pk l u3 (p + u0 + u0 + u0) (2 : Int) == u11) = u16) (u17 : _) (hu17 : (decide (u11 ≤ p + u0)) = u17) (u1 : _) (hu1 : (rd u14 u13 u16 u12) = u1) (u4 : _) (hu4 : (Res.out .ret [AV.own 2 n] [AB.cells [u9, AV.v (.int .i64 p2)] tr, u8, AB.row true n 9 (row9 h) 60]) = u4) : execF Tryz.prog (gmE2D pk dl dp rd ro) (lamD2 l c m b tr tb st fi n p1 p2 h) 100 fD2 [.ptr 0 0 0 0] (hpRd l c p m b tr tb) (packK 2)
    = needs [u10, u7, decide (u11 ≤ p), decide (p ≤ u5), u6] (bif pk l u3 p (4 : Int) == u11 then needs [u10, u7, u17, decide (p + u0 ≤ (134217728 : Int)), u6, u6] (Res.out .ret [AV.own 2 (List.length (dl l u3 (p + u0)))] [AB.cells [u9, AV.v (.int .i64 (dp l u3 (p + u0)))] tr, u8, AB.row true (List.length (dl l u3 (p + u0))) (9 : Nat) (row9 (wfun (dl l u3 (p + u0)))) 60]) else bif pk l u3 p (4 : Int) == u0 then needs [u10, u7, u17, decide (p + u0 ≤ u5), u6, u10, u7, decide (u11 ≤ p + u0 + u0), decide (p + u0 + u0 ≤ u5), u6, u10, u7, decide (u11 ≤ p + u0 + u0 + u0), decide (p + u0 + u0 + u0 ≤ u5), u6, u10, u7, decide (u11 ≤ p + u0 + u0 + u0 + u0), decide (p + u0 + u0 + u0 + u0 ≤ u5), u6] (bif ro u14 u13 u16 u12 then Res.out .ret [AV.own 2 (List.length u1)] [AB.cells [u9, AV.v (.int .i64 (p + u0 + u0 + u0 + u0 + u0))] tr, u8, AB.row true (List.length u1) (9 : Nat) (row9 (wfun u1)) 60] else needs [u10, u7, decide (u11 ≤ p + u0 + u0 + u0 + u0 + u0), decide (p + u0 + u0 + u0 + u0 + u0 ≤ u5), u6, u10, u7, decide (u11 ≤ p + u0 + u0 + u0 + u0 + u0 + u0), decide (p + u0 + u0 + u0 + u0 + u0 + u0 ≤ u5), u6, u10, u7, decide (u11 ≤ p + u0 + u0 + u0 + u0 + u0 + u0 + u0), decide (p + u0 + u0 + u0 + u0 + u0 + u0 + u0 ≤ u5), u6, chk ([AV.ptr u2 u2 u2 u2, AV.v (.int .i64 (IntKind.wrap .i64 (u0 + pk l u3 (p + u0 + u0 + u0 + u0 + u0) (4 : Int)))), AV.v (.int .i64 (IntKind.wrap .i64 (pk l u3 (p + u0 + u0 + u0 + u0 + u0 + u0) (5 : Int) - (2 : Int)))), AV.own 2 u2, AV.v (.int .i64 (IntKind.wrap .i64 (u0 + pk l u3 (p + u0 + u0 + u0 + u0 + u0 + u0 + u0) (3 : Int)))), AV.v (.int .i64 u11)] = stD2 st fi n u2 ∧ Hsim [AB.cells [u9, AV.v (.int .i64 (p + u0 + u0 + u0 + u0 + u0 + u0 + u0 + u0))] tr, u8, u15] (hpDs l c p1 m b tr tb u2 (wfun [])))] u4) else needs [u10, u7, u17, decide (p + u0 ≤ u5), u6, u10, u7, decide (u11 ≤ p + u0 + u0), decide (p + u0 + u0 ≤ u5), u6, u10, u7, decide (u11 ≤ p + u0 + u0 + u0), decide (p + u0 + u0 + u0 ≤ u5), u6, chk ([AV.ptr u2 u2 u2 u2, AV.v (.int .i64 (IntKind.wrap .i64 (u0 + pk l u3 (p + u0) (4 : Int)))), AV.v (.int .i64 (IntKind.wrap .i64 (pk l u3 (p + u0 + u0) (5 : Int) - (2 : Int)))), AV.own 2 u2, AV.v (.int .i64 (IntKind.wrap .i64 (u0 + pk l u3 (p + u0 + u0 + u0) (3 : Int)))), AV.v (.int .i64 u11)] = stD2 st fi n u2 ∧ Hsim [AB.cells [u9, AV.v (.int .i64 (p + u0 + u0 + u0 + u0))] tr, u8, u15] (hpDs l c p1 m b tr tb u2 (wfun [])))] u4) := by
  subst hu4 hu1 hu17 hu16 hu15 hu14 hu13 hu12 hu11 hu10 hu9 hu8 hu7 hu6 hu5 hu3 hu2 hu0
  kernel_rfl
theorem treeD2 (pk : Nat → (Nat → Int) → Int → Int → Int) (dl : Nat → (Nat → Int) → Int → List Wh) (dp : Nat → (Nat → Int) → Int → Int) (rd : Int → Int → Bool → Int → List Wh) (ro : Int → Int → Bool → Int → Bool) (l : Nat) (c : Option Nat) (p : Int) (m : Nat) (b : Nat → Int) (tr tb : TypeId) (st fi : Int) (n : Nat) (p1 p2 : Int) (h : Nat → Nat → Int) : type_of% (treeD2_h pk dl dp rd ro l c p m b tr tb st fi n p1 p2 h _ rfl _ rfl _ rfl _ rfl _ rfl _ rfl _ rfl _ rfl _ rfl _ rfl _ rfl _ rfl _ rfl _ rfl _ rfl _ rfl _ rfl _ rfl) := treeD2_h pk dl dp rd ro l c p m b tr tb st fi n p1 p2 h _ rfl _ rfl _ rfl _ rfl _ rfl _ rfl _ rfl _ rfl _ rfl _ rfl _ rfl _ rfl _ rfl _ rfl _ rfl _ rfl _ rfl _ rfl

end Go.Proofs.YtddhmidegldhdaaGreatDoor

/- l92Design: a list of wheels, whatever the bytes are. Conditions: those of pick. -/
namespace Go.Proofs.YtddhmidegldhdaaGreatDoor
open Go.RowKit
set_option maxRecDepth 100000

noncomputable def d2L (st fi : Int) (l : Nat) (b : Nat → Int) (p : Int) : Nat → List Wh
  | 0 => []
  | i + 1 => d2L st fi l b p i ++ [⟨W (fi + W (st * W (pkV l b (dsP l b p i) 5 - 2))), cyOf (cyF l b (dsP l b p i + 1))⟩]
theorem d2L_len (st fi : Int) (l : Nat) (b : Nat → Int) (p : Int) : ∀ i : Nat, (d2L st fi l b p i).length = i
  | 0 => rfl
  | i + 1 => by
    show (d2L st fi l b p i ++ [_]).length = i + 1
    rw [List.length_append, d2L_len st fi l b p i]
    rfl
theorem gmD2_ok : GamOk Tryz.prog (gmD2 pkV cyF cyP) := ext_ok (ext_ok g0_ok ok_pick) ok_cyc
theorem gmE2D_ok : GamOk Tryz.prog (gmE2D pkV dgL dgP rnL rnO) := ext_ok (ext_ok (ext_ok g0_ok ok_pick) ok_design) ok_rd
theorem sumD2 (l : Nat) (c : Option Nat) (p : Int) (m : Nat) (b : Nat → Int) (tr tb : TypeId) (st fi : Int) (N : Nat) (hN : N ≤ 3) (hb : okB m (rowB b) = true) (hl : l ≤ m) (h0 : 0 ≤ p) (h1 : p ≤ 2 ^ 28) (hm : 0 < m) :
    SumOk Tryz.prog 2 (.block 1 (.loop (loopAt 1 fD2))) (atS 65 (lvD2 .normal) 2 (stD2 st fi N 0) (hpDs l c p m b tr tb 0 (wfun [])) (fun K => K .normal (mkT 0 65 [(7, .own 2 N)]) (hpDs l c (dsP l b p N) m b tr tb N (wfun (d2L st fi l b p N))))) := by
  refine for_at gmD2_ok (n := 100) (m := 2) (lv := lvD2) (fun i => stD2 st fi N i) (fun i => hpDs l c (dsP l b p i) m b tr tb i (wfun (d2L st fi l b p i))) (fun _ => True) N (fun _ => noLam) (lv3_ris rfl rfl rfl) (Nat.le_refl _) trivial fun K Q hk i _ hi => ⟨noLam_ok _ _ _, ?_⟩
  rw [rndD2]
  have hp := dsP_in l b p i
  refine good_cond (fun c1 => ?_) fun c1 => ?_
  · have c1 := of_decide_eq_true c1
    refine good_needs ?_ (good_out ⟨i + 1, ⟨rfl, by omega, trivial⟩, ?_, ?_⟩)
    · simp only [ob_cons, ob_nil, and_true, decide_eq_true_eq, Nat.ble_eq, hb, true_and]
      omega
    · rw [wr_in (x := (i : Int) + 1) (by omega)]
      rfl
    · refine .cons (ABeq.refl _) (.cons (ABeq.refl _) (.cons (ABeq.row fun q hq => ?_) .nil))
      exact ch_row (d2L st fi l b p i) ⟨W (fi + W (st * W (pkV l b (dsP l b p i) 5 - 2))), cyOf (cyF l b (dsP l b p i + 1))⟩ i (d2L_len st fi l b p i) q hq
  · have c1 := of_decide_eq_false c1
    have : i = N := by omega
    subst this
    refine good_out ⟨_, Hsim.refl _, ?_⟩
    rw [if_pos rfl]
    exact hk

theorem d2_ex (l : Nat) (b : Nat → Int) (p : Int) : ∃ (L : List Wh) (p' : Int), (p ≤ p' ∧ p' ≤ p + 70) ∧ L.length ≤ 12 ∧ ∀ (c : Option Nat) (m : Nat) (tr tb : TypeId), okB m (rowB b) = true → l ≤ m → 0 ≤ p → p ≤ 2 ^ 26 → 0 < m → ∃ Λ, (∀ cc, fD2.body = some cc → LamOk Tryz.prog 2 Λ cc) ∧
    GoodQ (execF Tryz.prog (gmE2D pkV dgL dgP rnL rnO) Λ 100 fD2 [.ptr 0 0 0 0] (hpRd l c p m b tr tb) (packK 2)) (fun _ vs He => vs = [.own 2 L.length] ∧ Hsim He (hpDs l c p' m b tr tb L.length (wfun L))) := by
  have pn := fun q n => pkV_nn l b q n
  have num : ∀ q : Int, ∃ N : Nat, (N : Int) = 1 + pkV l b q 3 ∧ N ≤ 3 := fun q => by
    have := pn q 3
    have := pkV_lt l b q (n := 3) (by omega)
    exact ⟨(1 + pkV l b q 3).toNat, by omega, by omega⟩
  have lam : ∀ (q : Int) (st fi : Int) (N : Nat), N ≤ 3 → p ≤ q → q ≤ p + 20 → ∀ (c : Option Nat) (m : Nat) (tr tb : TypeId), okB m (rowB b) = true → l ≤ m → 0 ≤ p → p ≤ 2 ^ 26 → 0 < m → (∀ cc, fD2.body = some cc → LamOk Tryz.prog 2 (lamD2 l c m b tr tb st fi N q (dsP l b q N) (wfun (d2L st fi l b q N))) cc) :=
    fun q st fi N hN h1 h2 c m tr tb hb hl h0 h3 hm => lam1 (by kernel_rfl) (sumD2 l c q m b tr tb st fi N hN hb hl (by omega) (by omega) hm)
  have n0 := pn p 4
  by_cases c0 : pkV l b p 4 = 0
  · have hp := dgP_in l b (p + 1)
    refine ⟨dgL l b (p + 1), dgP l b (p + 1), by omega, dgL_len _ _ _, fun c m tr tb hb hl h0 h1 hm => ⟨_, lam p 0 0 0 (by omega) (by omega) (by omega) c m tr tb hb hl h0 h1 hm, ?_⟩⟩
    rw [treeD2]
    exact good_needs (obP hb hl hm h0 (by omega)) (good_true (beq_iff_eq.2 c0) (good_needs (by simp only [ob_cons, ob_nil, and_true, decide_eq_true_eq, hb, true_and]; omega) (good_out ⟨rfl, Hsim.refl _⟩)))
  · -- the steps, from q on
    have steps : ∀ (q : Int), p + 1 ≤ q → q ≤ p + 5 → ∃ (N : Nat) (L : List Wh) (p' : Int), N ≤ 3 ∧ (N : Int) = 1 + pkV l b (q + 1 + 1) 3 ∧ L = d2L (W (1 + pkV l b q 4)) (W (pkV l b (q + 1) 5 - 2)) l b (q + 1 + 1 + 1) N ∧ p' = dsP l b (q + 1 + 1 + 1) N ∧ (p ≤ p' ∧ p' ≤ p + 70) ∧ L.length = N := fun q h1 h2 => by
      obtain ⟨N, e1, e2⟩ := num (q + 1 + 1)
      have hp := dsP_in l b (q + 1 + 1 + 1) N
      exact ⟨N, _, _, e2, e1, rfl, rfl, by omega, d2L_len _ _ _ _ _ _⟩
    have ob : ∀ (q : Int) (c : Option Nat) (m : Nat) (tr tb : TypeId) (N : Nat), (N : Int) = 1 + pkV l b (q + 1 + 1) 3 → p + 1 ≤ q → q ≤ p + 5 → okB m (rowB b) = true → l ≤ m → 0 ≤ p → p ≤ 2 ^ 26 → 0 < m → obls [okB m (rowB b), decide (l ≤ m), decide (0 ≤ q), decide (q ≤ 1073741824), decide (0 < m), okB m (rowB b), decide (l ≤ m), decide (0 ≤ q + 1), decide (q + 1 ≤ 1073741824), decide (0 < m), okB m (rowB b), decide (l ≤ m), decide (0 ≤ q + 1 + 1), decide (q + 1 + 1 ≤ 1073741824), decide (0 < m), chk ([AV.ptr 0 0 0 0, AV.v (i64 (W (1 + pkV l b q 4))), AV.v (i64 (W (pkV l b (q + 1) 5 - 2))), AV.own 2 0, AV.v (i64 (W (1 + pkV l b (q + 1 + 1) 3))), AV.v (i64 0)] = stD2 (W (1 + pkV l b q 4)) (W (pkV l b (q + 1) 5 - 2)) N 0 ∧ Hsim [AB.cells [AV.sl 1 1 0 0 l c, AV.v (i64 (q + 1 + 1 + 1))] tr, AB.row false m 1 (rowB b) tb, AB.row true 0 9 (fun _ => []) 60] (hpDs l c (q + 1 + 1 + 1) m b tr tb 0 (wfun [])))] = true := fun q c m tr tb N e1 h1 h2 hb hl h0 h3 hm => by
      have := pn (q + 1 + 1) 3
      have := pkV_lt l b (q + 1 + 1) (n := 3) (by omega)
      simp only [ob_cons, ob_nil, and_true, decide_eq_true_eq, hb, true_and]
      refine ⟨by omega, by omega, by omega, by omega, by omega, by omega, by omega, by omega, by omega, by omega, by omega, by omega, chk_of ⟨?_, .cons (ABeq.refl _) (.cons (ABeq.refl _) (.cons (ABeq.row fun j hj => absurd hj (Nat.not_lt_zero _)) .nil))⟩⟩
      rw [w64_in (x := 1 + pkV l b (q + 1 + 1) 3) (by omega) (by omega), ← e1]
      rfl
    by_cases c1 : pkV l b p 4 = 1
    · have a1 := pn (p + 1) 30
      have a1' := pkV_lt l b (p + 1) (n := 30) (by omega)
      have a2 := pn (p + 1 + 1) 12
      have a2' := pkV_lt l b (p + 1 + 1) (n := 12) (by omega)
      have a3 := pn (p + 1 + 1 + 1 + 1) 20
      have a3' := pkV_lt l b (p + 1 + 1 + 1 + 1) (n := 20) (by omega)
      have ob5 : ∀ (m : Nat), okB m (rowB b) = true → l ≤ m → 0 ≤ p → p ≤ 2 ^ 26 → 0 < m → obls [okB m (rowB b), decide (l ≤ m), decide (0 ≤ p + 1), decide (p + 1 ≤ 1073741824), decide (0 < m), okB m (rowB b), decide (l ≤ m), decide (0 ≤ p + 1 + 1), decide (p + 1 + 1 ≤ 1073741824), decide (0 < m), okB m (rowB b), decide (l ≤ m), decide (0 ≤ p + 1 + 1 + 1), decide (p + 1 + 1 + 1 ≤ 1073741824), decide (0 < m), okB m (rowB b), decide (l ≤ m), decide (0 ≤ p + 1 + 1 + 1 + 1), decide (p + 1 + 1 + 1 + 1 ≤ 1073741824), decide (0 < m)] = true := fun m hb hl h0 h1 hm => by
        simp only [ob_cons, ob_nil, and_true, decide_eq_true_eq, hb, true_and]
        omega
      cases hr : rnO (W (6 + pkV l b (p + 1) 30)) (W (6 + pkV l b (p + 1 + 1) 12)) (pkV l b (p + 1 + 1 + 1) 2 == 0) (W (pkV l b (p + 1 + 1 + 1 + 1) 20 - 10)) with
      | true =>
        refine ⟨rnL (W (6 + pkV l b (p + 1) 30)) (W (6 + pkV l b (p + 1 + 1) 12)) (pkV l b (p + 1 + 1 + 1) 2 == 0) (W (pkV l b (p + 1 + 1 + 1 + 1) 20 - 10)), p + 1 + 1 + 1 + 1 + 1, by omega, rnL_len _ _ _ _, fun c m tr tb hb hl h0 h1 hm => ⟨_, lam p 0 0 0 (by omega) (by omega) (by omega) c m tr tb hb hl h0 h1 hm, ?_⟩⟩
        rw [treeD2]
        exact good_needs (obP hb hl hm h0 (by omega)) (good_false (beq_eq_false_iff_ne.2 c0) (good_true (beq_iff_eq.2 c1) (good_needs (ob5 m hb hl h0 h1 hm) (good_true hr (good_out ⟨rfl, Hsim.refl _⟩)))))
      | false =>
        obtain ⟨N, L, p', e2, e1, rfl, rfl, hp, hlen⟩ := steps (p + 1 + 1 + 1 + 1 + 1) (by omega) (by omega)
        refine ⟨d2L (W (1 + pkV l b (p + 1 + 1 + 1 + 1 + 1) 4)) (W (pkV l b (p + 1 + 1 + 1 + 1 + 1 + 1) 5 - 2)) l b (p + 1 + 1 + 1 + 1 + 1 + 1 + 1 + 1) N, _, hp, by omega, fun c m tr tb hb hl h0 h1 hm => ⟨_, lam (p + 1 + 1 + 1 + 1 + 1 + 1 + 1 + 1) (W (1 + pkV l b (p + 1 + 1 + 1 + 1 + 1) 4)) (W (pkV l b (p + 1 + 1 + 1 + 1 + 1 + 1) 5 - 2)) N e2 (by omega) (by omega) c m tr tb hb hl h0 h1 hm, ?_⟩⟩
        rw [treeD2, hlen]
        exact good_needs (obP hb hl hm h0 (by omega)) (good_false (beq_eq_false_iff_ne.2 c0) (good_true (beq_iff_eq.2 c1) (good_needs (ob5 m hb hl h0 h1 hm) (good_false hr (good_needs (ob _ c m tr tb N e1 (by omega) (by omega) hb hl h0 h1 hm) (good_out ⟨rfl, Hsim.refl _⟩))))))
    · obtain ⟨N, L, p', e2, e1, rfl, rfl, hp, hlen⟩ := steps (p + 1) (by omega) (by omega)
      refine ⟨d2L (W (1 + pkV l b (p + 1) 4)) (W (pkV l b (p + 1 + 1) 5 - 2)) l b (p + 1 + 1 + 1 + 1) N, _, hp, by omega, fun c m tr tb hb hl h0 h1 hm => ⟨_, lam (p + 1 + 1 + 1 + 1) (W (1 + pkV l b (p + 1) 4)) (W (pkV l b (p + 1 + 1) 5 - 2)) N e2 (by omega) (by omega) c m tr tb hb hl h0 h1 hm, ?_⟩⟩
      rw [treeD2, hlen]
      exact good_needs (obP hb hl hm h0 (by omega)) (good_false (beq_eq_false_iff_ne.2 c0) (good_false (beq_eq_false_iff_ne.2 c1) (good_needs (ob _ c m tr tb N e1 (by omega) (by omega) hb hl h0 h1 hm) (good_out ⟨rfl, Hsim.refl _⟩))))
noncomputable def ehL (l : Nat) (b : Nat → Int) (p : Int) : List Wh := (d2_ex l b p).choose
noncomputable def ehP (l : Nat) (b : Nat → Int) (p : Int) : Int := (d2_ex l b p).choose_spec.choose
theorem ehP_in (l : Nat) (b : Nat → Int) (p : Int) : p ≤ ehP l b p ∧ ehP l b p ≤ p + 70 := (d2_ex l b p).choose_spec.choose_spec.1
theorem ehL_len (l : Nat) (b : Nat → Int) (p : Int) : (ehL l b p).length ≤ 12 := (d2_ex l b p).choose_spec.choose_spec.2.1
def FehO (dl : Nat → (Nat → Int) → Int → List Wh) (dp : Nat → (Nat → Int) → Int → Int) : List AV → List AB → Option HR
  | [.ptr 0 0 0 0], [.cells [.sl 1 1 0 0 l c, .v (.int .i64 p)] tr, .row false m 1 g tb] => some { val := .own 2 (dl l (itB g) p).length, out := [.cells [.sl 1 1 0 0 l c, .v (.int .i64 (dp l (itB g) p))] tr, .row false m 1 g tb], new := [.row true (dl l (itB g) p).length 9 (row9 (wfun (dl l (itB g) p))) 60], obl := [okB m g, decide (l ≤ m), decide (0 ≤ p), decide (p ≤ 2 ^ 26), decide (0 < m)] }
  | _, _ => none
theorem ok_design2 : SpecOk Tryz.prog 120 (specK [] (FehO ehL ehP)) := by
  refine specK_ok gmE2D_ok Tryz.func120 rfl fun avs H hr hF ho => ?_
  unfold FehO at hF
  split at hF
  · rename_i l c p tr m g tb
    cases hF
    simp only [ob_cons, decide_eq_true_eq] at ho
    obtain ⟨h1, h2, h3, h4, h5, _⟩ := ho
    obtain ⟨Λ, e1, e2⟩ := (d2_ex l (itB g) p).choose_spec.choose_spec.2.2 c m tr tb (okB_it h1) h2 h3 h4 h5
    refine ⟨hpRd l c p m (itB g) tr tb, Λ, 100, rd_sim h1, e1, ⟨res_mono (fun e vs He hq => ?_) e2.out⟩⟩
    refine ⟨hq.1, hq.2.trans' (.cons (ABeq.refl _) (.cons (ABeq.row fun j hj => (okB_get h1 hj).1.symm) (Hsim.refl _)))⟩
  · cases hF

end Go.Proofs.YtddhmidegldhdaaGreatDoor

/- What is drawn: designs with some symmetry. No conditions. -/
namespace Go.Proofs.YtddhmidegldhdaaGreatDoor
open Go.RowKit
set_option maxRecDepth 100000

def gmDrE (dl : Nat → (Nat → Int) → Int → List Wh) (dp : Nat → (Nat → Int) → Int → Int) (pk : Nat → (Nat → Int) → Int → Int → Int) : Gam := ext (gmPk pk) 120 (specK [] (FehO dl dp))
theorem gmDrE_ok : GamOk Tryz.prog (gmDrE ehL ehP pkV) := ext_ok (ext_ok g0_ok ok_pick) ok_design2

end Go.Proofs.YtddhmidegldhdaaGreatDoor

/- pick, where there are no bytes; the lengths of rows. No conditions. -/
namespace Go.Proofs.YtddhmidegldhdaaGreatDoor
open Go.RowKit
set_option maxRecDepth 100000

end Go.Proofs.YtddhmidegldhdaaGreatDoor

/- What is drawn: texts. l6Rd.of, l92Text. Conditions: bytes. -/
namespace Go.Proofs.YtddhmidegldhdaaGreatDoor
open Go.RowKit
set_option maxRecDepth 100000

def rowT (x : Nat → ByteArray) : Nat → List Value := fun j => [.string (x j)]
def FofO (pk : Nat → (Nat → Int) → Int → Int → Int) : List AV → List AB → Option HR
  | [.ptr 0 0 0 0, .own 1 n], [.cells [.sl 2 1 0 0 l c, .v (.int .i64 p)] tr, .row true n' 1 gt ts, .row false m 1 g tb] => some { val := .v (.string (strV (gt (pk l (itB g) p n).toNat))), out := [.cells [.sl 2 1 0 0 l c, .v (.int .i64 (p + 1))] tr, .row true n' 1 gt ts, .row false m 1 g tb], obl := [okB m g, decide (l ≤ m), decide (0 ≤ p), decide (p ≤ 2 ^ 30), decide (0 < m), Nat.beq n n', Nat.ble 1 n, Nat.ble n 1000, allS n gt] }
  | _, _ => none
theorem treeOf (pk : Nat → (Nat → Int) → Int → Int → Int) (l : Nat) (c : Option Nat) (p : Int) (m : Nat) (b : Nat → Int) (tr tb ts : TypeId) (n : Nat) (x : Nat → ByteArray) : execF Tryz.prog (gmPk pk) noLam 100 Tryz.f110 [.ptr 0 0 0 0, .own 1 n] [.cells [.sl 2 1 0 0 l c, .v (.int .i64 p)] tr, .row true n 1 (rowT x) ts, .row false m 1 (rowB b) tb] (packK 3)
    = needs [okB m (rowB b), decide (l ≤ m), decide ((0 : Int) ≤ p), decide (p ≤ (1073741824 : Int)), decide ((0 : Nat) < m), decide ((0 : Int) ≤ pk l (itB (rowB b)) p (↑n : Int)), decide (pk l (itB (rowB b)) p (↑n : Int) < (↑n : Int)), decide (Int.toNat (pk l (itB (rowB b)) p (↑n : Int)) < n)] (Res.out .ret [AV.v (.string (x (Int.toNat (pk l (itB (rowB b)) p (↑n : Int)))))] [AB.cells [AV.sl 2 (1 : Nat) (0 : Nat) (0 : Nat) l c, AV.v (.int .i64 (p + (1 : Int)))] tr, AB.row true n 1 (rowT x) ts, AB.row false m 1 (rowB b) tb]) := by kernel_rfl

theorem rowT_sim {n : Nat} {gt : Nat → List Value} {ts : TypeId} (h : allS n gt = true) : ABeq (.row true n 1 gt ts) (.row true n 1 (rowT fun j => strV (gt j)) ts) := .row fun j hj => allS_get h hj
theorem ok_of : SpecOk Tryz.prog 110 (specK [] (FofO pkV)) := by
  refine specK_ok (ext_ok g0_ok ok_pick) Tryz.func110 rfl fun avs H hr hF ho => ?_
  unfold FofO at hF
  split at hF
  · rename_i n l c p tr n' gt ts m g tb
    cases hF
    simp only [ob_cons, decide_eq_true_eq, Nat.beq_eq, Nat.ble_eq] at ho
    obtain ⟨h1, h2, h3, h4, h5, rfl, h7, h8, h9, _⟩ := ho
    have hb := okB_it h1
    refine ⟨[.cells [.sl 2 1 0 0 l c, .v (.int .i64 p)] tr, .row true n 1 (rowT fun j => strV (gt j)) ts, .row false m 1 (rowB (itB g)) tb], noLam, 100, .cons (ABeq.refl _) (.cons (rowT_sim h9) (.cons (ABeq.row fun j hj => (okB_get h1 hj).1) .nil)), noLam' _, ?_⟩
    show GoodQ (execF Tryz.prog (gmPk pkV) noLam 100 Tryz.f110 [.ptr 0 0 0 0, .own 1 n] [.cells [.sl 2 1 0 0 l c, .v (.int .i64 p)] tr, .row true n 1 (rowT fun j => strV (gt j)) ts, .row false m 1 (rowB (itB g)) tb] (packK 3)) _
    rw [treeOf, itB_row]
    have q1 := pkV_nn l (itB g) p n
    have q2 := pkV_lt l (itB g) p (n := (n : Int)) (by omega)
    refine good_needs (by simp only [ob_cons, ob_nil, and_true, decide_eq_true_eq, hb, true_and]; omega) (good_out ⟨rfl, ?_⟩)
    exact .cons (ABeq.refl _) (.cons (.row fun j hj => (allS_get h9 hj).symm) (.cons (ABeq.row fun j hj => (okB_get h1 hj).1.symm) .nil))
  · cases hF
def gmLt (dl : Nat → (Nat → Int) → Int → List Wh) (dp : Nat → (Nat → Int) → Int → Int) (pk : Nat → (Nat → Int) → Int → Int → Int) (tv : List Wh → ByteArray) (yt : List Wh → Bool) : Gam := ext (ext (gmDrE dl dp pk) 60 (specR md_ws (FdtO tv yt))) 110 (specK [] (FofO pk))
theorem treeLt_h (dl : Nat → (Nat → Int) → Int → List Wh) (dp : Nat → (Nat → Int) → Int → Int) (pk : Nat → (Nat → Int) → Int → Int → Int) (tv : List Wh → ByteArray) (yt : List Wh → Bool) (l : Nat) (c : Option Nat) (p : Int) (m : Nat) (b : Nat → Int) (tr tb : TypeId) (u3 : _) (hu3 : (itB (rowB b)) = u3) (u8 : _) (hu8 : (1 : Int) = u8) (u9 : _) (hu9 : (decide ((0 : Nat) < m)) = u9) (u10 : _) (hu10 : (AV.sl 1 (1 : Nat) (0 : Nat) (0 : Nat) l c) = u10) (u11 : _) (hu11 : (List.length (dl l u3 p)) = u11) (u13 : _) (hu13 : (9223372036854775807 : Nat) = u13) (u14 : _) (hu14 : (AB.row false m 1 (rowB b) tb) = u14) (u15 : _) (hu15 : (250 : Int) = u15) (u17 : _) (hu17 : (row9 (wfun (dl l u3 p))) = u17) (u18 : _) (hu18 : (decide (l ≤ m)) = u18) (u0 : _) (hu0 : (tv (listW (itW u17) u11)) = u0) (u2 : _) (hu2 : (↑(ByteArray.size u0) : Int) = u2) (u4 : _) (hu4 : (pk l u3 (dp l u3 p) (if u2 < u15 then u2 else u15) + u8) = u4) (u5 : _) (hu5 : (ByteArray.extract u0 (0 : Nat) (Int.toNat (pk l u3 (dp l u3 p) (if u2 < u15 then u2 else u15)))) = u5) (u6 : _) (hu6 : (Int.toNat (pk l u3 (dp l u3 p + u8 + u8) (5 : Int))) = u6) (u7 : _) (hu7 : [AB.cells [u10, AV.v (.int .i64 (dp l u3 p + u8 + u8))] tr, u14] = u7) (u12 : _) (hu12 : (ByteArray.extract u0 (Int.toNat (IntKind.wrap .i64 u4)) (Int.toNat u2)) = u12) (u16 : _) (hu16 : (catB u0 (ByteArray.mk (Array.mk [(32 : UInt8)]))) = u16) (u1 : _) (hu1 : (strV [Value.string (bif Nat.beq u6 (0 : Nat) then ByteArray.mk (Array.mk [(48 : UInt8)]) else bif Nat.beq u6 (1 : Nat) then ByteArray.mk (Array.mk [(45 : UInt8)]) else bif Nat.beq u6 (2 : Nat) then ByteArray.mk (Array.mk [(44 : UInt8)]) else bif Nat.beq u6 (3 : Nat) then ByteArray.mk (Array.mk [(32 : UInt8)]) else ByteArray.mk (Array.mk [(120 : UInt8)]))]) = u1) : execF Tryz.prog (gmLt dl dp pk tv yt) noLam 100 Tryz.f55 [.ptr 0 0 0 0] (hpRd l c p m b tr tb) (packK 2)
    = needs [okB m (rowB b), u18, decide ((0 : Int) ≤ p), decide (p ≤ (67108864 : Int)), u9, u9, Nat.ble u11 u11, allW u11 u17, decide (List.length (dl l u3 p) ≤ (274877906944 : Nat))] (bif !yt (listW (itW u17) u11) then Res.out .ret [AV.v (.string (ByteArray.mk (Array.mk [(45 : UInt8)])))] [AB.cells [u10, AV.v (.int .i64 (dp l u3 p))] tr, u14] else needs [okB m (rowB b), u18, decide ((0 : Int) ≤ dp l u3 p), decide (dp l u3 p ≤ (1073741824 : Int)), u9, okB m (rowB b), u18, decide ((0 : Int) ≤ dp l u3 p + u8), decide (dp l u3 p + u8 ≤ (1073741824 : Int)), u9] (bif pk l u3 (dp l u3 p + u8) (8 : Int) == (0 : Int) then needs [decide ((0 : Int) ≤ pk l u3 (dp l u3 p) (if u2 < u15 then u2 else u15)), decide (pk l u3 (dp l u3 p) (if u2 < u15 then u2 else u15) ≤ u2), okB m (rowB b), u18, decide ((0 : Int) ≤ dp l u3 p + u8 + u8), decide (dp l u3 p + u8 + u8 ≤ (1073741824 : Int)), u9, u9, Nat.ble (ByteArray.size u5 + ByteArray.size u1) u13, decide ((0 : Int) ≤ IntKind.wrap .i64 u4), decide (IntKind.wrap .i64 u4 ≤ u2), decide (u2 ≤ u2), Nat.ble (ByteArray.size (catB u5 u1) + ByteArray.size u12) u13] (Res.out .ret [AV.v (.string (catB (catB u5 u1) u12))] [AB.cells [u10, AV.v (.int .i64 (dp l u3 p + u8 + u8 + u8))] tr, u14]) else bif pk l u3 (dp l u3 p + u8) (8 : Int) == u8 then needs [Nat.ble (ByteArray.size u0 + (1 : Nat)) u13, Nat.ble (ByteArray.size u16 + ByteArray.size u0) u13] (Res.out .ret [AV.v (.string (catB u16 u0))] u7) else Res.out .ret [AV.v (.string u0)] u7)) := by
  subst hu1 hu16 hu12 hu7 hu6 hu5 hu4 hu2 hu0 hu18 hu17 hu15 hu14 hu13 hu11 hu10 hu9 hu8 hu3
  kernel_rfl
theorem treeLt (dl : Nat → (Nat → Int) → Int → List Wh) (dp : Nat → (Nat → Int) → Int → Int) (pk : Nat → (Nat → Int) → Int → Int → Int) (tv : List Wh → ByteArray) (yt : List Wh → Bool) (l : Nat) (c : Option Nat) (p : Int) (m : Nat) (b : Nat → Int) (tr tb : TypeId) : type_of% (treeLt_h dl dp pk tv yt l c p m b tr tb _ rfl _ rfl _ rfl _ rfl _ rfl _ rfl _ rfl _ rfl _ rfl _ rfl _ rfl _ rfl _ rfl _ rfl _ rfl _ rfl _ rfl _ rfl _ rfl) := treeLt_h dl dp pk tv yt l c p m b tr tb _ rfl _ rfl _ rfl _ rfl _ rfl _ rfl _ rfl _ rfl _ rfl _ rfl _ rfl _ rfl _ rfl _ rfl _ rfl _ rfl _ rfl _ rfl _ rfl

end Go.Proofs.YtddhmidegldhdaaGreatDoor

/- A text, drawn: by existence. Conditions: bytes. -/
namespace Go.Proofs.YtddhmidegldhdaaGreatDoor
open Go.RowKit
set_option maxRecDepth 100000

theorem tx_size {L : List Wh} (h : yI L = true) : 1 ≤ (txV L).size ∧ (txV L).size ≤ 3000 := by
  have hT := tI_tidy L
  have hok := tidy_okD hT
  unfold okD at hok
  rw [Bool.and_eq_true, decide_eq_true_eq] at hok
  have h2 : ∀ w ∈ tI L, okw w = true := fun w hw => List.all_eq_true.1 hok.2 w hw
  have h3 := textL_size h2
  unfold txV
  rw [h, cond_true, textB]
  cases e : tI L with
  | nil => exact ⟨Nat.le_refl _, (by omega : (1 : Nat) ≤ 3000)⟩
  | cons w R =>
    rw [List.isEmpty_cons, cond_false, mk_size]
    rw [e] at h3 hok
    refine ⟨?_, by have := hok.1; omega⟩
    unfold textL
    rw [List.map_cons, Lib.join_cons, List.length_append, wtxL, List.length_append, List.length_cons]
    omega
theorem gmLt_ok : GamOk Tryz.prog (gmLt ehL ehP pkV txV yI) := ext_ok (ext_ok gmDrE_ok ok_dtS) ok_of
def chT (k : Nat) : ByteArray := strV [Value.string (bif Nat.beq k 0 then ByteArray.mk (Array.mk [48]) else bif Nat.beq k 1 then ByteArray.mk (Array.mk [45]) else bif Nat.beq k 2 then ByteArray.mk (Array.mk [44]) else bif Nat.beq k 3 then ByteArray.mk (Array.mk [32]) else ByteArray.mk (Array.mk [120]))]
theorem chT_size (k : Nat) : (chT k).size = 1 := by
  unfold chT
  cases Nat.beq k 0 <;> cases Nat.beq k 1 <;> cases Nat.beq k 2 <;> cases Nat.beq k 3 <;> rfl
theorem lt_ex (l : Nat) (b : Nat → Int) (p : Int) : ∃ (T : ByteArray) (P : Int), p ≤ P ∧ P ≤ p + 80 ∧ ∀ (c : Option Nat) (m : Nat) (tr tb : TypeId), okB m (rowB b) = true → l ≤ m → 0 ≤ p → p ≤ 2 ^ 26 → 0 < m →
    GoodQ (execF Tryz.prog (gmLt ehL ehP pkV txV yI) noLam 100 Tryz.f55 [.ptr 0 0 0 0] (hpRd l c p m b tr tb) (packK 2)) (fun _ vs He => vs = [.v (.string T)] ∧ He = hpRd l c P m b tr tb) := by
  have hp := ehP_in l b p
  have hl := ehL_len l b p
  cases hy : yI (ehL l b p) with
  | false =>
    refine ⟨ByteArray.mk (Array.mk [45]), ehP l b p, hp.1, by omega, fun c m tr tb hb hlm h0 h1 hm => ?_⟩
    rw [treeLt, itB_row, listW_me]
    refine good_needs (by simp only [ob_cons, ob_nil, and_true, decide_eq_true_eq, Nat.ble_eq, allW_row, true_and, hb, b38 hl]; omega) (good_true (by rw [hy]; rfl) (good_out ⟨rfl, rfl⟩))
  | true =>
    obtain ⟨s1, s2⟩ := tx_size hy
    have gen : ∀ S : ByteArray, txV (ehL l b p) = S → ∃ (T : ByteArray) (P : Int), p ≤ P ∧ P ≤ p + 80 ∧ ∀ (c : Option Nat) (m : Nat) (tr tb : TypeId), okB m (rowB b) = true → l ≤ m → 0 ≤ p → p ≤ 2 ^ 26 → 0 < m →
        GoodQ (execF Tryz.prog (gmLt ehL ehP pkV txV yI) noLam 100 Tryz.f55 [.ptr 0 0 0 0] (hpRd l c p m b tr tb) (packK 2)) (fun _ vs He => vs = [.v (.string T)] ∧ He = hpRd l c P m b tr tb) := fun S hS => by
      rw [hS] at s1 s2
      have n1 : (if (S.size : Int) < 250 then (S.size : Int) else 250) ≤ S.size ∧ 1 ≤ (if (S.size : Int) < 250 then (S.size : Int) else 250) := by split <;> omega
      have a1 := pkV_nn l b (ehP l b p) (if (S.size : Int) < 250 then (S.size : Int) else 250)
      have a2 := pkV_lt l b (ehP l b p) n1.2
      cases h0 : pkV l b (ehP l b p + 1) 8 == 0 with
      | true =>
        have a3 := pkV_nn l b (ehP l b p + 1 + 1) 5
        have a4 := pkV_lt l b (ehP l b p + 1 + 1) (n := 5) (by omega)
        have hw := wr_in (x := pkV l b (ehP l b p) (if (S.size : Int) < 250 then (S.size : Int) else 250) + 1) (by omega)
        refine ⟨catB (catB (S.extract 0 (pkV l b (ehP l b p) (if (S.size : Int) < 250 then (S.size : Int) else 250)).toNat) (chT (pkV l b (ehP l b p + 1 + 1) 5).toNat)) (S.extract (pkV l b (ehP l b p) (if (S.size : Int) < 250 then (S.size : Int) else 250) + 1).toNat (S.size : Int).toNat), ehP l b p + 1 + 1 + 1, by omega, by omega, fun c m tr tb hb hlm q0 q1 hm => ?_⟩
        rw [treeLt, itB_row, listW_me, hS]
        generalize hk : pkV l b (ehP l b p) (if (S.size : Int) < 250 then (S.size : Int) else 250) = at0 at *
        rw [hw]
        refine good_needs (by simp only [ob_cons, ob_nil, and_true, decide_eq_true_eq, Nat.ble_eq, allW_row, true_and, hb, b38 hl]; omega) (good_false (by rw [hy]; rfl) (good_needs (by simp only [ob_cons, ob_nil, and_true, decide_eq_true_eq, hb, true_and]; omega) (good_true h0 (good_needs ?_ (good_out ⟨rfl, rfl⟩)))))
        have e1 := chT_size (pkV l b (ehP l b p + 1 + 1) 5).toNat
        unfold chT at e1
        have e2 : (S.extract 0 at0.toNat).size ≤ S.size := by rw [ByteArray.size_extract]; omega
        have e3 : (S.extract (at0 + 1).toNat (S.size : Int).toNat).size ≤ S.size := by rw [ByteArray.size_extract]; omega
        have e4 : at0 < S.size := by omega
        simp only [ob_cons, ob_nil, and_true, decide_eq_true_eq, Nat.ble_eq, catB_size, hb, true_and, e1]
        omega
      | false =>
        cases h1 : pkV l b (ehP l b p + 1) 8 == 1 with
        | true =>
          refine ⟨catB (catB S (ByteArray.mk (Array.mk [32]))) S, ehP l b p + 1 + 1, by omega, by omega, fun c m tr tb hb hlm q0 q1 hm => ?_⟩
          rw [treeLt, itB_row, listW_me, hS]
          refine good_needs (by simp only [ob_cons, ob_nil, and_true, decide_eq_true_eq, Nat.ble_eq, allW_row, true_and, hb, b38 hl]; omega) (good_false (by rw [hy]; rfl) (good_needs (by simp only [ob_cons, ob_nil, and_true, decide_eq_true_eq, hb, true_and]; omega) (good_false h0 (good_true h1 (good_needs (by simp only [ob_cons, ob_nil, and_true, Nat.ble_eq, catB_size]; exact ⟨by omega, by have : (ByteArray.mk (Array.mk [32])).size = 1 := rfl; omega⟩) (good_out ⟨rfl, rfl⟩))))))
        | false =>
          refine ⟨S, ehP l b p + 1 + 1, by omega, by omega, fun c m tr tb hb hlm q0 q1 hm => ?_⟩
          rw [treeLt, itB_row, listW_me, hS]
          refine good_needs (by simp only [ob_cons, ob_nil, and_true, decide_eq_true_eq, Nat.ble_eq, allW_row, true_and, hb, b38 hl]; omega) (good_false (by rw [hy]; rfl) (good_needs (by simp only [ob_cons, ob_nil, and_true, decide_eq_true_eq, hb, true_and]; omega) (good_false h0 (good_false h1 (good_out ⟨rfl, rfl⟩)))))
    exact gen _ rfl

end Go.Proofs.YtddhmidegldhdaaGreatDoor

/- A text, drawn; DrawDesignRead. Conditions: bytes, at most 2^21. -/
namespace Go.Proofs.YtddhmidegldhdaaGreatDoor
open Go.RowKit
set_option maxRecDepth 100000

noncomputable def ltT (l : Nat) (b : Nat → Int) (p : Int) : ByteArray := Classical.choose (lt_ex l b p)
noncomputable def ltP (l : Nat) (b : Nat → Int) (p : Int) : Int := Classical.choose (Classical.choose_spec (lt_ex l b p))
theorem lt_is (l : Nat) (b : Nat → Int) (p : Int) : p ≤ ltP l b p ∧ ltP l b p ≤ p + 80 ∧ ∀ (c : Option Nat) (m : Nat) (tr tb : TypeId), okB m (rowB b) = true → l ≤ m → 0 ≤ p → p ≤ 2 ^ 26 → 0 < m →
    GoodQ (execF Tryz.prog (gmLt ehL ehP pkV txV yI) noLam 100 Tryz.f55 [.ptr 0 0 0 0] (hpRd l c p m b tr tb) (packK 2)) (fun _ vs He => vs = [.v (.string (ltT l b p))] ∧ He = hpRd l c (ltP l b p) m b tr tb) := Classical.choose_spec (Classical.choose_spec (lt_ex l b p))
def FltO (lt : Nat → (Nat → Int) → Int → ByteArray) (lp : Nat → (Nat → Int) → Int → Int) : List AV → List AB → Option HR
  | [.ptr 0 0 0 0], [.cells [.sl 1 1 0 0 l c, .v (.int .i64 p)] tr, .row false m 1 g tb] => some { val := .v (.string (lt l (itB g) p)), out := [.cells [.sl 1 1 0 0 l c, .v (.int .i64 (lp l (itB g) p))] tr, .row false m 1 g tb], obl := [okB m g, decide (l ≤ m), decide (0 ≤ p), decide (p ≤ 2 ^ 26), decide (0 < m)] }
  | _, _ => none
theorem ok_lt : SpecOk Tryz.prog 55 (specK [] (FltO ltT ltP)) := by
  refine specK_ok gmLt_ok Tryz.func55 rfl fun avs H hr hF ho => ?_
  unfold FltO at hF
  split at hF
  · rename_i l c p tr m g tb
    cases hF
    simp only [ob_cons, decide_eq_true_eq] at ho
    obtain ⟨h1, h2, h3, h4, h5, _⟩ := ho
    have hb := okB_it h1
    refine ⟨hpRd l c p m (itB g) tr tb, noLam, 100, rd_sim h1, noLam' _, ⟨res_mono ?_ ((lt_is l (itB g) p).2.2 c m tr tb hb h2 h3 h4 h5).out⟩⟩
    rintro e vs He ⟨rfl, rfl⟩
    exact ⟨rfl, .cons (ABeq.refl _) (.cons (ABeq.row fun j hj => (okB_get h1 hj).1.symm) .nil)⟩
  · cases hF

def gmRDr (lt : Nat → (Nat → Int) → Int → ByteArray) (lp : Nat → (Nat → Int) → Int → Int) : Gam := ext g0 55 (specK [] (FltO lt lp))
theorem treeRDr (lt : Nat → (Nat → Int) → Int → ByteArray) (lp : Nat → (Nat → Int) → Int → Int) (m : Nat) (b : Nat → Int) : execF Tryz.prog (gmRDr lt lp) noLam 100 Tryz.f21 [.sl 0 1 0 0 m none] [.row false m 1 (rowB b) 5] (packK 1)
    = bif decide ((m : Int) > (2000 : Int)) then needs [decide ((2000 : Int) ≤ (m : Int)), decide ((m : Int) ≤ (m : Int)), okB m (rowB b), decide (Int.toNat (2000 - 0) ≤ m), decide ((0 : Nat) < m), decide ((0 : Nat) < m)] (Res.out .ret [AV.v (.string (lt (Int.toNat (2000 - 0)) (itB (rowB b)) (0 : Int)))] [AB.row false m 1 (rowB b) 5]) else needs [okB m (rowB b), decide (m ≤ m), decide ((0 : Nat) < m), decide ((0 : Nat) < m)] (Res.out .ret [AV.v (.string (lt m (itB (rowB b)) (0 : Int)))] [AB.row false m 1 (rowB b) 5]) := by kernel_rfl

theorem treeRDr0_h (tv : List Wh → ByteArray) (yt : List Wh → Bool) (q : Option Addr) (c : Nat) (g : Nat → List Value) (u1 : _) (hu1 : (Value.int .i64 0) = u1) (u0 : _) (hu0 : (listW (itW fun _ ↦ [Value.int .i64 1001, u1, u1, u1, u1, u1, u1, u1, u1]) (1 : Nat)) = u0) : execF Tryz.prog (ext g0 60 (specR md_ws (FdtO tv yt))) noLam 100 Tryz.f21 [.v (.slice q 0 c)] [.row false 0 1 g 5] (packK 1)
    = bif !yt u0 then Res.out .ret [AV.v (.string (ByteArray.mk (Array.mk [(45 : UInt8)])))] [AB.row false (0 : Nat) (1 : Nat) g 5] else needs [decide ((if (↑(ByteArray.size (tv u0)) : Int) < (250 : Int) then (↑(ByteArray.size (tv u0)) : Int) else (250 : Int)) < (1 : Int))] Res.err := by
  subst hu0 hu1
  kernel_rfl
theorem treeRDr0 (tv : List Wh → ByteArray) (yt : List Wh → Bool) (q : Option Addr) (c : Nat) (g : Nat → List Value) : type_of% (treeRDr0_h tv yt q c g _ rfl _ rfl) := treeRDr0_h tv yt q c g _ rfl _ rfl

def dashB : ByteArray := ByteArray.mk (Array.mk [45])
noncomputable def bDr (m : Nat) (b : Nat → Int) : ByteArray := if m = 0 then dashB else ltT (lnB m) b 0
theorem gmRDr_ok : GamOk Tryz.prog (gmRDr ltT ltP) := ext_ok g0_ok ok_lt
theorem ok_drDr : SpecOk Tryz.prog 21 (specR md_co (FdrO fun m b => { val := .v (.string (bDr m b)) })) := by
  refine draw_ok Tryz.func21 rfl (fun m b h0 hm hb => ⟨_, gmRDr_ok, ?_⟩) fun q c g b => ⟨_, ext_ok g0_ok ok_dtS, ?_⟩
  · rw [treeRDr, itB_row]
    have e : bDr m b = ltT (lnB m) b 0 := by unfold bDr; rw [if_neg (by omega)]
    rw [e]
    refine good_ln (fun e1 hc => ?_) fun e1 hc => ?_
    · rw [e1, show Int.toNat ((2000 : Int) - 0) = 2000 from rfl]
      exact ⟨by simp only [ob_cons, ob_nil, and_true, decide_eq_true_eq, hb, true_and]; omega, good_out ⟨_, rfl, rfl, Hsim.refl _⟩⟩
    · rw [e1]
      exact ⟨by simp only [ob_cons, ob_nil, and_true, decide_eq_true_eq, hb, true_and]; omega, good_out ⟨_, rfl, rfl, Hsim.refl _⟩⟩
  · rw [treeRDr0, show listW (itW fun q => [i64 1001, i64 0, i64 0, i64 0, i64 0, i64 0, i64 0, i64 0, i64 0]) 1 = noneL from rfl, show yI noneL = false by unfold yI; rw [show okD noneL = false by decide +kernel]; rfl]
    exact good_out ⟨_, rfl, rfl, Hsim.refl _⟩

end Go.Proofs.YtddhmidegldhdaaGreatDoor

/- laws.sameWheels. Conditions: two lists of wheels. -/
namespace Go.Proofs.YtddhmidegldhdaaGreatDoor
open Go.RowKit
set_option maxRecDepth 100000

abbrev lvSw : Ex → List Nat := lv3 [0, 1, 5] [] [4]
abbrev hpSw (m : Nat) (f h : Nat → Nat → Int) : List AB := [.row false m 9 (row9 f) 60, .row false m 9 (row9 h) 60]
theorem rndSw_h (m : Nat) (f h : Nat → Nat → Int) (i : Nat) (u1 : _) (hu1 : [AB.row false m 9 (row9 f) 60, AB.row false m 9 (row9 h) 60] = u1) (u2 : _) (hu2 : (0 : Nat) = u2) (u3 : _) (hu3 : (↑i : Int) = u3) (u0 : _) (hu0 : (u2 + Int.toNat u3) = u0) : execC Tryz.prog g0 100 noLam (loopAt 0 Tryz.f13) (mkT 0 26 ((lvSw .normal).zip [.sl 0 9 0 0 m none, .sl 1 9 0 0 m none, .v (i64 i)])) (hpSw m f h) (leafV 26 lvSw 2)
    = bif decide (u3 < (m : Int)) then needs [decide (u3 < (m : Int)), decide (u2 + Int.toNat u3 < m), decide (u3 < (m : Int)), decide (u2 + Int.toNat u3 < m)] (bif !(f u0 u2 == h u0 u2 && (f u0 (1 : Nat) == h u0 (1 : Nat) && (f u0 (2 : Nat) == h u0 (2 : Nat) && (f u0 (3 : Nat) == h u0 (3 : Nat) && (f u0 (4 : Nat) == h u0 (4 : Nat) && (f u0 (5 : Nat) == h u0 (5 : Nat) && (f u0 (6 : Nat) == h u0 (6 : Nat) && (f u0 (7 : Nat) == h u0 (7 : Nat) && (f u0 (8 : Nat) == h u0 (8 : Nat) && true))))))) && true && true)) then Res.out .ret [AV.v (.bool false)] u1 else Res.out .normal [AV.sl u2 (9 : Nat) u2 u2 m none, AV.sl 1 (9 : Nat) u2 u2 m none, AV.v (.int .i64 (IntKind.wrap .i64 (u3 + (1 : Int))))] u1) else Res.out (Ex.exit u2) [] u1 := by
  subst hu0 hu3 hu2 hu1
  kernel_rfl
theorem rndSw (m : Nat) (f h : Nat → Nat → Int) (i : Nat) : type_of% (rndSw_h m f h i _ rfl _ rfl _ rfl _ rfl) := rndSw_h m f h i _ rfl _ rfl _ rfl _ rfl

noncomputable abbrev lamSw (m : Nat) (f h : Nat → Nat → Int) (c : Bool) : Nat → Option Sum := oneL 0 (atS 26 (lvSw .normal) 2 [.sl 0 9 0 0 m none, .sl 1 9 0 0 m none, .v (i64 (0 : Nat))] (hpSw m f h) (fun K => cond c (K .normal (mkT 0 26 []) (hpSw m f h)) (K .ret (mkT 0 26 [(4, .v (.bool false))]) (hpSw m f h))))
theorem treeSm_h (m n : Nat) (f h : Nat → Nat → Int) (c : Bool) (u0 : _) (hu0 : (AB.row false m 9 (row9 f) 60) = u0) (u1 : _) (hu1 : (0 : Nat) = u1) (u2 : _) (hu2 : [u0, AB.row false m 9 (row9 h) 60] = u2) (u3 : _) (hu3 : [u0, AB.row false n 9 (row9 h) 60] = u3) : execF Tryz.prog g0 (lamSw m f h c) 100 Tryz.f13 [.sl 0 9 0 0 m none, .sl 1 9 0 0 n none] [.row false m 9 (row9 f) 60, .row false n 9 (row9 h) 60] (packK 2)
    = bif (m : Int) != (↑n : Int) then Res.out .ret [AV.v (.bool false)] u3 else needs [chk ([AV.sl u1 (9 : Nat) u1 u1 m none, AV.sl 1 (9 : Nat) u1 u1 n none, AV.v (.int .i64 0)] = [AV.sl u1 (9 : Nat) u1 u1 m none, AV.sl 1 (9 : Nat) u1 u1 m none, AV.v (.int .i64 0)] ∧ Hsim u3 (hpSw m f h))] (bif c then Res.out .ret [AV.v (.bool true)] u2 else Res.out .ret [AV.v (.bool false)] u2) := by
  subst hu3 hu2 hu1 hu0
  kernel_rfl
theorem treeSm (m n : Nat) (f h : Nat → Nat → Int) (c : Bool) : type_of% (treeSm_h m n f h c _ rfl _ rfl _ rfl _ rfl) := treeSm_h m n f h c _ rfl _ rfl _ rfl _ rfl

theorem sumSw (m : Nat) (f h : Nat → Nat → Int) (hm : m ≤ 2 ^ 40) :
    SumOk Tryz.prog 2 (.block 0 (.loop (loopAt 0 Tryz.f13))) (atS 26 (lvSw .normal) 2 [.sl 0 9 0 0 m none, .sl 1 9 0 0 m none, .v (i64 (0 : Nat))] (hpSw m f h) (fun K => cond (noneTo (badE f h) m) (K .normal (mkT 0 26 []) (hpSw m f h)) (K .ret (mkT 0 26 [(4, .v (.bool false))]) (hpSw m f h)))) := by
  refine for_at g0_ok (n := 100) (m := 2) (lv := lvSw) (fun i => [.sl 0 9 0 0 m none, .sl 1 9 0 0 m none, .v (i64 (i : Nat))]) (fun _ => hpSw m f h) (fun i => noneTo (badE f h) i = true) m (fun _ => noLam) (lv3_ris rfl rfl rfl) (Nat.le_refl _) rfl fun K Q hk i hi him => ⟨noLam_ok _ _ _, ?_⟩
  rw [rndSw]
  refine good_cond (fun c1 => ?_) fun c1 => ?_
  · have c1 := of_decide_eq_true c1
    have c1' : i < m := by omega
    rw [Int.toNat_natCast, Nat.zero_add, wr_in (x := (i : Int) + 1) (by omega)]
    refine good_needs (by simp only [ob_cons, ob_nil, and_true, decide_eq_true_eq]; omega) (good_cond (fun q => ?_) fun q => ?_)
    · have hb : badE f h i = true := by
        unfold badE
        rw [Bool.not_eq_true', decide_eq_false_iff_not]
        intro e
        simp only [whOf, Wh.mk.injEq, Cy.mk.injEq] at e
        obtain ⟨e0, e1, e2, e3, e4, e5, e6, e7, e8⟩ := e
        simp [e0, e1, e2, e3, e4, e5, e6, e7, e8] at q
      refine good_out ⟨_, Hsim.refl _, ?_⟩
      rw [noneTo_no c1' hb] at hk
      exact hk
    · have hb : badE f h i = false := by
        unfold badE
        rw [Bool.not_eq_false', decide_eq_true_eq]
        simp at q
        simp [whOf, q]
      exact good_out ⟨i + 1, ⟨rfl, c1', noneTo_succ hi hb⟩, rfl, Hsim.refl _⟩
  · have c1 := of_decide_eq_false c1
    have : i = m := by omega
    subst this
    refine good_out ⟨_, Hsim.refl _, ?_⟩
    rw [if_pos rfl]
    rw [hi] at hk
    exact hk
theorem ok_sameW : SpecOk Tryz.prog 13 (specR md_eqWS (FeqB eqL)) := by
  refine specR_hr g0_ok Tryz.func13 rfl fun sas fr hF ho => ?_
  unfold FeqB at hF
  split at hF
  · rename_i m g n g2
    cases hF
    simp only [ob_cons] at ho
    obtain ⟨h1, h2, h3, _⟩ := ho
    have hm := of_decide_eq_true h3
    refine ⟨[.row false m 9 (row9 (itW g)) 60, .row false n 9 (row9 (itW g2)) 60], lamSw m (itW g) (itW g2) (noneTo (badE (itW g) (itW g2)) m), 100, .cons (ABeq.row fun j hj => allW_get h1 j hj) (.cons (ABeq.row fun j hj => allW_get h2 j hj) .nil), lam1 (by kernel_rfl) (sumSw m (itW g) (itW g2) (by omega)), ?_⟩
    show GoodQ (execF Tryz.prog g0 (lamSw m (itW g) (itW g2) (noneTo (badE (itW g) (itW g2)) m)) 100 Tryz.f13 [.sl 0 9 0 0 m none, .sl 1 9 0 0 n none] [.row false m 9 (row9 (itW g)) 60, .row false n 9 (row9 (itW g2)) 60] (packK 2)) _
    rw [treeSm]
    refine good_cond (fun q => ?_) fun q => ?_
    · have hne : m ≠ n := fun e => by
        subst e
        simp at q
      exact good_out ⟨_, rfl, by rw [eqL_len (by rw [listW_length, listW_length]; exact hne)], .cons (ABeq.row fun j hj => (allW_get h1 j hj).symm) (.cons (ABeq.row fun j hj => (allW_get h2 j hj).symm) .nil)⟩
    · have e : m = n := by
        have q2 : (m : Int) = n := by simpa using q
        omega
      subst e
      refine good_needs (by rw [ob_cons]; exact ⟨chk_of ⟨rfl, Hsim.refl _⟩, rfl⟩) (good_cond (fun q => ?_) fun q => ?_)
      · exact good_out ⟨_, rfl, by rw [eqL_list, q], .cons (ABeq.row fun j hj => (allW_get h1 j hj).symm) (.cons (ABeq.row fun j hj => (allW_get h2 j hj).symm) .nil)⟩
      · exact good_out ⟨_, rfl, by rw [eqL_list, q], .cons (ABeq.row fun j hj => (allW_get h1 j hj).symm) (.cons (ABeq.row fun j hj => (allW_get h2 j hj).symm) .nil)⟩
  · cases hF

end Go.Proofs.YtddhmidegldhdaaGreatDoor

/- The set script, the law's tree. No conditions. -/
namespace Go.Proofs.YtddhmidegldhdaaGreatDoor
open Go.RowKit
set_option maxRecDepth 100000

def gmLEs (dt : Nat → (Nat → Int) → ByteArray) (yr ys : ByteArray → Bool) (tr ts : ByteArray → List Wh) (eq : List Wh → List Wh → Bool) (dc : Int → ByteArray) (p : Int → Bool) (fv pv : List Wh → Int) (ex : ByteArray → ByteArray) (ek : ByteArray → Bool) (el : Nat → ByteArray) : Gam :=
  ext (ext (ext (ext (ext (ext (ext (ext (ext g0 21 (specR md_co (FdrO fun m b => { val := .v (.string (dt m b)) }))) 22 (specU [.val] (UreO yr tr))) 23 (specR [.val] (FreO ys ts))) 13 (specR md_eqWS (FeqB eq))) 16 (specV (fDecP dc p))) 24 (specR md_ws (FnmO fv))) 25 (specR md_ws (FnmO pv))) 15 (specV (fExO ex ek))) 17 (specR md_ws (FelO el))
theorem lawEs_h (dt : Nat → (Nat → Int) → ByteArray) (yr ys : ByteArray → Bool) (tr ts : ByteArray → List Wh) (eq : List Wh → List Wh → Bool) (dc : Int → ByteArray) (p : Int → Bool) (fv pv : List Wh → Int) (ex : ByteArray → ByteArray) (ek : ByteArray → Bool) (el : Nat → ByteArray) (m : Nat) (b : Nat → Int) (u0 : _) (hu0 : (dt m (itB fun q ↦ rowB b ((0 : Nat) + q))) = u0) (u5 : _) (hu5 : [AB.row false m 1 (rowB b) 5] = u5) (u9 : _) (hu9 : (9223372036854775807 : Nat) = u9) (u11 : _) (hu11 : (decide (List.length (tr u0) ≤ (274877906944 : Nat))) = u11) (u13 : _) (hu13 : (catB (ByteArray.mk (Array.mk [(115 : UInt8), (101 : UInt8), (116 : UInt8), (32 : UInt8)])) u0) = u13) (u15 : _) (hu15 : (List.length (tr u0)) = u15) (u16 : _) (hu16 : (List.length (ts u0)) = u16) (u17 : _) (hu17 : (10 : UInt8) = u17) (u18 : _) (hu18 : [AV.v (.bool false)] = u18) (u1 : _) (hu1 : (listW (itW fun q ↦ row9 (wfun (tr u0)) ((0 : Nat) + q)) u15) = u1) (u3 : _) (hu3 : (catB u13 (ByteArray.mk (Array.mk [u17, (115 : UInt8), (104 : UInt8), (111 : UInt8), (119 : UInt8), u17, (102 : UInt8), (111 : UInt8), (108 : UInt8), (100 : UInt8), u17, (112 : UInt8), (101 : UInt8), (114 : UInt8), (105 : UInt8), (111 : UInt8), (100 : UInt8), u17]))) = u3) (u6 : _) (hu6 : (ByteArray.mk (Array.mk [u17])) = u6) (u7 : _) (hu7 : (allW u15 fun q ↦ row9 (wfun (tr u0)) ((0 : Nat) + q)) = u7) (u8 : _) (hu8 : (Res.out .ret [AV.v (.bool (eq u1 (listW (itW (row9 (wfun (ts u0)))) u16)))] u5) = u8) (u10 : _) (hu10 : (Nat.ble ((0 : Nat) + List.length (tr u0)) u15) = u10) (u14 : _) (hu14 : (catB (ByteArray.mk (Array.mk [(111 : UInt8), (107 : UInt8), u17])) u0) = u14) (u2 : _) (hu2 : [u10, Nat.ble u16 u16, u7, allW u16 (row9 (wfun (ts u0))), u11] = u2) (u4 : _) (hu4 : (catB u14 u6) = u4) (u19 : _) (hu19 : (catB u4 (dc (fv u1))) = u19) (u12 : _) (hu12 : (catB (catB u19 u6) (dc (pv u1))) = u12) : execF Tryz.prog (gmLEs dt yr ys tr ts eq dc p fv pv ex ek el) noLam 100 Tryz.f5 [.sl 0 1 0 0 m none] [.row false m 1 (rowB b) 5] (packK 1)
    = bif decide ((m : Int) > (1048576 : Int)) then Res.out .ret [AV.v (.bool true)] u5 else needs [Nat.ble ((0 : Nat) + m) m, okB m fun q ↦ rowB b ((0 : Nat) + q), decide (m ≤ (2097152 : Nat))] (bif !yr u0 == ys u0 then bif yr u0 == ys u0 then needs u2 u8 else Res.out .ret u18 u5 else needs u2 (bif !eq u1 (listW (itW (row9 (wfun (ts u0)))) u16) then bif yr u0 == ys u0 then needs u2 u8 else Res.out .ret u18 u5 else bif !yr u0 then bif yr u0 == ys u0 then needs u2 u8 else Res.out .ret u18 u5 else needs [Nat.ble ((4 : Nat) + ByteArray.size u0) u9, Nat.ble (ByteArray.size u13 + (18 : Nat)) u9] (bif decide ((↑(ByteArray.size u3) : Int) > (900 : Int)) then Res.out .ret [AV.v (.bool true)] u5 else needs [ek u3, Nat.ble ((3 : Nat) + ByteArray.size u0) u9, Nat.ble (ByteArray.size u14 + (1 : Nat)) u9, u10, u7, u11, p (fv u1), Nat.ble (ByteArray.size u4 + ByteArray.size (dc (fv u1))) u9, Nat.ble (ByteArray.size u19 + (1 : Nat)) u9, u10, u7, u11, p (pv u1), Nat.ble (ByteArray.size (catB u19 u6) + ByteArray.size (dc (pv u1))) u9, Nat.ble (ByteArray.size u12 + (1 : Nat)) u9, u10, u7, u11, Nat.ble (ByteArray.size (catB u12 u6) + ByteArray.size (el u15)) u9] (Res.out .ret [AV.v (.bool (eqB (ex u3) (catB (catB u12 u6) (el u15))))] u5)))) := by
  subst hu12 hu19 hu4 hu2 hu14 hu10 hu8 hu7 hu6 hu3 hu1 hu18 hu17 hu16 hu15 hu13 hu11 hu9 hu5 hu0
  kernel_rfl
theorem lawEs (dt : Nat → (Nat → Int) → ByteArray) (yr ys : ByteArray → Bool) (tr ts : ByteArray → List Wh) (eq : List Wh → List Wh → Bool) (dc : Int → ByteArray) (p : Int → Bool) (fv pv : List Wh → Int) (ex : ByteArray → ByteArray) (ek : ByteArray → Bool) (el : Nat → ByteArray) (m : Nat) (b : Nat → Int) : type_of% (lawEs_h dt yr ys tr ts eq dc p fv pv ex ek el m b _ rfl _ rfl _ rfl _ rfl _ rfl _ rfl _ rfl _ rfl _ rfl _ rfl _ rfl _ rfl _ rfl _ rfl _ rfl _ rfl _ rfl _ rfl _ rfl _ rfl) := lawEs_h dt yr ys tr ts eq dc p fv pv ex ek el m b _ rfl _ rfl _ rfl _ rfl _ rfl _ rfl _ rfl _ rfl _ rfl _ rfl _ rfl _ rfl _ rfl _ rfl _ rfl _ rfl _ rfl _ rfl _ rfl _ rfl

theorem gmLEs_ok : GamOk Tryz.prog (gmLEs bDr yRI yRS tRI tRS eqL decB (fun n => decide (-9223372036854775807 ≤ n ∧ n ≤ 9223372036854775807)) fldV perV (exB SgS) (exOk SgS) elB) :=
  ext_ok (ext_ok (ext_ok (ext_ok (ext_ok (ext_ok (ext_ok (ext_ok (ext_ok g0_ok ok_drDr) ok_Ure) ok_reS) ok_sameW) ok_dgt) ok_foI) ok_peI) (ok_ex SgS)) ok_el

end Go.Proofs.YtddhmidegldhdaaGreatDoor

/- DrawRingDesign: four values, whatever the bytes are. Conditions: bytes, at most 2^21. -/
namespace Go.Proofs.YtddhmidegldhdaaGreatDoor
open Go.RowKit
set_option maxRecDepth 100000

end Go.Proofs.YtddhmidegldhdaaGreatDoor

/- The ring's script, the law's tree. No conditions. -/
namespace Go.Proofs.YtddhmidegldhdaaGreatDoor
open Go.RowKit
set_option maxRecDepth 100000

end Go.Proofs.YtddhmidegldhdaaGreatDoor

/- FnExecuteRing returns true, whatever the bytes are. Conditions: bytes. -/
namespace Go.Proofs.YtddhmidegldhdaaGreatDoor
open Go.RowKit
set_option maxRecDepth 100000

theorem catB_lm (a b : List UInt8) : catB (ByteArray.mk (Array.mk a)) (ByteArray.mk (Array.mk b)) = ByteArray.mk (Array.mk (a ++ b)) := catB_mk a b
theorem decB_lm (n : Int) : decB n = ByteArray.mk (Array.mk (Lib.itoa n)) := rfl
theorem elB_lm (n : Nat) : elB n = ByteArray.mk (Array.mk (elL n)) := rfl
theorem size_lm (a : List UInt8) : (ByteArray.mk (Array.mk a)).size = a.length := rfl
end Go.Proofs.YtddhmidegldhdaaGreatDoor

/- FnExecuteSet returns true, whatever the bytes are. Conditions: bytes. -/
namespace Go.Proofs.YtddhmidegldhdaaGreatDoor
open Go.RowKit
set_option maxRecDepth 100000

theorem setS_len (s : List UInt8) : (setS s).length = s.length + 22 := by
  simp only [setS, setL, setW, foldW, perW, showL, List.length_append, List.length_cons, List.length_nil]
  omega
theorem set_ok {s : ByteArray} (hy : yRI s = true) (hz : (setS s.data.toList).length ≤ 900) :
    exOk SgS ⟨(setS s.data.toList).toArray⟩ = true ∧ exB SgS ⟨(setS s.data.toList).toArray⟩ = ByteArray.mk (Array.mk (([111, 107, 10] ++ ((s.data.toList ++ [10]) ++ ((Lib.itoa (fldV (tRI s)) ++ [10]) ++ (Lib.itoa (perV (tRI s)) ++ [10])))) ++ elL (tRI s).length)) := by
  obtain ⟨hT, ht, hs⟩ := (re_iff s (tRI s)).1 ⟨hy, rfl⟩
  have hx : txV (tRI s) = s := by rw [txV, yI_self hT, cond_true, tI_self hT, ht]
  have hfree : (10 : UInt8) ∉ s.data.toList := ht ▸ textN_free (tRI s)
  have hl := setS_lines hfree
  have hse := set_sess hy
  rw [hx] at hse
  have h12 := tidy_12 hT
  have f1 := fld_in hT
  have f2 := per_in hT
  have n1 := itoa_short (fldV (tRI s)) (by omega) (by omega)
  have n2 := itoa_short (perV (tRI s)) (by omega) (by omega)
  have e0 : (ByteArray.mk (setS s.data.toList).toArray).data.toList = setS s.data.toList := rfl
  have hsl := setS_len s.data.toList
  have e1 : exQ SgS [setL s.data.toList] = (tRI s, [111, 107, 10]) := by
    unfold exQ
    simp only [List.foldl_cons, List.foldl_nil, sessQ, set_line hy, List.nil_append]
    rfl
  have e2 : exQ SgS [setL s.data.toList, showL] = (tRI s, [111, 107, 10] ++ (s.data.toList ++ [10])) := by
    unfold exQ
    simp only [List.foldl_cons, List.foldl_nil, sessQ, set_line hy, show_lineS, List.nil_append, hx]
    rfl
  have e3 : exQ SgS [setL s.data.toList, showL, foldW] = (tRI s, [111, 107, 10] ++ ((s.data.toList ++ [10]) ++ (Lib.itoa (fldV (tRI s)) ++ [10]))) := by
    unfold exQ
    simp only [List.foldl_cons, List.foldl_nil, sessQ, set_line hy, show_lineS, fold_line, List.nil_append, List.append_assoc, hx]
    rfl
  have key : ∀ k, (exQ SgS (([setL s.data.toList, showL, foldW, perW] : List (List UInt8)).take k)).1.length ≤ 12 ∧ (exQ SgS (([setL s.data.toList, showL, foldW, perW] : List (List UInt8)).take k)).2.length ≤ 2000 := fun k => by
    match k with
    | 0 => exact ⟨Nat.zero_le _, Nat.zero_le _⟩
    | 1 =>
      show (exQ SgS [setL s.data.toList]).1.length ≤ 12 ∧ (exQ SgS [setL s.data.toList]).2.length ≤ 2000
      rw [e1]
      exact ⟨h12, (by decide : (3 : Nat) ≤ 2000)⟩
    | 2 =>
      show (exQ SgS [setL s.data.toList, showL]).1.length ≤ 12 ∧ (exQ SgS [setL s.data.toList, showL]).2.length ≤ 2000
      rw [e2]
      refine ⟨h12, ?_⟩
      simp only [List.length_append, List.length_cons, List.length_nil]
      omega
    | 3 =>
      show (exQ SgS [setL s.data.toList, showL, foldW]).1.length ≤ 12 ∧ (exQ SgS [setL s.data.toList, showL, foldW]).2.length ≤ 2000
      rw [e3]
      refine ⟨h12, ?_⟩
      simp only [List.length_append, List.length_cons, List.length_nil]
      omega
    | k + 4 =>
      rw [List.take_of_length_le (by simp), hse]
      refine ⟨h12, ?_⟩
      simp only [List.length_append, List.length_cons, List.length_nil]
      omega
  refine ⟨exOk_iff.2 ⟨?_, ?_, ?_, ?_⟩, ?_⟩
  · rw [mkS_size]
    exact hz
  · rw [e0, hl]
    intro l hl
    rcases List.mem_cons.1 hl with rfl | hl
    · exact line_set _
    · rcases List.mem_cons.1 hl with rfl | hl
      · exact line_show2
      · rcases List.mem_cons.1 hl with rfl | hl
        · exact line_fold
        · rw [List.mem_singleton.1 hl]
          exact line_per
  · rw [e0, hl]
    intro k
    exact Nat.le_trans (key k).2 (by decide)
  · rw [e0, hl]
    intro k
    exact Nat.le_trans (key k).1 (by decide)
  · unfold exB
    rw [e0, hl, hse]
    rfl
theorem yes_es (m : Nat) (b : Nat → Int) (_ : m ≤ 9223372036854775807) (hb : okB m (rowB b) = true) : ∃ Γ n Λ, GamOk Tryz.prog Γ ∧ (∀ cc, (Tryz.f5).body = some cc → LamOk Tryz.prog 1 Λ cc) ∧ GoodQ (execF Tryz.prog Γ Λ n Tryz.f5 [.sl 0 1 0 0 m none] [.row false m 1 (rowB b) 5] (packK 1)) SaysYes := by
  refine ⟨_, 100, noLam, gmLEs_ok, noLam' _, ?_⟩
  rw [lawEs]
  refine good_cond (fun _ => good_out rfl) fun c => ?_
  have c := of_decide_eq_false c
  have b21 : decide (m ≤ 2097152) = true := decide_eq_true (by omega)
  simp only [Nat.zero_add, itB_row, listW_me]
  generalize bDr m b = s
  obtain ⟨r1, r2⟩ := re_rs s
  rw [r1, r2]
  have hl : (tRI s).length ≤ 12 := tidy_12 (tRI_tidy s)
  simp only [hb, b21, b38 hl, ble_me, allW_row, needs_t, needs_nil, beq_self_eq_true, eqL_me, Bool.not_true, cond_false, cond_true]
  refine good_cond (fun _ => good_out rfl) fun h => ?_
  have hy : yRI s = true := by simpa using h
  obtain ⟨hT, ht, hs⟩ := (re_iff s (tRI s)).1 ⟨hy, rfl⟩
  have f1 := fld_in hT
  have f2 := per_in hT
  have n1 := itoa_short (fldV (tRI s)) (by omega) (by omega)
  have n2 := itoa_short (perV (tRI s)) (by omega) (by omega)
  have n4 := itoa_short (tRI s).length (by omega) (by omega)
  have hok := set_ok hy
  have hsl := setS_len s.data.toList
  have ez : s.data.toList.length = s.size := by rw [Array.length_toList]; rfl
  have ex : s = ByteArray.mk (Array.mk s.data.toList) := rfl
  generalize s.data.toList = S at *
  rw [ex]
  simp only [decB_lm, catB_lm, elB_lm, size_lm]
  have e1 : ([115, 101, 116, 32] ++ S ++ [10, 115, 104, 111, 119, 10, 102, 111, 108, 100, 10, 112, 101, 114, 105, 111, 100, 10] : List UInt8) = setS S := by
    simp [setS, setL, setW, foldW, perW, showL]
  rw [e1]
  refine good_needs (by simp only [ob_cons, ob_nil, and_true, Nat.ble_eq, List.length_append, List.length_cons, List.length_nil]; omega) (good_cond (fun _ => good_out rfl) fun c2 => ?_)
  have c2 := of_decide_eq_false c2
  obtain ⟨k1, k2⟩ := hok (by omega)
  refine good_needs ?_ (good_out ?_)
  · simp only [ob_cons, ob_nil, and_true, decide_eq_true_eq, Nat.ble_eq, List.length_append, List.length_cons, List.length_nil, elL]
    rw [← ex]
    refine ⟨k1, ?_⟩
    simp only [true_and, and_true]
    omega
  · rw [show exB SgS (ByteArray.mk (Array.mk (setS S))) = _ from k2]
    rw [← ex]
    have e2 : ∀ F P E : List UInt8, ([111, 107, 10] ++ S ++ [10] ++ F ++ [10] ++ P ++ [10] ++ E : List UInt8) = [111, 107, 10] ++ (S ++ [10] ++ (F ++ [10] ++ (P ++ [10]))) ++ E := fun F P E => by simp
    rw [e2]
    exact congrArg (fun x => [AV.v (.bool x)]) (eqB_self _)
end Go.Proofs.YtddhmidegldhdaaGreatDoor

/- A design's text is set and shown: FnExecuteSet returns true, and its arguments read as before. Conditions: the tables, as the row lists them; tied by the card. -/
namespace Go.Proofs.YtddhmidegldhdaaGreatDoor
open Go.ChangeShapes Go.WideShapes Go.ChangeAt Go.RowKit

set_option maxRecDepth 100000
theorem exs_lifted (os : Os) (started : os.Started) (H : Type) (enc : TypeId × Value → H) :
    ReturnsInHanded {} Tryz.checked os 5 .any (fun w args => (Rows.fnExecuteSetSpec.pre enc Tryz.prog Tryz.f5 Rows.fnExecuteSetRow.domain false w args ∧ laidMetH Tryz.prog Rows.fnExecuteSetRow.laid w) ∧ sizedMet enc Tryz.prog Tryz.f5 (OpenSpec.ofChange Rows.fnExecuteSetSpec) false w args)
      (Rows.fnExecuteSetSpec.post enc Tryz.prog Tryz.f5 false true false false) := by
  refine wrapS (C := Tryz.checked) (X := fun w _ => laidMetH Tryz.prog Rows.fnExecuteSetRow.laid w) (fun _ _ _ hh h => h.of_heap hh) own started (by kernel_rfl) Tryz.func5
    (ChangeSpec.witness_at (enc := enc) (C := Tryz.checked) (os := os) (X := fun w _ => laidMetH Tryz.prog Rows.fnExecuteSetRow.laid w) false (laidH os) #[.slice none 0 0] 8 rfl (by kernel_rfl) (by kernel_rfl) (by kernel_rfl) (by kernel_rfl) (by kernel_rfl) (laidH_met os _)) ?_
  intro W base args ds gs before hval hW hL hsh
  exact contractB (spec := Rows.fnExecuteSetSpec) Tryz.func5 rfl rfl rfl (fun _ _ => rfl) (fun m b hm hb => yes_es m b hm hb) H enc W base args ds gs before hval hW (laid_tab hL hsh)

set_option maxRecDepth 100000 in
theorem exs_f1 : Rows.fnExecuteSetRow.wf (OpenSpec.ofChange Rows.fnExecuteSetSpec) = true := by kernel_rfl
set_option maxRecDepth 100000 in
theorem exs_f2 : (Rows.fnExecuteSetRow.inPlace == Tryz.prog.inPlace 5) = true := by kernel_rfl
set_option maxRecDepth 100000 in
theorem exs_f3 : (Rows.fnExecuteSetRow.unfollowed == Tryz.prog.unfollowed 5) = true := by kernel_rfl
set_option maxRecDepth 100000 in
theorem exs_f4 : (Rows.fnExecuteSetRow.recurses == Tryz.prog.recurses 5) = true := by kernel_rfl
set_option maxRecDepth 100000 in
theorem exs_f5 : (Rows.fnExecuteSetRow.named == Tryz.prog.varsNamed 5) = true := by kernel_rfl
set_option maxRecDepth 100000 in
theorem exs_f6 : Tryz.prog.funcNamed Rows.fnExecuteSetRow.func = some 5 := by kernel_rfl
theorem exs_f7 : (Rows.fnExecuteSetRow.lifted == Tryz.prog.liftsFinal) = true := jfG
theorem exs_f8 : (Tryz.prog.make == some Rows.fnExecuteSetRow.make) = true := jfH
theorem exs_f9 : (Rows.fnExecuteSetRow.plainKeys == Tryz.prog.plainKeys) = true := jfI
set_option maxRecDepth 100000 in
theorem exs_joined : joinedFacts Tryz.prog 5 Tryz.f5 Rows.fnExecuteSetSpec Rows.fnExecuteSetRow = true := by
  unfold joinedFacts
  rw [jfA, jfB, jfC, jfD, jfE, jfF, exs_f1, exs_f2, exs_f3, exs_f4, exs_f5, exs_f7, exs_f8, exs_f9]
  kernel_rfl

theorem exs_said : Rows.FnExecuteSetSaid :=
  OpenClaim.holds_of_wide 5 Tryz.f5 rfl rfl rfl rfl rfl rfl rfl ⟨rfl, rfl, rfl, rfl, rfl⟩ rfl rfl rfl rfl rfl exs_f6 Tryz.func5 exs_joined
    (of_decide_eq_true (by kernel_rfl)) (by unfold Func.isWrapper; first | (rw [if_pos (by decide +kernel)]; kernel_rfl) | (rw [if_neg (by decide +kernel)]; exact ⟨rfl, rfl⟩))
    (fun os started H enc _ => exs_lifted os started H enc)

set_option maxRecDepth 100000 in
theorem exs_w : Rows.fnExecuteSetRow.wfByText (OpenSpec.ofChange Rows.fnExecuteSetSpec) = true := by kernel_rfl
set_option maxRecDepth 100000 in
theorem exs_m : Tryz.prog.mainIs = some (true, "3d31fffe0e7f2f3809f8f5b05f0aaa9165427e1982440e4b7557c38c542767c8".toList) := by kernel_rfl
set_option maxRecDepth 100000 in
theorem exs_lk : true = Tryz.prog.looks [] := by kernel_rfl
set_option maxRecDepth 100000 in
theorem exs_st : Tryz.prog.wantsStandIn 22 = false := by kernel_rfl
set_option maxRecDepth 100000 in
theorem exs_g : false = Rows.fnExecuteSetRow.goesBy Tryz.prog := by kernel_rfl
theorem exs_holds : Rows.FnExecuteSetCardSaid :=
  Claim7.holds_tied_plain_at .later [] [.data, .data, .data, .data, .handle, .sentinel, .sentinel, .pinned] true (true, "3d31fffe0e7f2f3809f8f5b05f0aaa9165427e1982440e4b7557c38c542767c8") true
    exs_said (fun _ h => by cases h) exs_w (fun _ h => by cases h) fnExecuteSet_row_tie rfl ⟨rfl, rfl⟩ exs_m rfl
    (fun f fn hf hfn => by
      obtain rfl : f = 5 := (Option.some.inj (exs_f6.symm.trans hf)).symm
      obtain rfl : fn = Tryz.f5 := (Option.some.inj (Tryz.func5.symm.trans hfn)).symm
      exact ⟨exs_lk, fun j t ht => by
        rw [Tryz.params5] at ht
        have h3 : t = 22 := by
          rcases j with _ | j
          · simpa using ht.symm
          · simp at ht
        subst h3
        exact exs_st⟩)
    exs_g
#print axioms exs_holds

end Go.Proofs.YtddhmidegldhdaaGreatDoor
