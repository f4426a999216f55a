/- A ring's script makes the ring: FnExecuteRing returns true, and its arguments read as before. Conditions: the tables, as the row lists them; tied by the card. -/
import Derived.Test.YtddhmidegldhdaaGreatDoorZD0
import Derived.Test.YtddhmidegldhdaaGreatDoorZD1
import Derived.Test.YtddhmidegldhdaaGreatDoorZD2
import Derived.Test.YtddhmidegldhdaaGreatDoorZD3
import Derived.Test.YtddhmidegldhdaaGreatDoorZD4
import Derived.Test.YtddhmidegldhdaaGreatDoorZD5
import Derived.Test.YtddhmidegldhdaaGreatDoorZD6
import Derived.Test.YtddhmidegldhdaaGreatDoorZD7
import Derived.Test.YtddhmidegldhdaaGreatDoorZD8
import Derived.Test.YtddhmidegldhdaaGreatDoorTie
import Derived.SevenTiedAt
/- The laws' digits, endLine. Conditions: the int's range. -/
namespace Go.Proofs.YtddhmidegldhdaaGreatDoor
open Go.RowKit Go.Shelf
set_option maxRecDepth 100000

def gmDgt (dc : Int → ByteArray) (p : Int → Bool) : Gam := ext g0 16 (specV (fDecP dc p))

theorem treeDgt_h (dc : Int → ByteArray) (p : Int → Bool) (n : Int) (u0 : _) (hu0 : (IntKind.wrap .i64 ((48 : Int) + Int.tmod n (10 : Int))) = u0) (u1 : _) (hu1 : (IntKind.wrap .i64 (Int.tdiv n (10 : Int))) = u1) (u2 : _) (hu2 : (IntKind.wrap .i64 ((48 : Int) + n)) = u2) (u3 : _) (hu3 : (IntKind.wrap .i64 ((0 : Int) - n)) = u3) (u4 : _) (hu4 : (txOf [u8Of (IntKind.wrap .u8 u0)]) = u4) : execF Tryz.prog (gmDgt dc p) noLam 100 Tryz.f16 [.v (i64 n)] [] valK
    = bif decide (n < (0 : Int)) then needs [p u3, Nat.ble ((1 : Nat) + ByteArray.size (dc u3)) (9223372036854775807 : Nat)] (Res.out .ret [AV.v (.string (catB (ByteArray.mk (Array.mk [(45 : UInt8)])) (dc u3)))] []) else bif decide (n < (10 : Int)) then needs [decide ((0 : Int) ≤ IntKind.wrap .u8 u2), decide (IntKind.wrap .u8 u2 < (256 : Int))] (Res.out .ret [AV.v (.string (txOf [u8Of (IntKind.wrap .u8 u2)]))] []) else needs [p u1, decide ((0 : Int) ≤ IntKind.wrap .u8 u0), decide (IntKind.wrap .u8 u0 < (256 : Int)), Nat.ble (ByteArray.size (dc u1) + ByteArray.size u4) (9223372036854775807 : Nat)] (Res.out .ret [AV.v (.string (catB (dc u1) u4))] []) := by
  subst hu4 hu3 hu2 hu1 hu0
  kernel_rfl
theorem treeDgt (dc : Int → ByteArray) (p : Int → Bool) (n : Int) : type_of% (treeDgt_h dc p n _ rfl _ rfl _ rfl _ rfl _ rfl) := treeDgt_h dc p n _ rfl _ rfl _ rfl _ rfl _ rfl

theorem dgt_step {p q : Int → Bool} (hp : SpecOk Tryz.prog 16 (specV (fDecP decB p))) (h1 : ∀ n, q n = true → -9223372036854775807 ≤ n ∧ n ≤ 9223372036854775807) (h2 : ∀ n, q n = true → n < 0 → p (-n) = true)
    (h3 : ∀ n, q n = true → 10 ≤ n → p (n.tdiv 10) = true) : SpecOk Tryz.prog 16 (specV (fDecP decB q)) := by
  refine mkV (n := 100) (ext_ok g0_ok hp) Tryz.func16 rfl fun vs x ob hF ho => ?_
  unfold fDecP at hF
  split at hF
  · rename_i n
    simp only [Option.some.injEq, Prod.mk.injEq] at hF
    obtain ⟨rfl, rfl⟩ := hF
    have hq : q n = true := by simpa [obls] using ho
    obtain ⟨r1, r2⟩ := h1 n hq
    have e := treeDgt decB p n
    unfold gmDgt at e
    simp only [List.map_cons, List.map_nil]
    rw [e]
    have W1 : ∀ {x : Int}, -9223372036854775808 ≤ x → x ≤ 9223372036854775807 → IntKind.wrap IntKind.i64 x = x := fun a b => wr_in ⟨a, b⟩
    have U1 : ∀ {x : Int}, 0 ≤ x → x < 10 → 0 ≤ IntKind.wrap IntKind.u8 (48 + x) ∧ IntKind.wrap IntKind.u8 (48 + x) < 256 := fun _ _ => by rw [IntKind.wrap_u8]; omega
    suffices h : GoodQ _ (Gives (.string (decB n))) from ⟨h.out⟩
    refine good_cond (fun c2 => ?_) fun c2 => good_cond (fun c3 => ?_) fun c3 => ?_
    · have c2 := of_decide_eq_true c2
      rw [W1 (by omega) (by omega), Int.zero_sub]
      have hs := decB_size (n := -n) (by omega) (by omega)
      refine good_needs (by simp only [ob_cons, ob_nil, and_true, Nat.ble_eq]; exact ⟨h2 n hq c2, by omega⟩) (good_out ⟨_, rfl, ?_⟩)
      rw [decB_neg c2]
      rfl
    · have c2 := of_decide_eq_false c2
      have c3 := of_decide_eq_true c3
      rw [W1 (by omega) (by omega)]
      obtain ⟨u1, u2⟩ := U1 (x := n) (by omega) (by omega)
      refine good_needs (by simp only [ob_cons, ob_nil, and_true, decide_eq_true_eq]; exact ⟨u1, u2⟩) (good_out ⟨_, rfl, ?_⟩)
      rw [decB_small (by omega) (by omega)]
      rfl
    · have c2 := of_decide_eq_false c2
      have c3 := of_decide_eq_false c3
      have e1 : n.tdiv 10 = n / 10 := Int.tdiv_eq_ediv_of_nonneg (by omega)
      have e2 : n.tmod 10 = n % 10 := Int.tmod_eq_emod_of_nonneg (by omega)
      have hp := h3 n hq (by omega)
      rw [W1 (x := n.tdiv 10) (by omega) (by omega), W1 (x := 48 + n.tmod 10) (by omega) (by omega)]
      obtain ⟨u1, u2⟩ := U1 (x := n.tmod 10) (by omega) (by omega)
      have hs := decB_size (n := n.tdiv 10) (by omega) (by omega)
      have ht : (txOf [u8Of (IntKind.wrap IntKind.u8 (48 + n.tmod 10))]).size = 1 := rfl
      refine good_needs (by simp only [ob_cons, ob_nil, and_true, decide_eq_true_eq, Nat.ble_eq]; exact ⟨hp, u1, u2, by omega⟩) (good_out ⟨_, rfl, ?_⟩)
      rw [decB_big (n := n) (by omega)]
      rfl
  · cases hF

theorem dgt_zero : SpecOk Tryz.prog 16 (specV (fDecP decB fun _ => false)) := by
  refine specV_ok (fun args w => enters 16 Tryz.f16 Tryz.func16 rfl args w) fun vs x ob hF ho => ?_
  unfold fDecP at hF
  split at hF
  · simp only [Option.some.injEq, Prod.mk.injEq] at hF
    obtain ⟨rfl, rfl⟩ := hF
    simp [obls] at ho
  · cases hF
theorem dgt_at : ∀ k : Nat, SpecOk Tryz.prog 16 (specV (fDecP decB (inDec (k + 1))))
  | 0 => dgt_step dgt_zero (fun n h => by simp only [inDec, decide_eq_true_eq] at h; omega) (fun n h => by simp only [inDec, decide_eq_true_eq] at h; omega) (fun n h => by simp only [inDec, decide_eq_true_eq] at h; omega)
  | k + 1 => dgt_step (dgt_at k) (fun n h => by simp only [inDec, decide_eq_true_eq] at h; omega) (fun n h => by simp only [inDec, decide_eq_true_eq] at h; omega) (fun n h h10 => by
    simp only [inDec, decide_eq_true_eq] at h ⊢
    rw [Int.pow_succ] at h
    have e1 : n.tdiv 10 = n / 10 := Int.tdiv_eq_ediv_of_nonneg (by omega)
    omega)
theorem ok_dgt : SpecOk Tryz.prog 16 (specV (fDecP decB fun n => decide (-9223372036854775807 ≤ n ∧ n ≤ 9223372036854775807))) :=
  dgt_step (dgt_at 19) (fun n h => by simpa using h) (fun n h h0 => by simp only [inDec, decide_eq_true_eq] at h ⊢; omega) (fun n h h0 => by
    simp only [inDec, decide_eq_true_eq] at h ⊢
    have e1 : n.tdiv 10 = n / 10 := Int.tdiv_eq_ediv_of_nonneg (by omega)
    omega)


theorem treeEl (dc : Int → ByteArray) (p : Int → Bool) (n : Nat) (W : Nat → Nat → Int) : execF Tryz.prog (ext g0 16 (specV (fDecP dc p))) noLam 100 Tryz.f17 [.sl 0 9 0 0 n none] (hpC n W) (packK 1)
    = needs [p (↑n : Int), Nat.ble ((7 : Nat) + ByteArray.size (dc (↑n : Int))) (9223372036854775807 : Nat), Nat.ble (ByteArray.size (catB (ByteArray.mk (Array.mk [(119 : UInt8), (104 : UInt8), (101 : UInt8), (101 : UInt8), (108 : UInt8), (115 : UInt8), (32 : UInt8)])) (dc (↑n : Int))) + (1 : Nat)) (9223372036854775807 : Nat)] (Res.out .ret [AV.v (.string (catB (catB (ByteArray.mk (Array.mk [(119 : UInt8), (104 : UInt8), (101 : UInt8), (101 : UInt8), (108 : UInt8), (115 : UInt8), (32 : UInt8)])) (dc (↑n : Int))) (ByteArray.mk (Array.mk [(10 : UInt8)]))))] [AB.row false n 9 (row9 W) 60]) := by kernel_rfl

def elL (n : Nat) : List UInt8 := [119, 104, 101, 101, 108, 115, 32] ++ (Lib.itoa n ++ [10])
def elB (n : Nat) : ByteArray := ⟨(elL n).toArray⟩
theorem catB_ls (a b : List UInt8) : catB ⟨a.toArray⟩ ⟨b.toArray⟩ = ⟨(a ++ b).toArray⟩ := ByteArray.mk_append_mk a b
def FelO (el : Nat → ByteArray) : List SA → Option FR
  | [.row m g] => some { val := .v (.string (el m)), obl := [allW m g, decide (m ≤ 2 ^ 38)] }
  | _ => none
theorem ok_el : SpecOk Tryz.prog 17 (specR md_ws (FelO elB)) := by
  refine specR_hr (ext_ok g0_ok ok_dgt) Tryz.func17 rfl fun sas fr hF ho => ?_
  unfold FelO at hF
  split at hF
  · rename_i m g
    cases hF
    simp only [ob_cons] at ho
    obtain ⟨h1, h2, _⟩ := ho
    have hm := of_decide_eq_true h2
    refine ⟨hpC m (itW g), noLam, 100, .cons (ABeq.row fun j hj => allW_get h1 j hj) .nil, fun _ _ => noLam_ok _ _ _, ?_⟩
    have e := treeEl decB (fun n => decide (-9223372036854775807 ≤ n ∧ n ≤ 9223372036854775807)) m (itW g)
    show GoodQ (execF Tryz.prog (ext g0 16 (specV (fDecP decB fun n => decide (-9223372036854775807 ≤ n ∧ n ≤ 9223372036854775807)))) noLam 100 Tryz.f17 [.sl 0 9 0 0 m none] (hpC m (itW g)) (packK 1)) _
    rw [e]
    have hs := decB_size (n := (m : Int)) (by omega) (by omega)
    have e1 : catB (ByteArray.mk (Array.mk [119, 104, 101, 101, 108, 115, 32])) (decB (m : Int)) = ⟨([119, 104, 101, 101, 108, 115, 32] ++ Lib.itoa m).toArray⟩ := catB_ls _ _
    have hs2 : (catB (ByteArray.mk (Array.mk [119, 104, 101, 101, 108, 115, 32])) (decB (m : Int))).size ≤ 27 := by
      rw [e1]
      have : (decB (m : Int)).size = (Lib.itoa m).length := by simp [decB, ByteArray.size]
      simp only [ByteArray.size, List.size_toArray, List.length_append, List.length_cons, List.length_nil]
      omega
    refine good_needs (by simp only [ob_cons, ob_nil, and_true, decide_eq_true_eq, Nat.ble_eq]; omega) (good_out ⟨_, rfl, ?_, .cons (ABeq.row fun j hj => (allW_get h1 j hj).symm) .nil⟩)
    rw [e1, show (ByteArray.mk (Array.mk [10])) = ⟨([10] : List UInt8).toArray⟩ from rfl, catB_ls, List.append_assoc]
    rfl
  · cases hF

end Go.Proofs.YtddhmidegldhdaaGreatDoor

/- A ring's script. Conditions: the ring's. -/
namespace Go.Proofs.YtddhmidegldhdaaGreatDoor
open Go.RowKit
set_option maxRecDepth 100000

def exB (Sg : CmdT) (s : ByteArray) : ByteArray := ⟨(endQ (exQ Sg (linesQ s.data.toList))).toArray⟩
structure ExOk (Sg : CmdT) (s : ByteArray) : Prop where
  size : s.size ≤ 900
  ok : ∀ l ∈ linesQ s.data.toList, LineOk Sg l
  len : ∀ k, (exQ Sg ((linesQ s.data.toList).take k)).2.length ≤ 90000000
  lst : ∀ k, (exQ Sg ((linesQ s.data.toList).take k)).1.length ≤ 100000
noncomputable def exOk (Sg : CmdT) (s : ByteArray) : Bool := @decide (ExOk Sg s) (Classical.propDecidable _)
theorem exOk_iff {Sg : CmdT} {s : ByteArray} : exOk Sg s = true ↔ ExOk Sg s := by
  unfold exOk
  exact @decide_eq_true_iff _ (Classical.propDecidable _)
def fExO (ex : ByteArray → ByteArray) (ok : ByteArray → Bool) : List Value → Option (Value × List Bool)
  | [.string s] => some (.string (ex s), [ok s])
  | _ => none
theorem Fr.none {w w' : World} (f : Fr (nwM w) w w') : Fr (fun _ => False) w w' := ⟨f.os, f.tape, f.output, f.size, fun k hk _ => f.block k hk (Nat.not_le.2 hk)⟩
theorem ok_ex (Sg : CmdT) : SpecOk Tryz.prog 15 (specV (fExO (exB Sg) (exOk Sg))) := by
  refine specV_ok (fun args w => enters 15 Tryz.f15 Tryz.func15 rfl args w) fun vs x ob hF ho w ht => ?_
  unfold fExO at hF
  split at hF
  · rename_i s
    simp only [Option.some.injEq, Prod.mk.injEq] at hF
    obtain ⟨rfl, rfl⟩ := hF
    simp only [ob_cons, ob_nil, and_true] at ho
    obtain ⟨h1, h2, h3, h4⟩ := exOk_iff.1 ho
    refine (calls_sess s (ht.mono fun _ _ h => h) h1 h2 h3 h4).mono ?_
    rintro e w' ⟨rfl, f⟩
    exact ⟨rfl, f.none⟩
  · cases hF
def SgR : CmdT := fun wd => bif wd == ringW true then ringQ true else bif wd == ringW false then ringQ false else bif wd == showL then showQ else fun _ _ => none
theorem tab_ring (c : Bool) : tabF (ringW c) = some (true, bif c then 92 else 93) := by cases c <;> rfl
theorem tab_show : tabF showL = some (false, 99) := rfl
theorem sg_ring (c : Bool) : SgR (ringW c) = ringQ c := by cases c <;> rfl
theorem sg_show : SgR showL = showQ := rfl
theorem ring_line {a b d : Int} {c : Bool} (ha : -1000 ≤ a ∧ a ≤ 1000) (hb : -1000 ≤ b ∧ b ≤ 1000) (hd : -1000 ≤ d ∧ d ≤ 1000) (h : rnO a b c d = true) (L : List Wh) : lineQ SgR L (ringL a b c d) = (rnL a b c d, [111, 107]) := by
  obtain ⟨a1, a2⟩ := num_itoa (n := a) (by omega)
  obtain ⟨b1, b2⟩ := num_itoa (n := b) (by omega)
  obtain ⟨d1, d2⟩ := num_itoa (n := d) (by omega)
  have e : ringQ c L (ringR a b d) = some (rnL a b c d, [111, 107]) := by
    unfold ringQ numsG numAt
    rw [ringR_cut]
    simp only [List.getD_cons_zero, List.getD_cons_succ, a2, b2, d2, h, List.all_cons, a1, b1, d1, List.all_nil, List.length_cons, List.length_nil]
    rfl
  unfold lineQ
  simp only [ringL_cut, tab_ring, sg_ring, e]
  rfl
theorem show_line (L : List Wh) : lineQ SgR L showL = (L, (txV L).data.toList) := by
  unfold lineQ
  simp only [show_cut, tab_show, sg_show]
  rfl
theorem line_ring (a b d : Int) (c : Bool) : LineOk SgR (ringL a b c d) := fun r f h _ => by
  rw [ringL_cut] at h ⊢
  simp only [tab_ring, Option.some.injEq, Prod.mk.injEq, sg_ring] at h ⊢
  obtain ⟨_, rfl⟩ := h
  cases c
  · exact cmd_out
  · exact cmd_in
theorem line_show : LineOk SgR showL := fun r f h _ => by
  rw [show_cut] at h ⊢
  simp only [tab_show, Option.some.injEq, Prod.mk.injEq, sg_show] at h ⊢
  obtain ⟨_, rfl⟩ := h
  exact cmd_show
theorem ring_lines (a b d : Int) (c : Bool) : linesQ (ringS a b c d) = [ringL a b c d, showL] := by
  unfold linesQ
  rw [ringS_cut]
  rfl
theorem ring_sess {a b d : Int} {c : Bool} (ha : -1000 ≤ a ∧ a ≤ 1000) (hb : -1000 ≤ b ∧ b ≤ 1000) (hd : -1000 ≤ d ∧ d ≤ 1000) (h : rnO a b c d = true) : exQ SgR [ringL a b c d, showL] = (rnL a b c d, [111, 107, 10] ++ ((txV (rnL a b c d)).data.toList ++ [10])) := by
  unfold exQ
  simp only [List.foldl_cons, List.foldl_nil, sessQ, ring_line ha hb hd h, show_line, List.nil_append]
  rfl

end Go.Proofs.YtddhmidegldhdaaGreatDoor

/- pick, where there are no bytes; the lengths of rows. No conditions. -/
namespace Go.Proofs.YtddhmidegldhdaaGreatDoor
open Go.RowKit
set_option maxRecDepth 100000

theorem treePk0 (q : Option Addr) (c : Nat) (p n : Int) (tr : TypeId) : execF Tryz.prog g0 noLam 100 Tryz.f32 [.ptr 0 0 0 0, .v (i64 n)] [.cells [.v (.slice q 0 c), .v (i64 p)] tr] (packK 1)
    = bif decide (n < (1 : Int)) then Res.out .ret [AV.v (.int .i64 0)] [AB.cells [AV.v (Value.slice q (0 : Nat) c), AV.v (.int .i64 (IntKind.wrap .i64 (p + (1 : Int))))] tr] else Res.out .ret [AV.v (.int .i64 0)] [AB.cells [AV.v (Value.slice q (0 : Nat) c), AV.v (.int .i64 (IntKind.wrap .i64 (p + (1 : Int))))] tr] := by kernel_rfl

def Fpk0 : List AV → List AB → Option HR
  | [.ptr 0 0 0 0, .v (.int .i64 _)], [.cells [.v (.slice q 0 c), .v (.int .i64 p)] tr] => some { val := .v (.int .i64 0), out := [.cells [.v (.slice q 0 c), .v (.int .i64 (p + 1))] tr], obl := [decide (0 ≤ p), decide (p ≤ 2 ^ 30)] }
  | _, _ => none
theorem ok_pick0 : SpecOk Tryz.prog 32 (specK [] Fpk0) := by
  refine specK_ok g0_ok Tryz.func32 rfl fun avs H hr hF ho => ?_
  unfold Fpk0 at hF
  split at hF
  · rename_i n q c p tr
    cases hF
    simp only [ob_cons, decide_eq_true_eq] at ho
    obtain ⟨h1, h2, _⟩ := ho
    refine ⟨[.cells [.v (.slice q 0 c), .v (i64 p)] tr], noLam, 100, Hsim.refl _, noLam' _, ?_⟩
    rw [show execF Tryz.prog g0 noLam 100 Tryz.f32 [.ptr 0 0 0 0, .v (.int .i64 n)] [.cells [.v (.slice q 0 c), .v (i64 p)] tr] (packK [AB.cells [AV.v (.slice q 0 c), .v (i64 p)] tr].length) = _ from treePk0 q c p n tr]
    rw [wr_in (x := p + 1) (by omega)]
    exact good_cond (fun _ => good_out ⟨rfl, Hsim.refl _⟩) fun _ => good_out ⟨rfl, Hsim.refl _⟩
  · cases hF
def gmPk0 : Gam := ext g0 32 (specK [] Fpk0)
theorem gmPk0_ok : GamOk Tryz.prog gmPk0 := ext_ok g0_ok ok_pick0
end Go.Proofs.YtddhmidegldhdaaGreatDoor

/- DrawRingDesign: four values, whatever the bytes are. Conditions: bytes, at most 2^21. -/
namespace Go.Proofs.YtddhmidegldhdaaGreatDoor
open Go.RowKit
set_option maxRecDepth 100000

theorem treeRRg_h (pk : Nat → (Nat → Int) → Int → Int → Int) (m : Nat) (b : Nat → Int) (u0 : _) (hu0 : ((2000 : Int) - (0 : Int)) = u0) (u1 : _) (hu1 : (decide ((0 : Nat) < m)) = u1) (u2 : _) (hu2 : (rowB b) = u2) (u3 : _) (hu3 : (decide (Int.toNat u0 ≤ m)) = u3) (u4 : _) (hu4 : (decide (m ≤ m)) = u4) (u5 : _) (hu5 : (Int.toNat u0) = u5) (u6 : _) (hu6 : (itB u2) = u6) (u7 : _) (hu7 : (okB m u2) = u7) (u8 : _) (hu8 : [AB.row false m 1 u2 5] = u8) : execF Tryz.prog (gmPk pk) noLam 100 Tryz.f10 [.sl 0 1 0 0 m none] [.row false m 1 (rowB b) 5] (packK 1)
    = bif decide ((m : Int) > (2000 : Int)) then needs [decide ((2000 : Int) ≤ (m : Int)), decide ((m : Int) ≤ (m : Int)), u7, u3, u1, u7, u3, u1, u7, u3, u1, u7, u3, u1, u7, u3, u1, u7, u3, u1, u7, u3, u1] (Res.out .ret [AV.tup [AV.v (.int .i64 (IntKind.wrap .i64 (IntKind.wrap .i64 ((6 : Int) + pk u5 u6 (0 : Int) (100 : Int)) - IntKind.wrap .i64 (IntKind.wrap .i64 (Int.tdiv (pk u5 u6 (1 : Int) (20 : Int)) (19 : Int)) * (3 : Int))))), AV.v (.int .i64 (IntKind.wrap .i64 (IntKind.wrap .i64 ((6 : Int) + pk u5 u6 (2 : Int) (60 : Int)) + IntKind.wrap .i64 (IntKind.wrap .i64 (Int.tdiv (pk u5 u6 (3 : Int) (20 : Int)) (19 : Int)) * (240 : Int))))), AV.v (.bool (pk u5 u6 (4 : Int) (2 : Int) == (0 : Int))), AV.v (.int .i64 (IntKind.wrap .i64 (IntKind.wrap .i64 (pk u5 u6 (5 : Int) (61 : Int) - (30 : Int)) + IntKind.wrap .i64 (IntKind.wrap .i64 (Int.tdiv (pk u5 u6 (6 : Int) (20 : Int)) (19 : Int)) * (400 : Int)))))]] u8) else needs [u7, u4, u1, u7, u4, u1, u7, u4, u1, u7, u4, u1, u7, u4, u1, u7, u4, u1, u7, u4, u1] (Res.out .ret [AV.tup [AV.v (.int .i64 (IntKind.wrap .i64 (IntKind.wrap .i64 ((6 : Int) + pk m u6 (0 : Int) (100 : Int)) - IntKind.wrap .i64 (IntKind.wrap .i64 (Int.tdiv (pk m u6 (1 : Int) (20 : Int)) (19 : Int)) * (3 : Int))))), AV.v (.int .i64 (IntKind.wrap .i64 (IntKind.wrap .i64 ((6 : Int) + pk m u6 (2 : Int) (60 : Int)) + IntKind.wrap .i64 (IntKind.wrap .i64 (Int.tdiv (pk m u6 (3 : Int) (20 : Int)) (19 : Int)) * (240 : Int))))), AV.v (.bool (pk m u6 (4 : Int) (2 : Int) == (0 : Int))), AV.v (.int .i64 (IntKind.wrap .i64 (IntKind.wrap .i64 (pk m u6 (5 : Int) (61 : Int) - (30 : Int)) + IntKind.wrap .i64 (IntKind.wrap .i64 (Int.tdiv (pk m u6 (6 : Int) (20 : Int)) (19 : Int)) * (400 : Int)))))]] u8) := by
  subst hu8 hu7 hu6 hu5 hu4 hu3 hu2 hu1 hu0
  kernel_rfl
theorem treeRRg (pk : Nat → (Nat → Int) → Int → Int → Int) (m : Nat) (b : Nat → Int) : type_of% (treeRRg_h pk m b _ rfl _ rfl _ rfl _ rfl _ rfl _ rfl _ rfl _ rfl _ rfl) := treeRRg_h pk m b _ rfl _ rfl _ rfl _ rfl _ rfl _ rfl _ rfl _ rfl _ rfl

theorem treeRRg0 (q : Option Addr) (c : Nat) (g : Nat → List Value) : execF Tryz.prog gmPk0 noLam 100 Tryz.f10 [.v (.slice q 0 c)] [.row false 0 1 g 5] (packK 1)
    = Res.out .ret [AV.tup [AV.v (.int .i64 6), AV.v (.int .i64 6), AV.v (.bool true), AV.v (.int .i64 (-30 : Int))]] [AB.row false (0 : Nat) (1 : Nat) g 5] := by kernel_rfl

noncomputable def dRg (l : Nat) (b : Nat → Int) : Int × Int × Bool × Int :=
  (IntKind.wrap IntKind.i64 (IntKind.wrap IntKind.i64 (6 + pkV l b 0 100) - IntKind.wrap IntKind.i64 (IntKind.wrap IntKind.i64 (Int.tdiv (pkV l b 1 20) 19) * 3)),
   IntKind.wrap IntKind.i64 (IntKind.wrap IntKind.i64 (6 + pkV l b 2 60) + IntKind.wrap IntKind.i64 (IntKind.wrap IntKind.i64 (Int.tdiv (pkV l b 3 20) 19) * 240)),
   pkV l b 4 2 == 0,
   IntKind.wrap IntKind.i64 (IntKind.wrap IntKind.i64 (pkV l b 5 61 - 30) + IntKind.wrap IntKind.i64 (IntKind.wrap IntKind.i64 (Int.tdiv (pkV l b 6 20) 19) * 400)))
noncomputable def bRg (m : Nat) (b : Nat → Int) : Int × Int × Bool × Int := if m = 0 then (6, 6, true, -30) else dRg (lnB m) b
def frRg (x : Int × Int × Bool × Int) : FR := { val := .tup [.v (i64 x.1), .v (i64 x.2.1), .v (.bool x.2.2.1), .v (i64 x.2.2.2)] }
theorem gmPkR_ok : GamOk Tryz.prog (gmPk pkV) := ext_ok g0_ok ok_pick
theorem ok_drRg : SpecOk Tryz.prog 10 (specR md_co (FdrO fun m b => frRg (bRg m b))) := by
  refine draw_ok Tryz.func10 rfl (fun m b h0 hm hb => ⟨_, gmPkR_ok, ?_⟩) fun q c g b => ⟨_, gmPk0_ok, ?_⟩
  · rw [treeRRg, itB_row]
    have e : bRg m b = dRg (lnB m) b := by unfold bRg; rw [if_neg (by omega)]
    rw [e]
    refine good_ln (fun e1 hc => ?_) fun e1 hc => ?_
    · rw [e1, show Int.toNat ((2000 : Int) - 0) = 2000 from rfl]
      exact ⟨by simp only [ob_cons, ob_nil, and_true, decide_eq_true_eq, hb, true_and]; omega, good_out ⟨_, rfl, rfl, Hsim.refl _⟩⟩
    · rw [e1]
      exact ⟨by simp only [ob_cons, ob_nil, and_true, decide_eq_true_eq, hb, true_and]; omega, good_out ⟨_, rfl, rfl, Hsim.refl _⟩⟩
  · rw [treeRRg0]
    exact good_out ⟨_, rfl, rfl, Hsim.refl _⟩

end Go.Proofs.YtddhmidegldhdaaGreatDoor

/- laws.sameWheels. Conditions: two lists of wheels. -/
namespace Go.Proofs.YtddhmidegldhdaaGreatDoor
open Go.RowKit
set_option maxRecDepth 100000

abbrev lvSw : Ex → List Nat := lv3 [0, 1, 5] [] [4]
abbrev hpSw (m : Nat) (f h : Nat → Nat → Int) : List AB := [.row false m 9 (row9 f) 60, .row false m 9 (row9 h) 60]
theorem rndSw_h (m : Nat) (f h : Nat → Nat → Int) (i : Nat) (u1 : _) (hu1 : [AB.row false m 9 (row9 f) 60, AB.row false m 9 (row9 h) 60] = u1) (u2 : _) (hu2 : (0 : Nat) = u2) (u3 : _) (hu3 : (↑i : Int) = u3) (u0 : _) (hu0 : (u2 + Int.toNat u3) = u0) : execC Tryz.prog g0 100 noLam (loopAt 0 Tryz.f13) (mkT 0 26 ((lvSw .normal).zip [.sl 0 9 0 0 m none, .sl 1 9 0 0 m none, .v (i64 i)])) (hpSw m f h) (leafV 26 lvSw 2)
    = bif decide (u3 < (m : Int)) then needs [decide (u3 < (m : Int)), decide (u2 + Int.toNat u3 < m), decide (u3 < (m : Int)), decide (u2 + Int.toNat u3 < m)] (bif !(f u0 u2 == h u0 u2 && (f u0 (1 : Nat) == h u0 (1 : Nat) && (f u0 (2 : Nat) == h u0 (2 : Nat) && (f u0 (3 : Nat) == h u0 (3 : Nat) && (f u0 (4 : Nat) == h u0 (4 : Nat) && (f u0 (5 : Nat) == h u0 (5 : Nat) && (f u0 (6 : Nat) == h u0 (6 : Nat) && (f u0 (7 : Nat) == h u0 (7 : Nat) && (f u0 (8 : Nat) == h u0 (8 : Nat) && true))))))) && true && true)) then Res.out .ret [AV.v (.bool false)] u1 else Res.out .normal [AV.sl u2 (9 : Nat) u2 u2 m none, AV.sl 1 (9 : Nat) u2 u2 m none, AV.v (.int .i64 (IntKind.wrap .i64 (u3 + (1 : Int))))] u1) else Res.out (Ex.exit u2) [] u1 := by
  subst hu0 hu3 hu2 hu1
  kernel_rfl
theorem rndSw (m : Nat) (f h : Nat → Nat → Int) (i : Nat) : type_of% (rndSw_h m f h i _ rfl _ rfl _ rfl _ rfl) := rndSw_h m f h i _ rfl _ rfl _ rfl _ rfl

noncomputable abbrev lamSw (m : Nat) (f h : Nat → Nat → Int) (c : Bool) : Nat → Option Sum := oneL 0 (atS 26 (lvSw .normal) 2 [.sl 0 9 0 0 m none, .sl 1 9 0 0 m none, .v (i64 (0 : Nat))] (hpSw m f h) (fun K => cond c (K .normal (mkT 0 26 []) (hpSw m f h)) (K .ret (mkT 0 26 [(4, .v (.bool false))]) (hpSw m f h))))
theorem treeSm_h (m n : Nat) (f h : Nat → Nat → Int) (c : Bool) (u0 : _) (hu0 : (AB.row false m 9 (row9 f) 60) = u0) (u1 : _) (hu1 : (0 : Nat) = u1) (u2 : _) (hu2 : [u0, AB.row false m 9 (row9 h) 60] = u2) (u3 : _) (hu3 : [u0, AB.row false n 9 (row9 h) 60] = u3) : execF Tryz.prog g0 (lamSw m f h c) 100 Tryz.f13 [.sl 0 9 0 0 m none, .sl 1 9 0 0 n none] [.row false m 9 (row9 f) 60, .row false n 9 (row9 h) 60] (packK 2)
    = bif (m : Int) != (↑n : Int) then Res.out .ret [AV.v (.bool false)] u3 else needs [chk ([AV.sl u1 (9 : Nat) u1 u1 m none, AV.sl 1 (9 : Nat) u1 u1 n none, AV.v (.int .i64 0)] = [AV.sl u1 (9 : Nat) u1 u1 m none, AV.sl 1 (9 : Nat) u1 u1 m none, AV.v (.int .i64 0)] ∧ Hsim u3 (hpSw m f h))] (bif c then Res.out .ret [AV.v (.bool true)] u2 else Res.out .ret [AV.v (.bool false)] u2) := by
  subst hu3 hu2 hu1 hu0
  kernel_rfl
theorem treeSm (m n : Nat) (f h : Nat → Nat → Int) (c : Bool) : type_of% (treeSm_h m n f h c _ rfl _ rfl _ rfl _ rfl) := treeSm_h m n f h c _ rfl _ rfl _ rfl _ rfl

theorem sumSw (m : Nat) (f h : Nat → Nat → Int) (hm : m ≤ 2 ^ 40) :
    SumOk Tryz.prog 2 (.block 0 (.loop (loopAt 0 Tryz.f13))) (atS 26 (lvSw .normal) 2 [.sl 0 9 0 0 m none, .sl 1 9 0 0 m none, .v (i64 (0 : Nat))] (hpSw m f h) (fun K => cond (noneTo (badE f h) m) (K .normal (mkT 0 26 []) (hpSw m f h)) (K .ret (mkT 0 26 [(4, .v (.bool false))]) (hpSw m f h)))) := by
  refine for_at g0_ok (n := 100) (m := 2) (lv := lvSw) (fun i => [.sl 0 9 0 0 m none, .sl 1 9 0 0 m none, .v (i64 (i : Nat))]) (fun _ => hpSw m f h) (fun i => noneTo (badE f h) i = true) m (fun _ => noLam) (lv3_ris rfl rfl rfl) (Nat.le_refl _) rfl fun K Q hk i hi him => ⟨noLam_ok _ _ _, ?_⟩
  rw [rndSw]
  refine good_cond (fun c1 => ?_) fun c1 => ?_
  · have c1 := of_decide_eq_true c1
    have c1' : i < m := by omega
    rw [Int.toNat_natCast, Nat.zero_add, wr_in (x := (i : Int) + 1) (by omega)]
    refine good_needs (by simp only [ob_cons, ob_nil, and_true, decide_eq_true_eq]; omega) (good_cond (fun q => ?_) fun q => ?_)
    · have hb : badE f h i = true := by
        unfold badE
        rw [Bool.not_eq_true', decide_eq_false_iff_not]
        intro e
        simp only [whOf, Wh.mk.injEq, Cy.mk.injEq] at e
        obtain ⟨e0, e1, e2, e3, e4, e5, e6, e7, e8⟩ := e
        simp [e0, e1, e2, e3, e4, e5, e6, e7, e8] at q
      refine good_out ⟨_, Hsim.refl _, ?_⟩
      rw [noneTo_no c1' hb] at hk
      exact hk
    · have hb : badE f h i = false := by
        unfold badE
        rw [Bool.not_eq_false', decide_eq_true_eq]
        simp at q
        simp [whOf, q]
      exact good_out ⟨i + 1, ⟨rfl, c1', noneTo_succ hi hb⟩, rfl, Hsim.refl _⟩
  · have c1 := of_decide_eq_false c1
    have : i = m := by omega
    subst this
    refine good_out ⟨_, Hsim.refl _, ?_⟩
    rw [if_pos rfl]
    rw [hi] at hk
    exact hk
theorem ok_sameW : SpecOk Tryz.prog 13 (specR md_eqWS (FeqB eqL)) := by
  refine specR_hr g0_ok Tryz.func13 rfl fun sas fr hF ho => ?_
  unfold FeqB at hF
  split at hF
  · rename_i m g n g2
    cases hF
    simp only [ob_cons] at ho
    obtain ⟨h1, h2, h3, _⟩ := ho
    have hm := of_decide_eq_true h3
    refine ⟨[.row false m 9 (row9 (itW g)) 60, .row false n 9 (row9 (itW g2)) 60], lamSw m (itW g) (itW g2) (noneTo (badE (itW g) (itW g2)) m), 100, .cons (ABeq.row fun j hj => allW_get h1 j hj) (.cons (ABeq.row fun j hj => allW_get h2 j hj) .nil), lam1 (by kernel_rfl) (sumSw m (itW g) (itW g2) (by omega)), ?_⟩
    show GoodQ (execF Tryz.prog g0 (lamSw m (itW g) (itW g2) (noneTo (badE (itW g) (itW g2)) m)) 100 Tryz.f13 [.sl 0 9 0 0 m none, .sl 1 9 0 0 n none] [.row false m 9 (row9 (itW g)) 60, .row false n 9 (row9 (itW g2)) 60] (packK 2)) _
    rw [treeSm]
    refine good_cond (fun q => ?_) fun q => ?_
    · have hne : m ≠ n := fun e => by
        subst e
        simp at q
      exact good_out ⟨_, rfl, by rw [eqL_len (by rw [listW_length, listW_length]; exact hne)], .cons (ABeq.row fun j hj => (allW_get h1 j hj).symm) (.cons (ABeq.row fun j hj => (allW_get h2 j hj).symm) .nil)⟩
    · have e : m = n := by
        have q2 : (m : Int) = n := by simpa using q
        omega
      subst e
      refine good_needs (by rw [ob_cons]; exact ⟨chk_of ⟨rfl, Hsim.refl _⟩, rfl⟩) (good_cond (fun q => ?_) fun q => ?_)
      · exact good_out ⟨_, rfl, by rw [eqL_list, q], .cons (ABeq.row fun j hj => (allW_get h1 j hj).symm) (.cons (ABeq.row fun j hj => (allW_get h2 j hj).symm) .nil)⟩
      · exact good_out ⟨_, rfl, by rw [eqL_list, q], .cons (ABeq.row fun j hj => (allW_get h1 j hj).symm) (.cons (ABeq.row fun j hj => (allW_get h2 j hj).symm) .nil)⟩
  · cases hF

end Go.Proofs.YtddhmidegldhdaaGreatDoor

/- The ring's script, the law's tree. No conditions. -/
namespace Go.Proofs.YtddhmidegldhdaaGreatDoor
open Go.RowKit
set_option maxRecDepth 100000

def gmLEr (fa fb : Nat → (Nat → Int) → Int) (fc : Nat → (Nat → Int) → Bool) (fd : Nat → (Nat → Int) → Int) (rd : Int → Int → Bool → Int → List Wh) (ro : Int → Int → Bool → Int → Bool) (eq : List Wh → List Wh → Bool) (tv : List Wh → ByteArray) (yt : List Wh → Bool) (dc : Int → ByteArray) (p : Int → Bool) (ex : ByteArray → ByteArray) (ek : ByteArray → Bool) (el : Nat → ByteArray) : Gam :=
  ext (ext (ext (ext (ext (ext (ext (ext g0 10 (specR md_co (FdrO fun m b => frRg (fa m b, fb m b, fc m b, fd m b)))) 11 (specU [.val, .val, .val, .val] (UrgO rd ro))) 12 (specR [.val, .val, .val, .val] (FrdO rd ro))) 13 (specR md_eqWS (FeqB eq))) 14 (specR md_ws (FdtO tv yt))) 16 (specV (fDecP dc p))) 15 (specV (fExO ex ek))) 17 (specR md_ws (FelO el))
theorem lawEr_h (fa fb : Nat → (Nat → Int) → Int) (fc : Nat → (Nat → Int) → Bool) (fd : Nat → (Nat → Int) → Int) (rd : Int → Int → Bool → Int → List Wh) (ro : Int → Int → Bool → Int → Bool) (eq : List Wh → List Wh → Bool) (tv : List Wh → ByteArray) (yt : List Wh → Bool) (dc : Int → ByteArray) (p : Int → Bool) (ex : ByteArray → ByteArray) (ek : ByteArray → Bool) (el : Nat → ByteArray) (m : Nat) (b : Nat → Int) (u0 : _) (hu0 : (itB fun q ↦ rowB b ((0 : Nat) + q)) = u0) (u6 : _) (hu6 : [AB.row false m 1 (rowB b) 5] = u6) (u8 : _) (hu8 : (9223372036854775807 : Nat) = u8) (u9 : _) (hu9 : (ByteArray.mk (Array.mk [(32 : UInt8)])) = u9) (u10 : _) (hu10 : (ByteArray.mk (Array.mk [(10 : UInt8), (115 : UInt8), (104 : UInt8), (111 : UInt8), (119 : UInt8), (10 : UInt8)])) = u10) (u17 : _) (hu17 : (fb m u0) = u17) (u18 : _) (hu18 : (fd m u0) = u18) (u20 : _) (hu20 : (fa m u0) = u20) (u21 : _) (hu21 : [AV.v (.bool false)] = u21) (u22 : _) (hu22 : (catB (ByteArray.mk (Array.mk [(105 : UInt8), (110 : UInt8), (32 : UInt8)])) (dc u20)) = u22) (u25 : _) (hu25 : (fc m u0) = u25) (u1 : _) (hu1 : (rd u20 u17 u25 u18) = u1) (u5 : _) (hu5 : (catB u22 u9) = u5) (u11 : _) (hu11 : (List.length u1) = u11) (u12 : _) (hu12 : (allW u11 fun q ↦ row9 (wfun u1) ((0 : Nat) + q)) = u12) (u13 : _) (hu13 : (decide (List.length u1 ≤ (274877906944 : Nat))) = u13) (u15 : _) (hu15 : (Nat.ble ((0 : Nat) + List.length u1) u11) = u15) (u19 : _) (hu19 : (catB (ByteArray.mk (Array.mk [(111 : UInt8), (117 : UInt8), (116 : UInt8), (32 : UInt8)])) (dc u20)) = u19) (u23 : _) (hu23 : (catB (catB (catB u5 (dc u17)) u9) (dc u18)) = u23) (u2 : _) (hu2 : (listW (itW fun q ↦ row9 (wfun u1) ((0 : Nat) + q)) u11) = u2) (u3 : _) (hu3 : (catB u19 u9) = u3) (u4 : _) (hu4 : [u15, Nat.ble u11 u11, u12, allW u11 (row9 (wfun u1)), u13] = u4) (u7 : _) (hu7 : (catB (ByteArray.mk (Array.mk [(111 : UInt8), (107 : UInt8), (10 : UInt8)])) (tv u2)) = u7) (u14 : _) (hu14 : (Res.out .ret [AV.v (.bool (eq u2 (listW (itW (row9 (wfun u1))) u11)))] u6) = u14) (u16 : _) (hu16 : (catB u7 (ByteArray.mk (Array.mk [(10 : UInt8)]))) = u16) (u24 : _) (hu24 : (catB (catB (catB u3 (dc u17)) u9) (dc u18)) = u24) (u26 : _) (hu26 : (Nat.ble (ByteArray.size u16 + ByteArray.size (el u11)) u8) = u26) (u27 : _) (hu27 : (Nat.ble ((3 : Nat) + ByteArray.size (tv u2)) u8) = u27) (u28 : _) (hu28 : (Nat.ble (ByteArray.size u7 + (1 : Nat)) u8) = u28) : execF Tryz.prog (gmLEr fa fb fc fd rd ro eq tv yt dc p ex ek el) noLam 100 Tryz.f3 [.sl 0 1 0 0 m none] [.row false m 1 (rowB b) 5] (packK 1)
    = bif decide ((m : Int) > (1048576 : Int)) then Res.out .ret [AV.v (.bool true)] u6 else needs [Nat.ble ((0 : Nat) + m) m, okB m fun q ↦ rowB b ((0 : Nat) + q), decide (m ≤ (2097152 : Nat))] (bif !ro u20 u17 u25 u18 == ro u20 u17 u25 u18 then bif ro u20 u17 u25 u18 == ro u20 u17 u25 u18 then needs u4 u14 else Res.out .ret u21 u6 else needs u4 (bif !eq u2 (listW (itW (row9 (wfun u1))) u11) then bif ro u20 u17 u25 u18 == ro u20 u17 u25 u18 then needs u4 u14 else Res.out .ret u21 u6 else bif !ro u20 u17 u25 u18 then bif ro u20 u17 u25 u18 == ro u20 u17 u25 u18 then needs u4 u14 else Res.out .ret u21 u6 else bif fc m u0 then needs [u15, u12, u13] (bif yt u2 then needs [p u20, Nat.ble ((3 : Nat) + ByteArray.size (dc u20)) u8, Nat.ble (ByteArray.size u22 + (1 : Nat)) u8, p u17, Nat.ble (ByteArray.size u5 + ByteArray.size (dc u17)) u8, Nat.ble (ByteArray.size (catB u5 (dc u17)) + (1 : Nat)) u8, p u18, Nat.ble (ByteArray.size (catB (catB u5 (dc u17)) u9) + ByteArray.size (dc u18)) u8, Nat.ble (ByteArray.size u23 + (6 : Nat)) u8, ek (catB u23 u10), u27, u28, u15, u12, u13, u26] (Res.out .ret [AV.v (.bool (eqB (ex (catB u23 u10)) (catB u16 (el u11))))] u6) else Res.out .ret u21 u6) else needs [u15, u12, u13] (bif yt u2 then needs [p u20, Nat.ble ((4 : Nat) + ByteArray.size (dc u20)) u8, Nat.ble (ByteArray.size u19 + (1 : Nat)) u8, p u17, Nat.ble (ByteArray.size u3 + ByteArray.size (dc u17)) u8, Nat.ble (ByteArray.size (catB u3 (dc u17)) + (1 : Nat)) u8, p u18, Nat.ble (ByteArray.size (catB (catB u3 (dc u17)) u9) + ByteArray.size (dc u18)) u8, Nat.ble (ByteArray.size u24 + (6 : Nat)) u8, ek (catB u24 u10), u27, u28, u15, u12, u13, u26] (Res.out .ret [AV.v (.bool (eqB (ex (catB u24 u10)) (catB u16 (el u11))))] u6) else Res.out .ret u21 u6))) := by
  subst hu28 hu27 hu26 hu24 hu16 hu14 hu7 hu4 hu3 hu2 hu23 hu19 hu15 hu13 hu12 hu11 hu5 hu1 hu25 hu22 hu21 hu20 hu18 hu17 hu10 hu9 hu8 hu6 hu0
  kernel_rfl
theorem lawEr (fa fb : Nat → (Nat → Int) → Int) (fc : Nat → (Nat → Int) → Bool) (fd : Nat → (Nat → Int) → Int) (rd : Int → Int → Bool → Int → List Wh) (ro : Int → Int → Bool → Int → Bool) (eq : List Wh → List Wh → Bool) (tv : List Wh → ByteArray) (yt : List Wh → Bool) (dc : Int → ByteArray) (p : Int → Bool) (ex : ByteArray → ByteArray) (ek : ByteArray → Bool) (el : Nat → ByteArray) (m : Nat) (b : Nat → Int) : type_of% (lawEr_h fa fb fc fd rd ro eq tv yt dc p ex ek el m b _ rfl _ rfl _ rfl _ rfl _ rfl _ rfl _ rfl _ rfl _ rfl _ rfl _ rfl _ rfl _ rfl _ rfl _ rfl _ rfl _ rfl _ rfl _ rfl _ rfl _ rfl _ rfl _ rfl _ rfl _ rfl _ rfl _ rfl _ rfl _ rfl) := lawEr_h fa fb fc fd rd ro eq tv yt dc p ex ek el m b _ rfl _ rfl _ rfl _ rfl _ rfl _ rfl _ rfl _ rfl _ rfl _ rfl _ rfl _ rfl _ rfl _ rfl _ rfl _ rfl _ rfl _ rfl _ rfl _ rfl _ rfl _ rfl _ rfl _ rfl _ rfl _ rfl _ rfl _ rfl _ rfl

theorem gmLEr_ok : GamOk Tryz.prog (gmLEr (fun m b => (bRg m b).1) (fun m b => (bRg m b).2.1) (fun m b => (bRg m b).2.2.1) (fun m b => (bRg m b).2.2.2) rnL rnO eqL txV yI decB (fun n => decide (-9223372036854775807 ≤ n ∧ n ≤ 9223372036854775807)) (exB SgR) (exOk SgR) elB) :=
  ext_ok (ext_ok (ext_ok (ext_ok (ext_ok (ext_ok (ext_ok (ext_ok g0_ok ok_drRg) ok_Urg) ok_rd) ok_sameW) ok_dtI) ok_dgt) (ok_ex SgR)) ok_el

end Go.Proofs.YtddhmidegldhdaaGreatDoor

/- FnExecuteRing returns true, whatever the bytes are. Conditions: bytes. -/
namespace Go.Proofs.YtddhmidegldhdaaGreatDoor
open Go.RowKit
set_option maxRecDepth 100000

theorem text_size {L : List Wh} (h : isTidy L) : (txV L).size ≤ 3000 := by
  have h1 := tidy_12 h
  have hok := tidy_okD h
  unfold okD at hok
  rw [Bool.and_eq_true] at hok
  have h2 : ∀ w ∈ L, okw w = true := fun w hw => List.all_eq_true.1 hok.2 w hw
  have h3 := textL_size h2
  unfold txV
  rw [yI_self h, cond_true, tI_self h, textB]
  cases L with
  | nil => show (1 : Nat) ≤ 3000; omega
  | cons w L => rw [List.isEmpty_cons, cond_false, mk_size]; omega
theorem catB_lm (a b : List UInt8) : catB (ByteArray.mk (Array.mk a)) (ByteArray.mk (Array.mk b)) = ByteArray.mk (Array.mk (a ++ b)) := catB_mk a b
theorem decB_lm (n : Int) : decB n = ByteArray.mk (Array.mk (Lib.itoa n)) := rfl
theorem elB_lm (n : Nat) : elB n = ByteArray.mk (Array.mk (elL n)) := rfl
theorem size_lm (a : List UInt8) : (ByteArray.mk (Array.mk a)).size = a.length := rfl
theorem ring_ok {p q d : Int} {i : Bool} (hp : -1000 ≤ p ∧ p ≤ 1000) (hq : -1000 ≤ q ∧ q ≤ 1000) (hd : -1000 ≤ d ∧ d ≤ 1000) (h : rnO p q i d = true) :
    exOk SgR ⟨(ringS p q i d).toArray⟩ = true ∧ exB SgR ⟨(ringS p q i d).toArray⟩ = ByteArray.mk (Array.mk (([111, 107, 10] ++ ((txV (rnL p q i d)).data.toList ++ [10])) ++ elL (rnL p q i d).length)) := by
  have hl := ring_lines p q d i
  have hs := ring_sess hp hq hd h
  have ht := text_size (rnL_tidy h)
  have h12 := tidy_12 (rnL_tidy h)
  have e0 : (ByteArray.mk (ringS p q i d).toArray).data.toList = ringS p q i d := rfl
  have ez : (txV (rnL p q i d)).data.toList.length = (txV (rnL p q i d)).size := rfl
  refine ⟨exOk_iff.2 ⟨?_, ?_, ?_, ?_⟩, ?_⟩
  · rw [mkS_size]
    have n1 := itoa_short p (by omega) (by omega)
    have n2 := itoa_short q (by omega) (by omega)
    have n3 := itoa_short d (by omega) (by omega)
    have n0 : (ringW i).length ≤ 3 := by cases i <;> decide
    simp only [ringS, ringL, ringR, showL, List.length_append, List.length_cons, List.length_nil]
    omega
  · rw [e0, hl]
    intro l hl
    rcases List.mem_cons.1 hl with rfl | hl
    · exact line_ring p q d i
    · rw [List.mem_singleton.1 hl]
      exact line_show
  · rw [e0, hl]
    intro k
    match k with
    | 0 => exact Nat.zero_le _
    | 1 =>
      show (sessQ SgR ([], []) _).2.length ≤ _
      unfold sessQ
      rw [ring_line hp hq hd h]
      show (3 : Nat) ≤ 90000000
      omega
    | k + 2 =>
      rw [List.take_of_length_le (by simp), hs]
      simp only [List.length_append, List.length_cons, List.length_nil]
      omega
  · rw [e0, hl]
    intro k
    match k with
    | 0 => exact Nat.zero_le _
    | 1 =>
      show (sessQ SgR ([], []) _).1.length ≤ _
      unfold sessQ
      rw [ring_line hp hq hd h]
      show (rnL p q i d).length ≤ _
      omega
    | k + 2 =>
      rw [List.take_of_length_le (by simp), hs]
      show (rnL p q i d).length ≤ _
      omega
  · unfold exB
    rw [e0, hl, hs]
    rfl
theorem yes_er (m : Nat) (b : Nat → Int) (_ : m ≤ 9223372036854775807) (hb : okB m (rowB b) = true) : ∃ Γ n Λ, GamOk Tryz.prog Γ ∧ (∀ cc, (Tryz.f3).body = some cc → LamOk Tryz.prog 1 Λ cc) ∧ GoodQ (execF Tryz.prog Γ Λ n Tryz.f3 [.sl 0 1 0 0 m none] [.row false m 1 (rowB b) 5] (packK 1)) SaysYes := by
  refine ⟨_, 100, noLam, gmLEr_ok, noLam' _, ?_⟩
  rw [lawEr]
  refine good_cond (fun _ => good_out rfl) fun c => ?_
  have c := of_decide_eq_false c
  have b21 : decide (m ≤ 2097152) = true := decide_eq_true (by omega)
  simp only [Nat.zero_add, itB_row, listW_me]
  generalize bRg m b = X
  obtain ⟨p, q, i, d⟩ := X
  have hl := rnL_len p q i d
  simp only [hb, b21, b38 hl, ble_me, allW_row, needs_t, needs_nil, beq_self_eq_true, eqL_me, Bool.not_true, cond_false, cond_true]
  refine good_cond (fun _ => good_out rfl) fun h => ?_
  have h : rnO p q i d = true := by simpa using h
  have h' := h
  rw [rnO, rnP_eq, Bool.and_eq_true, Bool.and_eq_true] at h'
  obtain ⟨j1, j2⟩ := okM_in h'.1.1
  have k1 := inR_iff.1 j1
  have k2 := inR_iff.1 j2
  have k3 := inR_iff.1 h'.1.2
  obtain ⟨r1, r2⟩ := ring_ok ⟨by omega, by omega⟩ ⟨by omega, by omega⟩ ⟨by omega, by omega⟩ h
  have hy := yI_self (rnL_tidy h)
  have ht := text_size (rnL_tidy h)
  have n1 := itoa_short p (by omega) (by omega)
  have n2 := itoa_short q (by omega) (by omega)
  have n3 := itoa_short d (by omega) (by omega)
  have n4 := itoa_short (rnL p q i d).length (by omega) (by omega)
  simp only [hy, cond_true]
  have ex : txV (rnL p q i d) = ByteArray.mk (Array.mk (txV (rnL p q i d)).data.toList) := rfl
  have ez : (txV (rnL p q i d)).data.toList.length = (txV (rnL p q i d)).size := rfl
  generalize txV (rnL p q i d) = T at *
  cases i with
  | true =>
    rw [cond_true]
    rw [ex]
    simp only [decB_lm, catB_lm, elB_lm, size_lm]
    have e1 : ([105, 110, 32] ++ Lib.itoa p ++ [32] ++ Lib.itoa q ++ [32] ++ Lib.itoa d ++ [10, 115, 104, 111, 119, 10] : List UInt8) = ringS p q true d := by
      simp [ringS, ringL, ringW, ringR, showL]
    have e2 : ([111, 107, 10] ++ T.data.toList ++ [10] ++ elL (rnL p q true d).length : List UInt8) = [111, 107, 10] ++ (T.data.toList ++ [10]) ++ elL (rnL p q true d).length := by simp
    rw [e1, e2]
    refine good_needs ?_ (good_out ?_)
    · simp only [ob_cons, ob_nil, and_true, decide_eq_true_eq, Nat.ble_eq, List.length_append, List.length_cons, List.length_nil, elL]
      exact ⟨by omega, by omega, by omega, by omega, by omega, by omega, by omega, by omega, by omega, r1, by omega, by omega, trivial, trivial, trivial, by omega⟩
    · rw [show exB SgR (ByteArray.mk (Array.mk (ringS p q true d))) = _ from r2]
      exact congrArg (fun x => [AV.v (.bool x)]) (eqB_self _)
  | false =>
    rw [cond_false]
    rw [ex]
    simp only [decB_lm, catB_lm, elB_lm, size_lm]
    have e1 : ([111, 117, 116, 32] ++ Lib.itoa p ++ [32] ++ Lib.itoa q ++ [32] ++ Lib.itoa d ++ [10, 115, 104, 111, 119, 10] : List UInt8) = ringS p q false d := by
      simp [ringS, ringL, ringW, ringR, showL]
    have e2 : ([111, 107, 10] ++ T.data.toList ++ [10] ++ elL (rnL p q false d).length : List UInt8) = [111, 107, 10] ++ (T.data.toList ++ [10]) ++ elL (rnL p q false d).length := by simp
    rw [e1, e2]
    refine good_needs ?_ (good_out ?_)
    · simp only [ob_cons, ob_nil, and_true, decide_eq_true_eq, Nat.ble_eq, List.length_append, List.length_cons, List.length_nil, elL]
      exact ⟨by omega, by omega, by omega, by omega, by omega, by omega, by omega, by omega, by omega, r1, by omega, by omega, trivial, trivial, trivial, by omega⟩
    · rw [show exB SgR (ByteArray.mk (Array.mk (ringS p q false d))) = _ from r2]
      exact congrArg (fun x => [AV.v (.bool x)]) (eqB_self _)
end Go.Proofs.YtddhmidegldhdaaGreatDoor

/- A ring's script makes the ring: FnExecuteRing returns true, and its arguments read as before. Conditions: the tables, as the row lists them; tied by the card. -/
namespace Go.Proofs.YtddhmidegldhdaaGreatDoor
open Go.ChangeShapes Go.WideShapes Go.ChangeAt Go.RowKit

set_option maxRecDepth 100000
theorem exr_lifted (os : Os) (started : os.Started) (H : Type) (enc : TypeId × Value → H) :
    ReturnsInHanded {} Tryz.checked os 3 .any (fun w args => (Rows.fnExecuteRingSpec.pre enc Tryz.prog Tryz.f3 Rows.fnExecuteRingRow.domain false w args ∧ laidMetH Tryz.prog Rows.fnExecuteRingRow.laid w) ∧ sizedMet enc Tryz.prog Tryz.f3 (OpenSpec.ofChange Rows.fnExecuteRingSpec) false w args)
      (Rows.fnExecuteRingSpec.post enc Tryz.prog Tryz.f3 false true false false) := by
  refine wrapS (C := Tryz.checked) (X := fun w _ => laidMetH Tryz.prog Rows.fnExecuteRingRow.laid w) (fun _ _ _ hh h => h.of_heap hh) own started (by kernel_rfl) Tryz.func3
    (ChangeSpec.witness_at (enc := enc) (C := Tryz.checked) (os := os) (X := fun w _ => laidMetH Tryz.prog Rows.fnExecuteRingRow.laid w) false (laidH os) #[.slice none 0 0] 8 rfl (by kernel_rfl) (by kernel_rfl) (by kernel_rfl) (by kernel_rfl) (by kernel_rfl) (laidH_met os _)) ?_
  intro W base args ds gs before hval hW hL hsh
  exact contractB (spec := Rows.fnExecuteRingSpec) Tryz.func3 rfl rfl rfl (fun _ _ => rfl) (fun m b hm hb => yes_er m b hm hb) H enc W base args ds gs before hval hW (laid_tab hL hsh)

set_option maxRecDepth 100000 in
theorem exr_f1 : Rows.fnExecuteRingRow.wf (OpenSpec.ofChange Rows.fnExecuteRingSpec) = true := by kernel_rfl
set_option maxRecDepth 100000 in
theorem exr_f2 : (Rows.fnExecuteRingRow.inPlace == Tryz.prog.inPlace 3) = true := by kernel_rfl
set_option maxRecDepth 100000 in
theorem exr_f3 : (Rows.fnExecuteRingRow.unfollowed == Tryz.prog.unfollowed 3) = true := by kernel_rfl
set_option maxRecDepth 100000 in
theorem exr_f4 : (Rows.fnExecuteRingRow.recurses == Tryz.prog.recurses 3) = true := by kernel_rfl
set_option maxRecDepth 100000 in
theorem exr_f5 : (Rows.fnExecuteRingRow.named == Tryz.prog.varsNamed 3) = true := by kernel_rfl
set_option maxRecDepth 100000 in
theorem exr_f6 : Tryz.prog.funcNamed Rows.fnExecuteRingRow.func = some 3 := by kernel_rfl
theorem exr_f7 : (Rows.fnExecuteRingRow.lifted == Tryz.prog.liftsFinal) = true := jfG
theorem exr_f8 : (Tryz.prog.make == some Rows.fnExecuteRingRow.make) = true := jfH
theorem exr_f9 : (Rows.fnExecuteRingRow.plainKeys == Tryz.prog.plainKeys) = true := jfI
set_option maxRecDepth 100000 in
theorem exr_joined : joinedFacts Tryz.prog 3 Tryz.f3 Rows.fnExecuteRingSpec Rows.fnExecuteRingRow = true := by
  unfold joinedFacts
  rw [jfA, jfB, jfC, jfD, jfE, jfF, exr_f1, exr_f2, exr_f3, exr_f4, exr_f5, exr_f7, exr_f8, exr_f9]
  kernel_rfl

theorem exr_said : Rows.FnExecuteRingSaid :=
  OpenClaim.holds_of_wide 3 Tryz.f3 rfl rfl rfl rfl rfl rfl rfl ⟨rfl, rfl, rfl, rfl, rfl⟩ rfl rfl rfl rfl rfl exr_f6 Tryz.func3 exr_joined
    (of_decide_eq_true (by kernel_rfl)) (by unfold Func.isWrapper; first | (rw [if_pos (by decide +kernel)]; kernel_rfl) | (rw [if_neg (by decide +kernel)]; exact ⟨rfl, rfl⟩))
    (fun os started H enc _ => exr_lifted os started H enc)

set_option maxRecDepth 100000 in
theorem exr_w : Rows.fnExecuteRingRow.wfByText (OpenSpec.ofChange Rows.fnExecuteRingSpec) = true := by kernel_rfl
set_option maxRecDepth 100000 in
theorem exr_m : Tryz.prog.mainIs = some (true, "3d31fffe0e7f2f3809f8f5b05f0aaa9165427e1982440e4b7557c38c542767c8".toList) := by kernel_rfl
set_option maxRecDepth 100000 in
theorem exr_lk : true = Tryz.prog.looks [] := by kernel_rfl
set_option maxRecDepth 100000 in
theorem exr_st : Tryz.prog.wantsStandIn 22 = false := by kernel_rfl
set_option maxRecDepth 100000 in
theorem exr_g : false = Rows.fnExecuteRingRow.goesBy Tryz.prog := by kernel_rfl
theorem exr_holds : Rows.FnExecuteRingCardSaid :=
  Claim7.holds_tied_plain_at .later [] [.data, .data, .data, .data, .handle, .sentinel, .sentinel, .pinned] true (true, "3d31fffe0e7f2f3809f8f5b05f0aaa9165427e1982440e4b7557c38c542767c8") true
    exr_said (fun _ h => by cases h) exr_w (fun _ h => by cases h) fnExecuteRing_row_tie rfl ⟨rfl, rfl⟩ exr_m rfl
    (fun f fn hf hfn => by
      obtain rfl : f = 3 := (Option.some.inj (exr_f6.symm.trans hf)).symm
      obtain rfl : fn = Tryz.f3 := (Option.some.inj (Tryz.func3.symm.trans hfn)).symm
      exact ⟨exr_lk, fun j t ht => by
        rw [Tryz.params3] at ht
        have h3 : t = 22 := by
          rcases j with _ | j
          · simpa using ht.symm
          · simp at ht
        subst h3
        exact exr_st⟩)
    exr_g
#print axioms exr_holds

end Go.Proofs.YtddhmidegldhdaaGreatDoor
