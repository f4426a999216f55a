/- The point of a design at a turn, in whole numbers. No program, no conditions. -/
import Derived.Test.YtddhmidegldhdaaGreatDoorZD0
import Derived.Test.YtddhmidegldhdaaGreatDoorZD1
import Derived.Test.YtddhmidegldhdaaGreatDoorZD2
import Derived.Test.YtddhmidegldhdaaGreatDoorZD3
import Derived.Test.YtddhmidegldhdaaGreatDoorZD4
import Derived.Shelf.Strings.Cut
import Derived.Shelf.Strings.Split
import Derived.Shelf.Strconv.AtoiAll
import Derived.Shelf.Strings.Search3
/- DesignText and EntryMake of both sides: their words. Conditions: a list of wheels. -/
namespace Go.Proofs.YtddhmidegldhdaaGreatDoor
open Go.RowKit
set_option maxRecDepth 100000

theorem tI_okD {L : List Wh} (h : yI L = true) : okD (tI L) = true := by
  have hy := h
  rw [yI, Bool.and_eq_true] at hy
  have e : tI L = tidyL L := by rw [tI, h]; rfl
  rw [e]
  exact (tidyL_lin ((show bdW 1000000 L from fun w hw => (okD_mem hy.1 hw).2).mono (by omega)) hy.2).1.2.2

def txV (L : List Wh) : ByteArray := bif yI L then textB (tI L) else ⟨#[]⟩
theorem gmDtI_ok : GamOk Tryz.prog (gmDtI yI tI textB okD) := ext_ok (ext_ok g0_ok ok_UTi) ok_tx
theorem gmDtS_ok : GamOk Tryz.prog (gmDtS yI tI textB okD) := ext_ok (ext_ok g0_ok ok_tiS) ok_sx
theorem ok_dtI : SpecOk Tryz.prog 14 (specR md_ws (FdtO txV yI)) := by
  refine specR_hr gmDtI_ok Tryz.func14 rfl fun sas fr hF ho => ?_
  unfold FdtO at hF
  split at hF
  · rename_i m g
    cases hF
    simp only [ob_cons] at ho
    obtain ⟨h1, h2, _⟩ := ho
    have hm := of_decide_eq_true h2
    have fin : ∀ v b, txV (listW (itW g) m) = v → yI (listW (itW g) m) = b → GoodQ (.out .ret [.tup [.v (.string v), .v (.bool b)]] (hpC m (itW g))) (GivR (abP md_ws [.row m g] []) { val := .tup [.v (.string (txV (listW (itW g) m))), .v (.bool (yI (listW (itW g) m)))], obl := [allW m g, decide (m ≤ 2 ^ 38)] }) := fun v b hv hb =>
      good_out ⟨_, rfl, by rw [hv, hb], .cons (ABeq.row fun j hj => (allW_get h1 j hj).symm) .nil⟩
    refine ⟨hpC m (itW g), noLam, 100, .cons (ABeq.row fun j hj => allW_get h1 j hj) .nil, fun _ _ => noLam_ok _ _ _, ?_⟩
    show GoodQ (execF Tryz.prog (gmDtI yI tI textB okD) noLam 100 Tryz.f14 [.sl 0 9 0 0 m none] (hpC m (itW g)) (packK 1)) _
    rw [treeDtI]
    simp only [row0, listW_itW]
    generalize listW (itW g) m = L at fin ⊢
    refine good_needs (by simp only [ob_cons, ob_nil, and_true, decide_eq_true_eq, Nat.ble_eq, allW_row, true_and]; omega) (good_cond (fun q => ?_) fun q => ?_)
    · rw [Bool.not_eq_true'] at q
      exact fin _ _ (by rw [txV, q]; rfl) q
    · rw [Bool.not_eq_false'] at q
      rw [listW_fun]
      refine good_needs (by simp only [ob_cons, ob_nil, and_true, Nat.ble_eq, allW_row, true_and]; exact ⟨by omega, tI_okD q⟩) (fin _ _ (by rw [txV, q]; rfl) q)
  · cases hF
theorem ok_dtS : SpecOk Tryz.prog 60 (specR md_ws (FdtO txV yI)) := by
  refine specR_hr gmDtS_ok Tryz.func60 rfl fun sas fr hF ho => ?_
  unfold FdtO at hF
  split at hF
  · rename_i m g
    cases hF
    simp only [ob_cons] at ho
    obtain ⟨h1, h2, _⟩ := ho
    have hm := of_decide_eq_true h2
    have fin : ∀ v b, txV (listW (itW g) m) = v → yI (listW (itW g) m) = b → GoodQ (.out .ret [.tup [.v (.string v), .v (.bool b)]] (hpC m (itW g))) (GivR (abP md_ws [.row m g] []) { val := .tup [.v (.string (txV (listW (itW g) m))), .v (.bool (yI (listW (itW g) m)))], obl := [allW m g, decide (m ≤ 2 ^ 38)] }) := fun v b hv hb =>
      good_out ⟨_, rfl, by rw [hv, hb], .cons (ABeq.row fun j hj => (allW_get h1 j hj).symm) .nil⟩
    refine ⟨hpC m (itW g), noLam, 100, .cons (ABeq.row fun j hj => allW_get h1 j hj) .nil, fun _ _ => noLam_ok _ _ _, ?_⟩
    show GoodQ (execF Tryz.prog (gmDtS yI tI textB okD) noLam 100 Tryz.f60 [.sl 0 9 0 0 m none] (hpC m (itW g)) (packK 1)) _
    rw [treeDtS]
    simp only [row0, listW_itW]
    generalize listW (itW g) m = L at fin ⊢
    refine good_needs (by simp only [ob_cons, ob_nil, and_true, decide_eq_true_eq, Nat.ble_eq, allW_row, true_and]; omega) (good_cond (fun q => ?_) fun q => ?_)
    · rw [Bool.not_eq_true'] at q
      exact fin _ _ (by rw [txV, q]; rfl) q
    · rw [Bool.not_eq_false'] at q
      rw [listW_fun]
      refine good_needs (by simp only [ob_cons, ob_nil, and_true, Nat.ble_eq, allW_row, true_and]; exact ⟨by omega, tI_okD q⟩) (fin _ _ (by rw [txV, q]; rfl) q)
  · cases hF

end Go.Proofs.YtddhmidegldhdaaGreatDoor

/- DesignRead of the reference: trees. Conditions: a text. -/
namespace Go.Proofs.YtddhmidegldhdaaGreatDoor
open Go.RowKit
set_option maxRecDepth 100000

def gmRs (g : ByteArray → Int → Nat → ByteArray) (n : ByteArray → Int → Nat) (f : ByteArray → Int) (tx : List Wh → ByteArray) (yI : List Wh → Bool) : Gam := ext (ext (ext g0 58 (specR [.val, .val] (FcuO g n))) 59 (specR [.val] (FnbO f))) 60 (specR md_ws (FdtO tx yI))
abbrev lvRs : Ex → List Nat := lv3 [0, 4, 5, 6] [0, 4] [2, 3]
abbrev hpRs (k : Nat) (h : Nat → Nat → Int) (m : Nat) (gw : Nat → ByteArray) : List AB := [.row true k 9 (row9 h) 60, .row true m 1 (fun j => [.string (gw j)]) 9]
abbrev stRs (s : ByteArray) (k m : Nat) (i : Nat) : List AV := [.v (.string s), .own 0 k, .own 1 m, .v (i64 i)]
theorem rndRs_h (g : ByteArray → Int → Nat → ByteArray) (n : ByteArray → Int → Nat) (f : ByteArray → Int) (tx : List Wh → ByteArray) (yI : List Wh → Bool) (s : ByteArray) (k : Nat) (h : Nat → Nat → Int) (m : Nat) (gw : Nat → ByteArray) (i : Nat) (u2 : _) (hu2 : (gw (Int.toNat (↑i : Int))) = u2) (u3 : _) (hu3 : (44 : Int) = u3) (u4 : _) (hu4 : (0 : Nat) = u4) (u5 : _) (hu5 : (1 : Nat) = u5) (u6 : _) (hu6 : (↑(n u2 (58 : Int)) : Int) = u6) (u7 : _) (hu7 : [AB.row true u4 9 (fun _ ↦ []) (60 : Nat)] = u7) (u0 : _) (hu0 : (g u2 (58 : Int) u5) = u0) (u1 : _) (hu1 : (↑(n u0 u3) : Int) = u1) : execC Tryz.prog (gmRs g n f tx yI) 200 noLam (loopAt 0 Tryz.f23) (mkT 0 82 ((lvRs .normal).zip (stRs s k m i))) (hpRs k h m gw) (leafV 82 lvRs 0)
    = bif decide ((↑i : Int) < (m : Int)) then needs [decide ((↑i : Int) < (m : Int)), decide (Int.toNat (↑i : Int) < m), Nat.blt (ByteArray.size u2) (4294967281 : Nat)] (bif u6 != (2 : Int) then Res.out .ret [AV.own u4 u4, AV.v (.bool false)] u7 else needs [decide ((1 : Int) < u6), decide (u5 < n u2 (58 : Int)), Nat.blt (ByteArray.size u0) (4294967281 : Nat)] (bif u1 != (8 : Int) then Res.out .ret [AV.own u4 u4, AV.v (.bool false)] u7 else needs [decide ((0 : Int) < u6), decide (u4 < n u2 (58 : Int)), decide ((0 : Int) < u1), decide (u4 < n u0 u3), decide ((1 : Int) < u1), decide (u5 < n u0 u3), decide ((2 : Int) < u1), decide ((2 : Nat) < n u0 u3), decide ((3 : Int) < u1), decide ((3 : Nat) < n u0 u3), decide ((4 : Int) < u1), decide ((4 : Nat) < n u0 u3), decide ((5 : Int) < u1), decide ((5 : Nat) < n u0 u3), decide ((6 : Int) < u1), decide ((6 : Nat) < n u0 u3), decide ((7 : Int) < u1), decide ((7 : Nat) < n u0 u3), Nat.ble k k, Nat.ble (k + u5) (549755813888 : Nat)] (Res.out .normal [AV.v (.string s), AV.own u4 (k + u5), AV.own u5 m, AV.v (.int .i64 (IntKind.wrap .i64 ((↑i : Int) + (1 : Int))))] [AB.row true (k + u5) (9 : Nat) (fun q ↦ [Value.int .i64 (bif Nat.blt q k then h q u4 else f (g u2 (58 : Int) u4)), Value.int .i64 (bif Nat.blt q k then h q u5 else f (g u0 u3 u4)), Value.int .i64 (bif Nat.blt q k then h q (2 : Nat) else f (g u0 u3 u5)), Value.int .i64 (bif Nat.blt q k then h q (3 : Nat) else f (g u0 u3 (2 : Nat))), Value.int .i64 (bif Nat.blt q k then h q (4 : Nat) else f (g u0 u3 (3 : Nat))), Value.int .i64 (bif Nat.blt q k then h q (5 : Nat) else f (g u0 u3 (4 : Nat))), Value.int .i64 (bif Nat.blt q k then h q (6 : Nat) else f (g u0 u3 (5 : Nat))), Value.int .i64 (bif Nat.blt q k then h q (7 : Nat) else f (g u0 u3 (6 : Nat))), Value.int .i64 (bif Nat.blt q k then h q (8 : Nat) else f (g u0 u3 (7 : Nat)))]) (60 : Nat), AB.row true m u5 (fun j ↦ [Value.string (gw j)]) 9]))) else Res.out (Ex.exit u4) [AV.v (.string s), AV.own u4 k] [AB.row true k 9 (row9 h) 60] := by
  subst hu1 hu0 hu7 hu6 hu5 hu4 hu3 hu2
  kernel_rfl
theorem rndRs (g : ByteArray → Int → Nat → ByteArray) (n : ByteArray → Int → Nat) (f : ByteArray → Int) (tx : List Wh → ByteArray) (yI : List Wh → Bool) (s : ByteArray) (k : Nat) (h : Nat → Nat → Int) (m : Nat) (gw : Nat → ByteArray) (i : Nat) : type_of% (rndRs_h g n f tx yI s k h m gw i _ rfl _ rfl _ rfl _ rfl _ rfl _ rfl _ rfl _ rfl) := rndRs_h g n f tx yI s k h m gw i _ rfl _ rfl _ rfl _ rfl _ rfl _ rfl _ rfl _ rfl

noncomputable abbrev lamRs (s : ByteArray) (m : Nat) (gw : Nat → ByteArray) (q : Bool) (k : Nat) (h : Nat → Nat → Int) : Nat → Option Sum := oneL 0 (atS 82 (lvRs .normal) 0 (stRs s 0 m 0) (hpRs 0 (wfun []) m gw) (fun K => cond q (K .normal (mkT 0 82 [(0, .v (.string s)), (4, .own 0 k)]) [.row true k 9 (row9 h) 60]) (K .ret (mkT 0 82 [(2, .own 0 0), (3, .v (.bool false))]) [.row true 0 9 (fun _ => []) 60])))
theorem treeRs_h (g : ByteArray → Int → Nat → ByteArray) (n : ByteArray → Int → Nat) (f : ByteArray → Int) (tx : List Wh → ByteArray) (yI : List Wh → Bool) (s : ByteArray) (q : Bool) (k : Nat) (h : Nat → Nat → Int) (u2 : _) (hu2 : (0 : Nat) = u2) (u3 : _) (hu3 : (n s (32 : Int)) = u3) (u0 : _) (hu0 : (AB.row true u2 9 (fun _ ↦ []) (60 : Nat)) = u0) (u1 : _) (hu1 : [AV.tup [AV.own u2 u2, AV.v (.bool false)]] = u1) : execF Tryz.prog (gmRs g n f tx yI) (lamRs s (n s 32) (g s 32) q k h) 200 Tryz.f23 [.v (.string s)] [] (packK 0)
    = bif decide ((↑(ByteArray.size s) : Int) > (1500 : Int)) then Res.out .ret u1 [u0] else bif eqB s (ByteArray.mk (Array.mk [(45 : UInt8)])) then Res.out .ret [AV.tup [AV.own u2 u2, AV.v (.bool true)]] [u0] else needs [Nat.blt (ByteArray.size s) (4294967281 : Nat), chk ([AV.v (.string s), AV.own u2 u2, AV.own 1 u3, AV.v (.int .i64 0)] = stRs s u2 u3 u2 ∧ Hsim [u0, AB.row true u3 1 (fun j ↦ [Value.string (g s (32 : Int) j)]) 9] (hpRs u2 (wfun []) u3 (g s (32 : Int))))] (bif q then needs [Nat.ble k k, allW k (row9 h), decide (k ≤ (274877906944 : Nat))] (bif !yI (listW (itW (row9 h)) k) then Res.out .ret u1 [u0] else bif !eqB (tx (listW (itW (row9 h)) k)) s then Res.out .ret u1 [u0] else Res.out .ret [AV.tup [AV.own u2 k, AV.v (.bool true)]] [AB.row true k 9 (row9 h) 60]) else Res.out .ret u1 [AB.row true u2 9 (fun _ ↦ []) 60]) := by
  subst hu1 hu0 hu3 hu2
  kernel_rfl
theorem treeRs (g : ByteArray → Int → Nat → ByteArray) (n : ByteArray → Int → Nat) (f : ByteArray → Int) (tx : List Wh → ByteArray) (yI : List Wh → Bool) (s : ByteArray) (q : Bool) (k : Nat) (h : Nat → Nat → Int) : type_of% (treeRs_h g n f tx yI s q k h _ rfl _ rfl _ rfl _ rfl) := treeRs_h g n f tx yI s q k h _ rfl _ rfl _ rfl _ rfl

theorem treeRsB (g : ByteArray → Int → Nat → ByteArray) (n : ByteArray → Int → Nat) (f : ByteArray → Int) (tx : List Wh → ByteArray) (yI : List Wh → Bool) (s : ByteArray) : execF Tryz.prog (gmRs g n f tx yI) (oneL 0 errS) 200 Tryz.f23 [.v (.string s)] [] (packK 0)
    = bif decide ((↑(ByteArray.size s) : Int) > (1500 : Int)) then Res.out .ret [AV.tup [AV.own 0 (0 : Nat), AV.v (.bool false)]] [AB.row true (0 : Nat) (9 : Nat) (fun _ ↦ []) (60 : Nat)] else bif eqB s (ByteArray.mk (Array.mk [(45 : UInt8)])) then Res.out .ret [AV.tup [AV.own 0 (0 : Nat), AV.v (.bool true)]] [AB.row true (0 : Nat) (9 : Nat) (fun _ ↦ []) (60 : Nat)] else needs [Nat.blt (ByteArray.size s) (4294967281 : Nat)] Res.err := by kernel_rfl

end Go.Proofs.YtddhmidegldhdaaGreatDoor

/- The abstract machine, 21: a function whose body holds a loop over a function. Conditions: the word of the function that yields. -/
namespace Go.Proofs.YtddhmidegldhdaaGreatDoor
open Go.RowKit

def nestL : List Code → Code → Code
  | [], z => z
  | c :: cs, z => .seq c (nestL cs z)
def execL (P : Program) (Γ : Gam) (n : Nat) : List Code → List AV → List AB → Kont → Res
  | [], T, H, K => K .normal T H
  | c :: cs, T, H, K => execC P Γ n noLam c T H (fun e T' H' => match e with
    | .normal => execL P Γ n cs T' H' K
    | _ => .err)

theorem execL_in {P : Program} {Γ : Gam} (hΓ : GamOk P Γ) (hmix : P.follows .mixedOrders = true) (hent : Enters P) (nn n : Nat) {M : Nat → Prop} {w0 : World} {ν0 : Nu} (hM : ∀ k, w0.heap.size ≤ k → M k) {K : Kont} {Q : Ex → List AV → List AB → Prop} {z : Code} {Qw : Exit → Act → World → Prop}
    (hz : ∀ T H a w ν, (K .normal T H).ok Q → SR M w0 ν0 T H a w ν → a.defers = [] → z.wpIn (wideR none) nn P Qw a w) :
    ∀ (cs : List Code), cs.all codeDef = true → ∀ T H a w ν, (execL P Γ n cs T H K).ok Q → SR M w0 ν0 T H a w ν → a.defers = [] → (nestL cs z).wpIn (wideR none) nn P Qw a w
  | [], _, T, H, a, w, ν, h, hS, hd => hz T H a w ν h hS hd
  | c :: cs, hD, T, H, a, w, ν, h, hS, hd => by
    simp only [List.all_cons, Bool.and_eq_true] at hD
    refine wpIn_seq (wpIn_mono (execC_in hΓ hmix hent none nn [] n c hD.1 M w0 ν0 hM T H _ Q a w ν h hS hd) ?_)
    rintro e a' w' ⟨e', T', H', ν', rfl, hk, hS', hd'⟩
    cases e' with
    | normal => exact execL_in hΓ hmix hent nn n hM hz cs hD.2 T' H' a' w' ν' hk hS' hd'
    | exit id => exact hk.elim
    | ret => exact hk.elim

theorem mask_less {T TT : List AV} {live : List Nat} (h : T = maskT live 0 TT) (t : Nat) : T.getD t .dead = TT.getD t .dead ∨ T.getD t .dead = .dead := by
  subst h
  rw [maskT_get]
  split
  · exact .inl rfl
  · exact .inr rfl

def behind (P : Program) (Γ : Gam) (n : Nat) (fn : Func) (id : Nat) (rest : Code) (Kc : AV → List AB → Res) : Kont :=
  exitK id (thenK (fun T H => execC P Γ n noLam rest T H (finC P fn Kc)) (finC P fn Kc))

end Go.Proofs.YtddhmidegldhdaaGreatDoor

/- The abstract machine, 32: a function whose body holds a loop over a function, within a scope. Conditions: the word of the function that yields. -/
namespace Go.Proofs.YtddhmidegldhdaaGreatDoor
open Go.RowKit

end Go.Proofs.YtddhmidegldhdaaGreatDoor

/- The abstract machine, 35: a range over a function whose iterator writes cells of its own. Conditions: the word of the function that yields. -/
namespace Go.Proofs.YtddhmidegldhdaaGreatDoor
open Go.RowKit

def bxM (ν : Nu) (bx : List Nat) : Nat → Prop := fun k => ∃ i ∈ bx, ∃ b, ν i = some b ∧ b.n = k
structure Chg (B : Nat → Prop) (W W' : World) : Prop where
  fr : Fr B W W'
  cells : ∀ k, B k → (∃ l t fz, W.heap[k]? = some (.cells (List.toArray l) t fz)) → ∃ l t fz, W'.heap[k]? = some (.cells (List.toArray l) t fz)
def SeqStopsW {α : Type} (F : Fence) (n : Nat) (P : Program) (g : Nat) (lb : Array Value) (encs : α → Array Value) (B M : Nat → Prop) (S Sp : List α → Prop) (N : Nat) (w : World) : Prop :=
  ∀ (l : Nat) (J Jx : List α → World → Prop) (W : World), Below w.heap.size w W → (∀ s A C, J s A → Chg B A C → J s C) → (∀ s A C, Jx s A → Chg B A C → Jx s C) →
    (∀ pre x W1, J pre W1 → pre.length < N → YieldAt F (n - 1) P l (encs x) W1 fun e W' =>
      (e = .returned (.bool true) ∧ J (pre ++ [x]) W' ∧ (W1.heap.size ≤ W'.heap.size ∧ (∀ k, B k → W'.heap[k]? = W1.heap[k]?) ∧ TabOk M W')) ∨ (e = .returned (.bool false) ∧ Jx (pre ++ [x]) W')) →
    J [] W →
    CallsIn F n P g (#[.func (.yield l) #[] #[]] ++ lb) W fun e W' => (∃ v, e = .returned v) ∧ ((∃ xs, S xs ∧ J xs W') ∨ (∃ pre, Sp pre ∧ Jx pre W'))

def isHold : AB → Bool
  | .row false 0 _ _ _ => true
  | _ => false
def isCellsB : AB → Bool
  | .cells _ _ => true
  | _ => false
def okBx (bx : List Nat) (H : List AB) : Bool := ((List.range H.length).all fun i => !(H.getD i .gone).live || (H.getD i .gone).wr || bx.elem i) && bx.all fun i => isHold (H.getD i .gone)
theorem isHold_live {b : AB} (h : isHold b = true) : b.live = true ∧ b.wr = false := by
  unfold isHold at h
  split at h
  · exact ⟨rfl, rfl⟩
  · cases h
theorem okBx_hold {bx : List Nat} {H : List AB} (h : okBx bx H = true) {j : Nat} (hj : j ∈ bx) : (H.getD j .gone).live = true ∧ (H.getD j .gone).wr = false := by
  rw [okBx, Bool.and_eq_true, List.all_eq_true] at h
  exact isHold_live (List.all_eq_true.1 h.2 j hj)
theorem okBx_wr {bx : List Nat} {H : List AB} (h : okBx bx H = true) {i : Nat} (hl : (H.getD i .gone).live = true) (hi : i ∉ bx) : (H.getD i .gone).wr = true := by
  rw [okBx, Bool.and_eq_true, List.all_eq_true] at h
  by_cases hlt : i < H.length
  · have := h.1 i (List.mem_range.2 hlt)
    simp only [Bool.or_eq_true, Bool.not_eq_true', hl, Bool.true_eq_false, false_or] at this
    rcases this with h1 | h1
    · exact h1
    · exact absurd (List.elem_iff.1 h1) hi
  · rw [List.getD_eq_getElem?_getD, List.getElem?_eq_none (by omega)] at hl
    cases hl

theorem SR.chg {M : Nat → Prop} {w : World} {ν ν' : Nu} {T : List AV} {H : List AB} {a : Act} {A B : World} {bx : List Nat} (h : SR M w ν T H a A ν') (hok : okBx bx H = true) (hbx : ∀ i ∈ bx, ∃ b, ν i = some b ∧ M b.n) (hc : Chg (bxM ν bx) A B) : SR M w ν T H a B ν' := by
  have hBM : ∀ k, bxM ν bx k → M k := fun k ⟨i, hi, b, hb, e⟩ => by
    obtain ⟨b', hb', hm⟩ := hbx i hi
    rw [hb] at hb'
    cases hb'
    exact e ▸ hm
  refine ⟨h.tmps, ⟨fun i => ?_, h.heap.sep, h.heap.own, fun i b hb => Nat.lt_of_lt_of_le (h.heap.lt i b hb) hc.fr.size, h.heap.tab.block fun k hk hm => hc.fr.block k hk fun hb => hm (hBM k hb)⟩, h.fr.trans (hc.fr.mono fun k _ hk => hBM k hk), h.dom, h.len, h.le⟩
  by_cases hi : i ∈ bx
  · obtain ⟨b, hb, _⟩ := hbx i hi
    have hb' := h.le _ _ hb
    have hbr : BR ν' i (H.getD i .gone) A := h.heap.br i
    show BR ν' i (H.getD i .gone) B
    have hh : isHold (H.getD i .gone) = true := by
      rw [okBx, Bool.and_eq_true] at hok
      exact List.all_eq_true.1 hok.2 i hi
    generalize H.getD i .gone = x at hbr hh ⊢
    unfold isHold at hh
    split at hh
    · rcases hbr with ⟨_, _, e⟩ | ⟨b1, l, t', fz, e1, e2, _⟩
      · rw [hb'] at e; cases e
      · rw [hb'] at e1
        cases e1
        obtain ⟨l2, t2, fz2, e3⟩ := hc.cells b.n ⟨i, hi, b, hb, rfl⟩ ⟨l, t', fz, e2⟩
        exact .inr ⟨b, l2, t2, fz2, hb', e3, (fun e => by cases e), Nat.zero_le _, fun j hj => absurd hj (Nat.not_lt_zero _)⟩
    · cases hh
  · refine (h.heap.br i).of_block fun k hk hl => hc.fr.block k.n (h.heap.lt i k hk) ?_
    rintro ⟨j, hj, b, hb, e⟩
    have hw := okBx_wr hok hl hi
    exact h.heap.sep i j k b (fun e => hi (e ▸ hj)) hw (okBx_hold hok hj).1 hk (h.le _ _ hb) e.symm

theorem SR.lessW {M : Nat → Prop} {w0 : World} {ν0 : Nu} {T T' : List AV} {H H' : List AB} {a : Act} {w : World} {ν : Nu} (h : SR M w0 ν0 T H a w ν) (hl : T'.length = T.length) (hT : ∀ t, T'.getD t .dead = T.getD t .dead ∨ T'.getD t .dead = .dead) (hn : H'.length = H.length)
    (hH : ∀ i, H'.getD i .gone = H.getD i .gone ∨ H'.getD i .gone = .gone ∨ (isHold (H'.getD i .gone) = true ∧ isCellsB (H.getD i .gone) = true)) : SR M w0 ν0 T' H' a w ν := by
  refine ⟨fun t => ?_, ⟨fun i => ?_, fun i j b b' hne hw hlv => ?_, fun i b hw => ?_, h.heap.lt, h.heap.tab⟩, h.fr, fun i b hb => by rw [hn]; exact h.dom i b hb, by rw [hl]; exact h.len, h.le⟩
  · rcases hT t with e | e
    · rw [e]; exact h.tmps t
    · rw [e]; simp only [VR]
  · rcases hH i with e | e | ⟨e1, e2⟩
    · simp only [e]; exact h.heap.br i
    · simp only [e]; trivial
    · have hbr : BR ν i (H.getD i .gone) w := h.heap.br i
      show BR ν i (H'.getD i .gone) w
      generalize H'.getD i .gone = x at e1 ⊢
      generalize H.getD i .gone = y at e2 hbr
      unfold isHold at e1
      split at e1
      · unfold isCellsB at e2
        split at e2
        · obtain ⟨b, l, e3, _, e5, _⟩ := hbr
          exact .inr ⟨b, l, _, _, e3, e5, (fun e => by cases e), Nat.zero_le _, fun j hj => absurd hj (Nat.not_lt_zero _)⟩
        · cases e2
      · cases e1
  · refine h.heap.sep i j b b' hne ?_ ?_
    · rcases hH i with e | e | ⟨e1, _⟩
      · rw [e] at hw; exact hw
      · rw [e] at hw; cases hw
      · rw [(isHold_live e1).2] at hw; cases hw
    · rcases hH j with e | e | ⟨_, e2⟩
      · rw [e] at hlv; exact hlv
      · rw [e] at hlv; cases hlv
      · show (H.getD j .gone).live = true
        generalize H.getD j .gone = y at e2
        cases y <;> simp_all [isCellsB, AB.live]
  · refine h.heap.own i b ?_
    rcases hH i with e | e | ⟨e1, _⟩
    · rw [e] at hw; exact hw
    · rw [e] at hw; cases hw
    · rw [(isHold_live e1).2] at hw; cases hw

theorem putObj_size (w : World) (l : Nat) (o : Obj) : (w.putObj l o).heap.size = w.heap.size := by simp [World.putObj]

theorem range_lawW {α : Type} {P : Program} {Γ : Gam} (hΓ : GamOk P Γ) (hmix : P.follows .mixedOrders = true) (hent : Enters P) {g : Operand} {gf : Nat} {lb : Array Value} {encs : α → List Value} {ps : Array Tmp} {assign body : Code} {S Sp : List α → Prop} {N nn n : Nat} {T : List AV} {a : Act} {w : World} {ν : Nu}
    (hg : a.eval g = .func (.func gf) #[] lb) (eg : ∀ args w, (callFunc gf args).run P w = .ok (.enter gf args) w) (Jv : List α → Prop) (Lx : Ex → List α → Prop) (hp : List α → List AB) (hx : Ex → List α → List AB) (hD1 : codeDef assign = true) (hD2 : codeDef body = true)
    {m : Nat} (hm : (hp []).length = m) {M : Nat → Prop} (hM : ∀ k, w.heap.size ≤ k → M k) (h0 : SR M w ν T (hp []) a w ν) {bx : List Nat} (hbx : ∀ i ∈ bx, ∃ b, ν i = some b ∧ M b.n) (hok : ∀ pre, okBx bx (hp pre) = true) (hokx : ∀ e pre, okBx bx (hx e pre) = true)
    (hseq : SeqStopsW (wideR none) nn P gf lb (fun x => (encs x).toArray) (bxM ν bx) M S Sp N w)
    (hps : ∀ x, (encs x).length = ps.size) (hpT : ∀ p ∈ ps.toList, p < T.length)
    (hJ0 : Jv [])
    (hround : ∀ pre x, Jv pre → pre.length < N → (execC P Γ n noLam assign (parT ps.toList (encs x) T) (hp pre) (andK P Γ n body m)).ok (RoundJ Jv Lx hp hx (pre ++ [x])))
    {Q : Exit → Act → World → Prop}
    (hdone : ∀ D xs W ν', w.heap.size ≤ D → S xs → Jv xs → SR (M) w ν T (hp xs) a W ν' → W.heap[D]? = some (.deferred (some [])) → Q .normal { a with defers := { target := .collected D, args := #[] } :: a.defers } W)
    (hleave : ∀ D e pre W ν', w.heap.size ≤ D → e ≠ .normal → Lx e pre → Sp pre → SR (M) w ν T (hx e pre) a W ν' → W.heap[D]? = some (.deferred (some [])) → Q (Ex.to e) { a with defers := { target := .collected D, args := #[] } :: a.defers } W) :
    (Code.rangeFunc g ps assign body).wpIn (wideR none) (nn + 1) P Q a w := by
  have hBl : ∀ k, bxM ν bx k → k < w.heap.size := fun k ⟨i, _, b, hb, hk⟩ => hk ▸ h0.heap.lt i b hb
  refine wpIn_rangeFunc fun fn hfn => ?_
  obtain ⟨rec, hrec⟩ : ∃ rec : LoopState → Option Code → Loop, rec = fun st pe => { state := st, pending := pe, fn, tmps := a.tmps, params := ps, assign, body, defers := w.heap.size } := ⟨_, rfl⟩
  obtain ⟨W1, hW1⟩ : ∃ W1, (w.alloc (.deferred (some []))).alloc (.loop (rec .ready none)) = W1 := ⟨_, rfl⟩
  have hsz : W1.heap.size = w.heap.size + 2 := by rw [← hW1]; simp
  have hL1 : W1.heap[w.heap.size + 1]? = some (.loop (rec .ready none)) := by
    rw [← hW1]; have := World.alloc_heap_new (w.alloc (.deferred (some []))) (.loop (rec .ready none)); rwa [World.size_alloc] at this
  have hK1 : W1.heap[w.heap.size]? = some (.deferred (some [])) := by
    rw [← hW1]; exact (Below.heap_alloc _ _ _ (by simp)).trans (World.alloc_heap_new w _)
  have hg1 : w.grownBy W1 none := by
    rw [← hW1]
    have e1 := World.grownBy_alloc w (.deferred (some [])) none
    have e2 := World.grownBy_alloc (w.alloc (.deferred (some []))) (.loop (rec .ready none)) none
    exact ⟨e2.os.trans e1.os, e2.tape.trans e1.tape, e2.output.trans e1.output, Nat.le_trans e1.size e2.size, fun k hk hn => (e2.block k (Nat.lt_of_lt_of_le hk e1.size) hn).trans (e1.block k hk hn)⟩
  have hb1 : Below w.heap.size w W1 := ⟨hg1.os, hg1.tape, hg1.output, hg1.size, fun k hk => hg1.block k hk (by simp)⟩
  -- the caller's word: I
  let I : List α → World → Prop := fun pre W => Jv pre ∧ ∃ ν', SR (M) w ν T (hp pre) a W ν'
  let Ix : Ex → List α → World → Prop := fun e pre W => (e ≠ .normal ∧ Lx e pre) ∧ ∃ ν', SR (M) w ν T (hx e pre) a W ν'
  have hI : ∀ pre W W' row, I pre W → W.grownBy W' row → (∀ r, row = some r → w.heap.size ≤ r ∧ ∃ o : Obj, W.heap[r]? = some o ∧ o.isCells = false) → I pre W' :=
    fun pre W W' row ⟨hj, ν', hs⟩ hg hr => ⟨hj, ν', hs.turn hM hg hr⟩
  have hIx : ∀ e pre W W' row, Ix e pre W → W.grownBy W' row → (∀ r, row = some r → w.heap.size ≤ r ∧ ∃ o : Obj, W.heap[r]? = some o ∧ o.isCells = false) → Ix e pre W' :=
    fun e pre W W' row ⟨hn, ν', hs⟩ hg hr => ⟨hn, ν', hs.turn hM hg hr⟩
  have hI1 : I [] W1 := hI [] w W1 none ⟨hJ0, ν, h0⟩ hg1 fun r e => by cases e
  have hC : ∀ pre A B, I pre A → Chg (bxM ν bx) A B → I pre B := fun pre A B ⟨hj, ν', hs⟩ hc => ⟨hj, ν', hs.chg (hok pre) hbx hc⟩
  have hCx : ∀ e pre A B, Ix e pre A → Chg (bxM ν bx) A B → Ix e pre B := fun e pre A B ⟨hj, ν', hs⟩ hc => ⟨hj, ν', hs.chg (hokx e pre) hbx hc⟩
  have keep : ∀ {A B : World} {k : Nat} {o : Obj}, Chg (bxM ν bx) A B → w.heap.size ≤ k → A.heap[k]? = some o → B.heap[k]? = some o := fun {A B k o} hc hk ho =>
    (hc.fr.block k (Array.getElem?_eq_some_iff.1 ho).1 fun hb => by have := hBl k hb; omega).trans ho
  refine ⟨w.heap.size + 1, [{ target := .collected w.heap.size, args := #[] }], W1, { target := .fn (.func gf) lb, args := #[.func (.yield (w.heap.size + 1)) #[] #[]] }, W1, gf,
    #[.func (.yield (w.heap.size + 1)) #[] #[]] ++ lb, W1, ?_, ?_, fun _ _ => trivial, ?_, fun h => (by cases h), ?_⟩
  · rw [← hW1, hrec]; exact run_enterLoop_outer _ _ _ _ _
  · simp only [resolve, hg]
    simp [go_sem]
  · simp [invoke, go_sem, eg]
  · refine (hseq (w.heap.size + 1)
      (fun pre W => I pre W ∧ W.heap[w.heap.size + 1]? = some (.loop (rec .ready none)) ∧ W.heap[w.heap.size]? = some (.deferred (some [])))
      (fun pre W => ∃ e, Ix e pre W ∧ W.heap[w.heap.size + 1]? = some (.loop (rec .done (some (jumpOf e)))) ∧ W.heap[w.heap.size]? = some (.deferred (some [])))
      W1 hb1
      (fun s A B hs hc => ⟨hC s A B hs.1 hc, keep hc (by omega) hs.2.1, keep hc (Nat.le_refl _) hs.2.2⟩)
      (fun s A B hs hc => by
        obtain ⟨e, he, hl, hk⟩ := hs
        exact ⟨e, hCx e s A B he hc, keep hc (by omega) hl, keep hc (Nat.le_refl _) hk⟩)
      ?_ ⟨hI1, hL1, hK1⟩).mono ?_
    · rintro pre x W ⟨⟨hj, ν', hs⟩, hl, hk⟩ hlen
      have hlt : w.heap.size + 1 < W.heap.size := (Array.getElem?_eq_some_iff.1 hl).1
      have hy := run_yield (P := P) (args := (encs x).toArray) hl (by rw [hrec]; simp [hps x])
      rw [hrec] at hy
      refine ⟨fn, _, assign, body, hy, roundIn_of_wpIn hfn ?_⟩
      have hpar := par_sr (ps := ps.toList) (vs := encs x) (T := T) (t := a.tmps) hpT hs.len hs.tmps
      have hfold : (ps.zip (encs x).toArray).foldl (fun t (p, v) => t.setIfInBounds p v) a.tmps = (ps.toList.zip (encs x)).foldl (fun t (p, v) => t.setIfInBounds p v) a.tmps := by
        rw [← Array.foldl_toList, Array.toList_zip]
      have hstart : SR (M) w ν (parT ps.toList (encs x) T) (hp pre) { tmps := (ps.toList.zip (encs x)).foldl (fun t (p, v) => t.setIfInBounds p v) a.tmps, defers := [] } W ν' :=
        ⟨hpar.1, hs.heap, hs.fr, hs.dom, hpar.2, hs.le⟩
      have hnb : ∀ k, bxM ν bx k → ¬ ownM W ν' (hp pre) k := by
        rintro k hk (hk' | ⟨i, b, hw, hb, rfl⟩)
        · have := hs.fr.size; have := hBl k hk; omega
        · obtain ⟨j, hj, b', hb', e⟩ := hk
          obtain ⟨h1, h2⟩ := okBx_hold (hok pre) hj
          exact hs.heap.sep i j b b' (fun e => by subst e; rw [h2] at hw; cases hw) hw h1 hb (hs.le _ _ hb') e.symm
      have run1 := execC_in hΓ hmix hent (some (w.heap.size + 1)) (nn - 1) [] n assign hD1 (ownM W ν' (hp pre)) W ν' (fun k hk => .inl hk) _ _ _ _ _ W ν' (hround pre x hj hlen) hstart.rebase rfl
      show assign.wpIn (wideR (some (w.heap.size + 1))) (nn - 1) P _ _ W
      simp only [hfold]
      refine wpIn_mono run1 ?_
      rintro e a1 Wa ⟨e1, T1, H1, ν1, rfl, hk1, hS1, hd1⟩
      cases e1 with
      | exit id => exact hk1.elim
      | ret => exact hk1.elim
      | normal =>
        have hlA : Wa.heap[w.heap.size + 1]? = some (.loop (rec .ready none)) := (hS1.fr.block _ hlt (hs.own_cells hl rfl)).trans hl
        have hkA : Wa.heap[w.heap.size]? = some (.deferred (some [])) := (hS1.fr.block _ (by omega) (hs.own_cells hk rfl)).trans hk
        have hSu := hstart.unbase hM hS1
        refine ⟨_, run_beginRound hlA (by rw [hrec]), ?_⟩
        obtain ⟨W2, hW2⟩ : ∃ W2, Wa.putObj (w.heap.size + 1) (.loop { rec .ready none with state := .busy }) = W2 := ⟨_, rfl⟩
        have hl2 : W2.heap[w.heap.size + 1]? = some (.loop { rec .ready none with state := .busy }) := by rw [← hW2]; exact World.putObj_heap_same (Array.getElem?_eq_some_iff.1 hlA).1
        have hk2 : W2.heap[w.heap.size]? = some (.deferred (some [])) := by rw [← hW2]; exact (World.putObj_heap_other (by omega)).trans hkA
        have hS2 : SR (M) w ν T1 H1 a1 W2 ν1 := by
          rw [← hW2]
          refine hSu.turn hM (grownBy_putObj' Wa _ _) fun r e => ?_
          cases e
          exact ⟨by omega, _, hlA, rfl⟩
        have hkp2 : ∀ k, bxM ν bx k → W2.heap[k]? = W.heap[k]? := fun k hk => by
          rw [← hW2]
          have := hBl k hk
          have := hs.fr.size
          exact (World.putObj_heap_other (by omega)).trans (hS1.fr.block k (by omega) (hnb k hk))
        have hsz2 : W.heap.size ≤ W2.heap.size := by
          rw [← hW2]
          have := hS1.fr.size
          simpa [World.putObj] using this
        have hW1o : ∀ i b, (H1.getD i .gone).wr = true → ν1 i = some b → ownM W ν' (hp pre) b.n := fun i b hw hb => hS1.heap.own i b hw hb
        rw [hW2]
        have hnb2 : ∀ k, bxM ν bx k → ¬ ownM W2 ν1 H1 k := by
          rintro k hk (hk' | ⟨i, b, hw, hb, rfl⟩)
          · have := hBl k hk; have := hs.fr.size; omega
          · exact hnb _ hk (hW1o i b hw hb)
        have run2 := execC_in hΓ hmix hent (some (w.heap.size + 1)) (nn - 1) [] n body hD2 (ownM W2 ν1 H1) W2 ν1 (fun k hk => .inl hk) _ _ _ _ a1 W2 ν1 hk1 hS2.rebase hd1
        refine wpIn_mono run2 ?_
        rintro e a2 W3 ⟨e2, T2, H2, ν2, rfl, hk3, hS3, hd3⟩
        have hl3 : W3.heap[w.heap.size + 1]? = some (.loop { rec .ready none with state := .busy }) := (hS3.fr.block _ (Array.getElem?_eq_some_iff.1 hl2).1 (hS2.own_cells hl2 rfl)).trans hl2
        have hk3' : W3.heap[w.heap.size]? = some (.deferred (some [])) := (hS3.fr.block _ (Array.getElem?_eq_some_iff.1 hk2).1 (hS2.own_cells hk2 rfl)).trans hk2
        have hS4 := hS2.unbase hM hS3
        have hkp3 : ∀ k, bxM ν bx k → W3.heap[k]? = W.heap[k]? := fun k hk => (hS3.fr.block k (by have := hBl k hk; have := hs.fr.size; omega) (hnb2 k hk)).trans (hkp2 k hk)
        have hsz3 := Nat.le_trans hsz2 hS3.fr.size
        unfold deadK leafK at hk3
        split at hk3
        · rename_i p hwk
          have hS5 := weak_sound hwk hS4 (by rw [← hm]; exact h0.dom)
          have fin : ∀ (jump : Option Code), (Instr.endRound (w.heap.size + 1) jump).run P W3 = .ok (.bool jump.isNone) (W3.putObj (w.heap.size + 1) (.loop (rec (if jump.isNone then .ready else .done) jump))) ∧
              (W3.putObj (w.heap.size + 1) (.loop (rec (if jump.isNone then .ready else .done) jump))).heap[w.heap.size + 1]? = some (.loop (rec (if jump.isNone then .ready else .done) jump)) ∧
              (W3.putObj (w.heap.size + 1) (.loop (rec (if jump.isNone then .ready else .done) jump))).heap[w.heap.size]? = some (.deferred (some [])) ∧ ∀ HH ν3, SR (M) w ν p.1 HH a2 W3 ν3 → SR (M) w ν T HH a (W3.putObj (w.heap.size + 1) (.loop (rec (if jump.isNone then .ready else .done) jump))) ν3 := fun jump => by
            have := run_endRound (P := P) jump hl3
            rw [hrec] at this ⊢
            refine ⟨this, World.putObj_heap_same (Array.getElem?_eq_some_iff.1 hl3).1, (World.putObj_heap_other (by omega)).trans hk3', fun HH ν3 hh => ?_⟩
            have h1 : SR (M) w ν T HH a W3 ν3 := ⟨fun t => (h0.tmps t).le hh.le, hh.heap, hh.fr, hh.dom, h0.len, hh.le⟩
            refine h1.turn hM (grownBy_putObj' W3 _ _) fun r e => ?_
            cases e
            exact ⟨by omega, _, hl3, rfl⟩
          cases e2 with
          | normal =>
            obtain ⟨f1, f2, f3, f4⟩ := fin none
            exact ⟨_, _, f1, .inl ⟨rfl, ⟨⟨hk3.1, _, f4 _ _ (hS5.sim hk3.2)⟩, f2, f3⟩, by rw [putObj_size]; exact hsz3, fun k hk => (World.putObj_heap_other (by have := hBl k hk; omega)).trans (hkp3 k hk), (f4 _ _ (hS5.sim hk3.2)).heap.tab⟩⟩
          | ret =>
            obtain ⟨f1, f2, f3, f4⟩ := fin (some .ret)
            exact ⟨_, _, f1, .inr ⟨rfl, .ret, ⟨⟨(by simp), hk3.1⟩, _, f4 _ _ (hS5.sim hk3.2)⟩, f2, f3⟩⟩
          | exit id =>
            obtain ⟨f1, f2, f3, f4⟩ := fin (some (.exit id))
            exact ⟨_, _, f1, .inr ⟨rfl, .exit id, ⟨⟨(by simp), hk3.1⟩, _, f4 _ _ (hS5.sim hk3.2)⟩, f2, f3⟩⟩
        · exact hk3.elim
    · rintro e W2 ⟨⟨v, rfl⟩, (⟨xs, hS, ⟨hj, ν', hi⟩, hl, hk⟩ | ⟨pre, hSp, e, ⟨hne, ν', hi⟩, hl, hk⟩)⟩
      · have hend := run_endLoop (P := P) hl (by rw [hrec]; simp)
        rw [hrec] at hend
        refine ⟨none, _, hend, hdone _ xs _ ν' (Nat.le_refl _) hS hj (hi.turn hM (grownBy_putObj' W2 _ _) fun r e => ?_) ((World.putObj_heap_other (by omega)).trans hk)⟩
        cases e
        exact ⟨by omega, _, hl, rfl⟩
      · have hend := run_endLoop (P := P) hl (by rw [hrec]; simp)
        rw [hrec] at hend
        have hi' := hi.turn (w' := W2.putObj (w.heap.size + 1) (.loop { rec .done (some (jumpOf e)) with state := .exhausted })) hM (grownBy_putObj' W2 _ _) fun r e => by
          cases e
          exact ⟨by omega, _, hl, rfl⟩
        have hk' : (W2.putObj (w.heap.size + 1) (.loop { rec .done (some (jumpOf e)) with state := .exhausted })).heap[w.heap.size]? = some (.deferred (some [])) := (World.putObj_heap_other (by omega)).trans hk
        rw [hrec] at hi' hk'
        refine ⟨_, _, hend, ?_⟩
        cases e with
        | normal => exact (hne.1 rfl).elim
        | ret => exact wpIn_ret (hleave _ .ret pre _ ν' (Nat.le_refl _) hne.1 hne.2 hSp hi' hk')
        | exit id => exact wpIn_exit (hleave _ (.exit id) pre _ ν' (Nat.le_refl _) hne.1 hne.2 hSp hi' hk')

def thenC (P : Program) (Γ : Gam) (n : Nat) (c : Code) (K : Kont) : Kont := fun e T' H' => match e with
  | .normal => execC P Γ n noLam c T' H' K
  | _ => .err
def condK (P : Program) (Γ : Gam) (n t : Nat) (p2 : Code) (K : Kont) : Kont := fun e T' H' => match e with
  | .normal => (match T'.getD t .dead with
    | .v (.bool b) => cond b (execC P Γ n noLam p2 T' H' (fun e T' H' => match e with
      | .normal => K .normal T' H'
      | _ => .err)) .err
    | _ => .err)
  | _ => .err

theorem calls_rangeW {α : Type} {P : Program} {Γ : Gam} (hΓ : GamOk P Γ) (hmix : P.follows .mixedOrders = true) (hent : Enters P) {f : FuncId} {fn : Func} (hf : P.funcs[f]? = some fn) {pre : List Code} {ct : Nat} {p1 p2 rest assign body : Code} {id : Nat} {g : Operand} {ps : Array Tmp}
    (hb : fn.body = some (nestL pre (.seq (.seq p1 (.cond (.tmp ct) (.seq p2 (.block id (.rangeFunc g ps assign body))) .skip)) rest))) (hD1 : codeDef p1 = true) (hDp : pre.all codeDef = true) (hD2 : codeDef p2 = true) (hDr : codeDef rest = true) (hDa : codeDef assign = true) (hDb : codeDef body = true) {n nn : Nat}
    {avs : List AV} {TT : List AV} {HH H0 : List AB} {lvp : Ex → List Nat} {gf : Nat} {cs : List AV} {encs : α → List Value} {S Sp : List α → Prop} {N : Nat} {Q : Ex → List AV → List AB → Prop}
    (hpre : (execL P Γ n pre (avs ++ List.replicate (fn.ntmps - avs.length) (.v undef)) H0 (thenC P Γ n p1 (condK P Γ n ct p2 (leafK lvp H0.length)))).ok (fun e T' H' => e = .normal ∧ T' = TT ∧ H' = HH)) (hg : evA TT g = .fn gf cs)
    (T : List AV) (hTl : T.length = TT.length) (hT : ∀ t, T.getD t .dead = TT.getD t .dead ∨ T.getD t .dead = .dead) (Jv : List α → Prop) (Lx : Ex → List α → Prop) (hp : List α → List AB) (hx : Ex → List α → List AB) (hHl : (hp []).length = HH.length) (bx : List Nat) (hbx : ∀ i ∈ bx, isCellsB (HH.getD i .gone) = true) (hok : ∀ pre, okBx bx (hp pre) = true) (hokx : ∀ e pre, okBx bx (hx e pre) = true)
    (hH : ∀ i, (hp []).getD i .gone = HH.getD i .gone ∨ (hp []).getD i .gone = .gone ∨ (isHold ((hp []).getD i .gone) = true ∧ isCellsB (HH.getD i .gone) = true))
    (eg : ∀ args w, (callFunc gf args).run P w = .ok (.enter gf args) w)
    (hIter : ∀ W ν1 a1 lb, SR (ownM W ν1 HH) W ν1 TT HH a1 W ν1 → VRs ν1 cs lb → SeqStopsW (wideR none) nn P gf lb.toArray (fun x => (encs x).toArray) (bxM ν1 bx) (ownM W ν1 HH) S Sp N W)
    (hps : ∀ x, (encs x).length = ps.size) (hpT : ∀ p ∈ ps.toList, p < T.length)
    (hJ0 : Jv [])
    (hround : ∀ pre x, Jv pre → pre.length < N → (execC P Γ n noLam assign (parT ps.toList (encs x) T) (hp pre) (andK P Γ n body HH.length)).ok (RoundJ Jv Lx hp hx (pre ++ [x])))
    (hdone : ∀ xs, S xs → Jv xs → (behind P Γ n fn id rest (packK H0.length) .normal T (hp xs)).ok Q)
    (hleave : ∀ e pre, e ≠ .normal → Lx e pre → Sp pre → (behind P Γ n fn id rest (packK H0.length) e T (hx e pre)).ok Q) :
    ∀ (M : Nat → Prop) (vals : List Value) (w : World) (ν : Nu), (∀ k, w.heap.size ≤ k → M k) → VRs ν avs vals → RH M ν (fun b => H0.getD b .gone) w → (∀ i b, ν i = some b → i < H0.length) →
      Calls P f vals.toArray w (RetG Q M ν w) := by
  intro M vals w ν hM hv hR hdom
  rw [← callsIn_wide (n := nn + 1), ← wideR_none]
  refine callsIn_of_wp_marks hf hb trivial ?_
  have hst := start_sr (fn := fn) hv hR hdom
  -- the end of the function, deferred calls and all
  have leave : ∀ (e : Exit) (e' : Ex) (D : Nat) (T' : List AV) (H' : List AB) (a' : Act) (w' : World) (ν' : Nu), (e = .normal ∨ e = .ret) → a'.defers = [{ target := .collected D, args := #[] }] → (finC P fn (packK H0.length) .ret T' H').ok Q → SR M w ν T' H' a' w' ν' → w.heap.size ≤ D → w'.heap[D]? = some (.deferred (some [])) →
      bodyPostM (wideR none) (nn + 1) P fn (RetG Q M ν w) e a' w' := by
    intro e e' D T' H' a' w' ν' he hd hk hS hDl hDd
    have key : LeavesInM (wideR none) (nn + 1) P fn a'.tmps (RetG Q M ν w) a'.defers .returning w' := by
      rw [hd]
      refine ⟨by simp, .inl ⟨D, _, rfl, run_takeDeferred hDd, ?_⟩⟩
      have hS' := hS.turn (w' := w'.putObj D (.deferred none)) hM (grownBy_putObj' w' D _) fun r e => by
        cases e
        exact ⟨hDl, _, hDd, rfl⟩
      simp only [finC] at hk
      split at hk
      · rename_i vs ob hres
        obtain ⟨h1, h2⟩ := needs_ok hk
        obtain ⟨v, h3, h4⟩ := results_run hS'.tmps hS'.heap.br hres h1
        refine ⟨v, h3, ?_⟩
        unfold packK at h2
        split at h2
        · rename_i p hp'
          have hSo : SR M w ν [oneA vs] H' { tmps := #[v], defers := [] } (w'.putObj D (.deferred none)) ν' := by
            refine ⟨fun t => ?_, hS'.heap, hS'.fr, hS'.dom, by simp, hS'.le⟩
            cases t with
            | zero => simpa using h4
            | succ t => simp only [List.getD_cons_succ, List.getD_nil, VR]
          have hW := weak_sound hp' hSo hdom
          have hp1 : p.1.length = 1 := by
            have := hp'
            unfold weak at this
            split at this
            · rename_i T1 H1 hT hH1
              cases hc : (nodupB (keepOf H0.length (maskT [0] 0 [oneA vs]) H') && (keepOf H0.length (maskT [0] 0 [oneA vs]) H').take H0.length == upN 0 H0.length) with
              | false => rw [hc] at this; cases this
              | true =>
                rw [hc] at this
                cases this
                have := renAs_length hT
                simpa [maskT] using this
            · cases this
          match hp2 : p.1, hp1 with
          | [av'], _ =>
            rw [hp2] at h2 hW
            exact ⟨v, av', p.2, _, rfl, h2, by simpa using hW.tmps 0, hW.heap, hW.fr, hW.le, hW.dom⟩
        · exact h2.elim
      · exact hk.elim
    rcases he with rfl | rfl
    · exact key
    · exact key
  -- behind the loop: from what holds there
  have after : ∀ (e : Ex) (D : Nat) (T' : List AV) (H' : List AB) (a' : Act) (w' : World) (ν' : Nu), a'.defers = [{ target := .collected D, args := #[] }] → (behind P Γ n fn id rest (packK H0.length) e T' H').ok Q → SR M w ν T' H' a' w' ν' → w.heap.size ≤ D → w'.heap[D]? = some (.deferred (some [])) →
      Exit.inBlock id (Exit.then (rest.wpIn (wideR none) (nn + 1) P (bodyPostM (wideR none) (nn + 1) P fn (RetG Q M ν w))) (bodyPostM (wideR none) (nn + 1) P fn (RetG Q M ν w))) (Ex.to e) a' w' := by
    intro e D T' H' a' w' ν' hd hk hS hDl hDd
    have run : (execC P Γ n noLam rest T' H' (finC P fn (packK H0.length))).ok Q → rest.wpIn (wideR none) (nn + 1) P (bodyPostM (wideR none) (nn + 1) P fn (RetG Q M ν w)) a' w' := by
      intro hk
      refine wpIn_mono (execC_in hΓ hmix hent none (nn + 1) _ n rest hDr (ownM w' ν' H') w' ν' (fun k hk => .inl hk) T' H' _ Q a' w' ν' hk hS.rebase hd) ?_
      rintro e a2 w2 ⟨e2, T2, H2, ν2, rfl, hk2, hS2, hd2⟩
      have hD2 : w2.heap[D]? = some (.deferred (some [])) := (hS2.fr.block D (Array.getElem?_eq_some_iff.1 hDd).1 (hS.own_cells hDd rfl)).trans hDd
      have hS3 := hS.unbase hM hS2
      cases e2 with
      | normal => exact leave _ .normal D T2 H2 a2 w2 ν2 (.inl rfl) hd2 hk2 hS3 hDl hD2
      | ret => exact leave _ .ret D T2 H2 a2 w2 ν2 (.inr rfl) hd2 hk2 hS3 hDl hD2
      | exit j => exact hk2.elim
    cases e with
    | normal => exact run hk
    | ret => exact leave .ret .ret D T' H' a' w' ν' (.inr rfl) hd hk hS hDl hDd
    | exit j =>
      simp only [behind, exitK] at hk
      simp only [Ex.to, Exit.inBlock]
      cases hj : Nat.beq j id with
      | true =>
        rw [hj] at hk
        rw [if_pos (Nat.eq_of_beq_eq_true hj)]
        exact run hk
      | false =>
        rw [hj] at hk
        exact hk.elim
  refine execL_in hΓ hmix hent (nn + 1) n hM (fun T1 H1 a1 w1 ν1 hk1 hS1 hd1 => ?_) pre hDp _ _ _ _ _ hpre hst rfl
  refine wpIn_seq (wpIn_seq (wpIn_mono (execC_in hΓ hmix hent none (nn + 1) [] n p1 hD1 M w ν hM T1 H1 _ _ a1 w1 ν1 hk1 hS1 hd1) ?_))
  rintro e a2 w2 ⟨e2, T2, H2, ν2, rfl, hk2, hS2, hd2⟩
  cases e2 with
  | exit j => exact hk2.elim
  | ret => exact hk2.elim
  | normal =>
  simp only [condK] at hk2
  split at hk2
  case h_2 => exact hk2.elim
  rename_i bb hbb
  rcases cond_ok hk2 with ⟨hb1, hk2⟩ | ⟨_, hk2⟩
  case inr => exact hk2.elim
  subst hb1
  have hct : a2.eval (.tmp ct) = .bool true := by
    have := hS2.tmps ct
    rw [hbb] at this
    simp only [VR] at this
    exact this
  show (Code.cond (.tmp ct) (.seq p2 (.block id (.rangeFunc g ps assign body))) .skip).wpIn (wideR none) (nn + 1) P _ a2 w2
  refine wpIn_cond_true hct (wpIn_seq (wpIn_mono (execC_in hΓ hmix hent none (nn + 1) [] n p2 hD2 M w ν hM T2 H2 _ _ a2 w2 ν2 hk2 hS2 hd2) ?_))
  rintro e a3 w3 ⟨e3, T3, H3, ν3, rfl, hk3, hS3, hd3⟩
  cases e3 with
  | exit j => exact hk3.elim
  | ret => exact hk3.elim
  | normal =>
    simp only at hk3
    unfold leafK at hk3
    split at hk3
    · rename_i p hwk
      obtain ⟨_, hp1, hp2⟩ := hk3
      have hS4 := weak_sound hwk hS3 hdom
      rw [hp1, hp2] at hS4
      generalize keepNu (keepOf H0.length (maskT (lvp .normal) 0 T3) H3) ν3 = ν4 at hS4
      have hSr := hS4.rebase
      have hgv : VR ν4 (.fn gf cs) (a3.eval g) := by
        have := evA_sound (T := TT) (a := a3) (ν := ν4) (z := g) fun t _ => hS4.tmps t
        rw [hg] at this
        exact this
      simp only [VR] at hgv
      obtain ⟨lb, hlb, hvs⟩ := hgv
      have hS5 : SR (ownM w3 ν4 HH) w3 ν4 T (hp []) a3 w3 ν4 := hSr.lessW (T' := T) (H' := hp []) hTl hT hHl hH
      have hbx' : ∀ i ∈ bx, ∃ b, ν4 i = some b ∧ ownM w3 ν4 HH b.n := fun i hi => by
        have hc := hbx i hi
        have hbr : BR ν4 i (HH.getD i .gone) w3 := hS4.heap.br i
        have hw : (HH.getD i .gone).wr = true := by
          generalize HH.getD i .gone = y at hc
          cases y <;> simp_all [isCellsB, AB.wr]
        cases hy : HH.getD i .gone with
        | cells cs t =>
          rw [hy] at hbr
          obtain ⟨b, l, e1, _⟩ := hbr
          exact ⟨b, e1, .inr ⟨i, b, hw, e1, rfl⟩⟩
        | row => rw [hy] at hc; cases hc
        | gone => rw [hy] at hc; cases hc
      show (Code.block id (.rangeFunc g ps assign body)).wpIn (wideR none) (nn + 1) P _ a3 w3
      refine wpIn_block ?_
      have sz := hS4.fr.size
      refine range_lawW hΓ hmix hent hlb eg Jv Lx hp hx hDa hDb hHl (fun k hk => .inl hk) hS5 hbx' hok hokx (hIter w3 ν4 a3 lb hSr hvs) hps hpT hJ0 hround (fun D xs W ν' hD hs hj hS hDd => ?_) (fun D e pre W ν' hD hne hlv hs hS hDd => ?_)
      · refine after .normal D T (hp xs) _ W ν' (by rw [← hd3]) (hdone xs hs hj) ?_ (by omega) hDd
        have := hS4.unbase hM hS
        exact ⟨this.tmps, this.heap, this.fr, this.dom, this.len, this.le⟩
      · refine after e D T (hx e pre) _ W ν' (by rw [← hd3]) (hleave e pre hne hlv hs) ?_ (by omega) hDd
        have := hS4.unbase hM hS
        exact ⟨this.tmps, this.heap, this.fr, this.dom, this.len, this.le⟩
    · exact hk3.elim

end Go.Proofs.YtddhmidegldhdaaGreatDoor

/- The abstract machine, 36: one operation of a region, in a frame with rounds. Conditions: those of the table of callees. -/
namespace Go.Proofs.YtddhmidegldhdaaGreatDoor
open Go.RowKit

theorem mach1 {P : Program} {Γ : Gam} (hΓ : GamOk P Γ) {nn : Nat} {all : Array Oper} {Q : Exit → Act → World → Prop} {k : Nat} {o : Oper} (hk : all[k]? = some o) (hg : o.guard = none) (hd : ∀ c, o.op ≠ .defer c) {M : Nat → Prop} {w0 : World} {ν0 : Nu} (hM : ∀ k, w0.heap.size ≤ k → M k)
    {T : List AV} {H : List AB} {a : Act} {w : World} {ν : Nu} {δ : Delta} (hδ : opA P Γ o T H H.length = some δ) (ho : obls δ.obl = true) (h1 : (dstOk T o.dst && δ.put.all fun p => (H.getD p.1 .gone).wr) = true) (hS : SR M w0 ν0 T H a w ν) {K : Act → World → Prop}
    (hK : ∀ a' w' ν', SR M w0 ν0 (setT T o.dst δ.val) (appH H δ) a' w' ν' → a'.defers = a.defers → K a' w') : wpOpIn (wideR none) nn P all Q k K a w := by
  unfold wpOpIn
  rw [hk]
  simp only
  rw [if_pos (by simp [Region.wanted, hg])]
  refine op_in hd ?_
  have vT : ∀ t, VR ν (T.getD t .dead) (a.tmps.getD t undef) := hS.tmps
  rw [Bool.and_eq_true] at h1
  have hput : ∀ p ∈ δ.put, (H.getD p.1 .gone).wr = true := fun p hp => List.all_eq_true.1 h1.2 p hp
  have hfree : ∀ j, j < δ.new.length → ν (H.length + j) = none := by
    intro j _
    cases hν : ν (H.length + j) with
    | none => rfl
    | some b => have := hS.dom _ b hν; omega
  refine opA_sound hΓ hδ ho (fun z _ => evA_sound fun t _ => vT t) (fun b _ => hS.heap.br b) hS.heap.lt hfree (fun i' c j' b b' hp _ hne hl h1 h2 => hS.heap.sep i' j' b b' hne (hput _ hp) hl h1 h2) (hS.heap.callM (fun k hk => hM k (Nat.le_trans hS.fr.size hk)) hput) fun v w' ν' did => ?_
  have hRH := hS.heap.step (fun k hk => hM k (Nat.le_trans hS.fr.size hk)) did hput hfree
  have e : (fun b => (appH H δ).getD b .gone) = appF H.length δ fun b => H.getD b .gone := by
    funext b
    exact appH_get hput b
  have hdom : ∀ i b, ν' i = some b → i < (appH H δ).length := by
    intro i b hb
    have hl : (appH H δ).length = H.length + δ.new.length := by simp [appH, putA_length]
    rw [hl]
    cases hν : ν i with
    | some b' => have := hS.dom i b' hν; omega
    | none => have := did.dom i hν (by rw [hb]; simp); omega
  exact hK _ _ ν' (hS.put h1.1 did.le did.val (by rw [e]; exact hRH) (did.fr hS.heap hput hS.fr) hdom) (put_defers' ..)

end Go.Proofs.YtddhmidegldhdaaGreatDoor

/- The function that yields the sides of a polygon: its word. Conditions: the list holds points. -/
namespace Go.Proofs.YtddhmidegldhdaaGreatDoor
open Go.RowKit
set_option maxRecDepth 100000

abbrev yv (l : Nat) : Value := .func (.yield l) #[] #[]
def sqA : Code → Code | .seq a _ => a | c => c
def sqB : Code → Code | .seq _ b => b | c => c
def blB : Code → Code | .block _ b => b | c => c
theorem leaf_post {ds : List Deferred} {M : Nat → Prop} {w0 : World} {ν0 : Nu} {lv : Ex → List Nat} {m : Nat} {Q : Ex → List AV → List AB → Prop} {e : Exit} {a : Act} {w : World} (h : postD ds M w0 ν0 (leafK lv m) Q e a w) (hν : ∀ i b, ν0 i = some b → i < m) :
    ∃ e' T H ν, e = Ex.to e' ∧ Q e' T H ∧ SR M w0 ν0 T H a w ν ∧ a.defers = ds := by
  obtain ⟨e', T, H, ν, rfl, hk, hS, hd⟩ := h
  unfold leafK at hk
  split at hk
  · rename_i p hp
    exact ⟨e', p.1, p.2, _, rfl, hk, weak_sound hp hS hν, hd⟩
  · exact hk.elim

theorem yield_op {nn : Nat} {P : Program} {ops : Array Oper} {Q : Exit → Act → World → Prop} {i l : Nat} {o : Oper} {x y : Operand} {ts : Array TypeId} {K : Act → World → Prop} {R : Ending → World → Prop} {a : Act} {w : World} {v : Value} (ho : ops[i]? = some o) (hop : o.op = .call ⟨.value x, #[y], ts⟩) (hgu : o.guard = none)
    (hx : a.eval x = yv l) (hy : a.eval y = v) (h : YieldAt (wideR none) (nn - 1) P l #[v] w R) (hR : ∀ e w', R e w' → ∃ b, e = .returned b ∧ K (a.put o.dst b) w') : wpOpIn (wideR none) nn P ops Q i K a w := by
  unfold wpOpIn
  rw [ho]
  simp only
  rw [if_pos (by simp [Region.wanted, hgu])]
  refine ⟨fun _ _ => trivial, ?_⟩
  obtain ⟨fn, tmps, assign, body, e, hr⟩ := h
  have hs : (o.semAt (wideR none).round a.eval).run P w = .ok (.round l fn tmps assign body) w := by
    rw [show (wideR none).round = none from rfl, Oper.semAt_none]
    cases o with
    | mk dst op ty pos after guard =>
      simp only at hop
      subst hop
      simp [execOp, resolve, hx, hy, Deferred.ofValue, invoke, e]
  rw [hs, Oper.uponIn_round]
  refine ⟨fun h => (by cases h), hr.mono fun e w' he => ?_⟩
  obtain ⟨b, rfl, hk⟩ := hR e w' he
  exact hk

theorem not_op {nn : Nat} {P : Program} {ops : Array Oper} {Q : Exit → Act → World → Prop} {i : Nat} {t : TypeId} {o : Oper} {x : Operand} {K : Act → World → Prop} {a : Act} {w : World} {b : Bool} (ho : ops[i]? = some o) (hop : o.op = .unOp .not t x) (hgu : o.guard = none)
    (hx : a.eval x = .bool b) (hK : K (a.put o.dst (.bool (!b))) w) : wpOpIn (wideR none) nn P ops Q i K a w := by
  unfold wpOpIn
  rw [ho]
  simp only
  rw [if_pos (by simp [Region.wanted, hgu])]
  refine ⟨fun _ _ => trivial, ?_⟩
  have hs : (o.semAt (wideR none).round a.eval).run P w = .ok (.value (.bool (!b))) w := by
    rw [show (wideR none).round = none from rfl, Oper.semAt_none]
    cases o with
    | mk dst op ty pos after guard =>
      simp only at hop
      subst hop
      have he : execOp a.eval ⟨dst, .unOp .not t x, ty, pos, after, guard⟩ = (do pure (.value (← Op.unary .not (a.eval x)))) := rfl
      rw [he, hx]
      simp [Op.unary]
  rw [hs]
  exact hK

end Go.Proofs.YtddhmidegldhdaaGreatDoor

/- strings.Cut, strings.Split, strings.Index, strconv.Atoi by the shelf's contracts. Conditions: the texts' lengths. -/
namespace Go.Proofs.YtddhmidegldhdaaGreatDoor
open Go.RowKit Go.Shelf
set_option maxRecDepth 100000

def Tryz.laysCut_ren : Go.Shelf.Ren := ⟨fun | 145 => 108 | 220 => 166 | 219 => 213 | 217 => 171 | 225 => 277 | 224 => 278 | 267 => 279 | 266 => 246 | 314 => 315 | n => n, fun | 9 => 9 | 4 => 4 | 59 => 132 | 3 => 3 | 5 => 5 | 46 => 175 | 146 => 307 | 51 => 203 | n => n, fun | 1 => 1 | n => n⟩
theorem Tryz.laysCut : Go.Proofs.Lays.n145 Tryz.prog Tryz.laysCut_ren := {
  mixed := by kernel_rfl
  f145 := Tryz.func108.trans (congrArg some (by kernel_rfl))
  f217 := Tryz.func171.trans (congrArg some (by kernel_rfl))
  f219 := Tryz.func213.trans (congrArg some (by kernel_rfl))
  f220 := Tryz.func166.trans (congrArg some (by kernel_rfl))
  f224 := Tryz.func278.trans (congrArg some (by kernel_rfl))
  f225 := Tryz.func277.trans (congrArg some (by kernel_rfl))
  f266 := Tryz.func246.trans (congrArg some (by kernel_rfl))
  f267 := Tryz.func279.trans (congrArg some (by kernel_rfl))
  f314 := Tryz.func315.trans (congrArg some (by kernel_rfl))
  t3 := Tryz.underlying3
  a3 := Tryz.isAgg3
  z3 := Tryz.sizeOf3
  v3 := Tryz.zeroValue3
  t4 := Tryz.underlying4
  a4 := Tryz.isAgg4
  z4 := Tryz.sizeOf4
  v4 := Tryz.zeroValue4
  t5 := Tryz.underlying5
  a5 := Tryz.isAgg5
  z5 := Tryz.sizeOf5
  v5 := Tryz.zeroValue5
  t9 := Tryz.underlying9
  a9 := Tryz.isAgg9
  z9 := Tryz.sizeOf9
  v9 := Tryz.zeroValue9
  t46 := Tryz.underlying175
  a46 := Tryz.isAgg175
  z46 := Tryz.sizeOf175
  v46 := Tryz.zeroValue175
  t51 := Tryz.underlying203
  a51 := Tryz.isAgg203
  z51 := Tryz.sizeOf203
  v51 := Tryz.zeroValue203
  t59 := Tryz.underlying132
  a59 := Tryz.isAgg132
  z59 := Tryz.sizeOf132
  v59 := Tryz.zeroValue132
  t146 := Tryz.underlying307
  a146 := Tryz.isAgg307
  z146 := Tryz.sizeOf307
  v146 := Tryz.zeroValue307
  g1 := by kernel_rfl }
def Tryz.laysSplit_ren : Go.Shelf.Ren := ⟨fun | 146 => 45 | 221 => 87 | 268 => 142 | 138 => 143 | 143 => 144 | 195 => 211 | 197 => 177 | 218 => 212 | 219 => 213 | 260 => 248 | 217 => 171 | 225 => 277 | 224 => 278 | 267 => 279 | 266 => 246 | 314 => 315 | n => n, fun | 9 => 9 | 31 => 71 | 3 => 3 | 4 => 4 | 0 => 0 | 105 => 211 | 21 => 21 | 5 => 5 | 46 => 175 | 119 => 312 | 139 => 315 | 138 => 314 | 146 => 307 | 51 => 203 | n => n, fun | 1 => 1 | 3 => 4 | 4 => 5 | n => n⟩
theorem Tryz.laysSplit : Go.Proofs.LaysM.n146 Tryz.prog Tryz.laysSplit_ren := {
  mixed := by kernel_rfl
  f138 := Tryz.func143.trans (congrArg some (by kernel_rfl))
  f143 := Tryz.func144.trans (congrArg some (by kernel_rfl))
  f146 := Tryz.func45.trans (congrArg some (by kernel_rfl))
  f195 := Tryz.func211.trans (congrArg some (by kernel_rfl))
  f197 := Tryz.func177.trans (congrArg some (by kernel_rfl))
  f217 := Tryz.func171.trans (congrArg some (by kernel_rfl))
  f218 := Tryz.func212.trans (congrArg some (by kernel_rfl))
  f219 := Tryz.func213.trans (congrArg some (by kernel_rfl))
  f221 := Tryz.func87.trans (congrArg some (by kernel_rfl))
  f224 := Tryz.func278.trans (congrArg some (by kernel_rfl))
  f225 := Tryz.func277.trans (congrArg some (by kernel_rfl))
  f260 := Tryz.func248.trans (congrArg some (by kernel_rfl))
  f266 := Tryz.func246.trans (congrArg some (by kernel_rfl))
  f267 := Tryz.func279.trans (congrArg some (by kernel_rfl))
  f268 := Tryz.func142.trans (congrArg some (by kernel_rfl))
  f314 := Tryz.func315.trans (congrArg some (by kernel_rfl))
  t0 := Tryz.underlying0
  a0 := Tryz.isAgg0
  z0 := Tryz.sizeOf0
  v0 := Tryz.zeroValue0
  t3 := Tryz.underlying3
  a3 := Tryz.isAgg3
  z3 := Tryz.sizeOf3
  v3 := Tryz.zeroValue3
  t4 := Tryz.underlying4
  a4 := Tryz.isAgg4
  z4 := Tryz.sizeOf4
  v4 := Tryz.zeroValue4
  t5 := Tryz.underlying5
  a5 := Tryz.isAgg5
  z5 := Tryz.sizeOf5
  v5 := Tryz.zeroValue5
  t9 := Tryz.underlying9
  a9 := Tryz.isAgg9
  z9 := Tryz.sizeOf9
  v9 := Tryz.zeroValue9
  t21 := Tryz.underlying21
  a21 := Tryz.isAgg21
  z21 := Tryz.sizeOf21
  v21 := Tryz.zeroValue21
  t31 := Tryz.underlying71
  a31 := Tryz.isAgg71
  z31 := Tryz.sizeOf71
  v31 := Tryz.zeroValue71
  t46 := Tryz.underlying175
  a46 := Tryz.isAgg175
  z46 := Tryz.sizeOf175
  v46 := Tryz.zeroValue175
  t51 := Tryz.underlying203
  a51 := Tryz.isAgg203
  z51 := Tryz.sizeOf203
  v51 := Tryz.zeroValue203
  t105 := Tryz.underlying211
  a105 := Tryz.isAgg211
  z105 := Tryz.sizeOf211
  v105 := Tryz.zeroValue211
  t119 := Tryz.underlying312
  a119 := Tryz.isAgg312
  z119 := Tryz.sizeOf312
  t138 := Tryz.underlying314
  a138 := Tryz.isAgg314
  z138 := Tryz.sizeOf314
  v138 := Tryz.zeroValue314
  t139 := Tryz.underlying315
  a139 := Tryz.isAgg315
  z139 := Tryz.sizeOf315
  v139 := Tryz.zeroValue315
  t146 := Tryz.underlying307
  a146 := Tryz.isAgg307
  z146 := Tryz.sizeOf307
  v146 := Tryz.zeroValue307
  g1 := by kernel_rfl
  g3 := by kernel_rfl
  g4 := by kernel_rfl
  i0 := by kernel_rfl
  i3 := by kernel_rfl
  i4 := by kernel_rfl
  i5 := by kernel_rfl
  i9 := by kernel_rfl
  i21 := by kernel_rfl
  i31 := by kernel_rfl
  i46 := by kernel_rfl
  i51 := by kernel_rfl
  i105 := by kernel_rfl
  i138 := by kernel_rfl
  i139 := by kernel_rfl
  i146 := by kernel_rfl
  m1 := by kernel_rfl
  s1_3 := fun w h => Go.Proofs.cell_of_shapedOpen_int (zero := #[.int .i64 0]) (t := 3) h (of_decide_eq_true (by kernel_rfl)) (by kernel_rfl) rfl (by kernel_rfl) (by kernel_rfl) Tryz.underlying3
  m3 := by kernel_rfl
  m4 := by kernel_rfl }
def Tryz.laysAtoi_ren : Go.Shelf.Ren := ⟨fun | 172 => 122 | 244 => 178 | 245 => 179 | 247 => 249 | 279 => 250 | 280 => 251 | 281 => 252 | 282 => 253 | 287 => 304 | 316 => 305 | 171 => 48 | 205 => 306 | 321 => 324 | 322 => 325 | 243 => 109 | 246 => 167 | 283 => 239 | 284 => 240 | 285 => 241 | 286 => 242 | 129 => 209 | 317 => 296 | 318 => 297 | 319 => 298 | 320 => 299 | 337 => 321 | 338 => 322 | n => n, fun | 9 => 9 | 3 => 3 | 75 => 49 | 76 => 50 | 4 => 4 | 5 => 5 | 167 => 271 | 37 => 22 | 0 => 0 | 85 => 272 | 2 => 2 | 168 => 274 | 53 => 207 | 175 => 316 | 46 => 175 | 210 => 319 | 127 => 135 | 145 => 337 | 143 => 335 | 21 => 21 | 171 => 263 | 173 => 265 | 212 => 305 | 51 => 203 | 20 => 20 | 213 => 306 | 232 => 339 | 233 => 340 | 80 => 74 | n => n, fun | 15 => 6 | 16 => 7 | 17 => 3 | 18 => 8 | 19 => 9 | n => n⟩
theorem Tryz.laysAtoi : Go.Proofs.LaysC.n172 Tryz.prog Tryz.laysAtoi_ren := {
  mixed := by kernel_rfl
  f129 := Tryz.func209.trans (congrArg some (by kernel_rfl))
  f171 := Tryz.func48.trans (congrArg some (by kernel_rfl))
  f172 := Tryz.func122.trans (congrArg some (by kernel_rfl))
  f205 := Tryz.func306.trans (congrArg some (by kernel_rfl))
  f243 := Tryz.func109.trans (congrArg some (by kernel_rfl))
  f244 := Tryz.func178.trans (congrArg some (by kernel_rfl))
  f245 := Tryz.func179.trans (congrArg some (by kernel_rfl))
  f246 := Tryz.func167.trans (congrArg some (by kernel_rfl))
  f247 := Tryz.func249.trans (congrArg some (by kernel_rfl))
  f279 := Tryz.func250.trans (congrArg some (by kernel_rfl))
  f280 := Tryz.func251.trans (congrArg some (by kernel_rfl))
  f281 := Tryz.func252.trans (congrArg some (by kernel_rfl))
  f282 := Tryz.func253.trans (congrArg some (by kernel_rfl))
  f283 := Tryz.func239.trans (congrArg some (by kernel_rfl))
  f284 := Tryz.func240.trans (congrArg some (by kernel_rfl))
  f285 := Tryz.func241.trans (congrArg some (by kernel_rfl))
  f286 := Tryz.func242.trans (congrArg some (by kernel_rfl))
  f287 := Tryz.func304.trans (congrArg some (by kernel_rfl))
  f316 := Tryz.func305.trans (congrArg some (by kernel_rfl))
  f317 := Tryz.func296.trans (congrArg some (by kernel_rfl))
  f318 := Tryz.func297.trans (congrArg some (by kernel_rfl))
  f319 := Tryz.func298.trans (congrArg some (by kernel_rfl))
  f320 := Tryz.func299.trans (congrArg some (by kernel_rfl))
  f321 := Tryz.func324.trans (congrArg some (by kernel_rfl))
  f322 := Tryz.func325.trans (congrArg some (by kernel_rfl))
  f337 := Tryz.func321.trans (congrArg some (by kernel_rfl))
  f338 := Tryz.func322.trans (congrArg some (by kernel_rfl))
  t0 := Tryz.underlying0
  a0 := Tryz.isAgg0
  z0 := Tryz.sizeOf0
  v0 := Tryz.zeroValue0
  t2 := Tryz.underlying2
  a2 := Tryz.isAgg2
  z2 := Tryz.sizeOf2
  v2 := Tryz.zeroValue2
  t3 := Tryz.underlying3
  a3 := Tryz.isAgg3
  z3 := Tryz.sizeOf3
  v3 := Tryz.zeroValue3
  t4 := Tryz.underlying4
  a4 := Tryz.isAgg4
  z4 := Tryz.sizeOf4
  v4 := Tryz.zeroValue4
  t5 := Tryz.underlying5
  a5 := Tryz.isAgg5
  z5 := Tryz.sizeOf5
  v5 := Tryz.zeroValue5
  t9 := Tryz.underlying9
  a9 := Tryz.isAgg9
  z9 := Tryz.sizeOf9
  v9 := Tryz.zeroValue9
  t20 := Tryz.underlying20
  a20 := Tryz.isAgg20
  z20 := Tryz.sizeOf20
  v20 := Tryz.zeroValue20
  t21 := Tryz.underlying21
  a21 := Tryz.isAgg21
  z21 := Tryz.sizeOf21
  v21 := Tryz.zeroValue21
  t37 := Tryz.underlying22
  a37 := Tryz.isAgg22
  z37 := Tryz.sizeOf22
  v37 := Tryz.zeroValue22
  t46 := Tryz.underlying175
  a46 := Tryz.isAgg175
  z46 := Tryz.sizeOf175
  v46 := Tryz.zeroValue175
  t51 := Tryz.underlying203
  a51 := Tryz.isAgg203
  z51 := Tryz.sizeOf203
  v51 := Tryz.zeroValue203
  t53 := Tryz.underlying207
  a53 := Tryz.isAgg207
  z53 := Tryz.sizeOf207
  v53 := Tryz.zeroValue207
  t75 := Tryz.underlying49
  a75 := Tryz.isAgg49
  z75 := Tryz.sizeOf49
  v75 := Tryz.zeroValue49
  t76 := Tryz.underlying50
  a76 := Tryz.isAgg50
  z76 := Tryz.sizeOf50
  v76 := Tryz.zeroValue50
  t85 := Tryz.underlying272
  a85 := Tryz.isAgg272
  z85 := Tryz.sizeOf272
  v85 := Tryz.zeroValue272
  t127 := Tryz.underlying135
  a127 := Tryz.isAgg135
  z127 := Tryz.sizeOf135
  v127 := Tryz.zeroValue135
  t143 := Tryz.underlying335
  a143 := Tryz.isAgg335
  z143 := Tryz.sizeOf335
  v143 := Tryz.zeroValue335
  t145 := Tryz.underlying337
  a145 := Tryz.isAgg337
  z145 := Tryz.sizeOf337
  v145 := Tryz.zeroValue337
  t167 := Tryz.underlying271
  a167 := Tryz.isAgg271
  z167 := Tryz.sizeOf271
  v167 := Tryz.zeroValue271
  t168 := Tryz.underlying274
  a168 := Tryz.isAgg274
  z168 := Tryz.sizeOf274
  v168 := Tryz.zeroValue274
  t171 := Tryz.underlying263
  a171 := Tryz.isAgg263
  z171 := Tryz.sizeOf263
  v171 := Tryz.zeroValue263
  t173 := Tryz.underlying265
  a173 := Tryz.isAgg265
  z173 := Tryz.sizeOf265
  v173 := Tryz.zeroValue265
  t175 := Tryz.underlying316
  a175 := Tryz.isAgg316
  z175 := Tryz.sizeOf316
  v175 := Tryz.zeroValue316
  t210 := Tryz.underlying319
  a210 := Tryz.isAgg319
  z210 := Tryz.sizeOf319
  v210 := Tryz.zeroValue319
  t212 := Tryz.underlying305
  a212 := Tryz.isAgg305
  z212 := Tryz.sizeOf305
  v212 := Tryz.zeroValue305
  t213 := Tryz.underlying306
  a213 := Tryz.isAgg306
  z213 := Tryz.sizeOf306
  t232 := Tryz.underlying339
  a232 := Tryz.isAgg339
  z232 := Tryz.sizeOf339
  v232 := Tryz.zeroValue339
  t233 := Tryz.underlying340
  a233 := Tryz.isAgg340
  z233 := Tryz.sizeOf340
  v233 := Tryz.zeroValue340
  g15 := by kernel_rfl
  g16 := by kernel_rfl
  g17 := by kernel_rfl
  g18 := by kernel_rfl
  g19 := by kernel_rfl
  t80 := Tryz.underlying74
  a80 := Tryz.isAgg74
  z80 := Tryz.sizeOf74
  v80 := Tryz.zeroValue74
  i0 := by kernel_rfl
  i2 := by kernel_rfl
  i3 := by kernel_rfl
  i4 := by kernel_rfl
  i5 := by kernel_rfl
  i9 := by kernel_rfl
  i20 := by kernel_rfl
  i21 := by kernel_rfl
  i37 := by kernel_rfl
  i46 := by kernel_rfl
  i51 := by kernel_rfl
  i53 := by kernel_rfl
  i75 := by kernel_rfl
  i76 := by kernel_rfl
  i80 := by kernel_rfl
  i85 := by kernel_rfl
  i127 := by kernel_rfl
  i143 := by kernel_rfl
  i145 := by kernel_rfl
  i167 := by kernel_rfl
  i168 := by kernel_rfl
  i171 := by kernel_rfl
  i173 := by kernel_rfl
  i175 := by kernel_rfl
  i210 := by kernel_rfl
  i212 := by kernel_rfl
  i232 := by kernel_rfl
  i233 := by kernel_rfl
  m15 := by kernel_rfl
  m16 := by kernel_rfl
  m17 := by kernel_rfl
  m18 := by kernel_rfl
  m19 := by kernel_rfl
  c0 := by kernel_rfl
  c2 := by kernel_rfl
  c3 := by kernel_rfl
  c4 := by kernel_rfl
  c5 := by kernel_rfl
  c9 := by kernel_rfl
  c20 := by kernel_rfl
  c21 := by kernel_rfl
  c37 := by kernel_rfl
  c46 := by kernel_rfl
  c51 := by kernel_rfl
  c53 := by kernel_rfl
  c75 := by kernel_rfl
  c76 := by kernel_rfl
  c80 := by kernel_rfl
  c85 := by kernel_rfl
  c127 := by kernel_rfl
  c143 := by kernel_rfl
  c145 := by kernel_rfl
  c167 := by kernel_rfl
  c168 := by kernel_rfl
  c171 := by kernel_rfl
  c173 := by kernel_rfl
  c175 := by kernel_rfl
  c210 := by kernel_rfl
  c212 := by kernel_rfl
  c213 := by kernel_rfl
  c232 := by kernel_rfl
  c233 := by kernel_rfl }

theorem tab_num {M : Nat → Prop} {w : World} (h : TabOk M w) : ∃ m, w.cell? ⟨1, 0, none⟩ = some (.int .i64 m) := by
  obtain ⟨_, l, t, fz, h1, m, rfl⟩ := h (1, aNum) (by simp [tabG])
  exact ⟨m, by simp only at h1; simp [World.cell?, h1]⟩
theorem tab_syn {M : Nat → Prop} {w : World} (h : TabOk M w) : ∃ v, w.cell? ⟨6, 0, none⟩ = some v ∧ (v = .nilIface ∨ ∃ t x, v = .iface t x) := by
  obtain ⟨_, l, t, fz, h1, v, rfl, hv⟩ := h (6, anErr) (by simp [tabG])
  exact ⟨v, by simp only at h1; simp [World.cell?, h1], hv⟩
theorem tab_ran {M : Nat → Prop} {w : World} (h : TabOk M w) : ∃ v, w.cell? ⟨7, 0, none⟩ = some v ∧ (v = .nilIface ∨ ∃ t x, v = .iface t x) := by
  obtain ⟨_, l, t, fz, h1, v, rfl, hv⟩ := h (7, anErr) (by simp [tabG])
  exact ⟨v, by simp only at h1; simp [World.cell?, h1], hv⟩

def cuA (s p : ByteArray) : ByteArray := ⟨(Lib.cut s.data.toList p.data.toList).1.toArray⟩
def cuB (s p : ByteArray) : ByteArray := ⟨(Lib.cut s.data.toList p.data.toList).2.1.toArray⟩
def cuF (s p : ByteArray) : Bool := (Lib.cut s.data.toList p.data.toList).2.2
theorem mkS_size (x : List UInt8) : (ByteArray.mk x.toArray).size = x.length := by simp [ByteArray.size]
def fCutO (a b : ByteArray → ByteArray → ByteArray) (q : ByteArray → ByteArray → Bool) : List Value → Option (Value × List Bool)
  | [.string s, .string p] => some (.tuple #[.string (a s p), .string (b s p), .bool (q s p)], [Nat.blt s.size 4294967281])
  | _ => none
theorem fr_drew (w : World) (k : Nat) : Fr (fun _ => False) w (w.drewN k) := ⟨rfl, rfl, rfl, Nat.le_refl _, fun _ _ _ => rfl⟩
theorem ok_cut : SpecOk Tryz.prog 108 (specV (fCutO cuA cuB cuF)) := by
  refine specV_ok (fun args w => enters 108 Tryz.f108 Tryz.func108 rfl args w) fun vs x ob hF ho w ht => ?_
  unfold fCutO at hF
  split at hF
  · rename_i s p
    simp only [Option.some.injEq, Prod.mk.injEq] at hF
    obtain ⟨rfl, rfl⟩ := hF
    simp only [ob_cons, ob_nil, and_true, Nat.blt_eq] at ho
    obtain ⟨m, hm⟩ := tab_num ht
    refine (Any.strings_Cut Tryz.laysCut s p m w ho hm).mono ?_
    rintro e w' ⟨rfl, k, rfl⟩
    exact ⟨rfl, fr_drew w k⟩
  · cases hF

def tAt' (ws : List ByteArray) (j : Nat) : List Value := [.string (ws.getD j ⟨#[]⟩)]
def spB (s p : ByteArray) : List ByteArray := Lib.splitB p 0 (Lib.countB s p) s
theorem spB_length (s p : ByteArray) (h : 1 ≤ p.size) : (spB s p).length = Lib.countB s p + 1 := Lib.splitB_all p h 0 _ s rfl
theorem ret_row {Q : Ex → List AV → List AB → Prop} {M : Nat → Prop} {ν : Nu} {w : World} (hM : ∀ k, w.heap.size ≤ k → M k) (htab : TabOk M w) (hn0 : ∀ i, ν i = none) (l : List Value) (t : TypeId) (n : Nat) (hl : l.length = n) (hml : n ≤ maxLen) (g : Nat → List Value)
    (hg : ∀ j, j < n → ∃ v, l[j]? = some v ∧ v.oneCell' = true ∧ g j = [v]) (hQ : Q .ret [.own 0 n] [.row true n 1 g t]) : RetG Q M ν w (.returned (.slice (some ⟨w.heap.size, 0, none⟩) n n)) (w.alloc (.cells l.toArray t)) := by
  obtain ⟨W, hW⟩ : ∃ W, w.alloc (.cells l.toArray t) = W := ⟨_, rfl⟩
  have hal : W.heap[w.heap.size]? = some (.cells l.toArray t) := by
    rw [← hW]
    show (w.heap.push (.cells l.toArray t))[w.heap.size]? = _
    exact Array.getElem?_push_size
  have hsz : W.heap.size = w.heap.size + 1 := by rw [← hW]; simp
  have hold : ∀ k, k < w.heap.size → W.heap[k]? = w.heap[k]? := fun k hk => by rw [← hW]; exact Below.heap_alloc _ _ _ hk
  have ho : W.os = w.os ∧ W.tape = w.tape ∧ W.output = w.output := by rw [← hW]; exact ⟨rfl, rfl, rfl⟩
  rw [hW]
  obtain ⟨ν', hν⟩ : ∃ ν' : Nu, ν' = fun i => if i = 0 then some ⟨w.heap.size, 0, n⟩ else none := ⟨_, rfl⟩
  have h0 : ν' 0 = some ⟨w.heap.size, 0, n⟩ := by rw [hν]; rfl
  have h1 : ∀ i b, ν' i = some b → i = 0 ∧ b = ⟨w.heap.size, 0, n⟩ := fun i b hb => by
    rw [hν] at hb
    simp only at hb
    split at hb
    · rename_i e
      cases hb
      exact ⟨e, rfl⟩
    · cases hb
  refine ⟨_, .own 0 n, [.row true n 1 g t], ν', rfl, hQ, ?_, ⟨fun i => ?_, fun i j b b' hne _ _ hi hj => ?_, fun i b _ hb => ?_, fun i b hb => ?_, htab.block fun k hk _ => hold k hk⟩, ⟨ho.1, ho.2.1, ho.2.2, by omega, fun k hk _ => hold k hk⟩, fun i b hb => (by rw [hn0 i] at hb; cases hb), fun i b hb => ?_⟩
  · simp only [VR]
    exact ⟨_, h0, rfl⟩
  · cases i with
    | zero =>
      refine .inr ⟨⟨w.heap.size, 0, n⟩, l, t, (0, 0), h0, hal, fun _ => ⟨rfl, rfl, rfl, by simp [hl], hml⟩, Nat.le_refl _, fun j hj => ?_⟩
      obtain ⟨v, e1, e2, e3⟩ := hg j hj
      rw [e3]
      refine ⟨⟨rfl, fun x hx => ?_⟩, fun k hk => ?_⟩
      · simp only [List.mem_singleton] at hx
        subst hx
        exact e2
      · have : k = 0 := by omega
        subst this
        simpa using e1
    | succ i => trivial
  · have := (h1 i b hi).1
    have := (h1 j b' hj).1
    omega
  · rw [(h1 i b hb).2]
    exact hM _ (Nat.le_refl _)
  · rw [(h1 i b hb).2]
    simp only
    omega
  · rw [(h1 i b hb).1]
    exact Nat.zero_lt_one
theorem ok_splitF {F : List SA → Option FR} (hFF : ∀ sas fr, F sas = some fr → obls fr.obl = true → ∃ s p, sas = [.v (.string s), .v (.string p)] ∧ s.size < 4294967281 ∧ 1 ≤ p.size ∧ fr.val = .own 0 (spB s p).length ∧ fr.new = [.row true (spB s p).length 1 (tAt' (spB s p)) 9]) :
    SpecOk Tryz.prog 45 (specR [.val, .val] F) := by
  refine specR_calls enters Tryz.func45 rfl fun sas fr hF ho => ?_
  obtain ⟨s, p, rfl, hs, h1, hval, hnew⟩ := hFF sas fr hF ho
  refine ⟨_, Hsim.refl _, fun M vals w ν hM hv hH hdom => ?_⟩
  match vals, hv with
  | [x, y], hv =>
    simp only [avC, VRs, VR, and_true] at hv
    obtain ⟨rfl, rfl⟩ := hv
    obtain ⟨m, hm⟩ := tab_num hH.tab
    refine (Any.strings_Split { Tryz.laysSplit with } Tryz.laysSplit.i9 s p m w hs hm h1).mono ?_
    rintro e w' ⟨rfl, rfl⟩
    have hl := spB_length s p h1
    have hcl := Lib.countB_le p h1 s.size s (Nat.le_refl _)
    have hn0 : ∀ i, ν i = none := fun i => by
      cases e : ν i with
      | none => rfl
      | some b => exact absurd (hdom i b e) (by simp [abC])
    have hml : (spB s p).length ≤ maxLen := by unfold maxLen; omega
    have key := ret_row (Q := GivR (abP [Md.val, Md.val] [SA.v (.string s), SA.v (.string p)] fr.put) fr) hM hH.tab hn0 ((spB s p).map Value.string) 9 (spB s p).length (by simp) hml (tAt' (spB s p)) (fun j hj => ⟨.string ((spB s p)[j]), by simp [hj], rfl, by simp [tAt', hj]⟩) ⟨_, by rw [hval]; rfl, rfl, by rw [hnew]; exact Hsim.refl _⟩
    rw [hl] at key
    exact hl ▸ key
def spG (s p : ByteArray) (j : Nat) : ByteArray := (spB s p).getD j ⟨#[]⟩
def spLn (s p : ByteArray) : Nat := (spB s p).length
def FspY (k : Nat) (g : ByteArray → ByteArray → Nat → ByteArray) (n : ByteArray → ByteArray → Nat) : List SA → Option FR
  | [.v (.string s), .v (.string p)] => some { val := .own 0 k, new := [.row true k 1 (fun j => [.string (g s p j)]) 9], obl := [Nat.blt s.size 4294967281, Nat.ble 1 p.size, Nat.beq (n s p) k] }
  | _ => none
def FspN (g : ByteArray → ByteArray → Nat → ByteArray) (n : ByteArray → ByteArray → Nat) : List SA → Option FR
  | [.v (.string s), .v (.string p)] => some { val := .own 0 (n s p), new := [.row true (n s p) 1 (fun j => [.string (g s p j)]) 9], obl := [Nat.blt s.size 4294967281, Nat.ble 1 p.size] }
  | _ => none
theorem ok_splitY (k : Nat) : SpecOk Tryz.prog 45 (specR [.val, .val] (FspY k spG spLn)) := ok_splitF fun sas fr hF ho => by
  unfold FspY at hF
  split at hF
  · rename_i s p
    simp only [Option.some.injEq] at hF
    subst hF
    simp only [ob_cons, ob_nil, and_true, Nat.blt_eq, Nat.ble_eq, Nat.beq_eq] at ho
    have h : (spB s p).length = k := ho.2.2
    exact ⟨s, p, rfl, ho.1, ho.2.1, by simp only [h], by simp only [h]; rfl⟩
  · cases hF
theorem ok_splitN : SpecOk Tryz.prog 45 (specR [.val, .val] (FspN spG spLn)) := ok_splitF fun sas fr hF ho => by
  unfold FspN at hF
  split at hF
  · rename_i s p
    simp only [Option.some.injEq] at hF
    subst hF
    simp only [ob_cons, ob_nil, and_true, Nat.blt_eq, Nat.ble_eq] at ho
    exact ⟨s, p, rfl, ho.1, ho.2, rfl, rfl⟩
  · cases hF

def atE (s : ByteArray) : Bool := match Lib.atoiAll s.data.toList with | .ok _ => false | _ => true
def atV (s : ByteArray) : Int := match Lib.atoiAll s.data.toList with | .ok v => v | .range => Lib.atoiSat s.data.toList | _ => 0
def FaiO (v : ByteArray → Int) (e : ByteArray → Bool) : List SA → Option FR
  | [.v (.string s)] => some { val := .tup [.v (i64 (v s)), .err (e s)], obl := [Nat.ble s.size 281474976710656] }
  | _ => none
theorem ok_atoi : SpecOk Tryz.prog 122 (specR [.val] (FaiO atV atE)) := by
  refine specR_calls enters Tryz.func122 rfl fun sas fr hF ho => ?_
  unfold FaiO at hF
  split at hF
  · rename_i s
    simp only [Option.some.injEq] at hF
    subst hF
    simp only [ob_cons, ob_nil, and_true, Nat.ble_eq] at ho
    refine ⟨_, Hsim.refl _, fun M vals w ν hM hv hH hdom => ?_⟩
    match vals, hv with
    | [x], hv =>
      simp only [avC, VRs, VR, and_true] at hv
      subst hv
      obtain ⟨ev, he, hev⟩ := tab_syn hH.tab
      obtain ⟨er, hr, her⟩ := tab_ran hH.tab
      have fin : ∀ (v : Int) (q : Bool) (x : Value) (w' : World), atV s = v → atE s = q → cond q (∃ t y, x = .iface t y) (x = .nilIface) → Fr (fun _ => False) w w' →
          RetG (GivR (abP [Md.val] [SA.v (.string s)] []) { val := .tup [.v (i64 (atV s)), .err (atE s)], obl := [Nat.ble s.size 281474976710656] }) M ν w (.returned (.tuple #[.int .i64 v, x])) w' := fun v q x w' hv hq hx f => by
        refine ⟨_, .tup [.v (i64 v), .err q], [], ν, rfl, ⟨_, by rw [hv, hq]; rfl, rfl, Hsim.refl _⟩, ?_, hH.quiet f, f.mono fun _ _ h => h.elim, Le.refl _, hdom⟩
        simp only [VR]
        exact ⟨[.int .i64 v, x], rfl, by simp only [VRs, VR, and_true, true_and]; exact hx⟩
      cases ha : Lib.atoiAll s.data.toList with
      | ok v =>
        refine (Any.strconv_Atoi_ok Tryz.laysAtoi s (by omega) v ha w).mono ?_
        rintro e w' ⟨rfl, hw⟩
        refine fin v false .nilIface w' (by simp only [atV, ha]) (by simp only [atE, ha]) rfl ?_
        rcases hw with rfl | ⟨t, rfl⟩
        · exact Fr.refl _ _
        · exact Below.fr (Lib.bytesWorld_below w _ t)
      | range =>
        refine (Any.strconv_Atoi_range Tryz.laysAtoi s ho ha er w hr her).mono ?_
        rintro e w' ⟨N, rfl, _, _, hb⟩
        exact fin _ true _ w' (by simp only [atV, ha]) (by simp only [atE, ha]) ⟨_, _, rfl⟩ (Below.fr hb)
      | _ =>
        refine (Any.strconv_Atoi_syntax Tryz.laysAtoi s ho ha ev w he hev).mono ?_
        rintro e w' ⟨N, rfl, _, _, hb⟩
        exact fin 0 true _ w' (by simp only [atV, ha]) (by simp only [atE, ha]) ⟨_, _, rfl⟩ (Below.fr hb)
  · cases hF
def FaiF : List SA → Option FR
  | [.v (.string _)] => some { val := .tup [.v (i64 0), .err true], obl := [false] }
  | _ => none
theorem ok_atoiF : SpecOk Tryz.prog 122 (specR [.val] FaiF) := by
  refine specR_calls enters Tryz.func122 rfl fun sas fr hF ho => ?_
  unfold FaiF at hF
  split at hF
  · cases hF
    cases ho
  · cases hF

theorem splitB_size (sep : ByteArray) : ∀ (k : Nat) (s x : ByteArray), x ∈ Lib.splitB sep 0 k s → x.size ≤ s.size
  | 0, s, x, h => by
    simp only [Lib.splitB, List.mem_singleton] at h
    subst h
    exact Nat.le_refl _
  | k + 1, s, x, h => by
    unfold Lib.splitB at h
    split at h
    · simp only [List.mem_singleton] at h
      subst h
      exact Nat.le_refl _
    · rcases List.mem_cons.1 h with rfl | h
      · rw [ByteArray.size_extract]
        omega
      · have := splitB_size sep k _ x h
        rw [ByteArray.size_extract] at this
        omega
theorem spG_size (s p : ByteArray) (j : Nat) : (spG s p j).size ≤ s.size := by
  unfold spG
  by_cases h : j < (spB s p).length
  · rw [List.getD_eq_getElem?_getD, List.getElem?_eq_getElem h, Option.getD_some]
    exact splitB_size _ _ _ _ (List.getElem_mem h)
  · rw [List.getD_eq_getElem?_getD, List.getElem?_eq_none (by omega)]
    exact Nat.zero_le _
theorem cuA_size (s p : ByteArray) : (cuA s p).size ≤ s.size := by
  have e : s.size = s.data.toList.length := by rw [Array.length_toList]; rfl
  rw [cuA, mkS_size, e, Lib.cut]
  split
  · simp only [List.length_take]; omega
  · exact Nat.le_refl _
theorem cuB_size (s p : ByteArray) : (cuB s p).size ≤ s.size := by
  have e : s.size = s.data.toList.length := by rw [Array.length_toList]; rfl
  rw [cuB, mkS_size, e, Lib.cut]
  split
  · simp only [List.length_drop]; omega
  · exact Nat.zero_le _
end Go.Proofs.YtddhmidegldhdaaGreatDoor

/- strings.SplitSeq's iterator at a space: its pieces, what its code does between. Conditions: a text that is no giant. -/
namespace Go.Proofs.YtddhmidegldhdaaGreatDoor
open Go.RowKit Go.Shelf
set_option maxRecDepth 100000

def Tryz.laysIndex_ren : Go.Shelf.Ren := ⟨fun | 143 => 144 | 219 => 213 | 217 => 171 | 225 => 277 | 224 => 278 | 267 => 279 | 266 => 246 | 314 => 315 | n => n, fun | 9 => 9 | 3 => 3 | 4 => 4 | 5 => 5 | 46 => 175 | 146 => 307 | 51 => 203 | n => n, fun | 1 => 1 | n => n⟩
theorem Tryz.laysIndex : Go.Proofs.Lays.n143 Tryz.prog Tryz.laysIndex_ren := {
  mixed := by kernel_rfl
  f143 := Tryz.func144.trans (congrArg some (by kernel_rfl))
  f217 := Tryz.func171.trans (congrArg some (by kernel_rfl))
  f219 := Tryz.func213.trans (congrArg some (by kernel_rfl))
  f224 := Tryz.func278.trans (congrArg some (by kernel_rfl))
  f225 := Tryz.func277.trans (congrArg some (by kernel_rfl))
  f266 := Tryz.func246.trans (congrArg some (by kernel_rfl))
  f267 := Tryz.func279.trans (congrArg some (by kernel_rfl))
  f314 := Tryz.func315.trans (congrArg some (by kernel_rfl))
  t3 := Tryz.underlying3
  a3 := Tryz.isAgg3
  z3 := Tryz.sizeOf3
  v3 := Tryz.zeroValue3
  t4 := Tryz.underlying4
  a4 := Tryz.isAgg4
  z4 := Tryz.sizeOf4
  v4 := Tryz.zeroValue4
  t5 := Tryz.underlying5
  a5 := Tryz.isAgg5
  z5 := Tryz.sizeOf5
  v5 := Tryz.zeroValue5
  t9 := Tryz.underlying9
  a9 := Tryz.isAgg9
  z9 := Tryz.sizeOf9
  v9 := Tryz.zeroValue9
  t46 := Tryz.underlying175
  a46 := Tryz.isAgg175
  z46 := Tryz.sizeOf175
  v46 := Tryz.zeroValue175
  t51 := Tryz.underlying203
  a51 := Tryz.isAgg203
  z51 := Tryz.sizeOf203
  v51 := Tryz.zeroValue203
  t146 := Tryz.underlying307
  a146 := Tryz.isAgg307
  z146 := Tryz.sizeOf307
  v146 := Tryz.zeroValue307
  g1 := by kernel_rfl }

def ixB (s p : ByteArray) : Int := Lib.index s.data.toList p.data.toList
def fIxO (ix : ByteArray → ByteArray → Int) : List Value → Option (Value × List Bool)
  | [.string s, .string p] => some (i64 (ix s p), [Nat.blt s.size 4294967281])
  | _ => none
theorem ok_ix : SpecOk Tryz.prog 144 (specV (fIxO ixB)) := by
  refine specV_ok (fun args w => enters 144 Tryz.f144 Tryz.func144 rfl args w) fun vs x ob hF ho w ht => ?_
  unfold fIxO at hF
  split at hF
  · rename_i s p
    simp only [Option.some.injEq, Prod.mk.injEq] at hF
    obtain ⟨rfl, rfl⟩ := hF
    simp only [ob_cons, ob_nil, and_true, Nat.blt_eq] at ho
    obtain ⟨m, hm⟩ := tab_num ht
    refine (Any.strings_Index Tryz.laysIndex s p m w ho hm).mono ?_
    rintro e w' ⟨rfl, rfl⟩
    exact ⟨rfl, Fr.refl _ _⟩
  · cases hF
def gmIx (ix : ByteArray → ByteArray → Int) : Gam := ext g0 144 (specV (fIxO ix))

def spc : ByteArray := ByteArray.mk (Array.mk [32])
theorem spB_miss {r p : ByteArray} (h : ixB r p = -1) : spB r p = [r] := Lib.splitB_miss p 0 _ r h
theorem spB_hit {r p : ByteArray} {i : Nat} (h1 : 1 ≤ p.size) (h : ixB r p = i) : spB r p = r.extract 0 i :: spB (r.extract (i + p.size) r.size) p := by
  have e : Lib.countB r p = Lib.countB (r.extract (i + p.size) r.size) p + 1 := by rw [Lib.countB_hit r p i h1 h, Nat.add_comm]
  rw [spB, e, Lib.splitB_hit p 0 _ r i h, Nat.add_zero]
  rfl
theorem ixB_cases (r p : ByteArray) : ixB r p = -1 ∨ ∃ i : Nat, ixB r p = i ∧ i + p.size ≤ r.size := Lib.indexB_cases r p

noncomputable abbrev fSqi : Func := Tryz.f176
noncomputable def sB : Code := fSqi.body.getD .skip
noncomputable def sqP0 : Code := sqA sB
noncomputable def sL : Code := blB (loopAt 2 fSqi)
noncomputable def sR5 : Code := sqA sL
noncomputable def sR6 : Code := sqA (sqA (sqB sL))
noncomputable def sR7 : Code := sqA (sqB (sqB sL))
noncomputable def sR9 : Code := sqB (sqB (sqB (sqB sL)))
noncomputable def opsC : Code → Array Oper | .region _ o _ => o | _ => #[]
noncomputable def sO8 : Array Oper := opsC (sqA (sqA (sqB (sqB (sqB sL)))))
noncomputable def sO10 : Array Oper := opsC (sqB (sqB sB))
theorem bodySq : fSqi.body = some (.seq sqP0 (.seq (.block 2 (.loop (.block 3 sL))) (.region 10 sO10 false))) := by kernel_rfl
theorem loopSq : sL = .seq sR5 (.seq (.seq sR6 (.cond (.tmp 33) (.exit 2) .skip)) (.seq sR7 (.seq (.seq (.region 8 sO8 false) (.cond (.tmp 42) .ret .skip)) sR9))) := by kernel_rfl

abbrev pt0 (i : Nat) : AV := .ptr i 1 0 0
def hpS (r : ByteArray) : List AB := [.cells [.v (.string spc)] 9, .cells [.v (.string r)] 9, .cells [.v (i64 0)] 3]
def tS (l : Nat) : List AV := mkT 0 52 [(0, .v (yv l)), (1, pt0 0), (2, pt0 1), (3, pt0 2)]
def tS6 (l : Nat) (x : Int) (b : Bool) : List AV := mkT 0 52 [(0, .v (yv l)), (1, pt0 0), (2, pt0 1), (3, pt0 2), (7, .v (i64 x)), (33, .v (.bool b))]
def tS7 (l : Nat) (x : Int) (y : ByteArray) : List AV := mkT 0 52 [(0, .v (yv l)), (1, pt0 0), (2, pt0 1), (3, pt0 2), (7, .v (i64 x)), (8, .v (.string y))]
theorem runS0 (ix : ByteArray → ByteArray → Int) (l : Nat) (r : ByteArray) : execC Tryz.prog (gmIx ix) 100 noLam sqP0 ([.v (yv l), pt0 0, pt0 1, pt0 2] ++ List.replicate 48 (.v undef)) (hpS r) (leafK (lv3 [0, 1, 2, 3] [] []) 3) = .out .normal (tS l) (hpS r) := by kernel_rfl
def tS5 (l : Nat) (x : Int) : List AV := mkT 0 52 [(0, .v (yv l)), (1, pt0 0), (2, pt0 1), (3, pt0 2), (7, .v (i64 x))]
theorem runS5 (ix : ByteArray → ByteArray → Int) (l : Nat) (r : ByteArray) : execC Tryz.prog (gmIx ix) 100 noLam sR5 (tS l) (hpS r) (leafK (lv3 [0, 1, 2, 3, 7] [] []) 3) = needs [Nat.blt r.size 4294967281] (.out .normal (tS5 l (ix r spc)) (hpS r)) := by kernel_rfl
theorem runS6 (ix : ByteArray → ByteArray → Int) (l : Nat) (r : ByteArray) (x : Int) : execC Tryz.prog (gmIx ix) 100 noLam sR6 (tS5 l x) (hpS r) (leafK (lv3 [0, 1, 2, 3, 7, 33] [] []) 3) = .out .normal (tS6 l x (decide (x < 0))) (hpS r) := by kernel_rfl
theorem treeS7_h (ix : ByteArray → ByteArray → Int) (l : Nat) (r : ByteArray) (x : Int) (b : Bool) (u0 : _) (hu0 : AV.dead = u0) (u1 : _) (hu1 : (0 : Nat) = u1) : execC Tryz.prog (gmIx ix) 100 noLam sR7 (tS6 l x b) (hpS r) (leafK (lv3 [0, 1, 2, 3, 7, 8] [] []) 3)
    = needs [decide ((0 : Int) ≤ IntKind.wrap .i64 (x + (0 : Int))), decide (IntKind.wrap .i64 (x + (0 : Int)) ≤ (↑(ByteArray.size r) : Int))] (Res.out .normal [AV.v (yv l), AV.ptr u1 (1 : Nat) u1 u1, AV.ptr (1 : Nat) (1 : Nat) u1 u1, AV.ptr (2 : Nat) (1 : Nat) u1 u1, u0, u0, u0, AV.v (.int .i64 x), AV.v (.string (ByteArray.extract r u1 (Int.toNat (IntKind.wrap .i64 (x + (0 : Int)))))), u0, u0, u0, u0, u0, u0, u0, u0, u0, u0, u0, u0, u0, u0, u0, u0, u0, u0, u0, u0, u0, u0, u0, u0, u0, u0, u0, u0, u0, u0, u0, u0, u0, u0, u0, u0, u0, u0, u0, u0, u0, u0, u0] [AB.cells [AV.v (.string spc)] 9, AB.cells [AV.v (.string r)] 9, AB.cells [AV.v (.int .i64 0)] 3]) := by
  subst hu1 hu0
  kernel_rfl
theorem treeS7 (ix : ByteArray → ByteArray → Int) (l : Nat) (r : ByteArray) (x : Int) (b : Bool) : type_of% (treeS7_h ix l r x b _ rfl _ rfl) := treeS7_h ix l r x b _ rfl _ rfl

theorem treeS9_h (ix : ByteArray → ByteArray → Int) (l : Nat) (r y : ByteArray) (x : Int) (b c : Bool) (u0 : _) (hu0 : AV.dead = u0) (u1 : _) (hu1 : (↑(ByteArray.size r) : Int) = u1) : execC Tryz.prog (gmIx ix) 100 noLam sR9 (((((tS7 l x y).set 39 (.v (yv l))).set 40 (.v (.string y))).set 41 (.v (.bool b))).set 42 (.v (.bool c))) (hpS r) (leafK (lv3 [0, 1, 2, 3] [] []) 3)
    = needs [decide ((0 : Int) ≤ IntKind.wrap .i64 (x + (1 : Int))), decide (IntKind.wrap .i64 (x + (1 : Int)) ≤ u1), decide (u1 ≤ u1)] (Res.out .normal [AV.v (yv l), AV.ptr (0 : Nat) (1 : Nat) (0 : Nat) (0 : Nat), AV.ptr (1 : Nat) (1 : Nat) (0 : Nat) (0 : Nat), AV.ptr (2 : Nat) (1 : Nat) (0 : Nat) (0 : Nat), u0, u0, u0, u0, u0, u0, u0, u0, u0, u0, u0, u0, u0, u0, u0, u0, u0, u0, u0, u0, u0, u0, u0, u0, u0, u0, u0, u0, u0, u0, u0, u0, u0, u0, u0, u0, u0, u0, u0, u0, u0, u0, u0, u0, u0, u0, u0, u0] [AB.cells [AV.v (.string spc)] 9, AB.cells [AV.v (.string (ByteArray.extract r (Int.toNat (IntKind.wrap .i64 (x + (1 : Int)))) (Int.toNat u1)))] 9, AB.cells [AV.v (.int .i64 0)] 3]) := by
  subst hu1 hu0
  kernel_rfl
theorem treeS9 (ix : ByteArray → ByteArray → Int) (l : Nat) (r y : ByteArray) (x : Int) (b c : Bool) : type_of% (treeS9_h ix l r y x b c _ rfl _ rfl) := treeS9_h ix l r y x b c _ rfl _ rfl

end Go.Proofs.YtddhmidegldhdaaGreatDoor

/- strings.SplitSeq's iterator at a space: its word. Conditions: a text that is no giant. -/
namespace Go.Proofs.YtddhmidegldhdaaGreatDoor
open Go.RowKit Go.Shelf
set_option maxRecDepth 100000

structure StS (M B : Nat → Prop) (nu : Nu) (X : World) (T : List AV) (H : List AB) (A : Act) : Prop where
  sr : SR (fun k => X.heap.size ≤ k ∨ B k) X nu T H A X nu
  tab : TabOk M X
  dfs : A.defers = []
structure NuS (M B : Nat → Prop) (nu : Nu) (m : Nat) : Prop where
  own : ∀ k, B k → M k
  bB : ∀ i b, nu i = some b → B b.n
  has : ∀ i, i < m → ∃ b, nu i = some b
  all : ∀ k, B k → ∃ i b, i < m ∧ nu i = some b ∧ b.n = k
def celH (H : List AB) : Bool := H.all isCellsB

theorem StS.next {M B : Nat → Prop} {nu : Nu} {m : Nat} (hN : NuS M B nu m) {X : World} {T : List AV} {H : List AB} {A : Act} (h : StS M B nu X T H A) {T' : List AV} {H' : List AB} {A' : Act} {X' : World} {ν' : Nu} (hm : H'.length = m) (hc : celH H' = true)
    (hS : SR (fun k => X.heap.size ≤ k ∨ B k) X nu T' H' A' X' ν') (hd : A'.defers = []) : StS M B nu X' T' H' A' ∧ Chg B X X' := by
  have hn : ν' = nu := funext fun i => by
    cases e : ν' i with
    | none =>
      cases e2 : nu i with
      | none => rfl
      | some b => rw [hS.le _ _ e2] at e; cases e
    | some b =>
      have := hS.dom i b e
      obtain ⟨b', hb'⟩ := hN.has i (by omega)
      rw [hS.le _ _ hb'] at e
      cases e
      exact hb'.symm
  subst hn
  have hfr : Fr B X X' := hS.fr.mono fun k hk hk' => by
    rcases hk' with h' | h'
    · omega
    · exact h'
  have htab : TabOk M X' := h.tab.block fun k hk hnM => hfr.block k hk fun hb => hnM (hN.own k hb)
  refine ⟨⟨⟨hS.tmps, ⟨hS.heap.br, hS.heap.sep, fun i b _ hb => .inr (hN.bB i b hb), hS.heap.lt, htab.mono fun k hk hk' => ?_⟩, Fr.refl _ _, hS.dom, hS.len, Le.refl _⟩, htab, hd⟩, hfr, fun k hk _ => ?_⟩
  · rcases hk' with h' | h'
    · omega
    · exact hN.own k h'
  · obtain ⟨i, b, hi, hb, rfl⟩ := hN.all k hk
    have hbr : BR ν' i (H'.getD i .gone) X' := hS.heap.br i
    have hlt : i < H'.length := by omega
    have hcl : isCellsB (H'.getD i .gone) = true := by
      rw [List.getD_eq_getElem?_getD, List.getElem?_eq_getElem hlt]
      exact List.all_eq_true.1 hc _ (List.getElem_mem hlt)
    generalize H'.getD i .gone = y at hbr hcl
    cases y with
    | cells cs t =>
      obtain ⟨b', l, e1, _, e3, _⟩ := hbr
      rw [hb] at e1
      cases e1
      exact ⟨l, t, (0, 0), e3⟩
    | row => cases hcl
    | gone => cases hcl

theorem pieceS {nn : Nat} {Γ : Gam} (hΓ : GamOk Tryz.prog Γ) {M B : Nat → Prop} {nu : Nu} {m : Nat} (hN : NuS M B nu m) {c : Code} {T T' : List AV} {H H' : List AB} {lv : Ex → List Nat} {X : World} {A : Act} (hc : codeDef c = true) (hr : (execC Tryz.prog Γ 100 noLam c T H (leafK lv m)).ok fun e T2 H2 => e = .normal ∧ T2 = T' ∧ H2 = H')
    (hm : H.length = m) (hm' : H'.length = m) (hcl : celH H' = true) (hS : StS M B nu X T H A) {Q : Exit → Act → World → Prop} (hQ : ∀ A' X', StS M B nu X' T' H' A' → Chg B X X' → Q .normal A' X') : c.wpIn (wideR none) nn Tryz.prog Q A X := by
  refine wpIn_mono (execC_in (nn := nn) hΓ mixed enters none [] 100 c hc (fun k => X.heap.size ≤ k ∨ B k) X nu (fun k hk => .inl hk) _ _ _ _ _ X nu hr hS.sr hS.dfs) ?_
  intro e A' X' hp
  obtain ⟨e', T2, H2, ν', rfl, ⟨rfl, rfl, rfl⟩, hS', hd'⟩ := leaf_post hp fun i b hb => hm ▸ hS.sr.dom i b hb
  obtain ⟨h1, h2⟩ := hS.next hN hm' hcl hS' hd'
  exact hQ A' X' h1 h2
theorem opS {nn : Nat} {Γ : Gam} (hΓ : GamOk Tryz.prog Γ) {M B : Nat → Prop} {nu : Nu} {m : Nat} (hN : NuS M B nu m) {all : Array Oper} {Q : Exit → Act → World → Prop} {k : Nat} {o : Oper} (hk : all[k]? = some o) (hg : o.guard = none) (hd : ∀ c, o.op ≠ .defer c) {T T' : List AV} {H : List AB} {X : World} {A : Act} {v : AV} {ob : List Bool}
    (hδ : opA Tryz.prog Γ o T H H.length = some { val := v, obl := ob, rd := (opA Tryz.prog Γ o T H H.length).elim [] Delta.rd }) (ho : obls ob = true) (h1 : dstOk T o.dst = true) (hT : setT T o.dst v = T') (hm : H.length = m) (hcl : celH H = true) (hS : StS M B nu X T H A) {K : Act → World → Prop} (hK : ∀ A' X', StS M B nu X' T' H A' → Chg B X X' → K A' X') : wpOpIn (wideR none) nn Tryz.prog all Q k K A X := by
  refine mach1 hΓ hk hg hd (fun k hk => .inl hk) hδ ho (by rw [h1]; rfl) hS.sr fun a' w' ν' hS' hdf => ?_
  have e : appH H { val := v, obl := ob, rd := (opA Tryz.prog Γ o T H H.length).elim [] Delta.rd } = H := by simp [appH, putA]
  rw [e] at hS'
  obtain ⟨g1, g2⟩ := hS.next hN hm hcl hS' (hdf.trans hS.dfs)
  subst hT
  exact hK a' w' g1 g2
theorem StS.back {M B : Nat → Prop} {nu : Nu} {m : Nat} (hN : NuS M B nu m) {X X' : World} {T : List AV} {H : List AB} {A : Act} (h : StS M B nu X T H A) (hsz : X.heap.size ≤ X'.heap.size) (hb : ∀ k, B k → X'.heap[k]? = X.heap[k]?) (ht : TabOk M X') {dst : Option Tmp} {x : Value} (hd : dstOk T dst = true) :
    StS M B nu X' (setT T dst (.v x)) H (A.put dst x) := by
  have hRH : RH (fun k => X'.heap.size ≤ k ∨ B k) nu (fun b => H.getD b .gone) X' := ⟨fun i => (h.sr.heap.br i).of_block fun k hk _ => hb k.n (hN.bB i k hk), h.sr.heap.sep, fun i b _ hb' => .inr (hN.bB i b hb'), fun i b hb' => Nat.lt_of_lt_of_le (h.sr.heap.lt i b hb') hsz, ht.mono fun k hk hk' => by
    rcases hk' with h' | h'
    · omega
    · exact hN.own k h'⟩
  have h0 : SR (fun k => X'.heap.size ≤ k ∨ B k) X' nu T H A X' nu := ⟨h.sr.tmps, hRH, Fr.refl _ _, h.sr.dom, h.sr.len, Le.refl _⟩
  exact ⟨SR.put h0 hd (Le.refl _) (by simp only [VR]) hRH (Fr.refl _ _) h.sr.dom, ht, (put_defers' ..).trans h.dfs⟩
theorem StS.at {M B : Nat → Prop} {nu : Nu} {X : World} {T : List AV} {H : List AB} {A : Act} (h : StS M B nu X T H A) {z : Operand} {x : Value} (hz : evA T z = .v x) : A.eval z = x := by
  have := evA_sound (T := T) (a := A) (ν := nu) (z := z) fun t _ => h.sr.tmps t
  rw [hz] at this
  simpa only [VR] using this

noncomputable def sOp8 (k : Nat) : Oper := sO8.toList.getD k default
noncomputable def sOp10 (k : Nat) : Oper := sO10.toList.getD k default
theorem sOp8_0 : sO8[0]? = some (sOp8 0) := by kernel_rfl
theorem sOp8_1 : sO8[1]? = some (sOp8 1) := by kernel_rfl
theorem sOp8_2 : sO8[2]? = some (sOp8 2) := by kernel_rfl
theorem sOp8_3 : sO8[3]? = some (sOp8 3) := by kernel_rfl
theorem sOp10_0 : sO10[0]? = some (sOp10 0) := by kernel_rfl
theorem sOp10_1 : sO10[1]? = some (sOp10 1) := by kernel_rfl
theorem sOp10_2 : sO10[2]? = some (sOp10 2) := by kernel_rfl
theorem is8_0 : (sOp8 0).op = .move (.tmp 0) ∧ (sOp8 0).guard = none := ⟨by kernel_rfl, by kernel_rfl⟩
theorem is8_1 : (sOp8 1).op = .move (.tmp 8) ∧ (sOp8 1).guard = none := ⟨by kernel_rfl, by kernel_rfl⟩
theorem is8_2 : (sOp8 2).op = .call ⟨.value (.tmp 39), #[.tmp 40], #[9]⟩ ∧ (sOp8 2).guard = none ∧ (sOp8 2).dst = some 41 := ⟨by kernel_rfl, by kernel_rfl, by kernel_rfl⟩
theorem is8_3 : (sOp8 3).op = .unOp .not 4 (.tmp 41) ∧ (sOp8 3).guard = none := ⟨by kernel_rfl, by kernel_rfl⟩
theorem is10_0 : (sOp10 0).op = .move (.tmp 0) ∧ (sOp10 0).guard = none := ⟨by kernel_rfl, by kernel_rfl⟩
theorem is10_1 : (sOp10 1).op = .load 9 (.tmp 2) ∧ (sOp10 1).guard = none := ⟨by kernel_rfl, by kernel_rfl⟩
theorem is10_2 : (sOp10 2).op = .call ⟨.value (.tmp 49), #[.tmp 50], #[9]⟩ ∧ (sOp10 2).guard = none ∧ (sOp10 2).dst = some 51 := ⟨by kernel_rfl, by kernel_rfl, by kernel_rfl⟩
theorem size8 : List.range sO8.size = [0, 1, 2, 3] := by kernel_rfl
theorem size10 : List.range sO10.size = [0, 1, 2] := by kernel_rfl
def muS (b : Nat) (X : World) : Nat := match (X.heap[b]? : Option Obj) with
  | some (Obj.cells a _ _) => (match (a[0]? : Option Value) with
    | some (Value.string r) => r.size
    | _ => 0)
  | _ => 0
theorem needs_mk {Q : Ex → List AV → List AB → Prop} {bs : List Bool} {r : Res} (h : obls bs = true) (k : r.ok Q) : (needs bs r).ok Q := (good_needs h ⟨k⟩).out
def nuC (b1 b2 b3 : Nat) : Nu := fun i => match i with
  | 0 => some ⟨b1, 0, 1⟩
  | 1 => some ⟨b2, 0, 1⟩
  | 2 => some ⟨b3, 0, 1⟩
  | _ => none
theorem gmIx_ok : GamOk Tryz.prog (gmIx ixB) := ext_ok g0_ok ok_ix

abbrev Pc (n : Nat) := { x : ByteArray // x.size ≤ n }
theorem split_stops {nn : Nat} {w : World} {M B : Nat → Prop} (htab : TabOk M w) (_ : ∀ k, w.heap.size ≤ k → M k) {b1 b2 b3 : Nat} (s : ByteArray) (hs : s.size < 4294967281) (h1 : w.heap[b1]? = some (.cells #[.string spc] 9 (0, 0))) (h2 : w.heap[b2]? = some (.cells #[.string s] 9 (0, 0))) (h3 : w.heap[b3]? = some (.cells #[i64 0] 3 (0, 0)))
    (n12 : b1 ≠ b2) (n13 : b1 ≠ b3) (n23 : b2 ≠ b3) (hB : ∀ k, B k ↔ k = b1 ∨ k = b2 ∨ k = b3) (hBM : ∀ k, B k → M k) :
    SeqStopsW (wideR none) nn Tryz.prog 176 #[.pointer (some ⟨b1, 0, none⟩), .pointer (some ⟨b2, 0, none⟩), .pointer (some ⟨b3, 0, none⟩)] (fun x : Pc s.size => #[.string x.1]) B M (fun xs => xs.map (·.1) = spB s spc) (fun pre => ∃ suf, spB s spc = pre.map (·.1) ++ suf) (spB s spc).length w := by
  intro l J Jx W hW hJ _ hY hJ0
  have hN : NuS M B (nuC b1 b2 b3) 3 := by
    refine ⟨hBM, fun i b hb => ?_, fun i hi => ?_, fun k hk => ?_⟩
    · match i, hb with
      | 0, hb => cases hb; exact (hB _).2 (.inl rfl)
      | 1, hb => cases hb; exact (hB _).2 (.inr (.inl rfl))
      | 2, hb => cases hb; exact (hB _).2 (.inr (.inr rfl))
    · match i, hi with
      | 0, _ => exact ⟨_, rfl⟩
      | 1, _ => exact ⟨_, rfl⟩
      | 2, _ => exact ⟨_, rfl⟩
    · rcases (hB k).1 hk with rfl | rfl | rfl
      · exact ⟨0, _, by omega, rfl, rfl⟩
      · exact ⟨1, _, by omega, rfl, rfl⟩
      · exact ⟨2, _, by omega, rfl, rfl⟩
  have hlt : ∀ {b : Nat} {o : Obj}, w.heap[b]? = some o → b < w.heap.size := fun h => (Array.getElem?_eq_some_iff.1 h).1
  have g1 := (hW.block b1 (hlt h1)).trans h1
  have g2 := (hW.block b2 (hlt h2)).trans h2
  have g3 := (hW.block b3 (hlt h3)).trans h3
  have hlW : ∀ {b : Nat} {o : Obj}, W.heap[b]? = some o → b < W.heap.size := fun h => (Array.getElem?_eq_some_iff.1 h).1
  have htW : TabOk M W := htab.block fun k hk _ => hW.block k hk
  have hRH : RH (fun k => W.heap.size ≤ k ∨ B k) (nuC b1 b2 b3) (fun b => (hpS s).getD b .gone) W := by
    refine ⟨fun i => ?_, fun i j b b' hne _ _ hi hj => ?_, fun i b _ hb => .inr (hN.bB i b hb), fun i b hb => ?_, htW.mono fun k hk hk' => ?_⟩
    · match i with
      | 0 => exact ⟨_, [.string spc], rfl, rfl, g1, by simp only [VRs, VR, and_true]⟩
      | 1 => exact ⟨_, [.string s], rfl, rfl, g2, by simp only [VRs, VR, and_true]⟩
      | 2 => exact ⟨_, [i64 0], rfl, rfl, g3, by simp only [VRs, VR, and_true]⟩
      | i + 3 => trivial
    · match i, j, hi, hj with
      | 0, 0, _, _ => exact absurd rfl hne
      | 1, 1, _, _ => exact absurd rfl hne
      | 2, 2, _, _ => exact absurd rfl hne
      | 0, 1, hi, hj => cases hi; cases hj; exact n12
      | 0, 2, hi, hj => cases hi; cases hj; exact n13
      | 1, 0, hi, hj => cases hi; cases hj; exact n12.symm
      | 1, 2, hi, hj => cases hi; cases hj; exact n23
      | 2, 0, hi, hj => cases hi; cases hj; exact n13.symm
      | 2, 1, hi, hj => cases hi; cases hj; exact n23.symm
    · match i, hb with
      | 0, hb => cases hb; exact hlW g1
      | 1, hb => cases hb; exact hlW g2
      | 2, hb => cases hb; exact hlW g3
    · rcases hk' with h' | h'
      · omega
      · exact hBM k h'
  refine callsIn_of_wp Tryz.func176 bodySq trivial ?_
  have hvr : VRs (nuC b1 b2 b3) [.v (yv l), pt0 0, pt0 1, pt0 2] [yv l, .pointer (some ⟨b1, 0, none⟩), .pointer (some ⟨b2, 0, none⟩), .pointer (some ⟨b3, 0, none⟩)] := by
    simp only [VRs, VR, and_true, true_and]
    exact ⟨⟨_, rfl, rfl⟩, ⟨_, rfl, rfl⟩, ⟨_, rfl, rfl⟩⟩
  have hdom : ∀ i b, nuC b1 b2 b3 i = some b → i < (hpS s).length := fun i b hb => by
    match i, hb with
    | 0, _ => exact Nat.zero_lt_succ _
    | 1, _ => exact (by decide : 1 < 3)
    | 2, _ => exact (by decide : 2 < 3)
  have hst := start_sr (M := fun k => W.heap.size ≤ k ∨ B k) (w := W) (H := hpS s) (fn := fSqi) hvr hRH hdom
  rw [show fSqi.ntmps - [AV.v (yv l), pt0 0, pt0 1, pt0 2].length = 48 from by kernel_rfl] at hst
  have hSt : StS M B (nuC b1 b2 b3) W ([AV.v (yv l), pt0 0, pt0 1, pt0 2] ++ List.replicate 48 (.v undef)) (hpS s) _ := ⟨hst, htW, rfl⟩
  have fin : ∀ (e : Exit) (A : Act) (X : World), (e = .normal ∨ e = .ret) → A.defers = [] → ((∃ xs, xs.map (·.1) = spB s spc ∧ J xs X) ∨ ∃ pre, (∃ suf, spB s spc = pre.map (·.1) ++ suf) ∧ Jx pre X) → bodyPost Tryz.prog fSqi (fun e W' => (∃ v, e = .returned v) ∧ ((∃ xs : List (Pc s.size), xs.map (·.1) = spB s spc ∧ J xs W') ∨ (∃ pre : List (Pc s.size), (∃ suf, spB s spc = pre.map (·.1) ++ suf) ∧ Jx pre W'))) e A X := by
    intro e A X he hd hx
    have : (∃ v, Ending.returned (.tuple #[]) = .returned v) ∧ ((∃ xs : List (Pc s.size), xs.map (·.1) = spB s spc ∧ J xs X) ∨ (∃ pre : List (Pc s.size), (∃ suf, spB s spc = pre.map (·.1) ++ suf) ∧ Jx pre X)) := ⟨⟨_, rfl⟩, hx⟩
    rcases he with rfl | rfl
    · exact ⟨hd, _, results_none rfl _ _ _, this⟩
    · exact ⟨hd, _, results_none rfl _ _ _, this⟩
  have hmu : ∀ {X : World} {T : List AV} {r : ByteArray} {A : Act}, StS M B (nuC b1 b2 b3) X T (hpS r) A → muS b2 X = r.size := fun {X T r A} h => by
    obtain ⟨b, l', e1, _, e3, e4⟩ := h.sr.heap.br 1
    cases e1
    match l', e4 with
    | [y], e4 =>
      simp only [VRs, VR, and_true] at e4
      subst e4
      simp [muS, e3]
  refine wpIn_seq (pieceS gmIx_ok hN (lv := lv3 [0, 1, 2, 3] [] []) (T' := tS l) (H' := hpS s) (by kernel_rfl) (by rw [runS0]; exact ⟨rfl, rfl, rfl⟩) rfl rfl rfl hSt fun A X hS hg => ?_)
  show (Code.seq _ _).wpIn (wideR none) nn Tryz.prog _ A X
  refine wpIn_seq (wpIn_block (wpIn_loop (fun A X => ∃ (pre : List (Pc s.size)) (r : ByteArray), StS M B (nuC b1 b2 b3) X (tS l) (hpS r) A ∧ J pre X ∧ spB s spc = pre.map (·.1) ++ spB r spc ∧ r.size ≤ s.size) (fun _ X => muS b2 X) ⟨[], s, hS, hJ _ _ _ hJ0 hg, rfl, Nat.le_refl _⟩ ?_))
  clear hS hg hSt hst hvr
  rintro A X ⟨pre, r, hS, hj, hsp, hrs⟩
  have hmu0 := hmu hS
  have hne : (spB r spc).length ≠ 0 := by rw [spB_length r spc (by decide)]; omega
  have hlen : pre.length < (spB s spc).length := by
    rw [hsp, List.length_append, List.length_map]
    omega
  refine wpIn_block ?_
  rw [loopSq]
  refine wpIn_seq (pieceS gmIx_ok hN (lv := lv3 [0, 1, 2, 3, 7] [] []) (T' := tS5 l (ixB r spc)) (H' := hpS r) (by kernel_rfl) (by rw [runS5]; exact needs_mk (by simp only [ob_cons, ob_nil, and_true, Nat.blt_eq]; omega) ⟨rfl, rfl, rfl⟩) rfl rfl rfl hS fun A1 X1 hS1 hg1 => ?_)
  have hj1 := hJ _ _ _ hj hg1
  show (Code.seq (.seq sR6 _) _).wpIn (wideR none) nn Tryz.prog _ A1 X1
  refine wpIn_seq (wpIn_seq (pieceS gmIx_ok hN (lv := lv3 [0, 1, 2, 3, 7, 33] [] []) (T' := tS6 l (ixB r spc) (decide (ixB r spc < 0))) (H' := hpS r) (by kernel_rfl) (by rw [runS6]; exact ⟨rfl, rfl, rfl⟩) rfl rfl rfl hS1 fun A2 X2 hS2 hg2 => ?_))
  have hj2 := hJ _ _ _ hj1 hg2
  show (Code.cond (.tmp 33) (.exit 2) .skip).wpIn (wideR none) nn Tryz.prog _ A2 X2
  have hc := hS2.at (z := .tmp 33) (x := .bool (decide (ixB r spc < 0))) rfl
  refine wpIn_cond hc ?_
  rcases ixB_cases r spc with hm | ⟨i, hi, hroom⟩
  · rw [if_pos (by rw [hm]; decide)]
    refine wpIn_exit ?_
    have hall : spB s spc = (pre ++ [(⟨r, hrs⟩ : Pc s.size)]).map (·.1) := by rw [hsp, spB_miss hm, List.map_append]; rfl
    show Code.wpIn (wideR none) nn Tryz.prog (.region 10 sO10 false) _ A2 X2
    refine wpIn_region ?_
    rw [size10, wpOpsIn_cons]
    refine opS gmIx_ok hN (v := .v (yv l)) (ob := []) (T' := (tS6 l (ixB r spc) (decide (ixB r spc < 0))).set 49 (.v (yv l))) sOp10_0 is10_0.2 (by rw [is10_0.1]; simp) (by kernel_rfl) rfl (by kernel_rfl) (by kernel_rfl) rfl rfl hS2 fun A3 X3 hS3 hg3 => ?_
    have hj3 := hJ _ _ _ hj2 hg3
    rw [wpOpsIn_cons]
    refine opS gmIx_ok hN (v := .v (.string r)) (ob := []) (T' := ((tS6 l (ixB r spc) (decide (ixB r spc < 0))).set 49 (.v (yv l))).set 50 (.v (.string r))) sOp10_1 is10_1.2 (by rw [is10_1.1]; simp) (by kernel_rfl) rfl (by kernel_rfl) (by kernel_rfl) rfl rfl hS3 fun A4 X4 hS4 hg4 => ?_
    have hj4 := hJ _ _ _ hj3 hg4
    rw [wpOpsIn_cons]
    refine yield_op sOp10_2 is10_2.1 is10_2.2.1 (l := l) (v := .string r) (hS4.at (z := .tmp 49) rfl) (hS4.at (z := .tmp 50) rfl) (hY pre ⟨r, hrs⟩ X4 hj4 hlen) ?_
    rintro e X5 (⟨rfl, hj5, _⟩ | ⟨rfl, hjx⟩)
    · exact ⟨_, rfl, fin .normal _ _ (.inl rfl) ((put_defers' ..).trans hS4.dfs) (.inl ⟨_, hall.symm, hj5⟩)⟩
    · exact ⟨_, rfl, fin .normal _ _ (.inl rfl) ((put_defers' ..).trans hS4.dfs) (.inr ⟨_, ⟨[], by rw [List.append_nil]; exact hall⟩, hjx⟩)⟩
  · have hsz1 : spc.size = 1 := rfl
    have hx : (r.extract 0 i).size ≤ s.size := by rw [ByteArray.size_extract]; omega
    have hall : spB s spc = (pre ++ [(⟨r.extract 0 i, hx⟩ : Pc s.size)]).map (·.1) ++ spB (r.extract (i + 1) r.size) spc := by rw [hsp, spB_hit (by decide) hi, List.map_append, List.append_assoc]; rfl
    rw [if_neg (by rw [hi]; simp)]
    refine wpIn_skip ?_
    show (Code.seq sR7 _).wpIn (wideR none) nn Tryz.prog _ A2 X2
    rw [hi] at hS2
    have ei : IntKind.wrap IntKind.i64 ((i : Int) + 0) = i := by rw [Int.add_zero]; exact wr_in (by omega)
    have ei1 : IntKind.wrap IntKind.i64 ((i : Int) + 1) = ((i + 1 : Nat) : Int) := by rw [wr_in (by omega)]; omega
    refine wpIn_seq (pieceS gmIx_ok hN (lv := lv3 [0, 1, 2, 3, 7, 8] [] []) (T' := tS7 l i (r.extract 0 i)) (H' := hpS r) (by kernel_rfl) ?_ rfl rfl rfl hS2 fun A3 X3 hS3 hg3 => ?_)
    · rw [treeS7, ei]
      exact needs_mk (by simp only [ob_cons, ob_nil, and_true, decide_eq_true_eq]; omega) ⟨rfl, rfl, rfl⟩
    have hj3 := hJ _ _ _ hj2 hg3
    show (Code.seq (.seq (.region 8 sO8 false) _) _).wpIn (wideR none) nn Tryz.prog _ A3 X3
    refine wpIn_seq (wpIn_seq (wpIn_region ?_))
    rw [size8, wpOpsIn_cons]
    refine opS gmIx_ok hN (v := .v (yv l)) (ob := []) (T' := (tS7 l i (r.extract 0 i)).set 39 (.v (yv l))) sOp8_0 is8_0.2 (by rw [is8_0.1]; simp) (by kernel_rfl) rfl (by kernel_rfl) (by kernel_rfl) rfl rfl hS3 fun A4 X4 hS4 hg4 => ?_
    have hj4 := hJ _ _ _ hj3 hg4
    rw [wpOpsIn_cons]
    refine opS gmIx_ok hN (v := .v (.string (r.extract 0 i))) (ob := []) (T' := ((tS7 l i (r.extract 0 i)).set 39 (.v (yv l))).set 40 (.v (.string (r.extract 0 i)))) sOp8_1 is8_1.2 (by rw [is8_1.1]; simp) (by kernel_rfl) rfl (by kernel_rfl) (by kernel_rfl) rfl rfl hS4 fun A5 X5 hS5 hg5 => ?_
    have hj5 := hJ _ _ _ hj4 hg5
    rw [wpOpsIn_cons]
    refine yield_op sOp8_2 is8_2.1 is8_2.2.1 (l := l) (v := .string (r.extract 0 i)) (hS5.at (z := .tmp 39) rfl) (hS5.at (z := .tmp 40) rfl) (hY pre ⟨r.extract 0 i, hx⟩ X5 hj5 hlen) ?_
    rintro e X6 (⟨rfl, hj6, hsz6, hb6, ht6⟩ | ⟨rfl, hjx⟩)
    · refine ⟨_, rfl, ?_⟩
      have hS6 := hS5.back hN hsz6 hb6 ht6 (dst := some 41) (x := .bool true) rfl
      rw [is8_2.2.2, wpOpsIn_cons]
      refine opS gmIx_ok hN (v := .v (.bool false)) (ob := []) (T' := ((((tS7 l i (r.extract 0 i)).set 39 (.v (yv l))).set 40 (.v (.string (r.extract 0 i)))).set 41 (.v (.bool true))).set 42 (.v (.bool false))) sOp8_3 is8_3.2 (by rw [is8_3.1]; simp) (by kernel_rfl) rfl (by kernel_rfl) (by kernel_rfl) rfl rfl hS6 fun A7 X7 hS7 hg7 => ?_
      have hj7 := hJ _ _ _ hj6 hg7
      show (Code.cond (.tmp 42) .ret .skip).wpIn (wideR none) nn Tryz.prog _ A7 X7
      refine wpIn_cond_false (hS7.at (z := .tmp 42) rfl) (wpIn_skip ?_)
      show sR9.wpIn (wideR none) nn Tryz.prog _ A7 X7
      refine pieceS gmIx_ok hN (lv := lv3 [0, 1, 2, 3] [] []) (T' := tS l) (H' := hpS (r.extract (i + 1) r.size)) (by kernel_rfl) ?_ rfl rfl rfl hS7 fun A8 X8 hS8 hg8 => ?_
      · rw [treeS9, ei1]
        exact needs_mk (by simp only [ob_cons, ob_nil, and_true, decide_eq_true_eq]; omega) ⟨rfl, rfl, rfl⟩
      · have hsz : (r.extract (i + 1) r.size).size = r.size - (i + 1) := by rw [ByteArray.size_extract]; omega
        refine ⟨⟨_, _, hS8, hJ _ _ _ hj7 hg8, hall, by omega⟩, ?_⟩
        rw [hmu hS8, hmu0, hsz]
        omega
    · refine ⟨_, rfl, ?_⟩
      rw [is8_2.2.2, wpOpsIn_cons]
      have hlen5 : 52 ≤ A5.tmps.size := hS5.sr.len
      have es : (A5.put (some 41) (.bool false)).eval (.tmp 41) = .bool false := by
        show (A5.put (some 41) (.bool false)).tmps.getD 41 undef = .bool false
        simp [Act.put, Array.getD_eq_getD_getElem?, show 41 < A5.tmps.size from by omega]
      refine not_op sOp8_3 is8_3.1 is8_3.2 es ?_
      show (Code.cond (.tmp 42) .ret .skip).wpIn (wideR none) nn Tryz.prog _ _ X6
      have es2 : ((A5.put (some 41) (.bool false)).put (sOp8 3).dst (.bool true)).eval (.tmp 42) = .bool true := by
        rw [show (sOp8 3).dst = some 42 from by kernel_rfl]
        show ((A5.put (some 41) (.bool false)).put (some 42) (.bool true)).tmps.getD 42 undef = .bool true
        simp [Act.put, Array.getD_eq_getD_getElem?, show 42 < A5.tmps.size from by omega]
      refine wpIn_cond_true es2 (wpIn_ret (fin .ret _ X6 (.inr rfl) ((put_defers' ..).trans ((put_defers' ..).trans hS5.dfs)) (.inr ⟨_, ⟨_, hall⟩, hjx⟩)))
end Go.Proofs.YtddhmidegldhdaaGreatDoor

/- A wheel read from a word, the program's side: trees. Conditions: a text. -/
namespace Go.Proofs.YtddhmidegldhdaaGreatDoor
open Go.RowKit
set_option maxRecDepth 100000

def gmWoY (a b : ByteArray → ByteArray → ByteArray) (q : ByteArray → ByteArray → Bool) (g : ByteArray → ByteArray → Nat → ByteArray) (n : ByteArray → ByteArray → Nat) (v : ByteArray → Int) (e : ByteArray → Bool) : Gam := ext (ext (ext g0 108 (specV (fCutO a b q))) 45 (specR [.val, .val] (FspY 8 g n))) 122 (specR [.val] (FaiO v e))
def gmWoN (a b : ByteArray → ByteArray → ByteArray) (q : ByteArray → ByteArray → Bool) (g : ByteArray → ByteArray → Nat → ByteArray) (n : ByteArray → ByteArray → Nat) : Gam := ext (ext (ext g0 108 (specV (fCutO a b q))) 45 (specR [.val, .val] (FspN g n))) 122 (specR [.val] FaiF)
theorem treeWoY_h (a b : ByteArray → ByteArray → ByteArray) (q : ByteArray → ByteArray → Bool) (g : ByteArray → ByteArray → Nat → ByteArray) (n : ByteArray → ByteArray → Nat) (v : ByteArray → Int) (e : ByteArray → Bool) (s : ByteArray) (u0 : _) (hu0 : (ByteArray.mk (Array.mk [(58 : UInt8)])) = u0) (u1 : _) (hu1 : (ByteArray.mk (Array.mk [(44 : UInt8)])) = u1) (u2 : _) (hu2 : (AV.v (.int .i64 0)) = u2) (u5 : _) (hu5 : (AV.v (.int .i64 (v (a s u0)))) = u5) (u9 : _) (hu9 : (281474976710656 : Nat) = u9) (u10 : _) (hu10 : (AV.v (.bool false)) = u10) (u11 : _) (hu11 : (b s u0) = u11) (u12 : _) (hu12 : (AV.v (.int .i64 (v (g u11 u1 (5 : Nat))))) = u12) (u13 : _) (hu13 : (g u11 u1 (6 : Nat)) = u13) (u3 : _) (hu3 : (AV.v (.int .i64 (v (g u11 u1 (0 : Nat))))) = u3) (u4 : _) (hu4 : (AV.v (.int .i64 (v (g u11 u1 (1 : Nat))))) = u4) (u6 : _) (hu6 : (AV.v (.int .i64 (v (g u11 u1 (2 : Nat))))) = u6) (u7 : _) (hu7 : (AV.v (.int .i64 (v (g u11 u1 (3 : Nat))))) = u7) (u8 : _) (hu8 : (AV.v (.int .i64 (v (g u11 u1 (4 : Nat))))) = u8) : execF Tryz.prog (gmWoY a b q g n v e) noLam 300 Tryz.f57 [.v (.string s)] [] valK
    = needs [Nat.blt (ByteArray.size s) (4294967281 : Nat), Nat.blt (ByteArray.size u11) (4294967281 : Nat), Nat.beq (n u11 u1) (8 : Nat), Nat.ble (ByteArray.size (a s u0)) u9] (bif e (a s u0) then Res.out .ret [AV.tup [AV.agg [u2, u2, u2, u2, u2, u2, u2, u2, u2], u10]] [] else needs [Nat.ble (ByteArray.size (g u11 u1 (0 : Nat))) u9] (bif e (g u11 u1 (0 : Nat)) then Res.out .ret [AV.tup [AV.agg [u5, u2, u2, u2, u2, u2, u2, u2, u2], u10]] [] else needs [Nat.ble (ByteArray.size (g u11 u1 (1 : Nat))) u9] (bif e (g u11 u1 (1 : Nat)) then Res.out .ret [AV.tup [AV.agg [u5, u3, u2, u2, u2, u2, u2, u2, u2], u10]] [] else needs [Nat.ble (ByteArray.size (g u11 u1 (2 : Nat))) u9] (bif e (g u11 u1 (2 : Nat)) then Res.out .ret [AV.tup [AV.agg [u5, u3, u4, u2, u2, u2, u2, u2, u2], u10]] [] else needs [Nat.ble (ByteArray.size (g u11 u1 (3 : Nat))) u9] (bif e (g u11 u1 (3 : Nat)) then Res.out .ret [AV.tup [AV.agg [u5, u3, u4, u6, u2, u2, u2, u2, u2], u10]] [] else needs [Nat.ble (ByteArray.size (g u11 u1 (4 : Nat))) u9] (bif e (g u11 u1 (4 : Nat)) then Res.out .ret [AV.tup [AV.agg [u5, u3, u4, u6, u7, u2, u2, u2, u2], u10]] [] else needs [Nat.ble (ByteArray.size (g u11 u1 (5 : Nat))) u9] (bif e (g u11 u1 (5 : Nat)) then Res.out .ret [AV.tup [AV.agg [u5, u3, u4, u6, u7, u8, u2, u2, u2], u10]] [] else needs [Nat.ble (ByteArray.size u13) u9] (bif e u13 then Res.out .ret [AV.tup [AV.agg [u5, u3, u4, u6, u7, u8, u12, u2, u2], u10]] [] else needs [Nat.ble (ByteArray.size (g u11 u1 (7 : Nat))) u9] (bif e (g u11 u1 (7 : Nat)) then Res.out .ret [AV.tup [AV.agg [u5, u3, u4, u6, u7, u8, u12, AV.v (.int .i64 (v u13)), u2], u10]] [] else Res.out .ret [AV.tup [AV.agg [u5, u3, u4, u6, u7, u8, u12, AV.v (.int .i64 (v u13)), AV.v (.int .i64 (v (g u11 u1 (7 : Nat))))], AV.v (.bool true)]] []))))))))) := by
  subst hu8 hu7 hu6 hu4 hu3 hu13 hu12 hu11 hu10 hu9 hu5 hu2 hu1 hu0
  kernel_rfl
theorem treeWoY (a b : ByteArray → ByteArray → ByteArray) (q : ByteArray → ByteArray → Bool) (g : ByteArray → ByteArray → Nat → ByteArray) (n : ByteArray → ByteArray → Nat) (v : ByteArray → Int) (e : ByteArray → Bool) (s : ByteArray) : type_of% (treeWoY_h a b q g n v e s _ rfl _ rfl _ rfl _ rfl _ rfl _ rfl _ rfl _ rfl _ rfl _ rfl _ rfl _ rfl _ rfl _ rfl) := treeWoY_h a b q g n v e s _ rfl _ rfl _ rfl _ rfl _ rfl _ rfl _ rfl _ rfl _ rfl _ rfl _ rfl _ rfl _ rfl _ rfl

theorem treeWoN (a b : ByteArray → ByteArray → ByteArray) (q : ByteArray → ByteArray → Bool) (g : ByteArray → ByteArray → Nat → ByteArray) (n : ByteArray → ByteArray → Nat) (s : ByteArray) : execF Tryz.prog (gmWoN a b q g n) noLam 300 Tryz.f57 [.v (.string s)] [] valK
    = needs [Nat.blt (ByteArray.size s) (4294967281 : Nat), Nat.blt (ByteArray.size (b s (ByteArray.mk (Array.mk [(58 : UInt8)])))) (4294967281 : Nat), (↑(n (b s (ByteArray.mk (Array.mk [(58 : UInt8)]))) (ByteArray.mk (Array.mk [(44 : UInt8)]))) : Int) != (8 : Int)] (Res.out .ret [AV.tup [AV.agg [AV.v (.int .i64 0), AV.v (.int .i64 0), AV.v (.int .i64 0), AV.v (.int .i64 0), AV.v (.int .i64 0), AV.v (.int .i64 0), AV.v (.int .i64 0), AV.v (.int .i64 0), AV.v (.int .i64 0)], AV.v (.bool false)]] []) := by kernel_rfl

end Go.Proofs.YtddhmidegldhdaaGreatDoor

/- A wheel read from a word, the program's side: its word. Conditions: a text. -/
namespace Go.Proofs.YtddhmidegldhdaaGreatDoor
open Go.RowKit
set_option maxRecDepth 100000

def woR (sp : ByteArray) (g : Nat → ByteArray) : Wh × Bool :=
  bif atE sp then (⟨0, ⟨0, 0, 0, 0, 0, 0, 0, 0⟩⟩, false) else
  bif atE (g 0) then (⟨atV sp, ⟨0, 0, 0, 0, 0, 0, 0, 0⟩⟩, false) else
  bif atE (g 1) then (⟨atV sp, ⟨atV (g 0), 0, 0, 0, 0, 0, 0, 0⟩⟩, false) else
  bif atE (g 2) then (⟨atV sp, ⟨atV (g 0), atV (g 1), 0, 0, 0, 0, 0, 0⟩⟩, false) else
  bif atE (g 3) then (⟨atV sp, ⟨atV (g 0), atV (g 1), atV (g 2), 0, 0, 0, 0, 0⟩⟩, false) else
  bif atE (g 4) then (⟨atV sp, ⟨atV (g 0), atV (g 1), atV (g 2), atV (g 3), 0, 0, 0, 0⟩⟩, false) else
  bif atE (g 5) then (⟨atV sp, ⟨atV (g 0), atV (g 1), atV (g 2), atV (g 3), atV (g 4), 0, 0, 0⟩⟩, false) else
  bif atE (g 6) then (⟨atV sp, ⟨atV (g 0), atV (g 1), atV (g 2), atV (g 3), atV (g 4), atV (g 5), 0, 0⟩⟩, false) else
  bif atE (g 7) then (⟨atV sp, ⟨atV (g 0), atV (g 1), atV (g 2), atV (g 3), atV (g 4), atV (g 5), atV (g 6), 0⟩⟩, false) else
  (⟨atV sp, ⟨atV (g 0), atV (g 1), atV (g 2), atV (g 3), atV (g 4), atV (g 5), atV (g 6), atV (g 7)⟩⟩, true)
def colon : ByteArray := ByteArray.mk (Array.mk [58])
def comma : ByteArray := ByteArray.mk (Array.mk [44])
def wo (s : ByteArray) : Wh × Bool := bif Nat.beq (spLn (cuB s colon) comma) 8 then woR (cuA s colon) (spG (cuB s colon) comma) else (⟨0, ⟨0, 0, 0, 0, 0, 0, 0, 0⟩⟩, false)
def woV (w : Wh × Bool) : Value := .tuple #[.agg #[i64 w.1.s, i64 w.1.r.c0, i64 w.1.r.c1, i64 w.1.r.c2, i64 w.1.r.c3, i64 w.1.r.c4, i64 w.1.r.c5, i64 w.1.r.c6, i64 w.1.r.c7], .bool w.2]
def fWoO (f : ByteArray → Wh × Bool) : List Value → Option (Value × List Bool)
  | [.string s] => some (woV (f s), [Nat.blt s.size 4294967281])
  | _ => none
theorem gmWoY_ok : GamOk Tryz.prog (gmWoY cuA cuB cuF spG spLn atV atE) := ext_ok (ext_ok (ext_ok g0_ok ok_cut) (ok_splitY 8)) ok_atoi
theorem gmWoN_ok : GamOk Tryz.prog (gmWoN cuA cuB cuF spG spLn) := ext_ok (ext_ok (ext_ok g0_ok ok_cut) ok_splitN) ok_atoiF
theorem ok_woAt (s : ByteArray) (hs : s.size < 4294967281) : (∃ Γ, GamOk Tryz.prog Γ ∧ GoodQ (execF Tryz.prog Γ noLam 300 Tryz.f57 [.v (.string s)] [] valK) (Gives (woV (wo s)))) := by
  have hA := cuA_size s colon
  have hB := cuB_size s colon
  have hG := spG_size (cuB s colon) comma
  cases hq : Nat.beq (spLn (cuB s colon) comma) 8 with
  | false =>
    refine ⟨_, gmWoN_ok, ?_⟩
    rw [treeWoN]
    have e : wo s = (⟨0, ⟨0, 0, 0, 0, 0, 0, 0, 0⟩⟩, false) := by rw [wo, hq]; rfl
    rw [e]
    have hn : spLn (cuB s colon) comma ≠ 8 := fun h => by rw [h] at hq; cases hq
    rw [show (ByteArray.mk (Array.mk [(58 : UInt8)])) = colon from rfl, show (ByteArray.mk (Array.mk [(44 : UInt8)])) = comma from rfl]
    refine good_needs ?_ (good_out ⟨_, rfl, rfl⟩)
    simp only [ob_cons, ob_nil, and_true, Nat.blt_eq, bne_iff_ne]
    exact ⟨hs, Nat.lt_of_le_of_lt hB hs, by omega⟩
  | true =>
    refine ⟨_, gmWoY_ok, ?_⟩
    rw [treeWoY, show (ByteArray.mk (Array.mk [(58 : UInt8)])) = colon from rfl, show (ByteArray.mk (Array.mk [(44 : UInt8)])) = comma from rfl]
    have e : wo s = woR (cuA s colon) (spG (cuB s colon) comma) := by rw [wo, hq]; rfl
    rw [e]
    have ge : ∀ j, Nat.ble (spG (cuB s colon) comma j).size 281474976710656 = true := fun j => by have := hG j; rw [Nat.ble_eq]; omega
    have step : ∀ {Q : Ex → List AV → List AB → Prop} (j : Nat) {r : Res}, GoodQ r Q → GoodQ (needs [Nat.ble (spG (cuB s colon) comma j).size 281474976710656] r) Q := by
      intro Q j r h
      exact good_needs (by simp only [ob_cons, ob_nil, and_true]; exact ge j) h
    refine good_needs (by simp only [ob_cons, ob_nil, and_true, Nat.blt_eq, Nat.ble_eq]; exact ⟨hs, Nat.lt_of_le_of_lt hB hs, hq, by omega⟩) ?_
    generalize cuA s colon = sp
    clear hA hB hG ge e
    generalize spG (cuB s colon) comma = g at step ⊢
    unfold woR
    refine good_cond (fun c => ?_) fun c => step 0 (good_cond (fun c0 => ?_) fun c0 => step 1 (good_cond (fun c1 => ?_) fun c1 => step 2 (good_cond (fun c2 => ?_) fun c2 => step 3 (good_cond (fun c3 => ?_) fun c3 => step 4 (good_cond (fun c4 => ?_) fun c4 => step 5 (good_cond (fun c5 => ?_) fun c5 => step 6 (good_cond (fun c6 => ?_) fun c6 => step 7 (good_cond (fun c7 => ?_) fun c7 => ?_))))))))
    all_goals simp only [*, cond_true, cond_false]
    all_goals exact good_out ⟨_, rfl, rfl⟩
theorem ok_wo : SpecOk Tryz.prog 57 (specV (fWoO wo)) := by
  refine specV_ok (fun args w => enters 57 Tryz.f57 Tryz.func57 rfl args w) fun vs x ob hF ho w ht => ?_
  unfold fWoO at hF
  split at hF
  · rename_i s
    simp only [Option.some.injEq, Prod.mk.injEq] at hF
    obtain ⟨rfl, rfl⟩ := hF
    simp only [ob_cons, ob_nil, and_true, Nat.blt_eq] at ho
    obtain ⟨Γ, hΓ, h⟩ := ok_woAt s ho
    exact calls_val hΓ mixed enters Tryz.func57 h.out w ht
  · cases hF
end Go.Proofs.YtddhmidegldhdaaGreatDoor

/- DesignRead of the program: trees. Conditions: a text. -/
namespace Go.Proofs.YtddhmidegldhdaaGreatDoor
open Go.RowKit
set_option maxRecDepth 100000

noncomputable abbrev fRd : Func := Tryz.f22
noncomputable def rdB : Code := fRd.body.getD .skip
noncomputable def cdL : Code → Code | .cond _ a _ => a | c => c
noncomputable def rdPre : List Code := [sqA rdB, sqA (sqB rdB), sqA (sqB (sqB rdB))]
noncomputable def rdP1 : Code := sqA (sqA (sqB (sqB (sqB rdB))))
noncomputable def rdIf : Code := cdL (sqB (sqA (sqB (sqB (sqB rdB)))))
noncomputable def rdP2 : Code := sqA rdIf
noncomputable def rngA : Code → Code | .rangeFunc _ _ a _ => a | c => c
noncomputable def rngB : Code → Code | .rangeFunc _ _ _ b => b | c => c
noncomputable def rdAs : Code := rngA (blB (sqB rdIf))
noncomputable def rdBd : Code := rngB (blB (sqB rdIf))
noncomputable def rdRest : Code := sqB (sqB (sqB (sqB rdB)))
theorem bodyRd : fRd.body = some (nestL rdPre (.seq (.seq rdP1 (.cond (.tmp 15) (.seq rdP2 (.block 0 (.rangeFunc (.tmp 17) #[18] rdAs rdBd))) .skip)) rdRest)) := by kernel_rfl
def F2Y (yI : List Wh → Bool) (tI : List Wh → List Wh) : List SA → Option FR
  | [.row m g] => some { val := valY (tI (listW (itW g) m)), new := newY (tI (listW (itW g) m)), obl := [allW m g, decide (m ≤ 2 ^ 38), yI (listW (itW g) m)] }
  | _ => none
def F2N (yI : List Wh → Bool) : List SA → Option FR
  | [.row m g] => some { val := valN, obl := [allW m g, decide (m ≤ 2 ^ 38), !yI (listW (itW g) m)] }
  | _ => none
def gmRe (f : ByteArray → Wh × Bool) (S : Spec) (tx : List Wh → ByteArray) (okd : List Wh → Bool) : Gam := ext (ext (ext g0 57 (specV (fWoO f))) 43 S) 44 (specR md_ws (FtxO tx okd))
theorem treeRdP_h (f : ByteArray → Wh × Bool) (S : Spec) (tx : List Wh → ByteArray) (okd : List Wh → Bool) (s : ByteArray) (u0 : _) (hu0 : AV.dead = u0) (u1 : _) (hu1 : (0 : Nat) = u1) : execL Tryz.prog (gmRe f S tx okd) 100 rdPre ([.v (.string s)] ++ List.replicate 43 (.v undef)) [] (thenC Tryz.prog (gmRe f S tx okd) 100 rdP1 (condK Tryz.prog (gmRe f S tx okd) 100 15 rdP2 (leafK (lv3 [0, 2, 3, 4, 17] [] []) 0)))
    = bif decide ((↑(ByteArray.size s) : Int) > (1500 : Int)) then Res.err else needs [!eqB s (ByteArray.mk (Array.mk [(45 : UInt8)]))] (Res.out .normal [AV.v (.string s), u0, AV.ptr u1 u1 u1 u1, AV.ptr (1 : Nat) u1 u1 u1, AV.ptr (2 : Nat) u1 u1 u1, u0, u0, u0, u0, u0, u0, u0, u0, u0, u0, u0, u0, AV.fn (176 : Nat) [AV.ptr (3 : Nat) u1 u1 u1, AV.ptr (4 : Nat) u1 u1 u1, AV.ptr (5 : Nat) u1 u1 u1], u0, u0, u0, u0, u0, u0, u0, u0, u0, u0, u0, u0, u0, u0, u0, u0, u0, u0, u0, u0, u0, u0, u0, u0, u0, u0] [AB.cells [AV.v (Value.slice none u1 u1)] (25 : Nat), AB.cells [AV.v (.bool false)] (4 : Nat), AB.cells [AV.own 6 u1] (25 : Nat), AB.cells [AV.v (.string (ByteArray.mk (Array.mk [(32 : UInt8)])))] (9 : Nat), AB.cells [AV.v (.string s)] (9 : Nat), AB.cells [AV.v (.int .i64 0)] (3 : Nat), AB.row true u1 9 (fun _ ↦ []) (60 : Nat)]) := by
  subst hu1 hu0
  kernel_rfl
theorem treeRdP (f : ByteArray → Wh × Bool) (S : Spec) (tx : List Wh → ByteArray) (okd : List Wh → Bool) (s : ByteArray) : type_of% (treeRdP_h f S tx okd s _ rfl _ rfl) := treeRdP_h f S tx okd s _ rfl _ rfl

def TTrd (s : ByteArray) : List AV := mkT 0 44 [(0, .v (.string s)), (2, .ptr 0 0 0 0), (3, .ptr 1 0 0 0), (4, .ptr 2 0 0 0), (17, .fn 176 [.ptr 3 0 0 0, .ptr 4 0 0 0, .ptr 5 0 0 0])]
def TLrd (s : ByteArray) : List AV := mkT 0 44 [(0, .v (.string s)), (2, .ptr 0 0 0 0), (3, .ptr 1 0 0 0), (4, .ptr 2 0 0 0)]
def HHrd (s : ByteArray) : List AB := [.cells [.v (.slice none 0 0)] 25, .cells [.v (.bool false)] 4, .cells [.own 6 0] 25, .cells [.v (.string spc)] 9, .cells [.v (.string s)] 9, .cells [.v (i64 0)] 3, .row true 0 9 (fun _ => []) 60]
def holdB : AB := .row false 0 0 (fun _ => []) 0
def hp0rd : List AB := [.cells [.v (.slice none 0 0)] 25, .cells [.v (.bool false)] 4, .cells [.own 6 0] 25, holdB, holdB, holdB, .row true 0 9 (fun _ => []) 60]
def hp1rd (k : Nat) (g : Nat → Nat → Int) : List AB := [.cells [.v (.slice none 0 0)] 25, .cells [.v (.bool false)] 4, .cells [.own 7 k] 25, holdB, holdB, holdB, .gone, .row true k 9 (row9 g) 60]
theorem rndRd0_h (f : ByteArray → Wh × Bool) (S : Spec) (tx : List Wh → ByteArray) (okd : List Wh → Bool) (s x : ByteArray) (u1 : _) (hu1 : (AB.row false (0 : Nat) (0 : Nat) (fun _ ↦ []) 0) = u1) (u2 : _) (hu2 : AV.dead = u2) (u3 : _) (hu3 : (Wh.r (f x).1) = u3) (u4 : _) (hu4 : (AB.cells [AV.v (Value.slice none (0 : Nat) (0 : Nat))] 25) = u4) (u5 : _) (hu5 : (AB.cells [AV.v (.bool false)] 4) = u5) (u0 : _) (hu0 : [u2, u2, u2, u2, u2, u2, u2, u2, u2, u2, u2, u2, u2, u2, u2, u2, u2, u2, u2, u2, u2, u2, u2, u2, u2, u2, u2, u2, u2, u2, u2, u2, u2, u2, u2, u2, u2, u2, u2, u2, u2, u2, u2, u2] = u0) : execC Tryz.prog (gmRe f S tx okd) 100 noLam rdAs (parT [18] [.string x] (TLrd s)) hp0rd (andK Tryz.prog (gmRe f S tx okd) 100 rdBd 7)
    = needs [Nat.blt (ByteArray.size x) (4294967281 : Nat)] (bif !(f x).2 then Res.out .ret u0 [u4, u5, AB.cells [AV.own 6 (0 : Nat)] 25, u1, u1, u1, AB.row true (0 : Nat) (9 : Nat) (fun _ ↦ []) 60] else Res.out .normal u0 [u4, u5, AB.cells [AV.own 7 (1 : Nat)] 25, u1, u1, u1, AB.gone, AB.row true (1 : Nat) (9 : Nat) (fun _ ↦ [Value.int .i64 (Wh.s (f x).1), Value.int .i64 (Cy.c0 u3), Value.int .i64 (Cy.c1 u3), Value.int .i64 (Cy.c2 u3), Value.int .i64 (Cy.c3 u3), Value.int .i64 (Cy.c4 u3), Value.int .i64 (Cy.c5 u3), Value.int .i64 (Cy.c6 u3), Value.int .i64 (Cy.c7 u3)]) (60 : Nat)]) := by
  subst hu0 hu5 hu4 hu3 hu2 hu1
  kernel_rfl
theorem rndRd0 (f : ByteArray → Wh × Bool) (S : Spec) (tx : List Wh → ByteArray) (okd : List Wh → Bool) (s x : ByteArray) : type_of% (rndRd0_h f S tx okd s x _ rfl _ rfl _ rfl _ rfl _ rfl _ rfl) := rndRd0_h f S tx okd s x _ rfl _ rfl _ rfl _ rfl _ rfl _ rfl

theorem rndRd1_h (f : ByteArray → Wh × Bool) (S : Spec) (tx : List Wh → ByteArray) (okd : List Wh → Bool) (s x : ByteArray) (k : Nat) (g : Nat → Nat → Int) (u1 : _) (hu1 : (AB.row false (0 : Nat) (0 : Nat) (fun _ ↦ []) 0) = u1) (u2 : _) (hu2 : AV.dead = u2) (u3 : _) (hu3 : (Wh.r (f x).1) = u3) (u4 : _) (hu4 : (AB.cells [AV.v (Value.slice none (0 : Nat) (0 : Nat))] 25) = u4) (u5 : _) (hu5 : (AB.cells [AV.v (.bool false)] 4) = u5) (u0 : _) (hu0 : [u2, u2, u2, u2, u2, u2, u2, u2, u2, u2, u2, u2, u2, u2, u2, u2, u2, u2, u2, u2, u2, u2, u2, u2, u2, u2, u2, u2, u2, u2, u2, u2, u2, u2, u2, u2, u2, u2, u2, u2, u2, u2, u2, u2] = u0) : execC Tryz.prog (gmRe f S tx okd) 100 noLam rdAs (parT [18] [.string x] (TLrd s)) (hp1rd k g) (andK Tryz.prog (gmRe f S tx okd) 100 rdBd 7)
    = needs [Nat.blt (ByteArray.size x) (4294967281 : Nat)] (bif !(f x).2 then Res.out .ret u0 [u4, u5, AB.cells [AV.own 7 k] 25, u1, u1, u1, AB.gone, AB.row true k 9 (row9 g) 60] else needs [Nat.ble k k, Nat.ble (k + (1 : Nat)) (549755813888 : Nat)] (Res.out .normal u0 [u4, u5, AB.cells [AV.own 7 (k + (1 : Nat))] 25, u1, u1, u1, AB.gone, AB.row true (k + (1 : Nat)) (9 : Nat) (fun q ↦ [Value.int .i64 (bif Nat.blt q k then g q (0 : Nat) else Wh.s (f x).1), Value.int .i64 (bif Nat.blt q k then g q (1 : Nat) else Cy.c0 u3), Value.int .i64 (bif Nat.blt q k then g q (2 : Nat) else Cy.c1 u3), Value.int .i64 (bif Nat.blt q k then g q (3 : Nat) else Cy.c2 u3), Value.int .i64 (bif Nat.blt q k then g q (4 : Nat) else Cy.c3 u3), Value.int .i64 (bif Nat.blt q k then g q (5 : Nat) else Cy.c4 u3), Value.int .i64 (bif Nat.blt q k then g q (6 : Nat) else Cy.c5 u3), Value.int .i64 (bif Nat.blt q k then g q (7 : Nat) else Cy.c6 u3), Value.int .i64 (bif Nat.blt q k then g q (8 : Nat) else Cy.c7 u3)]) (60 : Nat)])) := by
  subst hu0 hu5 hu4 hu3 hu2 hu1
  kernel_rfl
theorem rndRd1 (f : ByteArray → Wh × Bool) (S : Spec) (tx : List Wh → ByteArray) (okd : List Wh → Bool) (s x : ByteArray) (k : Nat) (g : Nat → Nat → Int) : type_of% (rndRd1_h f S tx okd s x k g _ rfl _ rfl _ rfl _ rfl _ rfl _ rfl) := rndRd1_h f S tx okd s x k g _ rfl _ rfl _ rfl _ rfl _ rfl _ rfl

theorem endRdY (f : ByteArray → Wh × Bool) (yI : List Wh → Bool) (tI : List Wh → List Wh) (tx : List Wh → ByteArray) (okd : List Wh → Bool) (s : ByteArray) (k : Nat) (g : Nat → Nat → Int) : behind Tryz.prog (gmRe f (specR md_ws (F2Y yI tI)) tx okd) 100 fRd 0 rdRest (packK 0) .normal (TLrd s) (hp1rd k g)
    = needs [Nat.ble k k, allW k (row9 g), decide (k ≤ (274877906944 : Nat)), yI (listW (itW (row9 g)) k), Nat.ble ((0 : Nat) + List.length (tI (listW (itW (row9 g)) k))) (List.length (tI (listW (itW (row9 g)) k))), allW (List.length (tI (listW (itW (row9 g)) k))) fun q ↦ row9 (wfun (tI (listW (itW (row9 g)) k))) ((0 : Nat) + q), okd (listW (itW fun q ↦ row9 (wfun (tI (listW (itW (row9 g)) k))) ((0 : Nat) + q)) (List.length (tI (listW (itW (row9 g)) k))))] (bif !eqB (tx (listW (itW fun q ↦ row9 (wfun (tI (listW (itW (row9 g)) k))) ((0 : Nat) + q)) (List.length (tI (listW (itW (row9 g)) k))))) s then Res.out .ret [AV.tup [AV.v (Value.slice none (0 : Nat) (0 : Nat)), AV.v (.bool false)]] [] else Res.out .ret [AV.tup [AV.sl 0 (9 : Nat) (0 : Nat) (0 : Nat) (List.length (tI (listW (itW (row9 g)) k))) (some (List.length (tI (listW (itW (row9 g)) k)))), AV.v (.bool true)]] [AB.row true (List.length (tI (listW (itW (row9 g)) k))) (9 : Nat) (row9 (wfun (tI (listW (itW (row9 g)) k)))) 60]) := by kernel_rfl

theorem endRdN (f : ByteArray → Wh × Bool) (yI : List Wh → Bool) (tx : List Wh → ByteArray) (okd : List Wh → Bool) (s : ByteArray) (k : Nat) (g : Nat → Nat → Int) : behind Tryz.prog (gmRe f (specR md_ws (F2N yI)) tx okd) 100 fRd 0 rdRest (packK 0) .normal (TLrd s) (hp1rd k g)
    = needs [Nat.ble k k, allW k (row9 g), decide (k ≤ (274877906944 : Nat)), !yI (listW (itW (row9 g)) k)] (Res.out .ret [AV.tup [AV.v (Value.slice none (0 : Nat) (0 : Nat)), AV.v (.bool false)]] []) := by kernel_rfl

theorem endRdX (f : ByteArray → Wh × Bool) (S : Spec) (tx : List Wh → ByteArray) (okd : List Wh → Bool) (s : ByteArray) (k : Nat) (g : Nat → Nat → Int) : behind Tryz.prog (gmRe f S tx okd) 100 fRd 0 rdRest (packK 0) .ret (TLrd s) (hp1rd k g)
    = Res.out .ret [AV.tup [AV.v (Value.slice none (0 : Nat) (0 : Nat)), AV.v (.bool false)]] [] := by kernel_rfl

theorem endRdX0 (f : ByteArray → Wh × Bool) (S : Spec) (tx : List Wh → ByteArray) (okd : List Wh → Bool) (s : ByteArray) : behind Tryz.prog (gmRe f S tx okd) 100 fRd 0 rdRest (packK 0) .ret (TLrd s) hp0rd
    = Res.out .ret [AV.tup [AV.v (Value.slice none (0 : Nat) (0 : Nat)), AV.v (.bool false)]] [] := by kernel_rfl

theorem treeRdB_h (f : ByteArray → Wh × Bool) (yI : List Wh → Bool) (tI : List Wh → List Wh) (tx : List Wh → ByteArray) (okd : List Wh → Bool) (s : ByteArray) (u3 : _) (hu3 : (0 : Nat) = u3) (u0 : _) (hu0 : (tI (listW (itW fun _ ↦ []) u3)) = u0) (u1 : _) (hu1 : (List.length u0) = u1) (u2 : _) (hu2 : [AV.tup [AV.v (Value.slice none u3 u3), AV.v (.bool false)]] = u2) (u4 : _) (hu4 : (listW (itW fun q ↦ row9 (wfun u0) (u3 + q)) u1) = u4) : execF Tryz.prog (gmRe f (specR md_ws (F2Y yI tI)) tx okd) noLam 100 fRd [.v (.string s)] [] (packK 0)
    = bif decide ((↑(ByteArray.size s) : Int) > (1500 : Int)) then Res.out .ret u2 [] else bif !eqB s (ByteArray.mk (Array.mk [(45 : UInt8)])) then Res.err else needs [yI (listW (itW fun _ ↦ []) u3), Nat.ble (u3 + List.length u0) u1, allW u1 fun q ↦ row9 (wfun u0) (u3 + q), okd u4] (bif !eqB (tx u4) s then Res.out .ret u2 [] else Res.out .ret [AV.tup [AV.sl u3 (9 : Nat) u3 u3 u1 (some u1), AV.v (.bool true)]] [AB.row true u1 9 (row9 (wfun u0)) 60]) := by
  subst hu4 hu2 hu1 hu0 hu3
  kernel_rfl
theorem treeRdB (f : ByteArray → Wh × Bool) (yI : List Wh → Bool) (tI : List Wh → List Wh) (tx : List Wh → ByteArray) (okd : List Wh → Bool) (s : ByteArray) : type_of% (treeRdB_h f yI tI tx okd s _ rfl _ rfl _ rfl _ rfl _ rfl) := treeRdB_h f yI tI tx okd s _ rfl _ rfl _ rfl _ rfl _ rfl

end Go.Proofs.YtddhmidegldhdaaGreatDoor

/- The abstract machine, 22: one case of a word. No conditions. -/
namespace Go.Proofs.YtddhmidegldhdaaGreatDoor
open Go.RowKit

theorem specR_case {P : Program} {f : FuncId} {mds : List Md} {F F' : List SA → Option FR} (h : SpecOk P f (specR mds F))
    (hF : ∀ sas fr, F' sas = some fr → obls fr.obl = true → ∃ ob, F sas = some { fr with obl := ob } ∧ obls ob = true) : SpecOk P f (specR mds F') := by
  refine ⟨h.1, fun avs H base δ ν vals w hS ho hv hr hlt hfree hsep htab => ?_⟩
  unfold specR at hS
  split at hS
  · rename_i xs hxs
    split at hS
    · rename_i fr hFr
      split at hS
      · rename_i av hav
        cases hc : ((!hasWr mds || nodupB ((ixC mds xs).filterMap id)) && fr.new.all isRowT && Nat.beq (abP mds (xs.map (·.sa)) fr.put).length (abC mds (xs.map (·.sa))).length) with
        | false => rw [hc] at hS; cases hS
        | true =>
          rw [hc] at hS
          simp only [cond_true, Option.some.injEq] at hS
          subst hS
          have ho' : obls (xs.flatMap (·.ob)) = true ∧ obls fr.obl = true := by simpa [obls, List.all_append] using ho
          obtain ⟨ob, e1, e2⟩ := hF _ _ hFr ho'.2
          have hS2 : specR mds F avs H base = some { val := av, rd := (ixC mds xs).filterMap id, put := putC (ixC mds xs) (abP mds (xs.map (·.sa)) fr.put), new := fr.new, obl := xs.flatMap (·.ob) ++ ob } := by
            unfold specR
            rw [hxs]
            simp only [e1, hav]
            rw [hc]
            rfl
          refine (h.2 avs H base _ ν vals w hS2 (by simpa [obls, List.all_append] using And.intro ho'.1 e2) hv hr hlt hfree hsep (htab.call fun x hx => by first | exact hx | cases hx)).mono ?_
          rintro e w' ⟨v, ν', rfl, d⟩
          exact ⟨v, ν', rfl, d.le, d.dom, d.val, d.put, d.new, d.os, d.tape, d.output, d.size, d.block, d.fresh, d.apart⟩
      · cases hS
    · cases hS
  · cases hS

end Go.Proofs.YtddhmidegldhdaaGreatDoor

/- The abstract machine, 34: two cases of a word, read as one. No conditions. -/
namespace Go.Proofs.YtddhmidegldhdaaGreatDoor
open Go.RowKit
set_option maxRecDepth 100000

end Go.Proofs.YtddhmidegldhdaaGreatDoor

/- DesignRead of the program: its word. Conditions: a text. -/
namespace Go.Proofs.YtddhmidegldhdaaGreatDoor
open Go.RowKit
set_option maxRecDepth 100000

def dash : ByteArray := ByteArray.mk (Array.mk [45])
def reL (s : ByteArray) : List Wh := bif eqB s dash then [] else (spB s spc).map fun w => (wo w).1
def reW (s : ByteArray) : Bool := (spB s spc).all fun w => (wo w).2
def reK (s : ByteArray) : Bool := decide (s.size ≤ 1500) && (eqB s dash || reW s)
def yRI (s : ByteArray) : Bool := reK s && yI (reL s) && eqB (textB (tI (reL s))) s
def tRI (s : ByteArray) : List Wh := bif yRI s then tI (reL s) else []

theorem yesTi_yI (L : List Wh) : yesTi L = yI L := by rw [yesTi, yI, show L.map chTi = L from mpTi_self L]
theorem ok_2Y : SpecOk Tryz.prog 43 (specR md_ws (F2Y yI tI)) := specR_case ok_deYTi fun sas fr hF ho => by
  unfold F2Y at hF
  split at hF
  · rename_i m g
    cases hF
    simp only [ob_cons] at ho
    obtain ⟨h1, h2, h3, _⟩ := ho
    refine ⟨[allW m g, decide (m ≤ 2 ^ 38), yesTi (listW (itW g) m)], ?_, ?_⟩
    · show some _ = some _
      rw [mpTi_self, tI, h3]
      rfl
    · simp only [ob_cons, ob_nil, and_true]
      exact ⟨h1, h2, (yesTi_yI _).trans h3⟩
  · cases hF
theorem ok_2N : SpecOk Tryz.prog 43 (specR md_ws (F2N yI)) := specR_case ok_deNTi fun sas fr hF ho => by
  unfold F2N at hF
  split at hF
  · rename_i m g
    cases hF
    simp only [ob_cons] at ho
    obtain ⟨h1, h2, h3, _⟩ := ho
    refine ⟨[allW m g, decide (m ≤ 2 ^ 38), !yesTi (listW (itW g) m)], rfl, ?_⟩
    simp only [ob_cons, ob_nil, and_true]
    exact ⟨h1, h2, by rw [yesTi_yI]; exact h3⟩
  · cases hF
theorem gmRe_ok {S : Spec} (hS : SpecOk Tryz.prog 43 S) : GamOk Tryz.prog (gmRe wo S textB okD) := ext_ok (ext_ok (ext_ok g0_ok ok_wo) hS) ok_tx
theorem split_enters : ∀ args w, (callFunc 176 args).run Tryz.prog w = .ok (.enter 176 args) w := fun args w => enters _ _ Tryz.func176 rfl args w

def whP {n : Nat} (x : Pc n) : Wh := (wo x.1).1
def hpR {n : Nat} : List (Pc n) → List AB
  | [] => hp0rd
  | x :: l => hp1rd (x :: l).length (wfun ((x :: l).map whP))
theorem hpR_snoc {n : Nat} (pre : List (Pc n)) (x : Pc n) : hpR (pre ++ [x]) = hp1rd (pre ++ [x]).length (wfun ((pre ++ [x]).map whP)) := by
  cases pre <;> rfl
def hxR {n : Nat} (_ : Ex) (l : List (Pc n)) : List AB := hpR l.dropLast
def jvR {n : Nat} (l : List (Pc n)) : Prop := l.all (fun x => (wo x.1).2) = true
def lxR {n : Nat} (e : Ex) (l : List (Pc n)) : Prop := e = .ret ∧ ∃ x ∈ l, (wo x.1).2 = false
theorem wh_whN (w : Wh) (q : Nat) (_ : q < 1) : [i64 w.s, i64 w.r.c0, i64 w.r.c1, i64 w.r.c2, i64 w.r.c3, i64 w.r.c4, i64 w.r.c5, i64 w.r.c6, i64 w.r.c7] = row9 (wfun [w]) q := by
  have : q = 0 := by omega
  subst this
  rfl

theorem roundRd {S : Spec} (s : ByteArray) (hs : s.size ≤ 1500) (pre : List (Pc s.size)) (x : Pc s.size) (hj : jvR pre) (hl : pre.length ≤ 1501) :
    (execC Tryz.prog (gmRe wo S textB okD) 100 noLam rdAs (parT [18] [.string x.1] (TLrd s)) (hpR pre) (andK Tryz.prog (gmRe wo S textB okD) 100 rdBd 7)).ok (RoundJ jvR lxR hpR hxR (pre ++ [x])) := by
  have hx : Nat.blt x.1.size 4294967281 = true := by have := x.2; rw [Nat.blt_eq]; omega
  have good : (wo x.1).2 = true → jvR (pre ++ [x]) := fun h => by
    unfold jvR at hj ⊢
    rw [List.all_append, hj, Bool.true_and]
    simp [h]
  have bad : (wo x.1).2 = false → lxR (n := s.size) .ret (pre ++ [x]) := fun h => ⟨rfl, x, by simp, h⟩
  have hxe : hxR (n := s.size) .ret (pre ++ [x]) = hpR pre := by rw [hxR, List.dropLast_concat]
  cases pre with
  | nil =>
    suffices h : GoodQ (execC Tryz.prog (gmRe wo S textB okD) 100 noLam rdAs (parT [18] [.string x.1] (TLrd s)) hp0rd (andK Tryz.prog (gmRe wo S textB okD) 100 rdBd 7)) (RoundJ jvR lxR hpR hxR ([] ++ [x])) from h.out
    rw [rndRd0]
    refine good_needs (by simp only [ob_cons, ob_nil, and_true]; exact hx) (good_cond (fun q => ?_) fun q => ?_)
    · rw [Bool.not_eq_true'] at q
      refine good_out ⟨bad q, ?_⟩
      rw [hxe]
      exact Hsim.refl _
    · rw [Bool.not_eq_false'] at q
      refine good_out ⟨good q, ?_⟩
      rw [hpR_snoc]
      exact .cons (ABeq.refl _) (.cons (ABeq.refl _) (.cons (ABeq.refl _) (.cons (ABeq.refl _) (.cons (ABeq.refl _) (.cons (ABeq.refl _) (.cons (ABeq.refl _) (.cons (ABeq.row fun j hj => wh_whN (whP x) j hj) .nil)))))))
  | cons y l =>
    suffices h : GoodQ (execC Tryz.prog (gmRe wo S textB okD) 100 noLam rdAs (parT [18] [.string x.1] (TLrd s)) (hp1rd (y :: l).length (wfun ((y :: l).map whP))) (andK Tryz.prog (gmRe wo S textB okD) 100 rdBd 7)) (RoundJ jvR lxR hpR hxR ((y :: l) ++ [x])) from h.out
    rw [rndRd1]
    generalize hpre : y :: l = pre at *
    refine good_needs (by simp only [ob_cons, ob_nil, and_true]; exact hx) (good_cond (fun q => ?_) fun q => good_needs (by simp only [ob_cons, ob_nil, and_true, Nat.ble_eq]; omega) ?_)
    · rw [Bool.not_eq_true'] at q
      refine good_out ⟨bad q, ?_⟩
      rw [hxe, ← hpre]
      exact Hsim.refl _
    · rw [Bool.not_eq_false'] at q
      refine good_out ⟨good q, ?_⟩
      rw [hpR_snoc, List.length_append, List.map_append]
      exact .cons (ABeq.refl _) (.cons (ABeq.refl _) (.cons (ABeq.refl _) (.cons (ABeq.refl _) (.cons (ABeq.refl _) (.cons (ABeq.refl _) (.cons (ABeq.refl _) (.cons (ABeq.row fun j hj => ch_row (pre.map whP) (whP x) pre.length (by rw [List.length_map]) j hj) .nil)))))))

theorem run_rd {S : Spec} (hS : SpecOk Tryz.prog 43 S) (s : ByteArray) (h1 : s.size ≤ 1500) (h2 : eqB s dash = false) {Q : Ex → List AV → List AB → Prop}
    (hdone : reW s = true → (behind Tryz.prog (gmRe wo S textB okD) 100 fRd 0 rdRest (packK 0) .normal (TLrd s) (hp1rd (reL s).length (wfun (reL s)))).ok Q) (hbad : reW s = false → (Res.out .ret [valN] []).ok Q) :
    ∀ (M : Nat → Prop) (vals : List Value) (w : World) (ν : Nu), (∀ k, w.heap.size ≤ k → M k) → VRs ν [.v (.string s)] vals → RH M ν (fun b => ([] : List AB).getD b .gone) w → (∀ i b, ν i = some b → i < ([] : List AB).length) →
      Calls Tryz.prog 22 vals.toArray w (RetG Q M ν w) := by
  have hL : reL s = (spB s spc).map fun w => (wo w).1 := by rw [reL, h2]; rfl
  have hn : (spB s spc).length ≤ s.size + 1 := by
    have := spB_length s spc (by decide)
    have := Lib.countB_le spc (by decide) s.size s (Nat.le_refl _)
    omega
  refine calls_rangeW (α := Pc s.size) (n := 100) (nn := 0) (gmRe_ok hS) mixed enters Tryz.func22 bodyRd (by kernel_rfl) (by kernel_rfl) (by kernel_rfl) (by kernel_rfl) (by kernel_rfl) (by kernel_rfl) (lvp := lv3 [0, 2, 3, 4, 17] [] []) (TT := TTrd s) (HH := HHrd s)
    (encs := fun x => [.string x.1]) (S := fun xs => xs.map (·.1) = spB s spc) (Sp := fun pre => ∃ suf, spB s spc = pre.map (·.1) ++ suf) (N := (spB s spc).length) ?_ (gf := 176) (cs := [.ptr 3 0 0 0, .ptr 4 0 0 0, .ptr 5 0 0 0]) (by kernel_rfl) (TLrd s) (by kernel_rfl) (mask_less (live := [0, 2, 3, 4]) (by kernel_rfl)) jvR lxR hpR hxR rfl [3, 4, 5] ?_ ?_ ?_ ?_
    split_enters (fun W ν1 a1 lb hS hv => ?_) (fun _ => rfl) (fun p hp => by simp only [List.mem_singleton] at hp; subst hp; exact Nat.lt_of_lt_of_eq (by decide : 18 < 44) rfl) rfl (fun pre x hj hl => roundRd s h1 pre x hj (by omega)) (fun xs hxs hj => ?_) (fun e pre hne hlv hsp => ?_)
  · show (execL Tryz.prog (gmRe wo S textB okD) 100 rdPre ([.v (.string s)] ++ List.replicate 43 (.v undef)) [] (thenC Tryz.prog (gmRe wo S textB okD) 100 rdP1 (condK Tryz.prog (gmRe wo S textB okD) 100 15 rdP2 (leafK (lv3 [0, 2, 3, 4, 17] [] []) 0)))).ok _
    rw [treeRdP, show decide ((s.size : Int) > 1500) = false from decide_eq_false (by omega)]
    exact needs_mk (Q := fun e T' H' => e = .normal ∧ T' = TTrd s ∧ H' = HHrd s) (r := .out .normal (TTrd s) (HHrd s)) (by simp only [ob_cons, ob_nil, and_true, Bool.not_eq_true']; exact h2) ⟨rfl, rfl, rfl⟩
  · intro i hi
    simp only [List.mem_cons, List.not_mem_nil, or_false] at hi
    rcases hi with rfl | rfl | rfl <;> rfl
  · intro pre
    cases pre <;> rfl
  · intro e pre
    unfold hxR
    generalize pre.dropLast = q
    cases q <;> rfl
  · intro i
    match i with
    | 0 => exact .inl rfl
    | 1 => exact .inl rfl
    | 2 => exact .inl rfl
    | 3 => exact .inr (.inr ⟨rfl, rfl⟩)
    | 4 => exact .inr (.inr ⟨rfl, rfl⟩)
    | 5 => exact .inr (.inr ⟨rfl, rfl⟩)
    | 6 => exact .inl rfl
    | i + 7 => exact .inl rfl
  · obtain ⟨c1, l1, e1, o1, g1, v1⟩ := hS.heap.br 3
    obtain ⟨c2, l2, e2, o2, g2, v2⟩ := hS.heap.br 4
    obtain ⟨c3, l3, e3, o3, g3, v3⟩ := hS.heap.br 5
    match l1, v1, l2, v2, l3, v3, lb, hv with
    | [y1], v1, [y2], v2, [y3], v3, [p1, p2, p3], hv =>
      simp only [VRs, VR, and_true] at v1 v2 v3 hv
      subst v1 v2 v3
      obtain ⟨⟨d1, f1, rfl⟩, ⟨d2, f2, rfl⟩, ⟨d3, f3, rfl⟩⟩ := hv
      rw [e1] at f1
      rw [e2] at f2
      rw [e3] at f3
      cases f1
      cases f2
      cases f3
      have key := split_stops (nn := 0) (w := W) (M := ownM W ν1 (HHrd s)) (B := bxM ν1 [3, 4, 5]) hS.heap.tab (fun k hk => .inl hk) s (by omega) g1 g2 g3 (hS.heap.sep 3 4 c1 c2 (by decide) rfl rfl e1 e2) (hS.heap.sep 3 5 c1 c3 (by decide) rfl rfl e1 e3) (hS.heap.sep 4 5 c2 c3 (by decide) rfl rfl e2 e3) (fun k => ⟨?_, ?_⟩) ?_
      · simp only [o1, o2, o3, Nat.mul_zero, Nat.add_zero]
        exact key
      · rintro ⟨i, hi, b, hb, rfl⟩
        simp only [List.mem_cons, List.not_mem_nil, or_false] at hi
        rcases hi with rfl | rfl | rfl
        · rw [e1] at hb; cases hb; exact .inl rfl
        · rw [e2] at hb; cases hb; exact .inr (.inl rfl)
        · rw [e3] at hb; cases hb; exact .inr (.inr rfl)
      · rintro (rfl | rfl | rfl)
        · exact ⟨3, by simp, c1, e1, rfl⟩
        · exact ⟨4, by simp, c2, e2, rfl⟩
        · exact ⟨5, by simp, c3, e3, rfl⟩
      · rintro k ⟨i, hi, b, hb, rfl⟩
        refine .inr ⟨i, b, ?_, hb, rfl⟩
        simp only [List.mem_cons, List.not_mem_nil, or_false] at hi
        rcases hi with rfl | rfl | rfl <;> rfl
  · have hw : reW s = true := by
      rw [reW, ← hxs, List.all_map]
      exact hj
    have e : hpR xs = hp1rd (reL s).length (wfun (reL s)) := by
      have hm : xs.map whP = reL s := by rw [hL, ← hxs, List.map_map]; rfl
      cases xs with
      | nil =>
        have := spB_length s spc (by decide)
        rw [← hxs] at this
        simp at this
      | cons x l =>
        show hp1rd (x :: l).length (wfun ((x :: l).map whP)) = _
        rw [hm, ← hm, List.length_map]
    rw [e]
    exact hdone hw
  · obtain ⟨rfl, y, hy, hb⟩ := hlv
    obtain ⟨suf, hsuf⟩ := hsp
    have hw : reW s = false := by
      rw [reW, hsuf, List.all_append, List.all_map, Bool.and_eq_false_iff]
      left
      rw [List.all_eq_false]
      exact ⟨y, hy, by simp [hb]⟩
    have h0 := hbad hw
    unfold hxR
    generalize pre.dropLast = q
    cases q with
    | nil =>
      show (behind Tryz.prog (gmRe wo S textB okD) 100 fRd 0 rdRest (packK 0) .ret (TLrd s) hp0rd).ok Q
      rw [endRdX0]
      exact h0
    | cons x l =>
      show (behind Tryz.prog (gmRe wo S textB okD) 100 fRd 0 rdRest (packK 0) .ret (TLrd s) (hp1rd (x :: l).length (wfun ((x :: l).map whP)))).ok Q
      rw [endRdX]
      exact h0

end Go.Proofs.YtddhmidegldhdaaGreatDoor

/- DesignRead of the program, read as a list or none. Conditions: none. -/
namespace Go.Proofs.YtddhmidegldhdaaGreatDoor
open Go.RowKit
set_option maxRecDepth 100000

def FreY : List SA → Option FR
  | [.v (.string s)] => some { val := valY (tI (reL s)), new := newY (tI (reL s)), obl := [yRI s] }
  | _ => none
def FreN : List SA → Option FR
  | [.v (.string s)] => some { val := valN, obl := [!yRI s] }
  | _ => none
def UreO (yes : ByteArray → Bool) (tl : ByteArray → List Wh) : List SA → Option UR
  | [.v (.string s)] => some ⟨yes s, tl s, []⟩
  | _ => none
theorem run_re (s : ByteArray) {Q : Ex → List AV → List AB → Prop} (hY : yRI s = true → (Res.out .ret [valY (tI (reL s))] (newY (tI (reL s)))).ok Q) (hN : yRI s = false → (Res.out .ret [valN] []).ok Q) :
    ∀ (M : Nat → Prop) (vals : List Value) (w : World) (ν : Nu), (∀ k, w.heap.size ≤ k → M k) → VRs ν [.v (.string s)] vals → RH M ν (fun b => ([] : List AB).getD b .gone) w → (∀ i b, ν i = some b → i < ([] : List AB).length) →
      Calls Tryz.prog 22 vals.toArray w (RetG Q M ν w) := by
  have tail : ∀ L : List Wh, reL s = L → (s.size ≤ 1500) → (eqB s dash || reW s) = true → yI L = true → GoodQ (bif !eqB (textB (tI L)) s then Res.out .ret [valN] [] else Res.out .ret [valY (tI L)] (newY (tI L))) Q := by
    rintro L rfl h1 h2 h3
    refine good_cond (fun q => ⟨hN ?_⟩) fun q => ⟨hY ?_⟩
    · rw [Bool.not_eq_true'] at q
      rw [yRI, q, Bool.and_false]
    · rw [Bool.not_eq_false'] at q
      rw [yRI, q, reK, h2, h3, decide_eq_true h1]
      rfl
  have obs : ∀ L : List Wh, yI L = true → obls [Nat.ble (tI L).length (tI L).length, allW (tI L).length (row9 (wfun (tI L))), okD (tI L)] = true := fun L h => by
    simp only [ob_cons, ob_nil, and_true, Nat.ble_eq, allW_row, true_and]
    exact ⟨Nat.le_refl _, tI_okD h⟩
  have plain : GoodQ (execF Tryz.prog (gmRe wo (specR md_ws (F2Y yI tI)) textB okD) noLam 100 fRd [.v (.string s)] [] (packK 0)) Q → ∀ (M : Nat → Prop) (vals : List Value) (w : World) (ν : Nu), (∀ k, w.heap.size ≤ k → M k) → VRs ν [.v (.string s)] vals → RH M ν (fun b => ([] : List AB).getD b .gone) w → (∀ i b, ν i = some b → i < ([] : List AB).length) →
      Calls Tryz.prog 22 vals.toArray w (RetG Q M ν w) := fun h M vals w ν hM hv hH hdom => calls_pack (gmRe_ok ok_2Y) mixed enters Tryz.func22 (fun _ _ => noLam_ok _ _ _) hM h.out hv hH hdom
  by_cases h1 : s.size ≤ 1500
  · cases h2 : eqB s dash with
    | true =>
      refine plain ?_
      rw [treeRdB, show decide ((s.size : Int) > 1500) = false from decide_eq_false (by omega), show (ByteArray.mk (Array.mk [45])) = dash from rfl, h2]
      simp only [Bool.not_true, cond_false, row0]
      have e0 : listW (itW fun _ => []) 0 = [] := rfl
      have hy0 : yI [] = true := by decide +kernel
      rw [e0]
      refine good_needs ?_ ?_
      · have := obs [] hy0
        simp only [ob_cons, ob_nil, and_true] at this ⊢
        rw [show listW (itW fun q => row9 (wfun (tI [])) q) (tI []).length = tI [] from listW_self _ _ rfl]
        exact ⟨hy0, this⟩
      · rw [show listW (itW fun q => row9 (wfun (tI [])) q) (tI []).length = tI [] from listW_self _ _ rfl]
        exact tail [] (by rw [reL, h2]; rfl) h1 (by rw [h2]; rfl) hy0
    | false =>
      have hk : reW s = false → yRI s = false := fun h => by rw [yRI, reK, h2, h]; simp
      have hlen : (reL s).length ≤ 1501 := by
        have := spB_length s spc (by decide)
        have := Lib.countB_le spc (by decide) s.size s (Nat.le_refl _)
        rw [reL, h2]
        show ((spB s spc).map _).length ≤ _
        rw [List.length_map]
        omega
      cases h3 : yI (reL s) with
      | true =>
        refine run_rd ok_2Y s h1 h2 (fun hw => ?_) fun hw => hN (hk hw)
        rw [endRdY]
        simp only [row0]
        rw [show listW (itW (row9 (wfun (reL s)))) (reL s).length = reL s from listW_self _ _ rfl]
        rw [show listW (itW fun q => row9 (wfun (tI (reL s))) q) (tI (reL s)).length = tI (reL s) from listW_self _ _ rfl]
        refine (good_needs ?_ (tail (reL s) rfl h1 (by rw [hw, Bool.or_true]) h3)).out
        have := obs (reL s) h3
        simp only [ob_cons, ob_nil, and_true, allW_row, decide_eq_true_eq, Nat.ble_eq] at this ⊢
        exact ⟨Nat.le_refl _, trivial, by omega, h3, by omega, this.2⟩
      | false =>
        have hy : yRI s = false := by rw [yRI, h3]; simp
        refine run_rd ok_2N s h1 h2 (fun hw => ?_) fun _ => hN hy
        rw [endRdN]
        rw [show listW (itW (row9 (wfun (reL s)))) (reL s).length = reL s from listW_self _ _ rfl]
        refine (good_needs ?_ ⟨hN hy⟩).out
        simp only [ob_cons, ob_nil, and_true, allW_row, decide_eq_true_eq, Nat.ble_eq, h3]
        exact ⟨Nat.le_refl _, trivial, by omega, rfl⟩
  · refine plain ?_
    rw [treeRdB, show decide ((s.size : Int) > 1500) = true from decide_eq_true (by omega)]
    exact ⟨hN (by rw [yRI, reK, decide_eq_false h1]; rfl)⟩

theorem ok_reY : SpecOk Tryz.prog 22 (specR [.val] FreY) := by
  refine specR_calls enters Tryz.func22 rfl fun sas fr hF ho => ?_
  unfold FreY at hF
  split at hF
  · rename_i s
    cases hF
    simp only [ob_cons, ob_nil, and_true] at ho
    exact ⟨[], Hsim.refl _, run_re s (fun _ => ⟨_, rfl, rfl, Hsim.refl _⟩) fun h => by rw [ho] at h; cases h⟩
  · cases hF
theorem ok_reN : SpecOk Tryz.prog 22 (specR [.val] FreN) := by
  refine specR_calls enters Tryz.func22 rfl fun sas fr hF ho => ?_
  unfold FreN at hF
  split at hF
  · rename_i s
    cases hF
    simp only [ob_cons, ob_nil, and_true] at ho
    exact ⟨[], Hsim.refl _, run_re s (fun h => by rw [h] at ho; cases ho) fun _ => ⟨_, rfl, rfl, Hsim.refl _⟩⟩
  · cases hF
theorem ok_Ure : SpecOk Tryz.prog 22 (specU [.val] (UreO yRI tRI)) := by
  refine specU_ok rfl ok_reY ok_reN fun sas u hu ho => ?_
  unfold UreO at hu
  split at hu
  · rename_i s
    cases hu
    refine ⟨rfl, ?_⟩
    cases hv : yRI s with
    | true =>
      left
      refine ⟨rfl, [yRI s], ?_, by simp only [ob_cons, ob_nil, and_true, hv]⟩
      show some _ = some _
      rw [tRI, hv]
      rfl
    | false =>
      right
      refine ⟨rfl, by show tRI s = []; rw [tRI, hv]; rfl, [!yRI s], rfl, by simp only [ob_cons, ob_nil, and_true, hv]; rfl⟩
  · cases hu
end Go.Proofs.YtddhmidegldhdaaGreatDoor

/- DesignRead of the reference: its word. Conditions: none. -/
namespace Go.Proofs.YtddhmidegldhdaaGreatDoor
open Go.RowKit
set_option maxRecDepth 100000

theorem cutP_size (s : ByteArray) (c : Int) : ∀ (i : Nat) (x : ByteArray), x ∈ (cutP s c i).1 → x.size ≤ s.size
  | 0, x, h => by simp [cutP] at h
  | i + 1, x, h => by
    unfold cutP stepCt at h
    cases hb : ((i : Int) == (s.size : Int)) || (byB s i == c) with
    | true =>
      rw [hb] at h
      simp only [cond_true, List.mem_append, List.mem_singleton] at h
      rcases h with h | rfl
      · exact cutP_size s c i x h
      · rw [ByteArray.size_extract]; omega
    | false =>
      rw [hb] at h
      exact cutP_size s c i x h
theorem cuG_size (s : ByteArray) (c : Int) (j : Nat) : (cuG s c j).size ≤ s.size := by
  unfold cuG tAt
  by_cases h : j < (cutB s c).length
  · rw [List.getD_eq_getElem?_getD, List.getElem?_eq_getElem h, Option.getD_some]
    exact cutP_size _ _ _ _ (List.getElem_mem h)
  · rw [List.getD_eq_getElem?_getD, List.getElem?_eq_none (by omega)]
    exact Nat.zero_le _
theorem cuN_le (s : ByteArray) (c : Int) : cuN s c ≤ s.size + 1 := (cutP_le s c _).1
def whS (w : ByteArray) : Wh := ⟨numI (cuG w 58 0), ⟨numI (cuG (cuG w 58 1) 44 0), numI (cuG (cuG w 58 1) 44 1), numI (cuG (cuG w 58 1) 44 2), numI (cuG (cuG w 58 1) 44 3), numI (cuG (cuG w 58 1) 44 4), numI (cuG (cuG w 58 1) 44 5), numI (cuG (cuG w 58 1) 44 6), numI (cuG (cuG w 58 1) 44 7)⟩⟩
def okRS (w : ByteArray) : Bool := Nat.beq (cuN w 58) 2 && Nat.beq (cuN (cuG w 58 1) 44) 8
def reS (s : ByteArray) : List Wh := (cutB s 32).map whS
def reG (s : ByteArray) : Bool := (cutB s 32).all okRS
def yRS (s : ByteArray) : Bool := decide (s.size ≤ 1500) && (eqB s dash || (reG s && yI (reS s) && eqB (txV (reS s)) s))
def tRS (s : ByteArray) : List Wh := bif yRS s && !eqB s dash then reS s else []

theorem gmRs_ok : GamOk Tryz.prog (gmRs cuG cuN numI txV yI) := ext_ok (ext_ok (ext_ok g0_ok ok_cu) ok_nu) ok_dtS
theorem take_snocS (ws : List ByteArray) (i : Nat) (h : i < ws.length) : ws.take (i + 1) = ws.take i ++ [tAt ws i] := by
  rw [List.take_add_one, List.getElem?_eq_getElem h]
  simp [tAt, List.getD_eq_getElem?_getD, List.getElem?_eq_getElem h]
theorem sumRs (s : ByteArray) (hs : s.size ≤ 1500) :
    SumOk Tryz.prog 0 (.block 0 (.loop (loopAt 0 Tryz.f23))) (atS 82 (lvRs .normal) 0 (stRs s 0 (cuN s 32) 0) (hpRs 0 (wfun []) (cuN s 32) (cuG s 32)) (fun K => cond (reG s) (K .normal (mkT 0 82 [(0, .v (.string s)), (4, .own 0 (cuN s 32))]) [.row true (cuN s 32) 9 (row9 (wfun (reS s))) 60]) (K .ret (mkT 0 82 [(2, .own 0 0), (3, .v (.bool false))]) [.row true 0 9 (fun _ => []) 60]))) := by
  refine for_at gmRs_ok (n := 200) (m := 0) (lv := lvRs) (fun i => stRs s i (cuN s 32) i) (fun i => hpRs i (wfun (((cutB s 32).take i).map whS)) (cuN s 32) (cuG s 32)) (fun i => ((cutB s 32).take i).all okRS = true) (cuN s 32) (fun _ => noLam) (lv3_ris rfl rfl rfl) (Nat.le_refl _) rfl fun K Q hk i hi him => ⟨noLam_ok _ _ _, ?_⟩
  have hn := cuN_le s 32
  have hl : (cutB s 32).length = cuN s 32 := rfl
  rw [rndRs]
  refine good_cond (fun c1 => ?_) fun c1 => ?_
  · have c1 := of_decide_eq_true c1
    have hlt : i < cuN s 32 := by omega
    have hw := cuG_size s 32 i
    have hr := cuG_size (cuG s 32 i) 58 1
    have ew : IntKind.wrap IntKind.i64 ((i : Int) + 1) = ((i + 1 : Nat) : Int) := by rw [wr_in (by omega)]; omega
    have htk := take_snocS (cutB s 32) i hlt
    rw [Int.toNat_natCast, ew]
    have bad : okRS (cuG s 32 i) = false → (K .ret (mkT 0 82 [(2, .own 0 0), (3, .v (.bool false))]) [.row true 0 9 (fun _ => []) 60]).ok Q := fun h => by
      have : reG s = false := by
        rw [reG, List.all_eq_false]
        refine ⟨cuG s 32 i, ?_, by simp [h]⟩
        unfold cuG tAt
        rw [List.getD_eq_getElem?_getD, List.getElem?_eq_getElem hlt]
        exact List.getElem_mem hlt
      rw [this] at hk
      exact hk
    refine good_needs (by simp only [ob_cons, ob_nil, and_true, decide_eq_true_eq, Nat.blt_eq]; omega) (good_cond (fun c2 => ?_) fun c2 => ?_)
    · have c2' : cuN (cuG s 32 i) 58 ≠ 2 := fun e => by rw [e] at c2; cases c2
      refine good_out ⟨_, Hsim.refl _, bad ?_⟩
      rw [okRS, show Nat.beq (cuN (cuG s 32 i) 58) 2 = false from by rw [Bool.eq_false_iff]; exact fun e => c2' (Nat.eq_of_beq_eq_true e)]
      rfl
    · have c2' : cuN (cuG s 32 i) 58 = 2 := by
        have : ((cuN (cuG s 32 i) 58 : Int)) = 2 := by simpa using c2
        omega
      refine good_needs (by simp only [ob_cons, ob_nil, and_true, decide_eq_true_eq, Nat.blt_eq]; omega) (good_cond (fun c3 => ?_) fun c3 => ?_)
      · have c3' : cuN (cuG (cuG s 32 i) 58 1) 44 ≠ 8 := fun e => by rw [e] at c3; cases c3
        refine good_out ⟨_, Hsim.refl _, bad ?_⟩
        rw [okRS, show Nat.beq (cuN (cuG (cuG s 32 i) 58 1) 44) 8 = false from by rw [Bool.eq_false_iff]; exact fun e => c3' (Nat.eq_of_beq_eq_true e), Bool.and_false]
      · have c3' : cuN (cuG (cuG s 32 i) 58 1) 44 = 8 := by
          have : ((cuN (cuG (cuG s 32 i) 58 1) 44 : Int)) = 8 := by simpa using c3
          omega
        have good : okRS (cuG s 32 i) = true := by rw [okRS, c2', c3']; rfl
        refine good_needs (by simp only [ob_cons, ob_nil, and_true, decide_eq_true_eq, Nat.ble_eq]; omega) (good_out ⟨i + 1, ⟨rfl, hlt, ?_⟩, rfl, ?_⟩)
        · rw [htk, List.all_append, hi, Bool.true_and]
          show (List.all [cuG s 32 i] okRS) = true
          simp [good]
        · show Hsim _ (hpRs (i + 1) (wfun (((cutB s 32).take (i + 1)).map whS)) (cuN s 32) (cuG s 32))
          rw [htk, List.map_append]
          exact .cons (ABeq.row fun q hq => ch_row _ (whS (cuG s 32 i)) i (by rw [List.length_map, List.length_take]; omega) q hq) (.cons (ABeq.refl _) .nil)
  · have c1 := of_decide_eq_false c1
    have e : i = cuN s 32 := by omega
    subst e
    refine good_out ⟨_, Hsim.refl _, ?_⟩
    rw [if_pos rfl]
    have ht : (cutB s 32).take (cuN s 32) = cutB s 32 := List.take_length
    rw [ht] at hi ⊢
    rw [show reG s = true from hi] at hk
    exact hk

def FreO (yes : ByteArray → Bool) (tl : ByteArray → List Wh) : List SA → Option FR
  | [.v (.string s)] => some { val := .tup [.own 0 (tl s).length, .v (.bool (yes s))], new := [.row true (tl s).length 9 (row9 (wfun (tl s))) 60] }
  | _ => none
theorem ok_reS : SpecOk Tryz.prog 23 (specR [.val] (FreO yRS tRS)) := by
  refine specR_hr gmRs_ok Tryz.func23 rfl fun sas fr hF ho => ?_
  unfold FreO at hF
  split at hF
  · rename_i s
    cases hF
    have no : yRS s = false → GivR (abP [Md.val] [SA.v (.string s)] []) { val := .tup [.own 0 (tRS s).length, .v (.bool (yRS s))], new := [.row true (tRS s).length 9 (row9 (wfun (tRS s))) 60] } .ret [.tup [.own 0 0, .v (.bool false)]] [.row true 0 9 (fun _ => []) 60] := fun h => by
      have e : tRS s = [] := by rw [tRS, h]; rfl
      rw [e, h]
      exact ⟨_, rfl, rfl, .cons (ABeq.row fun j hj => absurd hj (Nat.not_lt_zero _)) .nil⟩
    by_cases h1 : s.size ≤ 1500
    · have hn := cuN_le s 32
      have hl : (reS s).length = cuN s 32 := by rw [reS, List.length_map]; rfl
      refine ⟨[], lamRs s (cuN s 32) (cuG s 32) (reG s) (cuN s 32) (wfun (reS s)), 200, Hsim.refl _, lam1 (by kernel_rfl) (sumRs s h1), ?_⟩
      show GoodQ (execF Tryz.prog (gmRs cuG cuN numI txV yI) (lamRs s (cuN s 32) (cuG s 32) (reG s) (cuN s 32) (wfun (reS s))) 200 Tryz.f23 [.v (.string s)] [] (packK 0)) _
      rw [treeRs, show decide ((s.size : Int) > 1500) = false from decide_eq_false (by omega), show (ByteArray.mk (Array.mk [45])) = dash from rfl]
      have e0 : listW (itW (row9 (wfun (reS s)))) (cuN s 32) = reS s := listW_self _ _ hl
      rw [e0]
      refine good_cond (fun c => by cases c) fun _ => good_cond (fun c => good_out ?_) fun c => good_needs ?_ (good_cond (fun c2 => good_needs ?_ (good_cond (fun c3 => good_out (no ?_)) fun c3 => good_cond (fun c4 => good_out (no ?_)) fun c4 => good_out ?_)) fun c2 => good_out (no ?_))
      · have hy : yRS s = true := by rw [yRS, c, decide_eq_true h1]; rfl
        have e : tRS s = [] := by rw [tRS, c, Bool.not_true, Bool.and_false]; rfl
        rw [e, hy]
        exact ⟨_, rfl, rfl, .cons (ABeq.row fun j hj => absurd hj (Nat.not_lt_zero _)) .nil⟩
      · simp only [ob_cons, ob_nil, and_true, Nat.blt_eq]
        refine ⟨by omega, chk_of ⟨rfl, .cons (ABeq.row fun j hj => absurd hj (Nat.not_lt_zero _)) (.cons (ABeq.refl _) .nil)⟩⟩
      · simp only [ob_cons, ob_nil, and_true, Nat.ble_eq, decide_eq_true_eq, allW_row, true_and]
        omega
      · rw [Bool.not_eq_true'] at c3
        rw [yRS, c, c3]
        simp
      · rw [Bool.not_eq_true'] at c4
        rw [yRS, c, c4]
        simp
      · rw [Bool.not_eq_false'] at c3 c4
        have hy : yRS s = true := by rw [yRS, c, c2, c3, c4, decide_eq_true h1]; rfl
        have e : tRS s = reS s := by rw [tRS, hy, c]; rfl
        rw [e, hy, hl]
        exact ⟨_, rfl, rfl, Hsim.refl _⟩
      · rw [yRS, c, c2]
        simp
    · refine ⟨[], oneL 0 errS, 200, Hsim.refl _, lam1 (c := loopAt 0 Tryz.f23) (by kernel_rfl) errS_ok, ?_⟩
      show GoodQ (execF Tryz.prog (gmRs cuG cuN numI txV yI) (oneL 0 errS) 200 Tryz.f23 [.v (.string s)] [] (packK 0)) _
      rw [treeRsB, show decide ((s.size : Int) > 1500) = true from decide_eq_true (by omega)]
      exact good_out (no (by rw [yRS, decide_eq_false h1]; rfl))
  · cases hF

end Go.Proofs.YtddhmidegldhdaaGreatDoor

/- The point of a design at a turn, in whole numbers. No program, no conditions. -/
namespace Go.Proofs.YtddhmidegldhdaaGreatDoor
open Go.RowKit

theorem okD_all {L : List Wh} (h : okD L = true) {w : Wh} (hw : w ∈ L) : (-1000 ≤ w.s ∧ w.s ≤ 1000) ∧ bd8 1000000 w.r.f ∧ cyOk w.r = true := by
  rw [okD, Bool.and_eq_true, List.all_eq_true] at h
  have := h.2 w hw
  rw [Bool.and_eq_true] at this
  exact ⟨inR_iff.1 this.1, cyOk_bd this.2, this.2⟩
theorem okD_bd {L : List Wh} (h : okD L = true) : bdW 1000000 L := fun _ hw => (okD_all h hw).2.1
theorem tidy_okD {T : List Wh} (h : isTidy T) : okD T = true := h.2.2
end Go.Proofs.YtddhmidegldhdaaGreatDoor
