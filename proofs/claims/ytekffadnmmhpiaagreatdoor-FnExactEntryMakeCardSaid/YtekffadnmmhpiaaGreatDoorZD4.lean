/- The laws' helpers on lists of wheels: their table. Conditions: a list of wheels. -/
import Derived.Test.YtekffadnmmhpiaaGreatDoorZD0
import Derived.Test.YtekffadnmmhpiaaGreatDoorZD1
import Derived.Test.YtekffadnmmhpiaaGreatDoorZD2
import Derived.Test.YtekffadnmmhpiaaGreatDoorZD3
/- DesignText and EntryMake of both sides: trees. Conditions: a list of wheels. -/
namespace Go.Proofs.YtekffadnmmhpiaaGreatDoor
open Go.RowKit
set_option maxRecDepth 100000

def gmDtI (yI : List Wh → Bool) (tI : List Wh → List Wh) (tx : List Wh → ByteArray) (okd : List Wh → Bool) : Gam := ext (gmTdI yI tI) 23 (specR md_ws (FtxO tx okd))
def gmDtS (yI : List Wh → Bool) (tI : List Wh → List Wh) (tx : List Wh → ByteArray) (okd : List Wh → Bool) : Gam := ext (gmTdS yI tI) 17 (specR md_ws (FtxO tx okd))
theorem treeDtI_h (yI : List Wh → Bool) (tI : List Wh → List Wh) (tx : List Wh → ByteArray) (okd : List Wh → Bool) (m : Nat) (f : Nat → Nat → Int) (u0 : _) (hu0 : (listW (itW fun q ↦ row9 f ((0 : Nat) + q)) m) = u0) (u1 : _) (hu1 : (listW (itW fun q ↦ row9 (wfun (tI u0)) ((0 : Nat) + q)) (List.length (tI u0))) = u1) (u2 : _) (hu2 : [AB.row false m 9 (row9 f) 42] = u2) : execF Tryz.prog (gmDtI yI tI tx okd) noLam 100 Tryz.f13 [.sl 0 9 0 0 m none] (hpC m f) (packK 1)
    = needs [Nat.ble ((0 : Nat) + m) m, allW m fun q ↦ row9 f ((0 : Nat) + q), decide (m ≤ (274877906944 : Nat))] (bif !yI u0 then Res.out .ret [AV.tup [AV.v (.string (ByteArray.mk (Array.mk []))), AV.v (.bool false)]] u2 else needs [Nat.ble ((0 : Nat) + List.length (tI u0)) (List.length (tI u0)), allW (List.length (tI u0)) fun q ↦ row9 (wfun (tI u0)) ((0 : Nat) + q), okd u1] (Res.out .ret [AV.tup [AV.v (.string (tx u1)), AV.v (.bool true)]] u2)) := by
  subst hu2 hu1 hu0
  kernel_rfl
theorem treeDtI (yI : List Wh → Bool) (tI : List Wh → List Wh) (tx : List Wh → ByteArray) (okd : List Wh → Bool) (m : Nat) (f : Nat → Nat → Int) : type_of% (treeDtI_h yI tI tx okd m f _ rfl _ rfl _ rfl) := treeDtI_h yI tI tx okd m f _ rfl _ rfl _ rfl

theorem treeDtS_h (yI : List Wh → Bool) (tI : List Wh → List Wh) (tx : List Wh → ByteArray) (okd : List Wh → Bool) (m : Nat) (f : Nat → Nat → Int) (u0 : _) (hu0 : (listW (itW fun q ↦ row9 f ((0 : Nat) + q)) m) = u0) (u1 : _) (hu1 : (List.length (tI u0)) = u1) (u2 : _) (hu2 : [AB.row false m 9 (row9 f) 42] = u2) : execF Tryz.prog (gmDtS yI tI tx okd) noLam 100 Tryz.f10 [.sl 0 9 0 0 m none] (hpC m f) (packK 1)
    = needs [Nat.ble ((0 : Nat) + m) m, allW m fun q ↦ row9 f ((0 : Nat) + q), decide (m ≤ (274877906944 : Nat))] (bif !yI u0 then Res.out .ret [AV.tup [AV.v (.string (ByteArray.mk (Array.mk []))), AV.v (.bool false)]] u2 else needs [Nat.ble u1 u1, allW u1 (row9 (wfun (tI u0))), okd (listW (itW (row9 (wfun (tI u0)))) u1)] (Res.out .ret [AV.tup [AV.v (.string (tx (listW (itW (row9 (wfun (tI u0)))) u1))), AV.v (.bool true)]] u2)) := by
  subst hu2 hu1 hu0
  kernel_rfl
theorem treeDtS (yI : List Wh → Bool) (tI : List Wh → List Wh) (tx : List Wh → ByteArray) (okd : List Wh → Bool) (m : Nat) (f : Nat → Nat → Int) : type_of% (treeDtS_h yI tI tx okd m f _ rfl _ rfl _ rfl) := treeDtS_h yI tI tx okd m f _ rfl _ rfl _ rfl

def FdtO (tv : List Wh → ByteArray) (yt : List Wh → Bool) : List SA → Option FR
  | [.row m g] => some { val := .tup [.v (.string (tv (listW (itW g) m))), .v (.bool (yt (listW (itW g) m)))], obl := [allW m g, decide (m ≤ 2 ^ 38)] }
  | _ => none
def gmEmI (tv : List Wh → ByteArray) (yt : List Wh → Bool) (cv : List Wh → Int) (cy : List Wh → Bool) : Gam := ext (ext g0 13 (specR md_ws (FdtO tv yt))) 14 (specR md_ws (FckO cv cy))
def gmEmS (tv : List Wh → ByteArray) (yt : List Wh → Bool) (cv : List Wh → Int) (cy : List Wh → Bool) : Gam := ext (ext g0 10 (specR md_ws (FdtO tv yt))) 11 (specR md_ws (FckO cv cy))
theorem treeEmI_h (tv : List Wh → ByteArray) (yt : List Wh → Bool) (cv : List Wh → Int) (cy : List Wh → Bool) (m : Nat) (f : Nat → Nat → Int) (u0 : _) (hu0 : [AV.tup [AV.agg [AV.v (.string (ByteArray.mk (Array.mk []))), AV.v (.int .u32 0)], AV.v (.bool false)]] = u0) (u1 : _) (hu1 : (listW (itW fun q ↦ row9 f ((0 : Nat) + q)) m) = u1) (u2 : _) (hu2 : [AB.row false m 9 (row9 f) 42] = u2) : execF Tryz.prog (gmEmI tv yt cv cy) noLam 100 Tryz.f7 [.sl 0 9 0 0 m none] (hpC m f) (packK 1)
    = needs [Nat.ble ((0 : Nat) + m) m, allW m fun q ↦ row9 f ((0 : Nat) + q), decide (m ≤ (274877906944 : Nat)), Nat.ble ((0 : Nat) + m) m, allW m fun q ↦ row9 f ((0 : Nat) + q), decide (m ≤ (274877906944 : Nat))] (bif !yt u1 then Res.out .ret u0 u2 else bif !cy u1 then Res.out .ret u0 u2 else bif decide ((↑(ByteArray.size (tv u1)) : Int) > (1500 : Int)) then Res.out .ret u0 u2 else Res.out .ret [AV.tup [AV.agg [AV.v (.string (tv u1)), AV.v (.int .u32 (cv u1))], AV.v (.bool true)]] u2) := by
  subst hu2 hu1 hu0
  kernel_rfl
theorem treeEmI (tv : List Wh → ByteArray) (yt : List Wh → Bool) (cv : List Wh → Int) (cy : List Wh → Bool) (m : Nat) (f : Nat → Nat → Int) : type_of% (treeEmI_h tv yt cv cy m f _ rfl _ rfl _ rfl) := treeEmI_h tv yt cv cy m f _ rfl _ rfl _ rfl

theorem treeEmS_h (tv : List Wh → ByteArray) (yt : List Wh → Bool) (cv : List Wh → Int) (cy : List Wh → Bool) (m : Nat) (f : Nat → Nat → Int) (u0 : _) (hu0 : [AV.tup [AV.agg [AV.v (.string (ByteArray.mk (Array.mk []))), AV.v (.int .u32 0)], AV.v (.bool false)]] = u0) (u1 : _) (hu1 : (listW (itW fun q ↦ row9 f ((0 : Nat) + q)) m) = u1) (u2 : _) (hu2 : [AB.row false m 9 (row9 f) 42] = u2) : execF Tryz.prog (gmEmS tv yt cv cy) noLam 100 Tryz.f5 [.sl 0 9 0 0 m none] (hpC m f) (packK 1)
    = needs [Nat.ble ((0 : Nat) + m) m, allW m fun q ↦ row9 f ((0 : Nat) + q), decide (m ≤ (274877906944 : Nat)), Nat.ble ((0 : Nat) + m) m, allW m fun q ↦ row9 f ((0 : Nat) + q), decide (m ≤ (274877906944 : Nat))] (bif !yt u1 then Res.out .ret u0 u2 else bif !cy u1 then Res.out .ret u0 u2 else bif decide ((↑(ByteArray.size (tv u1)) : Int) > (1500 : Int)) then Res.out .ret u0 u2 else Res.out .ret [AV.tup [AV.agg [AV.v (.string (tv u1)), AV.v (.int .u32 (cv u1))], AV.v (.bool true)]] u2) := by
  subst hu2 hu1 hu0
  kernel_rfl
theorem treeEmS (tv : List Wh → ByteArray) (yt : List Wh → Bool) (cv : List Wh → Int) (cy : List Wh → Bool) (m : Nat) (f : Nat → Nat → Int) : type_of% (treeEmS_h tv yt cv cy m f _ rfl _ rfl _ rfl) := treeEmS_h tv yt cv cy m f _ rfl _ rfl _ rfl

end Go.Proofs.YtekffadnmmhpiaaGreatDoor

/- Plain algebra: how great products, mirrored points and parts can be. No program, no conditions. -/
namespace Go.Proofs.YtekffadnmmhpiaaGreatDoor
open Go.RowKit

def bd8 (B : Int) (f : Nat → Int) : Prop := ∀ k, k < 8 → -B ≤ f k ∧ f k ≤ B
end Go.Proofs.YtekffadnmmhpiaaGreatDoor

/- Plain lists of wheels: sums over the wheels that are linear in the radii do not change when the list is tidied; a tidy list is known by its sums. No program, no conditions. -/
namespace Go.Proofs.YtekffadnmmhpiaaGreatDoor
open Go.RowKit

def linS (φ : Int → (Nat → Int) → Int) : List Wh → Int
  | [] => 0
  | w :: l => φ w.s w.r.f + linS φ l
def Lin (φ : Int → (Nat → Int) → Int) : Prop := ∀ s f g, φ s (fun k => f k + g k) = φ s f + φ s g
theorem Lin.zero {φ : Int → (Nat → Int) → Int} (h : Lin φ) (s : Int) : φ s (fun _ => 0) = 0 := by
  have := h s (fun _ => 0) (fun _ => 0)
  have e : (fun k : Nat => (fun _ : Nat => (0 : Int)) k + (fun _ : Nat => (0 : Int)) k) = fun _ => 0 := by
    funext k
    rfl
  rw [e] at this
  omega
def bdW (B : Int) (L : List Wh) : Prop := ∀ w ∈ L, bd8 B w.r.f
theorem Cy.f_out (a : Cy) {k : Nat} (h : 8 ≤ k) : a.f k = 0 := by
  unfold Cy.f
  match k, h with
  | k + 8, _ => rfl
theorem cyAdd_f {a b : Cy} (ha : bd8 2000000000000 a.f) (hb : bd8 2000000000000 b.f) : (cyAdd a b).f = fun k => a.f k + b.f k := by
  funext k
  by_cases hk : k < 8
  · have e : (cyAdd a b).f k = W (a.f k + b.f k) := by
      rcases (by omega : k = 0 ∨ k = 1 ∨ k = 2 ∨ k = 3 ∨ k = 4 ∨ k = 5 ∨ k = 6 ∨ k = 7) with rfl | rfl | rfl | rfl | rfl | rfl | rfl | rfl <;> rfl
    have h1 := ha k hk
    have h2 := hb k hk
    rw [e, w64_in (by omega) (by omega)]
  · rw [Cy.f_out _ (by omega), Cy.f_out _ (by omega), Cy.f_out _ (by omega)]
    rfl
theorem cyOk_bd {a : Cy} (h : cyOk a = true) : bd8 1000000 a.f := fun k hk => by
  have := smallF_iff.1 h k hk
  omega
theorem bd8.mono {A B : Int} {f : Nat → Int} (h : bd8 A f) (hAB : A ≤ B) : bd8 B f := fun k hk => by
  have := h k hk
  omega
theorem bdW.mono {A B : Int} {L : List Wh} (h : bdW A L) (hAB : A ≤ B) : bdW B L := fun w hw => (h w hw).mono hAB

theorem linS_insS {φ : Int → (Nat → Int) → Int} (hφ : Lin φ) {w : Wh} (hw : bd8 2000000000000 w.r.f) : ∀ {l : List Wh}, bdW 2000000000000 l → linS φ (insS l w) = linS φ l + φ w.s w.r.f
  | [], _ => by
    show φ w.s w.r.f + 0 = 0 + φ w.s w.r.f
    omega
  | x :: l, h => by
    unfold insS
    split
    · show φ x.s x.r.f + linS φ (insS l w) = φ x.s x.r.f + linS φ l + φ w.s w.r.f
      rw [linS_insS hφ hw fun y hy => h y (by simp [hy])]
      omega
    · split
      · rename_i e
        show φ x.s (cyAdd x.r w.r).f + linS φ l = φ x.s x.r.f + linS φ l + φ w.s w.r.f
        rw [cyAdd_f (h x (by simp)) hw, hφ, e]
        omega
      · show φ w.s w.r.f + (φ x.s x.r.f + linS φ l) = φ x.s x.r.f + linS φ l + φ w.s w.r.f
        omega
def okW (L : List Wh) : Prop := ∀ w ∈ L, cyOk w.r = true
theorem okW.bd {L : List Wh} (h : okW L) : bdW 1000000 L := fun w hw => cyOk_bd (h w hw)
theorem insS_ok {l : List Wh} {w : Wh} (hr : rising l) (h : okW l) (ho : cyOk (sumR l w) = true) : okW (insS l w) := fun x hx => by
  have := (insS_perm hr).subset hx
  rcases List.mem_cons.1 this with rfl | hx
  · exact ho
  · exact h x (List.mem_filter.1 hx).1
theorem linS_run {φ : Int → (Nat → Int) → Int} (hφ : Lin φ) : ∀ {ws acc B : List Wh}, bdW 2000000000000 ws → rising acc → okW acc → runT insS acc ws = some B → linS φ B = linS φ acc + linS φ ws ∧ rising B ∧ okW B
  | [], acc, B, _, hr, ho, h => by
    simp only [runT, Option.some.injEq] at h
    subst h
    exact ⟨by show linS φ acc = linS φ acc + 0; omega, hr, ho⟩
  | w :: ws, acc, B, hb, hr, ho, h => by
    unfold runT at h
    split at h
    · rename_i hk
      obtain ⟨e, h1, h2⟩ := linS_run hφ (ws := ws) (fun x hx => hb x (by simp [hx])) (insS_rising w hr) (insS_ok hr ho hk) h
      refine ⟨?_, h1, h2⟩
      rw [e, linS_insS hφ (hb w (by simp)) (ho.bd.mono (by omega))]
      show _ = linS φ acc + (φ w.s w.r.f + linS φ ws)
      omega
    · cases h
theorem linS_nonZ {φ : Int → (Nat → Int) → Int} (hφ : Lin φ) : ∀ L : List Wh, linS φ (nonZ L) = linS φ L
  | [] => rfl
  | w :: l => by
    have ih := linS_nonZ hφ l
    unfold nonZ at ih ⊢
    by_cases h : w.r = cyZ
    · rw [List.filter_cons_of_neg (by simp [h]), ih]
      show linS φ l = φ w.s w.r.f + linS φ l
      rw [h, show cyZ.f = fun _ => 0 from funext fun k => by
        by_cases hk : k < 8
        · rcases (by omega : k = 0 ∨ k = 1 ∨ k = 2 ∨ k = 3 ∨ k = 4 ∨ k = 5 ∨ k = 6 ∨ k = 7) with rfl | rfl | rfl | rfl | rfl | rfl | rfl | rfl <;> rfl
        · exact Cy.f_out _ (by omega), hφ.zero]
      omega
    · rw [List.filter_cons_of_pos (by simp [h])]
      show φ w.s w.r.f + linS φ _ = φ w.s w.r.f + linS φ l
      rw [ih]
def isTidy (T : List Wh) : Prop := rising T ∧ (∀ w ∈ T, w.r ≠ cyZ) ∧ dValid T = true
theorem tidyS_lin {ws T : List Wh} (hb : bdW 2000000000000 ws) (h : tidyS ws = some T) : isTidy T ∧ ∀ φ, Lin φ → linS φ T = linS φ ws := by
  unfold tidyS at h
  split at h
  · rename_i l hl
    split at h
    · rename_i hv
      cases h
      obtain ⟨_, h1, _⟩ := linS_run (φ := fun _ _ => 0) (fun _ _ _ => rfl) hb List.Pairwise.nil (fun w hw => by simp at hw) hl
      refine ⟨⟨List.Pairwise.filter _ h1, fun w hw => by simpa using (List.mem_filter.1 hw).2, hv⟩, fun φ hφ => ?_⟩
      obtain ⟨e, _⟩ := linS_run hφ hb List.Pairwise.nil (fun w hw => by simp at hw) hl
      rw [linS_nonZ hφ, e]
      show 0 + _ = _
      omega
    · cases h
  · cases h
theorem okT_some {L : List Wh} (h : okT L = true) : tidyS L = some (tidyL L) := by
  unfold okT at h
  unfold tidyL
  cases e : tidyS L with
  | none => rw [e] at h; cases h
  | some T => rfl
theorem tidyL_lin {ws : List Wh} (hb : bdW 2000000000000 ws) (h : okT ws = true) : isTidy (tidyL ws) ∧ ∀ φ, Lin φ → linS φ (tidyL ws) = linS φ ws := tidyS_lin hb (okT_some h)

end Go.Proofs.YtekffadnmmhpiaaGreatDoor

/- DesignText and EntryMake of both sides: their words. Conditions: a list of wheels. -/
namespace Go.Proofs.YtekffadnmmhpiaaGreatDoor
open Go.RowKit
set_option maxRecDepth 100000

theorem tI_okD {L : List Wh} (h : yI L = true) : okD (tI L) = true := by
  have hy := h
  rw [yI, Bool.and_eq_true] at hy
  have e : tI L = tidyL L := by rw [tI, h]; rfl
  rw [e]
  exact (tidyL_lin ((show bdW 1000000 L from fun w hw => (okD_mem hy.1 hw).2).mono (by omega)) hy.2).1.2.2

def txV (L : List Wh) : ByteArray := bif yI L then textB (tI L) else ⟨#[]⟩
theorem gmDtI_ok : GamOk Tryz.prog (gmDtI yI tI textB okD) := ext_ok (ext_ok g0_ok ok_UTi) ok_tx
theorem gmDtS_ok : GamOk Tryz.prog (gmDtS yI tI textB okD) := ext_ok (ext_ok g0_ok ok_tiS) ok_sx
theorem ok_dtI : SpecOk Tryz.prog 13 (specR md_ws (FdtO txV yI)) := by
  refine specR_hr gmDtI_ok Tryz.func13 rfl fun sas fr hF ho => ?_
  unfold FdtO at hF
  split at hF
  · rename_i m g
    cases hF
    simp only [ob_cons] at ho
    obtain ⟨h1, h2, _⟩ := ho
    have hm := of_decide_eq_true h2
    have fin : ∀ v b, txV (listW (itW g) m) = v → yI (listW (itW g) m) = b → GoodQ (.out .ret [.tup [.v (.string v), .v (.bool b)]] (hpC m (itW g))) (GivR (abP md_ws [.row m g] []) { val := .tup [.v (.string (txV (listW (itW g) m))), .v (.bool (yI (listW (itW g) m)))], obl := [allW m g, decide (m ≤ 2 ^ 38)] }) := fun v b hv hb =>
      good_out ⟨_, rfl, by rw [hv, hb], .cons (ABeq.row fun j hj => (allW_get h1 j hj).symm) .nil⟩
    refine ⟨hpC m (itW g), noLam, 100, .cons (ABeq.row fun j hj => allW_get h1 j hj) .nil, fun _ _ => noLam_ok _ _ _, ?_⟩
    show GoodQ (execF Tryz.prog (gmDtI yI tI textB okD) noLam 100 Tryz.f13 [.sl 0 9 0 0 m none] (hpC m (itW g)) (packK 1)) _
    rw [treeDtI]
    simp only [row0, listW_itW]
    generalize listW (itW g) m = L at fin ⊢
    refine good_needs (by simp only [ob_cons, ob_nil, and_true, decide_eq_true_eq, Nat.ble_eq, allW_row, true_and]; omega) (good_cond (fun q => ?_) fun q => ?_)
    · rw [Bool.not_eq_true'] at q
      exact fin _ _ (by rw [txV, q]; rfl) q
    · rw [Bool.not_eq_false'] at q
      rw [listW_fun]
      refine good_needs (by simp only [ob_cons, ob_nil, and_true, Nat.ble_eq, allW_row, true_and]; exact ⟨by omega, tI_okD q⟩) (fin _ _ (by rw [txV, q]; rfl) q)
  · cases hF
theorem ok_dtS : SpecOk Tryz.prog 10 (specR md_ws (FdtO txV yI)) := by
  refine specR_hr gmDtS_ok Tryz.func10 rfl fun sas fr hF ho => ?_
  unfold FdtO at hF
  split at hF
  · rename_i m g
    cases hF
    simp only [ob_cons] at ho
    obtain ⟨h1, h2, _⟩ := ho
    have hm := of_decide_eq_true h2
    have fin : ∀ v b, txV (listW (itW g) m) = v → yI (listW (itW g) m) = b → GoodQ (.out .ret [.tup [.v (.string v), .v (.bool b)]] (hpC m (itW g))) (GivR (abP md_ws [.row m g] []) { val := .tup [.v (.string (txV (listW (itW g) m))), .v (.bool (yI (listW (itW g) m)))], obl := [allW m g, decide (m ≤ 2 ^ 38)] }) := fun v b hv hb =>
      good_out ⟨_, rfl, by rw [hv, hb], .cons (ABeq.row fun j hj => (allW_get h1 j hj).symm) .nil⟩
    refine ⟨hpC m (itW g), noLam, 100, .cons (ABeq.row fun j hj => allW_get h1 j hj) .nil, fun _ _ => noLam_ok _ _ _, ?_⟩
    show GoodQ (execF Tryz.prog (gmDtS yI tI textB okD) noLam 100 Tryz.f10 [.sl 0 9 0 0 m none] (hpC m (itW g)) (packK 1)) _
    rw [treeDtS]
    simp only [row0, listW_itW]
    generalize listW (itW g) m = L at fin ⊢
    refine good_needs (by simp only [ob_cons, ob_nil, and_true, decide_eq_true_eq, Nat.ble_eq, allW_row, true_and]; omega) (good_cond (fun q => ?_) fun q => ?_)
    · rw [Bool.not_eq_true'] at q
      exact fin _ _ (by rw [txV, q]; rfl) q
    · rw [Bool.not_eq_false'] at q
      rw [listW_fun]
      refine good_needs (by simp only [ob_cons, ob_nil, and_true, Nat.ble_eq, allW_row, true_and]; exact ⟨by omega, tI_okD q⟩) (fin _ _ (by rw [txV, q]; rfl) q)
  · cases hF

def emY (L : List Wh) : Bool := yI L && ckY L && decide ((txV L).size ≤ 1500)
def emV (L : List Wh) : ByteArray × Int := bif emY L then (txV L, ckV L) else (⟨#[]⟩, 0)
def FemO (v : List Wh → ByteArray × Int) (y : List Wh → Bool) : List SA → Option FR
  | [.row m g] => some { val := .tup [.agg [.v (.string (v (listW (itW g) m)).1), .v (.int .u32 (v (listW (itW g) m)).2)], .v (.bool (y (listW (itW g) m)))], obl := [allW m g, decide (m ≤ 2 ^ 38)] }
  | _ => none
theorem ok_emI : SpecOk Tryz.prog 7 (specR md_ws (FemO emV emY)) := by
  refine specR_hr (Γ := gmEmI txV yI ckV ckY) (ext_ok (ext_ok g0_ok ok_dtI) ok_ckI) Tryz.func7 rfl fun sas fr hF ho => ?_
  unfold FemO at hF
  split at hF
  · rename_i m g
    cases hF
    simp only [ob_cons] at ho
    obtain ⟨h1, h2, _⟩ := ho
    have hm := of_decide_eq_true h2
    have fin : ∀ v b, emV (listW (itW g) m) = v → emY (listW (itW g) m) = b → GoodQ (.out .ret [.tup [.agg [.v (.string v.1), .v (.int .u32 v.2)], .v (.bool b)]] (hpC m (itW g))) (GivR (abP md_ws [.row m g] []) { val := .tup [.agg [.v (.string (emV (listW (itW g) m)).1), .v (.int .u32 (emV (listW (itW g) m)).2)], .v (.bool (emY (listW (itW g) m)))], obl := [allW m g, decide (m ≤ 2 ^ 38)] }) := fun v b hv hb =>
      good_out ⟨_, rfl, by rw [hv, hb], .cons (ABeq.row fun j hj => (allW_get h1 j hj).symm) .nil⟩
    have no : emY (listW (itW g) m) = false → GoodQ (.out .ret [.tup [.agg [.v (.string (ByteArray.mk (Array.mk []))), .v (.int .u32 0)], .v (.bool false)]] (hpC m (itW g))) (GivR (abP md_ws [.row m g] []) { val := .tup [.agg [.v (.string (emV (listW (itW g) m)).1), .v (.int .u32 (emV (listW (itW g) m)).2)], .v (.bool (emY (listW (itW g) m)))], obl := [allW m g, decide (m ≤ 2 ^ 38)] }) := fun h => fin (⟨#[]⟩, 0) false (by rw [emV, h]; rfl) h
    refine ⟨hpC m (itW g), noLam, 100, .cons (ABeq.row fun j hj => allW_get h1 j hj) .nil, fun _ _ => noLam_ok _ _ _, ?_⟩
    show GoodQ (execF Tryz.prog (gmEmI txV yI ckV ckY) noLam 100 Tryz.f7 [.sl 0 9 0 0 m none] (hpC m (itW g)) (packK 1)) _
    rw [treeEmI]
    simp only [row0, listW_itW]
    generalize listW (itW g) m = L at fin no ⊢
    refine good_needs (by simp only [ob_cons, ob_nil, and_true, decide_eq_true_eq, Nat.ble_eq, allW_row, true_and]; omega) (good_cond (fun q => ?_) fun q => good_cond (fun q2 => ?_) fun q2 => good_cond (fun q3 => ?_) fun q3 => ?_)
    · rw [Bool.not_eq_true'] at q
      exact no (by rw [emY, q]; rfl)
    · rw [Bool.not_eq_true'] at q2
      exact no (by rw [emY, q2]; simp)
    · have q3 := of_decide_eq_true q3
      exact no (by rw [emY, decide_eq_false (by omega)]; simp)
    · rw [Bool.not_eq_false'] at q q2
      have q3 := of_decide_eq_false q3
      have h : emY L = true := by rw [emY, q, q2, decide_eq_true (by omega)]; rfl
      exact fin (txV L, ckV L) true (by rw [emV, h]; rfl) h
  · cases hF
theorem ok_emS : SpecOk Tryz.prog 5 (specR md_ws (FemO emV emY)) := by
  refine specR_hr (Γ := gmEmS txV yI ckV ckY) (ext_ok (ext_ok g0_ok ok_dtS) ok_ckS) Tryz.func5 rfl fun sas fr hF ho => ?_
  unfold FemO at hF
  split at hF
  · rename_i m g
    cases hF
    simp only [ob_cons] at ho
    obtain ⟨h1, h2, _⟩ := ho
    have hm := of_decide_eq_true h2
    have fin : ∀ v b, emV (listW (itW g) m) = v → emY (listW (itW g) m) = b → GoodQ (.out .ret [.tup [.agg [.v (.string v.1), .v (.int .u32 v.2)], .v (.bool b)]] (hpC m (itW g))) (GivR (abP md_ws [.row m g] []) { val := .tup [.agg [.v (.string (emV (listW (itW g) m)).1), .v (.int .u32 (emV (listW (itW g) m)).2)], .v (.bool (emY (listW (itW g) m)))], obl := [allW m g, decide (m ≤ 2 ^ 38)] }) := fun v b hv hb =>
      good_out ⟨_, rfl, by rw [hv, hb], .cons (ABeq.row fun j hj => (allW_get h1 j hj).symm) .nil⟩
    have no : emY (listW (itW g) m) = false → GoodQ (.out .ret [.tup [.agg [.v (.string (ByteArray.mk (Array.mk []))), .v (.int .u32 0)], .v (.bool false)]] (hpC m (itW g))) (GivR (abP md_ws [.row m g] []) { val := .tup [.agg [.v (.string (emV (listW (itW g) m)).1), .v (.int .u32 (emV (listW (itW g) m)).2)], .v (.bool (emY (listW (itW g) m)))], obl := [allW m g, decide (m ≤ 2 ^ 38)] }) := fun h => fin (⟨#[]⟩, 0) false (by rw [emV, h]; rfl) h
    refine ⟨hpC m (itW g), noLam, 100, .cons (ABeq.row fun j hj => allW_get h1 j hj) .nil, fun _ _ => noLam_ok _ _ _, ?_⟩
    show GoodQ (execF Tryz.prog (gmEmS txV yI ckV ckY) noLam 100 Tryz.f5 [.sl 0 9 0 0 m none] (hpC m (itW g)) (packK 1)) _
    rw [treeEmS]
    simp only [row0, listW_itW]
    generalize listW (itW g) m = L at fin no ⊢
    refine good_needs (by simp only [ob_cons, ob_nil, and_true, decide_eq_true_eq, Nat.ble_eq, allW_row, true_and]; omega) (good_cond (fun q => ?_) fun q => good_cond (fun q2 => ?_) fun q2 => good_cond (fun q3 => ?_) fun q3 => ?_)
    · rw [Bool.not_eq_true'] at q
      exact no (by rw [emY, q]; rfl)
    · rw [Bool.not_eq_true'] at q2
      exact no (by rw [emY, q2]; simp)
    · have q3 := of_decide_eq_true q3
      exact no (by rw [emY, decide_eq_false (by omega)]; simp)
    · rw [Bool.not_eq_false'] at q q2
      have q3 := of_decide_eq_false q3
      have h : emY L = true := by rw [emY, q, q2, decide_eq_true (by omega)]; rfl
      exact fin (txV L, ckV L) true (by rw [emV, h]; rfl) h
  · cases hF
end Go.Proofs.YtekffadnmmhpiaaGreatDoor

/- The laws' helpers on lists of wheels: trees. Conditions: a list of wheels. -/
namespace Go.Proofs.YtekffadnmmhpiaaGreatDoor
open Go.RowKit
set_option maxRecDepth 100000

abbrev lvTW : Ex → List Nat := lv3 [0, 3, 4] [3] [2]
abbrev hpTW (m : Nat) (f : Nat → Nat → Int) (t : TypeId) (h : Nat → Nat → Int) : List AB := [.row false m 9 (row9 f) t, .row true m 9 (row9 h) 42]
theorem rndTW_h (m : Nat) (f : Nat → Nat → Int) (t : TypeId) (h : Nat → Nat → Int) (i : Nat) (u2 : _) (hu2 : (↑i : Int) = u2) (u3 : _) (hu3 : (0 : Nat) = u3) (u0 : _) (hu0 : (u3 + Int.toNat u2) = u0) (u1 : _) (hu1 : (Int.toNat u2) = u1) : execC Tryz.prog g0 100 noLam (loopAt 0 Tryz.f6) (mkT 0 23 ((lvTW .normal).zip [.sl 0 9 0 0 m none, .own 1 m, .v (i64 i)])) (hpTW m f t h) (leafV 23 lvTW 1)
    = bif decide (u2 < (m : Int)) then needs [decide (u2 < (m : Int)), decide (u3 + Int.toNat u2 < m), decide (u2 < (m : Int)), decide (Int.toNat u2 < m)] (Res.out .normal [AV.sl u3 (9 : Nat) u3 u3 m none, AV.own 1 m, AV.v (.int .i64 (IntKind.wrap .i64 (u2 + (1 : Int))))] [AB.row false m 9 (row9 f) t, AB.row true m 9 (fun q ↦ [Value.int .i64 (bif Nat.beq q u1 then f u0 u3 else h q u3), Value.int .i64 (bif Nat.beq q u1 then f u0 (1 : Nat) else h q (1 : Nat)), Value.int .i64 (bif Nat.beq q u1 then f u0 (2 : Nat) else h q (2 : Nat)), Value.int .i64 (bif Nat.beq q u1 then f u0 (3 : Nat) else h q (3 : Nat)), Value.int .i64 (bif Nat.beq q u1 then f u0 (4 : Nat) else h q (4 : Nat)), Value.int .i64 (bif Nat.beq q u1 then f u0 (5 : Nat) else h q (5 : Nat)), Value.int .i64 (bif Nat.beq q u1 then f u0 (6 : Nat) else h q (6 : Nat)), Value.int .i64 (bif Nat.beq q u1 then f u0 (7 : Nat) else h q (7 : Nat)), Value.int .i64 (bif Nat.beq q u1 then f u0 (8 : Nat) else h q (8 : Nat))]) 42]) else Res.out (Ex.exit u3) [AV.own 1 m] [AB.row false m 9 (row9 f) t, AB.row true m 9 (row9 h) 42] := by
  subst hu1 hu0 hu3 hu2
  kernel_rfl
theorem rndTW (m : Nat) (f : Nat → Nat → Int) (t : TypeId) (h : Nat → Nat → Int) (i : Nat) : type_of% (rndTW_h m f t h i _ rfl _ rfl _ rfl _ rfl) := rndTW_h m f t h i _ rfl _ rfl _ rfl _ rfl

noncomputable abbrev lamTW (m : Nat) (f : Nat → Nat → Int) (t : TypeId) : Nat → Option Sum := oneL 0 (atS 23 (lvTW .normal) 1 [.sl 0 9 0 0 m none, .own 1 m, .v (i64 (0 : Nat))] (hpTW m f t (fun j k => bif Nat.blt j 0 then f j k else 0)) (fun K => K .normal (mkT 0 23 [(3, .own 1 m)]) (hpTW m f t f)))
theorem treeTW_h (m : Nat) (f : Nat → Nat → Int) (t : TypeId) (u0 : _) (hu0 : (Value.int .i64 0) = u0) (u1 : _) (hu1 : (AV.sl 0 (9 : Nat) (0 : Nat) (0 : Nat) m none) = u1) : execF Tryz.prog g0 (lamTW m f t) 100 Tryz.f6 [.sl 0 9 0 0 m none] [.row false m 9 (row9 f) t] (packK 1)
    = needs [decide ((m : Int) ≤ (m : Int)), decide ((m : Int) ≤ (1099511627776 : Int)), chk ([u1, AV.own 1 (Int.toNat (m : Int)), AV.v (.int .i64 0)] = [u1, AV.own 1 m, AV.v (.int .i64 0)] ∧ Hsim [AB.row false m 9 (row9 f) t, AB.row true (Int.toNat (m : Int)) (9 : Nat) (fun _ ↦ [u0, u0, u0, u0, u0, u0, u0, u0, u0]) (42 : Nat)] (hpTW m f t fun j k ↦ bif Nat.blt j (0 : Nat) then f j k else (0 : Int)))] (Res.out .ret [AV.own 1 m] [AB.row false m 9 (row9 f) t, AB.row true m 9 (row9 f) 42]) := by
  subst hu1 hu0
  kernel_rfl
theorem treeTW (m : Nat) (f : Nat → Nat → Int) (t : TypeId) : type_of% (treeTW_h m f t _ rfl _ rfl) := treeTW_h m f t _ rfl _ rfl

theorem treeQW_h (a b : Nat → Int) (u0 : _) (hu0 : [AV.v (.bool false)] = u0) : execF Tryz.prog g0 noLam 100 Tryz.f15 ([Value.agg ⟨[i64 (a 0), i64 (a 1), i64 (a 2), i64 (a 3), i64 (a 4), i64 (a 5), i64 (a 6), i64 (a 7), i64 (a 8)]⟩, Value.agg ⟨[i64 (b 0), i64 (b 1), i64 (b 2), i64 (b 3), i64 (b 4), i64 (b 5), i64 (b 6), i64 (b 7), i64 (b 8)]⟩].map .v) [] valK
    = bif a (0 : Nat) != b (0 : Nat) then Res.out .ret u0 [] else bif a (1 : Nat) != b (1 : Nat) then Res.out .ret u0 [] else bif a (2 : Nat) != b (2 : Nat) then Res.out .ret u0 [] else bif a (3 : Nat) != b (3 : Nat) then Res.out .ret u0 [] else bif a (4 : Nat) != b (4 : Nat) then Res.out .ret u0 [] else bif a (5 : Nat) != b (5 : Nat) then Res.out .ret u0 [] else bif a (6 : Nat) != b (6 : Nat) then Res.out .ret u0 [] else bif a (7 : Nat) != b (7 : Nat) then Res.out .ret u0 [] else bif a (8 : Nat) != b (8 : Nat) then Res.out .ret u0 [] else Res.out .ret [AV.v (.bool true)] [] := by
  subst hu0
  kernel_rfl
theorem treeQW (a b : Nat → Int) : type_of% (treeQW_h a b _ rfl) := treeQW_h a b _ rfl

def f_eqW : List Value → Option (Value × List Bool)
  | [.agg ⟨[.int .i64 a0, .int .i64 a1, .int .i64 a2, .int .i64 a3, .int .i64 a4, .int .i64 a5, .int .i64 a6, .int .i64 a7, .int .i64 a8]⟩, .agg ⟨[.int .i64 b0, .int .i64 b1, .int .i64 b2, .int .i64 b3, .int .i64 b4, .int .i64 b5, .int .i64 b6, .int .i64 b7, .int .i64 b8]⟩] => some (.bool true, [decide (a0 = b0), decide (a1 = b1), decide (a2 = b2), decide (a3 = b3), decide (a4 = b4), decide (a5 = b5), decide (a6 = b6), decide (a7 = b7), decide (a8 = b8)])
  | _ => none
def gmQ : Gam := ext g0 15 (specV f_eqW)
abbrev lvQW : Ex → List Nat := lv3 [0, 1, 5] [] [4]
theorem rndQW_h (m : Nat) (f h : Nat → Nat → Int) (i : Nat) (u1 : _) (hu1 : [AB.row false m 9 (row9 f) 42, AB.row false m 9 (row9 h) 42] = u1) (u2 : _) (hu2 : (0 : Nat) = u2) (u3 : _) (hu3 : (↑i : Int) = u3) (u0 : _) (hu0 : (u2 + Int.toNat u3) = u0) : execC Tryz.prog gmQ 100 noLam (loopAt 0 Tryz.f9) (mkT 0 27 ((lvQW .normal).zip [.sl 0 9 0 0 m none, .sl 1 9 0 0 m none, .v (i64 i)])) (hpQW m f h) (leafV 27 lvQW 2)
    = bif decide (u3 < (m : Int)) then needs [decide (u3 < (m : Int)), decide (u2 + Int.toNat u3 < m), decide (u3 < (m : Int)), decide (u2 + Int.toNat u3 < m), decide (f u0 u2 = h u0 u2), decide (f u0 (1 : Nat) = h u0 (1 : Nat)), decide (f u0 (2 : Nat) = h u0 (2 : Nat)), decide (f u0 (3 : Nat) = h u0 (3 : Nat)), decide (f u0 (4 : Nat) = h u0 (4 : Nat)), decide (f u0 (5 : Nat) = h u0 (5 : Nat)), decide (f u0 (6 : Nat) = h u0 (6 : Nat)), decide (f u0 (7 : Nat) = h u0 (7 : Nat)), decide (f u0 (8 : Nat) = h u0 (8 : Nat))] (Res.out .normal [AV.sl u2 (9 : Nat) u2 u2 m none, AV.sl 1 (9 : Nat) u2 u2 m none, AV.v (.int .i64 (IntKind.wrap .i64 (u3 + (1 : Int))))] u1) else Res.out (Ex.exit u2) [] u1 := by
  subst hu0 hu3 hu2 hu1
  kernel_rfl
theorem rndQW (m : Nat) (f h : Nat → Nat → Int) (i : Nat) : type_of% (rndQW_h m f h i _ rfl _ rfl _ rfl _ rfl) := rndQW_h m f h i _ rfl _ rfl _ rfl _ rfl

noncomputable abbrev lamQW (m : Nat) (f h : Nat → Nat → Int) : Nat → Option Sum := oneL 0 (atS 27 (lvQW .normal) 2 [.sl 0 9 0 0 m none, .sl 1 9 0 0 m none, .v (i64 (0 : Nat))] (hpQW m f h) (fun K => K .normal (mkT 0 27 []) (hpQW m f h)))
theorem treeQS_h (m : Nat) (f h : Nat → Nat → Int) (u0 : _) (hu0 : [AB.row false m 9 (row9 f) 42, AB.row false m 9 (row9 h) 42] = u0) (u1 : _) (hu1 : [AV.sl 0 (9 : Nat) (0 : Nat) (0 : Nat) m none, AV.sl 1 (9 : Nat) (0 : Nat) (0 : Nat) m none, AV.v (.int .i64 0)] = u1) : execF Tryz.prog g0 (lamQW m f h) 100 Tryz.f9 [.sl 0 9 0 0 m none, .sl 1 9 0 0 m none] (hpQW m f h) (packK 2)
    = bif (m : Int) != (m : Int) then Res.out .ret [AV.v (.bool false)] u0 else needs [chk (u1 = u1 ∧ Hsim u0 (hpQW m f h))] (Res.out .ret [AV.v (.bool true)] u0) := by
  subst hu1 hu0
  kernel_rfl
theorem treeQS (m : Nat) (f h : Nat → Nat → Int) : type_of% (treeQS_h m f h _ rfl _ rfl) := treeQS_h m f h _ rfl _ rfl

end Go.Proofs.YtekffadnmmhpiaaGreatDoor

/- The laws' helpers on lists of wheels. Conditions: those that the words name. -/
namespace Go.Proofs.YtekffadnmmhpiaaGreatDoor
open Go.RowKit
set_option maxRecDepth 100000

theorem sumTW (m : Nat) (f : Nat → Nat → Int) (t : TypeId) (hm : m ≤ 2 ^ 40) :
    SumOk Tryz.prog 1 (.block 0 (.loop (loopAt 0 Tryz.f6))) (atS 23 (lvTW .normal) 1 [.sl 0 9 0 0 m none, .own 1 m, .v (i64 (0 : Nat))] (hpTW m f t (fun j k => bif Nat.blt j 0 then f j k else 0)) (fun K => K .normal (mkT 0 23 [(3, .own 1 m)]) (hpTW m f t f))) := by
  refine for_at g0_ok (n := 100) (m := 1) (lv := lvTW) (fun i => [.sl 0 9 0 0 m none, .own 1 m, .v (i64 (i : Nat))]) (fun i => hpTW m f t (fun j k => bif Nat.blt j i then f j k else 0)) (fun _ => True) m (fun _ => noLam) (lv3_ris rfl rfl rfl) (Nat.le_refl _) trivial fun K Q hk i hi him => ⟨noLam_ok _ _ _, ?_⟩
  rw [rndTW]
  refine good_cond (fun c1 => ?_) fun c1 => ?_
  · have c1 := of_decide_eq_true c1
    have c1' : i < m := by omega
    rw [Int.toNat_natCast, Nat.zero_add, wr_in (x := (i : Int) + 1) (by omega)]
    refine good_needs (by simp only [ob_cons, ob_nil, and_true, decide_eq_true_eq]; omega) (good_out ⟨i + 1, ⟨rfl, c1', trivial⟩, rfl, .cons (ABeq.refl _) (.cons (ABeq.row fun q hq => ?_) .nil)⟩)
    show row9 (fun q k => bif Nat.beq q i then f i k else bif Nat.blt q i then f q k else 0) q = _
    refine row9_congr fun k hk9 => ?_
    by_cases e : q = i
    · rw [e, show Nat.beq i i = true from Nat.beq_refl i, blt_yes (Nat.lt_succ_self i), cond_true, cond_true]
    · rw [beq_ne e, cond_false]
      by_cases h : q < i
      · rw [blt_yes h, blt_yes (by omega : q < i + 1)]
      · have b1 : Nat.blt q i = false := by
          cases hb : Nat.blt q i with
          | false => rfl
          | true => rw [Nat.blt_eq] at hb; omega
        have b2 : Nat.blt q (i + 1) = false := by
          cases hb : Nat.blt q (i + 1) with
          | false => rfl
          | true => rw [Nat.blt_eq] at hb; omega
        rw [b1, b2]
  · have c1 := of_decide_eq_false c1
    have : i = m := by omega
    subst this
    refine good_out ⟨hpTW i f t f, .cons (ABeq.refl _) (.cons (ABeq.row fun q hq => ?_) .nil), ?_⟩
    · exact row9_congr fun k _ => by rw [blt_yes hq]; rfl
    · rw [if_pos rfl]
      exact hk
def F_toW : List SA → Option FR
  | [.row m g] => some { val := .own 0 m, new := [.row true m 9 (row9 (itW g)) 42], obl := [allW m g, decide (m ≤ 2 ^ 39)] }
  | _ => none
def md_toW : List Md := [.rd 9 46]
theorem ok_toW : SpecOk Tryz.prog 6 (specR md_toW F_toW) := by
  refine specR_hr g0_ok Tryz.func6 rfl fun sas fr hF ho => ?_
  unfold F_toW at hF
  split at hF
  · rename_i m g
    cases hF
    simp only [ob_cons] at ho
    obtain ⟨h1, h2, _⟩ := ho
    have hm := of_decide_eq_true h2
    refine ⟨[.row false m 9 (row9 (itW g)) 46], lamTW m (itW g) 46, 100, .cons (ABeq.row fun j hj => allW_get h1 j hj) .nil, lam1 (by kernel_rfl) (sumTW m (itW g) 46 (by omega)), ?_⟩
    show GoodQ (execF Tryz.prog g0 (lamTW m (itW g) 46) 100 Tryz.f6 [.sl 0 9 0 0 m none] [.row false m 9 (row9 (itW g)) 46] (packK 1)) _
    rw [treeTW]
    simp only [Int.toNat_natCast]
    refine good_needs ?_ (good_out ⟨_, rfl, rfl, .cons (ABeq.row fun j hj => (allW_get h1 j hj).symm) (Hsim.refl _)⟩)
    simp only [ob_cons, ob_nil, and_true]
    exact ⟨by simp, decide_eq_true (by omega), chk_of ⟨trivial, .cons (ABeq.refl _) (.cons (ABeq.row fun j hj => rfl) .nil)⟩⟩
  · cases hF

theorem ok_eqW : SpecOk Tryz.prog 15 (specV f_eqW) := by
  refine mkV (n := 100) g0_ok Tryz.func15 rfl fun vs v ob hF ho => ?_
  unfold f_eqW at hF
  split at hF
  · rename_i a0 a1 a2 a3 a4 a5 a6 a7 a8 b0 b1 b2 b3 b4 b5 b6 b7 b8
    cases hF
    simp only [ob_cons, decide_eq_true_eq] at ho
    obtain ⟨rfl, rfl, rfl, rfl, rfl, rfl, rfl, rfl, rfl, _⟩ := ho
    show Good (execF Tryz.prog g0 noLam 100 Tryz.f15 ([Value.agg ⟨[i64 (v9 a0 a1 a2 a3 a4 a5 a6 a7 a8 0), i64 (v9 a0 a1 a2 a3 a4 a5 a6 a7 a8 1), i64 (v9 a0 a1 a2 a3 a4 a5 a6 a7 a8 2), i64 (v9 a0 a1 a2 a3 a4 a5 a6 a7 a8 3), i64 (v9 a0 a1 a2 a3 a4 a5 a6 a7 a8 4), i64 (v9 a0 a1 a2 a3 a4 a5 a6 a7 a8 5), i64 (v9 a0 a1 a2 a3 a4 a5 a6 a7 a8 6), i64 (v9 a0 a1 a2 a3 a4 a5 a6 a7 a8 7), i64 (v9 a0 a1 a2 a3 a4 a5 a6 a7 a8 8)]⟩, Value.agg ⟨[i64 (v9 a0 a1 a2 a3 a4 a5 a6 a7 a8 0), i64 (v9 a0 a1 a2 a3 a4 a5 a6 a7 a8 1), i64 (v9 a0 a1 a2 a3 a4 a5 a6 a7 a8 2), i64 (v9 a0 a1 a2 a3 a4 a5 a6 a7 a8 3), i64 (v9 a0 a1 a2 a3 a4 a5 a6 a7 a8 4), i64 (v9 a0 a1 a2 a3 a4 a5 a6 a7 a8 5), i64 (v9 a0 a1 a2 a3 a4 a5 a6 a7 a8 6), i64 (v9 a0 a1 a2 a3 a4 a5 a6 a7 a8 7), i64 (v9 a0 a1 a2 a3 a4 a5 a6 a7 a8 8)]⟩].map .v) [] valK) _
    rw [treeQW]
    simp only [bne_self_eq_false, cond_false]
    exact one rfl
  · cases hF
theorem gmQ_ok : GamOk Tryz.prog gmQ := ext_ok g0_ok ok_eqW

def sameP (m : Nat) (f h : Nat → Nat → Int) : Prop := ∀ j, j < m → ∀ k, k < 9 → f j k = h j k
noncomputable def sameW (m : Nat) (f h : Nat → Nat → Int) : Bool := chk (sameP m f h)
theorem sumQW (m : Nat) (f h : Nat → Nat → Int) (hm : m ≤ 2 ^ 40) (hs : sameP m f h) :
    SumOk Tryz.prog 2 (.block 0 (.loop (loopAt 0 Tryz.f9))) (atS 27 (lvQW .normal) 2 [.sl 0 9 0 0 m none, .sl 1 9 0 0 m none, .v (i64 (0 : Nat))] (hpQW m f h) (fun K => K .normal (mkT 0 27 []) (hpQW m f h))) := by
  refine for_at gmQ_ok (n := 100) (m := 2) (lv := lvQW) (fun i => [.sl 0 9 0 0 m none, .sl 1 9 0 0 m none, .v (i64 (i : Nat))]) (fun _ => hpQW m f h) (fun _ => True) m (fun _ => noLam) (lv3_ris rfl rfl rfl) (Nat.le_refl _) trivial fun K Q hk i hi him => ⟨noLam_ok _ _ _, ?_⟩
  rw [rndQW]
  refine good_cond (fun c1 => ?_) fun c1 => ?_
  · have c1 := of_decide_eq_true c1
    have c1' : i < m := by omega
    rw [Int.toNat_natCast, Nat.zero_add, wr_in (x := (i : Int) + 1) (by omega)]
    have e := hs i c1'
    refine good_needs ?_ (good_out ⟨i + 1, ⟨rfl, c1', trivial⟩, rfl, Hsim.refl _⟩)
    simp only [ob_cons, ob_nil, and_true, decide_eq_true_eq]
    exact ⟨by omega, by omega, by omega, by omega, e 0 (by omega), e 1 (by omega), e 2 (by omega), e 3 (by omega), e 4 (by omega), e 5 (by omega), e 6 (by omega), e 7 (by omega), e 8 (by omega)⟩
  · have c1 := of_decide_eq_false c1
    have : i = m := by omega
    subst this
    refine good_out ⟨_, Hsim.refl _, ?_⟩
    rw [if_pos rfl]
    exact hk
noncomputable def F_eqWS : List SA → Option FR
  | [.row m g, .row m2 g2] => some { val := .v (.bool true), obl := [Nat.beq m2 m, allW m g, allW m g2, sameW m (itW g) (itW g2), decide (m ≤ 2 ^ 40)] }
  | _ => none
theorem ok_eqWS : SpecOk Tryz.prog 9 (specR md_eqWS F_eqWS) := by
  refine specR_hr g0_ok Tryz.func9 rfl fun sas fr hF ho => ?_
  unfold F_eqWS at hF
  split at hF
  · rename_i m g m2 g2
    cases hF
    simp only [ob_cons] at ho
    obtain ⟨h0, h1, h2, h3, h4, _⟩ := ho
    have h0 := Nat.eq_of_beq_eq_true h0
    subst h0
    have hm := of_decide_eq_true h4
    refine ⟨hpQW m2 (itW g) (itW g2), lamQW m2 (itW g) (itW g2), 100, .cons (ABeq.row fun j hj => allW_get h1 j hj) (.cons (ABeq.row fun j hj => allW_get h2 j hj) .nil), lam1 (by kernel_rfl) (sumQW m2 (itW g) (itW g2) hm (of_chk h3)), ?_⟩
    show GoodQ (execF Tryz.prog g0 (lamQW m2 (itW g) (itW g2)) 100 Tryz.f9 [.sl 0 9 0 0 m2 none, .sl 1 9 0 0 m2 none] (hpQW m2 (itW g) (itW g2)) (packK 2)) _
    rw [treeQS]
    exact good_false (by simp) (good_needs (by rw [ob_cons]; exact ⟨chk_of ⟨rfl, Hsim.refl _⟩, rfl⟩) (good_out ⟨_, rfl, rfl, .cons (ABeq.row fun j hj => (allW_get h1 j hj).symm) (.cons (ABeq.row fun j hj => (allW_get h2 j hj).symm) .nil)⟩))
  · cases hF

end Go.Proofs.YtekffadnmmhpiaaGreatDoor

/- The laws' helpers on lists of wheels: their table. Conditions: a list of wheels. -/
namespace Go.Proofs.YtekffadnmmhpiaaGreatDoor
open Go.RowKit

noncomputable def gmH : Gam := ext (ext g0 6 (specR md_toW F_toW)) 9 (specR md_eqWS F_eqWS)
theorem gmH_ok : GamOk Tryz.prog gmH := ext_ok (ext_ok g0_ok ok_toW) ok_eqWS
theorem sameW_self (m : Nat) (f : Nat → Nat → Int) : sameW m f f = true := chk_of fun _ _ _ _ => rfl
end Go.Proofs.YtekffadnmmhpiaaGreatDoor
