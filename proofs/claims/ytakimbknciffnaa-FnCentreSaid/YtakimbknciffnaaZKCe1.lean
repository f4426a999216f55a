/- The points of a row add up to the centre: FnCentre returns true, whatever the bytes are, and they read as before. No conditions. -/
import Derived.Test.YtakimbknciffnaaZD0
import Derived.Test.YtakimbknciffnaaZD1
import Derived.Test.YtakimbknciffnaaZD2
import Derived.Test.YtakimbknciffnaaZD3
import Derived.Test.YtakimbknciffnaaZD4
import Derived.Test.YtakimbknciffnaaZD5
import Derived.Test.YtakimbknciffnaaZD6
import Derived.Test.YtakimbknciffnaaZKCe0
/- FnCentre returns true, whatever the bytes are. Conditions: bytes. -/
namespace Go.Proofs.Ytakimbknciffnaa
open Go.RowKit
set_option maxRecDepth 100000

def badS (T : List Wh) (i : Nat) : Bool := decide (spH T i < -23) || decide (spH T i > 23)
def badA (L : List Wh) (t : Nat) : Bool := !(daOk (wfun L) t L.length && okAd (w8 (sumD L t)) (w8 (daV (wfun L) t L.length)))
theorem vAd_exact {a b : Nat → Int} (h : okAd a b = true) : ∀ k, k < 8 → vAd a b k = a k + b k := fun k hk => by
  rw [vAd, h, cond_true]
  rw [okAd, Bool.and_eq_true, Bool.and_eq_true] at h
  have ha := cyOk_bd h.1.1 k hk
  have hb := cyOk_bd h.1.2 k hk
  rw [cyOf_f8 _ k hk] at ha hb
  show W (a k + b k) = a k + b k
  exact w64_in (by omega) (by omega)
theorem cyC_eq {a b : Nat → Int} (h : ∀ k, k < 8 → a k = b k) : cyC a = cyC b := by
  show [AV.v (i64 (a 0)), .v (i64 (a 1)), .v (i64 (a 2)), .v (i64 (a 3)), .v (i64 (a 4)), .v (i64 (a 5)), .v (i64 (a 6)), .v (i64 (a 7))] = [AV.v (i64 (b 0)), .v (i64 (b 1)), .v (i64 (b 2)), .v (i64 (b 3)), .v (i64 (b 4)), .v (i64 (b 5)), .v (i64 (b 6)), .v (i64 (b 7))]
  rw [h 0 (by omega), h 1 (by omega), h 2 (by omega), h 3 (by omega), h 4 (by omega), h 5 (by omega), h 6 (by omega), h 7 (by omega)]
theorem sumC0 (m : Nat) (b : Nat → Int) (n : Nat) (f : Nat → Nat → Int) (a : Nat → Int) (T : List Wh) (hT : T.length ≤ 12) (p : Bool) :
    SumOk Try.prog 1 (.block 0 (.loop (loopAt 0 fCe))) (atS 118 (lvC0 .normal) 1 (stC0 n T.length p 0) (hpC0 m b n f a T.length (spH T)) (fun K => cond (noneTo (badS T) T.length) (K .normal (mkT 0 118 [(3, .own 1 n), (4, .ptr 2 0 0 0), (9, .v (.bool p))]) [.row false m 1 (rowB b) 5, .row true n 9 (row9 f) 58, .cells (cyC a) 35]) (K .ret (mkT 0 118 [(2, .v (.bool p))]) [.row false m 1 (rowB b) 5]))) := by
  refine for_at g0_ok (n := 100) (m := 1) (lv := lvC0) (fun i => stC0 n T.length p i) (fun _ => hpC0 m b n f a T.length (spH T)) (fun i => noneTo (badS T) i = true) T.length (fun _ => noLam) (lv3_ris rfl rfl rfl) (Nat.le_refl _) rfl fun K Q hk i hno hi => ⟨noLam_ok _ _ _, ?_⟩
  rw [rndC0]
  refine good_cond (fun c1 => ?_) fun c1 => ?_
  · have c1 := of_decide_eq_true c1
    have c1' : i < T.length := by omega
    rw [show Int.toNat (i : Int) = i by omega, wr_in (x := (i : Int) + 1) (by omega)]
    have ob : obls [decide ((i : Int) < T.length), decide (i < T.length)] = true := by simp only [ob_cons, ob_nil, and_true, decide_eq_true_eq]; omega
    have bad : badS T i = true → GoodQ (.out .ret [.v (.bool p)] [.row false m 1 (rowB b) 5]) (RoundV 118 0 lvC0 (fun i => stC0 n T.length p i) (fun _ => hpC0 m b n f a T.length (spH T)) (fun s' => s' = i + 1 ∧ i < T.length ∧ noneTo (badS T) (i + 1) = true) K Q) := fun hb => by
      refine good_out ⟨_, Hsim.refl _, ?_⟩
      rw [noneTo_no c1' hb] at hk
      exact hk
    refine good_needs ob (good_cond (fun q => bad (by rw [badS, q]; rfl)) fun q => good_needs ob (good_cond (fun q2 => bad (by rw [badS, q, q2]; rfl)) fun q2 => ?_))
    exact good_out ⟨i + 1, ⟨rfl, c1', noneTo_succ hno (by rw [badS, q, q2]; rfl)⟩, rfl, Hsim.refl _⟩
  · have c1 := of_decide_eq_false c1
    have : i = T.length := by omega
    subst this
    refine good_out ⟨_, Hsim.refl _, ?_⟩
    rw [if_pos rfl]
    rw [hno] at hk
    exact hk
theorem gmC2_ok : GamOk Try.prog (gmC2 daV daOk vAd okAd) := ext_ok (ext_ok g0_ok ok_DAI) ok_cAd
theorem gmLCe_ok : GamOk Try.prog (gmLCe bEx cenV yI tI spH vSc okSc) := ext_ok (ext_ok (ext_ok (ext_ok (ext_ok g0_ok ok_drCe) ok_ceI) ok_ceS) ok_spY) ok_cSc
theorem sumC2 (m : Nat) (b : Nat → Int) (L : List Wh) (hl : L.length ≤ 12) (a : Nat → Int) (p : Bool) :
    SumOk Try.prog 1 (.block 2 (.loop (loopAt 2 fCe))) (atS 118 (lvC2 .normal) 1 (stC2 L.length p 0) (hpC2 m b L.length (wfun L) a fun _ => 0) (fun K => cond (noneTo (badA L) 24) (K .normal (mkT 0 118 [(4, .ptr 1 0 0 0), (9, .v (.bool p)), (11, .ptr 2 0 0 0)]) [.row false m 1 (rowB b) 5, .cells (cyC a) 35, .cells (cyC (sumD L 24)) 35]) (K .ret (mkT 0 118 [(2, .v (.bool p))]) [.row false m 1 (rowB b) 5]))) := by
  refine for_at gmC2_ok (n := 100) (m := 1) (lv := lvC2) (fun i => stC2 L.length p i) (fun i => hpC2 m b L.length (wfun L) a (sumD L i)) (fun i => noneTo (badA L) i = true) 24 (fun _ => noLam) (lv3_ris rfl rfl rfl) (Nat.le_refl _) rfl fun K Q hk i hno hi => ⟨noLam_ok _ _ _, ?_⟩
  rw [rndC2]
  simp only [daOk_row, daV_row]
  refine good_cond (fun c1 => ?_) fun c1 => ?_
  · have c1 := of_decide_eq_true c1
    have c1' : i < 24 := by omega
    rw [wr_in (x := (i : Int) + 1) (by omega)]
    have bad : badA L i = true → GoodQ (.out .ret [.v (.bool p)] [.row false m 1 (rowB b) 5]) (RoundV 118 2 lvC2 (fun i => stC2 L.length p i) (fun i => hpC2 m b L.length (wfun L) a (sumD L i)) (fun s' => s' = i + 1 ∧ i < 24 ∧ noneTo (badA L) (i + 1) = true) K Q) := fun hb => by
      refine good_out ⟨_, Hsim.refl _, ?_⟩
      rw [noneTo_no c1' hb] at hk
      exact hk
    refine good_needs (by simp only [ob_cons, ob_nil, and_true, decide_eq_true_eq, Nat.ble_eq, allW_row, true_and]; omega) (good_cond (fun q => bad ?_) fun q => good_cond (fun q2 => bad ?_) fun q2 => ?_)
    · have q : daOk (wfun L) i L.length = false := by simpa using q
      rw [badA, q]
      rfl
    · have q : daOk (wfun L) i L.length = true := by simpa using q
      have q2 : okAd (w8 (sumD L i)) (w8 (daV (wfun L) i L.length)) = false := by simpa using q2
      rw [badA, q, q2]
      rfl
    · have q : daOk (wfun L) i L.length = true := by simpa using q
      have q2 : okAd (w8 (sumD L i)) (w8 (daV (wfun L) i L.length)) = true := by simpa using q2
      refine good_out ⟨i + 1, ⟨rfl, c1', noneTo_succ hno (by rw [badA, q, q2]; rfl)⟩, rfl, ?_⟩
      show Hsim _ (hpC2 m b L.length (wfun L) a (sumD L (i + 1)))
      have e : cyC (vAd (w8 (sumD L i)) (w8 (daV (wfun L) i L.length))) = cyC (sumD L (i + 1)) := cyC_eq fun k hk => by
        rw [vAd_exact q2 k hk, w8_at _ k hk, w8_at _ k hk, (da_list q).2.2.1 k hk]
        rfl
      unfold hpC2
      rw [← e]
      exact Hsim.refl _
  · have c1 := of_decide_eq_false c1
    have : i = 24 := by omega
    subst this
    refine good_out ⟨_, Hsim.refl _, ?_⟩
    rw [if_pos rfl]
    rw [hno] at hk
    exact hk
theorem vSc_exact {a : Nat → Int} (h : okSc a 24 = true) : ∀ k, k < 8 → vSc a 24 k = 24 * a k := fun k hk => by
  rw [vSc, h, cond_true]
  rw [okSc, Bool.and_eq_true, Bool.and_eq_true] at h
  have ha := cyOk_bd h.1.1 k hk
  rw [cyOf_f8 _ k hk] at ha
  show W (a k * 24) = 24 * a k
  rw [w64_in (by omega) (by omega)]
  omega
theorem yes_dce (m : Nat) (b : Nat → Int) (_ : m ≤ 9223372036854775807) (hb : okB m (rowB b) = true) : ∃ Γ n Λ, GamOk Try.prog Γ ∧ (∀ cc, fCe.body = some cc → LamOk Try.prog 1 Λ cc) ∧ GoodQ (execF Try.prog Γ Λ n fCe [.sl 0 1 0 0 m none] [.row false m 1 (rowB b) 5] (packK 1)) SaysYes := by
  have hl := bEx_len m b
  have hT := tI_len (bEx m b)
  refine ⟨_, 100, lamCe m b (bEx m b).length (wfun (bEx m b)) (cenV (bEx m b)) (tI (bEx m b)).length (spH (tI (bEx m b))) true (noneTo (badS (tI (bEx m b))) (tI (bEx m b)).length) (noneTo (badA (bEx m b)) 24) (sumD (bEx m b) 24), gmLCe_ok, lamAdd (by kernel_rfl) (sumC0 m b _ _ _ (tI (bEx m b)) hT true) (lam1 (by kernel_rfl) (sumC2 m b (bEx m b) hl _ true)), ?_⟩
  rw [lawCe]
  refine good_cond (fun _ => good_out rfl) fun c => ?_
  have c := of_decide_eq_false c
  have b21 : decide (m ≤ 2097152) = true := decide_eq_true (by omega)
  simp only [Nat.zero_add, itB_row]
  generalize bEx m b = L at hl hT ⊢
  simp only [hb, b21, ble_me, allW_row, b38 hl, needs_t, needs_nil, beq_self_eq_true, bne_self_eq_false, Bool.not_true, Bool.and_self, cond_false, cond_true, listW_me]
  refine good_cond (fun _ => good_out rfl) fun h1 => ?_
  have hy : yI L = true := by simpa using h1
  refine good_needs ?_ (good_cond (fun q0 => good_needs ?_ (good_cond (fun _ => good_cond (fun _ => good_out rfl) fun h2 => ?_) fun _ => good_out rfl)) fun _ => good_out rfl)
  · simp only [ob_cons, ob_nil, and_true]
    exact ⟨hy, chk_of ⟨rfl, Hsim.refl _⟩⟩
  · simp only [ob_cons, ob_nil, and_true]
    exact chk_of ⟨rfl, Hsim.refl _⟩
  · have h2 : okSc (w8 (cenV L)) 24 = true := by simpa using h2
    refine say (eq8a fun k hk => ?_)
    rw [vSc_exact h2 k hk, w8_at _ k hk, law_centre hy (fun w hw => ?_) hk]
    obtain ⟨i, hi, e⟩ := spH_mem hw
    have := noneTo_iff.1 q0 i hi
    unfold badS at this
    rw [e, Bool.or_eq_false_iff, decide_eq_false_iff_not, decide_eq_false_iff_not] at this
    omega

end Go.Proofs.Ytakimbknciffnaa

/- The points of a row add up to the centre: FnCentre returns true, whatever the bytes are, and they read as before. No conditions. -/
namespace Go.Proofs.Ytakimbknciffnaa
open Go.ChangeShapes Go.WideShapes Go.ChangeAt Go.RowKit

set_option maxRecDepth 100000 in
theorem dce_lifted (os : Os) (started : os.Started) (H : Type) (enc : TypeId × Value → H) :
    ReturnsInHanded {} Try.checked os 14 .any (Rows.fnCentreSpec.pre6 enc Try.prog Try.f14 Rows.fnCentreRow.domain false) (Rows.fnCentreSpec.post enc Try.prog Try.f14 false true false false) := by
  refine returnsInHanded_of_change (C := Try.checked) own started (by kernel_rfl) Try.func14
    (ChangeSpec.witness6 (enc := enc) (C := Try.checked) false ⟨#[], #[.slice none 0 0], []⟩ 8 (by kernel_rfl) (by kernel_rfl) (by kernel_rfl) (by kernel_rfl)) ?_
  intro W base args ds gs before hval hW _ _
  exact contractB (spec := Rows.fnCentreSpec) Try.func14 rfl rfl rfl (fun _ _ => rfl) (fun m b hm hb => yes_dce m b hm hb) H enc W base args ds gs before hval hW

set_option maxRecDepth 100000 in
theorem dce_f1 : Rows.fnCentreRow.wf (OpenSpec.ofChange Rows.fnCentreSpec) = true := by kernel_rfl
set_option maxRecDepth 100000 in
theorem dce_f2 : (Rows.fnCentreRow.inPlace == Try.prog.inPlace 14) = true := by kernel_rfl
set_option maxRecDepth 100000 in
theorem dce_f3 : (Rows.fnCentreRow.unfollowed == Try.prog.unfollowed 14) = true := by kernel_rfl
set_option maxRecDepth 100000 in
theorem dce_f4 : (Rows.fnCentreRow.recurses == Try.prog.recurses 14) = true := by kernel_rfl
set_option maxRecDepth 100000 in
theorem dce_f5 : (Rows.fnCentreRow.named == Try.prog.varsNamed 14) = true := by kernel_rfl
set_option maxRecDepth 100000 in
theorem dce_f6 : Try.prog.funcNamed Rows.fnCentreRow.func = some 14 := by kernel_rfl
theorem dce_f7 : (Rows.fnCentreRow.lifted == Try.prog.liftsFinal) = true := jfG
theorem dce_f8 : (Try.prog.make == some Rows.fnCentreRow.make) = true := jfH
theorem dce_f9 : (Rows.fnCentreRow.plainKeys == Try.prog.plainKeys) = true := jfI
set_option maxRecDepth 100000 in
theorem dce_joined : joinedFacts Try.prog 14 Try.f14 Rows.fnCentreSpec Rows.fnCentreRow = true := by
  unfold joinedFacts
  rw [jfA, jfB, jfC, jfD, jfE, jfF, dce_f1, dce_f2, dce_f3, dce_f4, dce_f5, dce_f7, dce_f8, dce_f9]
  kernel_rfl

theorem dce_holds : Rows.FnCentreSaid :=
  OpenClaim.holds_of_wide 14 Try.f14 rfl rfl rfl rfl rfl rfl rfl ⟨rfl, rfl, rfl, rfl, rfl⟩ rfl rfl rfl rfl rfl dce_f6 Try.func14 dce_joined
    (of_decide_eq_true (by kernel_rfl)) (by unfold Func.isWrapper; first | (rw [if_pos (by decide +kernel)]; kernel_rfl) | (rw [if_neg (by decide +kernel)]; exact ⟨rfl, rfl⟩))
    (fun os started H enc _ => dce_lifted os started H enc)
#print axioms dce_holds
end Go.Proofs.Ytakimbknciffnaa
