/- DrawDesignMirrored: a list of wheels. Conditions: bytes, at most 2^21. -/
import Derived.Test.YtmdcafhnjihckaaZD0
import Derived.Test.YtmdcafhnjihckaaZD1
import Derived.Test.YtmdcafhnjihckaaZD2
import Derived.Test.YtmdcafhnjihckaaZD3
import Derived.Test.YtmdcafhnjihckaaZD4
import Derived.Test.YtmdcafhnjihckaaZD5
import Derived.Test.YtmdcafhnjihckaaZD6
/- The program's CycMirror. Conditions: a point. -/
namespace Go.Proofs.Ytmdcafhnjihckaa
open Go.RowKit
set_option maxRecDepth 100000

def gmO2 (ok : (Nat → Int) → Bool) (mi : (Nat → Int) → Nat → Int) : Gam := ext (ext g0 66 (specV (fOkc ok))) 101 (specV (fMirO mi))
theorem gmO2_ok : GamOk Try.prog (gmO2 (fun v => cyOk (cyOf v)) mirF) := by
  unfold gmO2
  rw [fOkc_eq, fMirO_eq]
  exact ext_ok (ext_ok g0_ok ok_cvI) ok_mirror
/-- A point: a point, and whether it is one. -/
def FcqO (v : (Nat → Int) → Nat → Int) (ok : (Nat → Int) → Bool) : List SA → Option FR
  | [.v (.agg ⟨[.int .i64 a0, .int .i64 a1, .int .i64 a2, .int .i64 a3, .int .i64 a4, .int .i64 a5, .int .i64 a6, .int .i64 a7]⟩)] => some { val := .tup [.agg (cyC (v (v8 a0 a1 a2 a3 a4 a5 a6 a7))), .v (.bool (ok (v8 a0 a1 a2 a3 a4 a5 a6 a7)))] }
  | _ => none
def okMi (a : Nat → Int) : Bool := cyOk (cyOf a) && cyOk (cyOf (mirF a))
def vMi (a : Nat → Int) : Nat → Int := bif okMi a then mirF a else fun _ => 0
end Go.Proofs.Ytmdcafhnjihckaa

/- 'changed', for DesignFaster: trees. Conditions: a list of wheels. -/
namespace Go.Proofs.Ytmdcafhnjihckaa
open Go.RowKit
set_option maxRecDepth 100000

abbrev hpCFa (m : Nat) (f : Nat → Nat → Int) (t : TypeId) (x : Int) (n : Nat) (h : Nat → Nat → Int) : List AB := [.row false m 9 (row9 f) t, .cells [.v (i64 x)] 3, .row true n 9 (row9 h) 46]
end Go.Proofs.Ytmdcafhnjihckaa

/- 'changed', for DesignFaster: its words. Conditions: a list of wheels. -/
namespace Go.Proofs.Ytmdcafhnjihckaa
open Go.RowKit
set_option maxRecDepth 100000

def chFa (x : Int) (w : Wh) : Wh := ⟨IntKind.wrap IntKind.i64 (x * w.s), w.r⟩
abbrev mpFa : Int → List Wh → List Wh := fun x L => L.map (chFa x)
theorem inwFa (x : Int) {L : List Wh} (h : okD L = true) : inW (L.map (chFa x)) := by
  intro w' hw'
  obtain ⟨w, hw, rfl⟩ := List.mem_map.1 hw'
  exact (valid_in h hw : cyIn w.r)
end Go.Proofs.Ytmdcafhnjihckaa

/- The program's DesignFaster. Conditions: a list of wheels. -/
namespace Go.Proofs.Ytmdcafhnjihckaa
open Go.RowKit
set_option maxRecDepth 100000

/-- The list is a design, and what comes of it too. -/
def yesFa (x : Int) (L : List Wh) : Bool := inR x (-20) 20 && (okD L && okT (L.map (chFa x)))
def FdeYFa (yes : Int → List Wh → Bool) (ti : List Wh → List Wh) (mp : Int → List Wh → List Wh) : List SA → Option FR
  | [.row m g, .v (.int .i64 x)] => some { val := valY (ti (mp x (listW (itW g) m))), new := newY (ti (mp x (listW (itW g) m))), obl := [allW m g, decide (m ≤ 2 ^ 38), yes x (listW (itW g) m)] }
  | _ => none
def FdeNFa (yes : Int → List Wh → Bool) : List SA → Option FR
  | [.row m g, .v (.int .i64 x)] => some { val := valN, obl := [allW m g, decide (m ≤ 2 ^ 38), !yes x (listW (itW g) m)] }
  | _ => none
end Go.Proofs.Ytmdcafhnjihckaa

/- The program's DesignFaster, as a list or none, read as one. Conditions: a list of wheels. -/
namespace Go.Proofs.Ytmdcafhnjihckaa
open Go.RowKit
set_option maxRecDepth 100000

theorem chFa_same {x : Int} {w : Wh} : chFa x w = chE x 0 0 false w := by
  have e2 : (IntKind.wrap IntKind.i64 ((0 : Int) + IntKind.wrap IntKind.i64 (0 * w.s)) % 24).toNat = 0 := by rw [Int.zero_mul]; rfl
  rw [chFa, chE, e2]
  rfl
def yF (x : Int) (L : List Wh) : Bool := inR x (-20) 20 && eachOk x 0 0 false L
def tF (x : Int) (L : List Wh) : List Wh := bif inR x (-20) 20 then eachL x 0 0 false L else []
end Go.Proofs.Ytmdcafhnjihckaa

/- Plain laws of designs: turned, later, back, mirrored, faster. No program, no conditions. -/
namespace Go.Proofs.Ytmdcafhnjihckaa
open Go.RowKit

theorem lin_tn {φ : Int → (Nat → Int) → Int} (h : Lin φ) (g c : Int → Int) : Lin fun s f => φ (g s) (tnI f (c s)) := fun s f f' => by
  show φ (g s) (tnI (fun k => f k + f' k) (c s)) = _
  rw [tnI_add]
  exact h _ _ _
theorem loc_tn {φ : Int → (Nat → Int) → Int} (h : Loc φ) (g c : Int → Int) : Loc fun s f => φ (g s) (tnI f (c s)) := fun _ _ _ hf => h _ _ _ (tnI_congr hf _)
theorem tnI_mulmod (f : Nat → Int) (a s : Int) : tnI f (a % 24 * s) = tnI f (a * s) := tnI_mod f (by rw [Int.mul_emod, Int.emod_emod, ← Int.mul_emod])
theorem each_tidy {sp tn la : Int} {mir : Bool} {L : List Wh} (h1 : -20 ≤ sp ∧ sp ≤ 20) (h : eachOk sp tn la mir L = true) : isTidy (eachL sp tn la mir L) := (each_spec h1 h).2.2.2.1
theorem tnI_24 (f : Nat → Int) {n : Int} (h : n % 24 = 0) : ∀ k, k < 8 → tnI f n k = f k := fun k _ => by
  rw [tnI, h]
  rfl
/-- Turned on to a whole turn. -/
theorem law_turned {L : List Wh} {t x : Int} (hx : (t + x) % 24 = 0) (h1 : eachOk 1 t 0 false L = true) (h2 : eachOk 1 x 0 false (eachL 1 t 0 false L) = true) (h3 : yI L = true) : eachL 1 x 0 false (eachL 1 t 0 false L) = tI L := by
  refine tidy_unique (each_tidy (by omega) h2) (tI_spec h3).2.1 fun s k hk => ?_
  rw [(tI_spec h3).2.2 _ (atSp_lin s k), each_lin (by omega) h2 (atSp_lin s k) (atSp_loc s hk), each_lin (by omega) h1 (lin_tn (atSp_lin s k) (fun s => 1 * s) fun s => x + 0 * s) (loc_tn (atSp_loc s hk) (fun s => 1 * s) fun s => x + 0 * s)]
  refine linS_congr fun w _ => ?_
  show atSp s k (1 * (1 * w.s)) (tnI (tnI w.r.f (t + 0 * w.s)) (x + 0 * (1 * w.s))) = atSp s k w.s w.r.f
  rw [show (1 : Int) * (1 * w.s) = w.s by omega, show t + 0 * w.s = t by omega, show x + 0 * (1 * w.s) = x by omega]
  refine atSp_loc s hk _ _ _ fun j hj => ?_
  rw [tnI_tnI _ _ _ j hj, tnI_24 _ hx j hj]
/-- Later. -/
theorem law_later {L : List Wh} {t : Int} {k : Nat} (hk : k < 8) (h1 : eachOk 1 0 t false L = true) : dAt (eachL 1 0 t false L) 5 k = dAt L ((5 + t) % 24) k := by
  refine (each_lin (by omega) h1 (atT_lin 5 k) (atT_loc 5 hk)).trans (linS_congr fun w _ => ?_)
  show tnI (tnI w.r.f (0 + t * w.s)) (5 * (1 * w.s)) k = tnI w.r.f ((5 + t) % 24 * w.s) k
  rw [tnI_tnI _ _ _ k hk, tnI_mulmod, show 0 + t * w.s + 5 * (1 * w.s) = (5 + t) * w.s by rw [Int.add_mul]; omega]
/-- Back and back. -/
theorem law_back {L : List Wh} (h1 : eachOk (-1) 0 0 false L = true) (h2 : eachOk (-1) 0 0 false (eachL (-1) 0 0 false L) = true) (h3 : yI L = true) : eachL (-1) 0 0 false (eachL (-1) 0 0 false L) = tI L := by
  refine tidy_unique (each_tidy (by omega) h2) (tI_spec h3).2.1 fun s k hk => ?_
  rw [(tI_spec h3).2.2 _ (atSp_lin s k), each_lin (by omega) h2 (atSp_lin s k) (atSp_loc s hk), each_lin (by omega) h1 (lin_tn (atSp_lin s k) (fun s => -1 * s) fun s => 0 + 0 * s) (loc_tn (atSp_loc s hk) (fun s => -1 * s) fun s => 0 + 0 * s)]
  refine linS_congr fun w _ => ?_
  show atSp s k (-1 * (-1 * w.s)) (tnI (tnI w.r.f (0 + 0 * w.s)) (0 + 0 * (-1 * w.s))) = atSp s k w.s w.r.f
  rw [show (-1 : Int) * (-1 * w.s) = w.s by omega, show 0 + 0 * w.s = 0 by omega, show 0 + 0 * (-1 * w.s) = 0 by omega]
  rfl
theorem law_back_at {L : List Wh} {k : Nat} (hk : k < 8) (h1 : eachOk (-1) 0 0 false L = true) : dAt (eachL (-1) 0 0 false L) 5 k = dAt L 19 k := by
  refine (each_lin (by omega) h1 (atT_lin 5 k) (atT_loc 5 hk)).trans (linS_congr fun w _ => ?_)
  show tnI (tnI w.r.f (0 + 0 * w.s)) (5 * (-1 * w.s)) k = tnI w.r.f (19 * w.s) k
  rw [show 0 + 0 * w.s = 0 by omega, tnI_zero, tnI_mod w.r.f (m := 5 * (-1 * w.s)) (n := 19 * w.s) (by omega)]
/-- A mirrored point turned. -/
theorem mir_step (f : Nat → Int) : ∀ k, k < 8 → stZ (mirZ (stZ f)) k = mirZ f k := by
  refine forall8 ?_ ?_ ?_ ?_ ?_ ?_ ?_ ?_ <;> simp only [stZ, mirZ] <;> omega
theorem mir_tn (f : Nat → Int) : ∀ (n k : Nat), k < 8 → tnZ (mirZ (tnZ f n)) n k = mirZ f k
  | 0, _, _ => rfl
  | n + 1, k, hk => by
    have e : tnZ (mirZ (stZ (tnZ f n))) (n + 1) k = tnZ (stZ (mirZ (stZ (tnZ f n)))) n k := by
      rw [show n + 1 = 1 + n by omega, ← tnZ_tnZ]
      rfl
    show tnZ (mirZ (stZ (tnZ f n))) (n + 1) k = mirZ f k
    rw [e, tnZ_congr (mir_step (tnZ f n)) n k hk]
    exact mir_tn f n k hk
theorem mir_tnI (f : Nat → Int) (n : Int) (k : Nat) (hk : k < 8) : mirZ (tnI f n) k = tnI (mirZ f) (-n) k := by
  have h := tnI_congr (mir_tn f (n % 24).toNat) (-n) k hk
  rw [← h]
  show _ = tnI (tnZ (mirZ (tnI f n)) (n % 24).toNat) (-n) k
  have e : tnZ (mirZ (tnI f n)) (n % 24).toNat = tnI (mirZ (tnI f n)) n := rfl
  rw [e, tnI_tnI _ _ _ k hk, tnI_24 _ (by omega) k hk]
theorem linS_mir {φ : Nat → Int → (Nat → Int) → Int} : ∀ (L : List Wh) (k : Nat), mirZ (fun k => linS (φ k) L) k = linS (fun s f => mirZ (fun k => φ k s f) k) L
  | [], k => by
    show mirZ (fun _ => 0) k = 0
    unfold mirZ
    split <;> rfl
  | w :: l, k => by
    show mirZ (fun k => φ k w.s w.r.f + linS (φ k) l) k = _
    rw [mir_add]
    show mirZ (fun k => φ k w.s w.r.f) k + mirZ (fun k => linS (φ k) l) k = _
    rw [linS_mir l k]
    rfl
theorem law_mirror {L : List Wh} {k : Nat} (hk : k < 8) (h1 : eachOk (-1) 0 0 true L = true) : dAt (eachL (-1) 0 0 true L) 5 k = mirZ (dAt L 5) k := by
  refine (each_linM (by omega) h1 (atT_lin 5 k) (atT_loc 5 hk)).trans ?_
  refine Eq.trans (linS_congr fun w _ => ?_) (linS_mir (φ := atT 5) L k).symm
  show tnI (tnI (mirZ w.r.f) (0 + 0 * w.s)) (5 * (-1 * w.s)) k = mirZ (tnI w.r.f (5 * w.s)) k
  rw [mir_tnI _ _ k hk, show 0 + 0 * w.s = 0 by omega, tnI_zero, show 5 * (-1 * w.s) = -(5 * w.s) by omega]
theorem vMi_exact {a : Nat → Int} (h : okMi a = true) : ∀ k, k < 8 → vMi a k = mirZ a k := fun k hk => by
  rw [vMi, h, cond_true]
  rw [okMi, Bool.and_eq_true] at h
  have hb : bd8 1000000 a := fun k hk => by
    have := cyOk_bd h.1 k hk
    rwa [cyOf_f8 _ k hk] at this
  exact W8 (mir_bd hb) (by omega) k hk
/-- Faster. -/
theorem law_faster {L : List Wh} {n : Int} {k : Nat} (hk : k < 8) (h1 : yF n L = true) : dAt (tF n L) 1 k = dAt L (n % 24) k := by
  rw [yF, Bool.and_eq_true] at h1
  have hn := inR_iff.1 h1.1
  have e : tF n L = eachL n 0 0 false L := by rw [tF, h1.1]; rfl
  rw [e]
  refine (each_lin (by omega) h1.2 (atT_lin 1 k) (atT_loc 1 hk)).trans (linS_congr fun w _ => ?_)
  show tnI (tnI w.r.f (0 + 0 * w.s)) (1 * (n * w.s)) k = tnI w.r.f (n % 24 * w.s) k
  rw [tnI_mulmod, show 0 + 0 * w.s = 0 by omega, tnI_zero, Int.one_mul]

end Go.Proofs.Ytmdcafhnjihckaa

/- l1Gcd, the reference's: its word. Conditions: numbers of 64 bits. -/
namespace Go.Proofs.Ytmdcafhnjihckaa
open Go.RowKit
set_option maxRecDepth 100000

abbrev lvGc : Ex → List Nat := lv3 [0, 1] [0] [4]
theorem rndGc (a b : Int) : execC Try.prog g0 100 noLam (loopAt 0 Try.f154) (mkT 0 17 ((lvGc .normal).zip [.v (i64 a), .v (i64 b)])) [] (leafV 17 lvGc 0)
    = bif b != (0 : Int) then needs [!decide (b = (0 : Int))] (Res.out Ex.normal [AV.v (Value.int IntKind.i64 b), AV.v (Value.int IntKind.i64 (Int.tmod a b))] []) else Res.out (Ex.exit (0 : Nat)) [AV.v (Value.int IntKind.i64 a)] [] := by kernel_rfl

noncomputable abbrev lamGc (a b c : Int) : Nat → Option Sum := oneL 0 (atS 17 (lvGc .normal) 0 [.v (i64 a), .v (i64 b)] [] (fun K => K .normal (mkT 0 17 [(0, .v (i64 c))]) []))
theorem treeGc (a b c : Int) : execF Try.prog g0 (lamGc a b c) 100 Try.f154 [.v (i64 a), .v (i64 b)] [] (packK 0)
    = needs [chk ([AV.v (Value.int IntKind.i64 a), AV.v (Value.int IntKind.i64 b)] = [AV.v (Value.int IntKind.i64 a), AV.v (Value.int IntKind.i64 b)] ∧ Hsim [] [])] (Res.out Ex.ret [AV.v (Value.int IntKind.i64 (if IntKind.wrap IntKind.i64 ((0 : Int) - c) > c then IntKind.wrap IntKind.i64 ((0 : Int) - c) else c))] []) := by kernel_rfl

def gcdE : Nat → Int → Int → Int
  | 0, a, _ => a
  | n + 1, a, b => if b = 0 then a else gcdE n b (a.tmod b)

theorem sumGc (a b : Int) : SumOk Try.prog 0 (.block 0 (.loop (loopAt 0 Try.f154))) (atS 17 (lvGc .normal) 0 [.v (i64 a), .v (i64 b)] [] (fun K => K .normal (mkT 0 17 [(0, .v (i64 (gcdE (b.natAbs + 1) a b)))]) [])) := by
  refine loop_at g0_ok (n := 100) (m := 0) (lv := lvGc) (σ := Nat × Int × Int) (fun s => [.v (i64 s.2.1), .v (i64 s.2.2)]) (fun _ => []) (fun s => s.2.2.natAbs < s.1 ∧ gcdE s.1 s.2.1 s.2.2 = gcdE (b.natAbs + 1) a b) (fun s => s.1) (b.natAbs + 1, a, b) (fun _ => noLam) (lv3_ris rfl rfl rfl) (Nat.le_refl _) ⟨Nat.lt_succ_self _, rfl⟩ fun K Q hk s hs => ⟨noLam_ok _ _ _, ?_⟩
  obtain ⟨n, x, y⟩ := s
  obtain ⟨h1, h2⟩ := hs
  rw [rndGc]
  cases n with
  | zero => exact absurd h1 (Nat.not_lt_zero _)
  | succ n =>
    refine good_cond (fun c => ?_) fun c => ?_
    · have c : y ≠ 0 := by simpa using c
      have h2 : gcdE n y (x.tmod y) = gcdE (b.natAbs + 1) a b := by
        rw [← h2]
        show _ = if y = 0 then x else gcdE n y (x.tmod y)
        rw [if_neg c]
      have h1 : y.natAbs < n + 1 := h1
      have h3 : (x.tmod y).natAbs < y.natAbs := by
        rw [Int.natAbs_tmod]
        exact Nat.mod_lt _ (by omega)
      exact good_needs (by simp [obls, c]) (good_out ⟨(n, y, x.tmod y), ⟨⟨by show (x.tmod y).natAbs < n; omega, h2⟩, Nat.lt_succ_self _⟩, rfl, .nil⟩)
    · have c : y = 0 := by simpa using c
      have h2 : x = gcdE (b.natAbs + 1) a b := by
        rw [← h2]
        show _ = if y = 0 then x else gcdE n y (x.tmod y)
        rw [if_pos c]
      refine good_out ⟨_, .nil, ?_⟩
      rw [if_pos rfl]
      rw [← h2] at hk
      exact hk

def gcdF (a b : Int) : Int := if IntKind.wrap IntKind.i64 (0 - gcdE (b.natAbs + 1) a b) > gcdE (b.natAbs + 1) a b then IntKind.wrap IntKind.i64 (0 - gcdE (b.natAbs + 1) a b) else gcdE (b.natAbs + 1) a b
def F_gcd : List SA → Option FR
  | [.v (.int .i64 a), .v (.int .i64 b)] => some { val := .v (i64 (gcdF a b)) }
  | _ => none
theorem ok_gcd : SpecOk Try.prog 154 (specR [.val, .val] F_gcd) := by
  refine specR_hr g0_ok Try.func154 rfl fun sas fr hF ho => ?_
  unfold F_gcd at hF
  split at hF
  · rename_i a b
    cases hF
    refine ⟨[], lamGc a b (gcdE (b.natAbs + 1) a b), 100, .nil, lam1 (by kernel_rfl) (sumGc a b), ?_⟩
    show GoodQ (execF Try.prog g0 (lamGc a b (gcdE (b.natAbs + 1) a b)) 100 Try.f154 [.v (i64 a), .v (i64 b)] [] (packK 0)) _
    rw [treeGc]
    exact good_needs (by rw [ob_cons]; exact ⟨chk_of ⟨rfl, .nil⟩, rfl⟩) (good_out ⟨_, rfl, rfl, .nil⟩)
  · cases hF

end Go.Proofs.Ytmdcafhnjihckaa

/- The reference's RingDesign: trees; greatest common divisors. Conditions: numbers of 64 bits. -/
namespace Go.Proofs.Ytmdcafhnjihckaa
open Go.RowKit
set_option maxRecDepth 100000

theorem gcdE_abs : ∀ (n : Nat) (a b : Int), b.natAbs < n → (gcdE n a b).natAbs = Nat.gcd a.natAbs b.natAbs
  | 0, _, _, h => absurd h (Nat.not_lt_zero _)
  | n + 1, a, b, h => by
    unfold gcdE
    split
    · rename_i hb
      subst hb
      simp
    · rename_i hb
      have e : (a.tmod b).natAbs = a.natAbs % b.natAbs := Int.natAbs_tmod _ _
      have hlt : a.natAbs % b.natAbs < b.natAbs := Nat.mod_lt _ (by omega)
      rw [gcdE_abs n b (a.tmod b) (by omega), e, Nat.gcd_comm a.natAbs, Nat.gcd_rec b.natAbs a.natAbs, Nat.gcd_comm]
/-- The greatest common divisor. -/
theorem gcdF_eq {a b : Int} (ha : -1000000000000 ≤ a ∧ a ≤ 1000000000000) (hb : -1000000000000 ≤ b ∧ b ≤ 1000000000000) : gcdF a b = (Nat.gcd a.natAbs b.natAbs : Int) := by
  have h := gcdE_abs (b.natAbs + 1) a b (Nat.lt_succ_self _)
  have hle : Nat.gcd a.natAbs b.natAbs ≤ 1000000000000 := by
    by_cases h0 : a.natAbs = 0
    · rw [h0, Nat.gcd_zero_left]
      omega
    · exact Nat.le_trans (Nat.gcd_le_left _ (by omega)) (by omega)
  unfold gcdF
  rw [wr_in (by omega)]
  split <;> omega

theorem treeNu (s r : Int) : execF Try.prog g0 noLam 100 Try.f155 [.v (i64 s), .v (i64 r)] [] (packK 0)
    = Res.out Ex.ret [AV.agg [AV.v (Value.int IntKind.i64 s), AV.v (Value.int IntKind.i64 r), AV.v (Value.int IntKind.i64 (0 : Int)), AV.v (Value.int IntKind.i64 (0 : Int)), AV.v (Value.int IntKind.i64 (0 : Int)), AV.v (Value.int IntKind.i64 (0 : Int)), AV.v (Value.int IntKind.i64 (0 : Int)), AV.v (Value.int IntKind.i64 (0 : Int)), AV.v (Value.int IntKind.i64 (0 : Int))]] [] := by kernel_rfl

/-- A wheel with a whole radius. -/
def FnuO : List SA → Option FR
  | [.v (.int .i64 s), .v (.int .i64 r)] => some { val := .agg [.v (i64 s), .v (i64 r), .v (i64 0), .v (i64 0), .v (i64 0), .v (i64 0), .v (i64 0), .v (i64 0), .v (i64 0)] }
  | _ => none
theorem ok_num : SpecOk Try.prog 155 (specR [.val, .val] FnuO) := by
  refine specR_hr g0_ok Try.func155 rfl fun sas fr hF ho => ?_
  unfold FnuO at hF
  split at hF
  · rename_i s r
    cases hF
    refine ⟨[], noLam, 100, .nil, noLam' _, ?_⟩
    show GoodQ (execF Try.prog g0 noLam 100 Try.f155 [.v (i64 s), .v (i64 r)] [] (packK 0)) _
    rw [treeNu]
    exact good_out ⟨_, rfl, rfl, .nil⟩
  · cases hF
def FgcO (gf : Int → Int → Int) : List SA → Option FR
  | [.v (.int .i64 a), .v (.int .i64 b)] => some { val := .v (i64 (gf a b)) }
  | _ => none
theorem specR_sub' {P : Program} {f : FuncId} {mds : List Md} {F F' : List SA → Option FR} (h : ∀ sas fr', F' sas = some fr' → ∃ fr, F sas = some fr ∧ fr.val = fr'.val ∧ fr.new = fr'.new ∧ fr.put = fr'.put ∧ (obls fr'.obl = true → obls fr.obl = true)) (hs : SpecOk P f (specR mds F)) : SpecOk P f (specR mds F') := by
  refine ⟨hs.1, fun avs H base δ ν vals w hS ho hv hr hlt hf hsep => ?_⟩
  unfold specR at hS
  split at hS
  case h_2 => cases hS
  rename_i xs hxs
  split at hS
  case h_2 => cases hS
  rename_i fr' hF
  obtain ⟨fr, e, e1, e2, e3, e4⟩ := h _ _ hF
  split at hS
  case h_2 => cases hS
  rename_i av hav
  cases hc : ((!hasWr mds || nodupB ((ixC mds xs).filterMap id)) && fr'.new.all isRowT && Nat.beq (abP mds (xs.map (·.sa)) fr'.put).length (abC mds (xs.map (·.sa))).length) with
  | false => rw [hc] at hS; cases hS
  | true =>
  rw [hc] at hS
  simp only [cond_true, Option.some.injEq] at hS
  subst hS
  have ho' : obls (xs.flatMap (·.ob)) = true ∧ obls fr'.obl = true := by simpa [obls, List.all_append] using ho
  have hS2 : specR mds F avs H base = some { val := av, rd := (ixC mds xs).filterMap id, put := putC (ixC mds xs) (abP mds (xs.map (·.sa)) fr'.put), new := fr'.new, obl := xs.flatMap (·.ob) ++ fr.obl } := by
    unfold specR
    rw [hxs]
    simp only [e]
    rw [e1, e2, e3, hav]
    simp only [hc]
    rfl
  refine (hs.2 avs H base _ ν vals w hS2 (by simpa [obls, List.all_append] using And.intro ho'.1 (e4 ho'.2)) hv hr hlt hf hsep).mono ?_
  rintro e w' ⟨v, ν', rfl, d⟩
  exact ⟨v, ν', rfl, d.le, d.dom, d.val, d.put, d.new, d.os, d.tape, d.output, d.size, d.block, d.fresh, d.apart⟩
/-- l5Tidy of two wheels. -/
def Fti2 (ti : List Wh → List Wh) (okt : List Wh → Bool) : List SA → Option FR
  | [.row 2 g] => match g 0, g 1 with
    | [.int .i64 a0, .int .i64 a1, .int .i64 a2, .int .i64 a3, .int .i64 a4, .int .i64 a5, .int .i64 a6, .int .i64 a7, .int .i64 a8], [.int .i64 b0, .int .i64 b1, .int .i64 b2, .int .i64 b3, .int .i64 b4, .int .i64 b5, .int .i64 b6, .int .i64 b7, .int .i64 b8] => some { val := .tup [.own 0 (ti [⟨a0, ⟨a1, a2, a3, a4, a5, a6, a7, a8⟩⟩, ⟨b0, ⟨b1, b2, b3, b4, b5, b6, b7, b8⟩⟩]).length, .v (.bool (okt [⟨a0, ⟨a1, a2, a3, a4, a5, a6, a7, a8⟩⟩, ⟨b0, ⟨b1, b2, b3, b4, b5, b6, b7, b8⟩⟩]))], new := [.row true (ti [⟨a0, ⟨a1, a2, a3, a4, a5, a6, a7, a8⟩⟩, ⟨b0, ⟨b1, b2, b3, b4, b5, b6, b7, b8⟩⟩]).length 9 (row9 (wfun (ti [⟨a0, ⟨a1, a2, a3, a4, a5, a6, a7, a8⟩⟩, ⟨b0, ⟨b1, b2, b3, b4, b5, b6, b7, b8⟩⟩]))) 46] }
    | _, _ => none
  | _ => none
theorem ok_ti2 : SpecOk Try.prog 62 (specR md_ws (Fti2 tidyL okT)) := by
  have h := ok_tidyS
  rw [← FtidyO_eq] at h
  refine specR_sub' (fun sas fr hF => ?_) h
  unfold Fti2 at hF
  split at hF
  · rename_i g
    split at hF
    · rename_i a0 a1 a2 a3 a4 a5 a6 a7 a8 b0 b1 b2 b3 b4 b5 b6 b7 b8 e0 e1
      cases hF
      have hL : listW (itW g) 2 = [⟨a0, ⟨a1, a2, a3, a4, a5, a6, a7, a8⟩⟩, ⟨b0, ⟨b1, b2, b3, b4, b5, b6, b7, b8⟩⟩] := by
        show [whOf (itW g 0), whOf (itW g 1)] = _
        unfold whOf itW
        rw [e0, e1]
        rfl
      refine ⟨_, rfl, by simp only [hL], by simp only [hL], rfl, ?_⟩
      · have ha : allW 2 g = true := List.all_eq_true.2 fun j hj => by
          have hj : j < 2 := by simpa using hj
          rcases (by omega : j = 0 ∨ j = 1) with rfl | rfl
          · rw [e0]; rfl
          · rw [e1]; rfl
        intro _
        simp only [ob_cons, ob_nil, and_true]
        exact ⟨ha, by decide⟩
    · cases hF
  · cases hF
def gmRd (gf : Int → Int → Int) (ti : List Wh → List Wh) (okt : List Wh → Bool) : Gam := ext (ext (ext gm_l6In 154 (specR [.val, .val] (FgcO gf))) 155 (specR [.val, .val] FnuO)) 62 (specR md_ws (Fti2 ti okt))
theorem treeRd (gf : Int → Int → Int) (ti : List Wh → List Wh) (okt : List Wh → Bool) (a b : Int) (c : Bool) (d : Int) : execF Try.prog (gmRd gf ti okt) noLam 100 Try.f125 [.v (i64 a), .v (i64 b), .v (.bool c), .v (i64 d)] [] (packK 0)
    = bif !inR a (6 : Int) (240 : Int) then Res.out Ex.ret [AV.tup [AV.own (0 : Nat) (0 : Nat), AV.v (Value.bool false)]] [AB.row true (0 : Nat) (9 : Nat) (fun _ ↦ []) (46 : Nat)] else bif !inR b (6 : Int) (240 : Int) then Res.out Ex.ret [AV.tup [AV.own (0 : Nat) (0 : Nat), AV.v (Value.bool false)]] [AB.row true (0 : Nat) (9 : Nat) (fun _ ↦ []) (46 : Nat)] else bif c then bif decide (b ≥ a) then Res.out Ex.ret [AV.tup [AV.own (0 : Nat) (0 : Nat), AV.v (Value.bool false)]] [AB.row true (0 : Nat) (9 : Nat) (fun _ ↦ []) (46 : Nat)] else needs [!decide (gf a b = (0 : Int))] (bif !inR d (-300 : Int) (300 : Int) then Res.out Ex.ret [AV.tup [AV.own (0 : Nat) (0 : Nat), AV.v (Value.bool false)]] [AB.row true (0 : Nat) (9 : Nat) (fun _ ↦ []) (46 : Nat)] else bif c then needs [!decide (gf a b = (0 : Int)), !decide (gf a b = (0 : Int))] (Res.out Ex.ret [AV.tup [AV.own (0 : Nat) (List.length (ti [Wh.mk (IntKind.wrap IntKind.i64 (Int.tdiv b (gf a b))) (Cy.mk (IntKind.wrap IntKind.i64 (a - b)) (0 : Int) (0 : Int) (0 : Int) (0 : Int) (0 : Int) (0 : Int) (0 : Int)), Wh.mk (IntKind.wrap IntKind.i64 (Int.tdiv (IntKind.wrap IntKind.i64 (b - a)) (gf a b))) (Cy.mk d (0 : Int) (0 : Int) (0 : Int) (0 : Int) (0 : Int) (0 : Int) (0 : Int))])), AV.v (Value.bool (okt [Wh.mk (IntKind.wrap IntKind.i64 (Int.tdiv b (gf a b))) (Cy.mk (IntKind.wrap IntKind.i64 (a - b)) (0 : Int) (0 : Int) (0 : Int) (0 : Int) (0 : Int) (0 : Int) (0 : Int)), Wh.mk (IntKind.wrap IntKind.i64 (Int.tdiv (IntKind.wrap IntKind.i64 (b - a)) (gf a b))) (Cy.mk d (0 : Int) (0 : Int) (0 : Int) (0 : Int) (0 : Int) (0 : Int) (0 : Int))]))]] [AB.row true (List.length (ti [Wh.mk (IntKind.wrap IntKind.i64 (Int.tdiv b (gf a b))) (Cy.mk (IntKind.wrap IntKind.i64 (a - b)) (0 : Int) (0 : Int) (0 : Int) (0 : Int) (0 : Int) (0 : Int) (0 : Int)), Wh.mk (IntKind.wrap IntKind.i64 (Int.tdiv (IntKind.wrap IntKind.i64 (b - a)) (gf a b))) (Cy.mk d (0 : Int) (0 : Int) (0 : Int) (0 : Int) (0 : Int) (0 : Int) (0 : Int))])) (9 : Nat) (row9 (wfun (ti [Wh.mk (IntKind.wrap IntKind.i64 (Int.tdiv b (gf a b))) (Cy.mk (IntKind.wrap IntKind.i64 (a - b)) (0 : Int) (0 : Int) (0 : Int) (0 : Int) (0 : Int) (0 : Int) (0 : Int)), Wh.mk (IntKind.wrap IntKind.i64 (Int.tdiv (IntKind.wrap IntKind.i64 (b - a)) (gf a b))) (Cy.mk d (0 : Int) (0 : Int) (0 : Int) (0 : Int) (0 : Int) (0 : Int) (0 : Int))]))) (46 : TypeId)]) else needs [!decide (gf a b = (0 : Int)), !decide (gf a b = (0 : Int))] (Res.out Ex.ret [AV.tup [AV.own (0 : Nat) (List.length (ti [Wh.mk (IntKind.wrap IntKind.i64 (Int.tdiv b (gf a b))) (Cy.mk (IntKind.wrap IntKind.i64 (a + b)) (0 : Int) (0 : Int) (0 : Int) (0 : Int) (0 : Int) (0 : Int) (0 : Int)), Wh.mk (IntKind.wrap IntKind.i64 (Int.tdiv (IntKind.wrap IntKind.i64 (a + b)) (gf a b))) (Cy.mk (IntKind.wrap IntKind.i64 ((0 : Int) - d)) (0 : Int) (0 : Int) (0 : Int) (0 : Int) (0 : Int) (0 : Int) (0 : Int))])), AV.v (Value.bool (okt [Wh.mk (IntKind.wrap IntKind.i64 (Int.tdiv b (gf a b))) (Cy.mk (IntKind.wrap IntKind.i64 (a + b)) (0 : Int) (0 : Int) (0 : Int) (0 : Int) (0 : Int) (0 : Int) (0 : Int)), Wh.mk (IntKind.wrap IntKind.i64 (Int.tdiv (IntKind.wrap IntKind.i64 (a + b)) (gf a b))) (Cy.mk (IntKind.wrap IntKind.i64 ((0 : Int) - d)) (0 : Int) (0 : Int) (0 : Int) (0 : Int) (0 : Int) (0 : Int) (0 : Int))]))]] [AB.row true (List.length (ti [Wh.mk (IntKind.wrap IntKind.i64 (Int.tdiv b (gf a b))) (Cy.mk (IntKind.wrap IntKind.i64 (a + b)) (0 : Int) (0 : Int) (0 : Int) (0 : Int) (0 : Int) (0 : Int) (0 : Int)), Wh.mk (IntKind.wrap IntKind.i64 (Int.tdiv (IntKind.wrap IntKind.i64 (a + b)) (gf a b))) (Cy.mk (IntKind.wrap IntKind.i64 ((0 : Int) - d)) (0 : Int) (0 : Int) (0 : Int) (0 : Int) (0 : Int) (0 : Int) (0 : Int))])) (9 : Nat) (row9 (wfun (ti [Wh.mk (IntKind.wrap IntKind.i64 (Int.tdiv b (gf a b))) (Cy.mk (IntKind.wrap IntKind.i64 (a + b)) (0 : Int) (0 : Int) (0 : Int) (0 : Int) (0 : Int) (0 : Int) (0 : Int)), Wh.mk (IntKind.wrap IntKind.i64 (Int.tdiv (IntKind.wrap IntKind.i64 (a + b)) (gf a b))) (Cy.mk (IntKind.wrap IntKind.i64 ((0 : Int) - d)) (0 : Int) (0 : Int) (0 : Int) (0 : Int) (0 : Int) (0 : Int) (0 : Int))]))) (46 : TypeId)])) else needs [!decide (gf a b = (0 : Int))] (bif !inR d (-300 : Int) (300 : Int) then Res.out Ex.ret [AV.tup [AV.own (0 : Nat) (0 : Nat), AV.v (Value.bool false)]] [AB.row true (0 : Nat) (9 : Nat) (fun _ ↦ []) (46 : Nat)] else bif c then needs [!decide (gf a b = (0 : Int)), !decide (gf a b = (0 : Int))] (Res.out Ex.ret [AV.tup [AV.own (0 : Nat) (List.length (ti [Wh.mk (IntKind.wrap IntKind.i64 (Int.tdiv b (gf a b))) (Cy.mk (IntKind.wrap IntKind.i64 (a - b)) (0 : Int) (0 : Int) (0 : Int) (0 : Int) (0 : Int) (0 : Int) (0 : Int)), Wh.mk (IntKind.wrap IntKind.i64 (Int.tdiv (IntKind.wrap IntKind.i64 (b - a)) (gf a b))) (Cy.mk d (0 : Int) (0 : Int) (0 : Int) (0 : Int) (0 : Int) (0 : Int) (0 : Int))])), AV.v (Value.bool (okt [Wh.mk (IntKind.wrap IntKind.i64 (Int.tdiv b (gf a b))) (Cy.mk (IntKind.wrap IntKind.i64 (a - b)) (0 : Int) (0 : Int) (0 : Int) (0 : Int) (0 : Int) (0 : Int) (0 : Int)), Wh.mk (IntKind.wrap IntKind.i64 (Int.tdiv (IntKind.wrap IntKind.i64 (b - a)) (gf a b))) (Cy.mk d (0 : Int) (0 : Int) (0 : Int) (0 : Int) (0 : Int) (0 : Int) (0 : Int))]))]] [AB.row true (List.length (ti [Wh.mk (IntKind.wrap IntKind.i64 (Int.tdiv b (gf a b))) (Cy.mk (IntKind.wrap IntKind.i64 (a - b)) (0 : Int) (0 : Int) (0 : Int) (0 : Int) (0 : Int) (0 : Int) (0 : Int)), Wh.mk (IntKind.wrap IntKind.i64 (Int.tdiv (IntKind.wrap IntKind.i64 (b - a)) (gf a b))) (Cy.mk d (0 : Int) (0 : Int) (0 : Int) (0 : Int) (0 : Int) (0 : Int) (0 : Int))])) (9 : Nat) (row9 (wfun (ti [Wh.mk (IntKind.wrap IntKind.i64 (Int.tdiv b (gf a b))) (Cy.mk (IntKind.wrap IntKind.i64 (a - b)) (0 : Int) (0 : Int) (0 : Int) (0 : Int) (0 : Int) (0 : Int) (0 : Int)), Wh.mk (IntKind.wrap IntKind.i64 (Int.tdiv (IntKind.wrap IntKind.i64 (b - a)) (gf a b))) (Cy.mk d (0 : Int) (0 : Int) (0 : Int) (0 : Int) (0 : Int) (0 : Int) (0 : Int))]))) (46 : TypeId)]) else needs [!decide (gf a b = (0 : Int)), !decide (gf a b = (0 : Int))] (Res.out Ex.ret [AV.tup [AV.own (0 : Nat) (List.length (ti [Wh.mk (IntKind.wrap IntKind.i64 (Int.tdiv b (gf a b))) (Cy.mk (IntKind.wrap IntKind.i64 (a + b)) (0 : Int) (0 : Int) (0 : Int) (0 : Int) (0 : Int) (0 : Int) (0 : Int)), Wh.mk (IntKind.wrap IntKind.i64 (Int.tdiv (IntKind.wrap IntKind.i64 (a + b)) (gf a b))) (Cy.mk (IntKind.wrap IntKind.i64 ((0 : Int) - d)) (0 : Int) (0 : Int) (0 : Int) (0 : Int) (0 : Int) (0 : Int) (0 : Int))])), AV.v (Value.bool (okt [Wh.mk (IntKind.wrap IntKind.i64 (Int.tdiv b (gf a b))) (Cy.mk (IntKind.wrap IntKind.i64 (a + b)) (0 : Int) (0 : Int) (0 : Int) (0 : Int) (0 : Int) (0 : Int) (0 : Int)), Wh.mk (IntKind.wrap IntKind.i64 (Int.tdiv (IntKind.wrap IntKind.i64 (a + b)) (gf a b))) (Cy.mk (IntKind.wrap IntKind.i64 ((0 : Int) - d)) (0 : Int) (0 : Int) (0 : Int) (0 : Int) (0 : Int) (0 : Int) (0 : Int))]))]] [AB.row true (List.length (ti [Wh.mk (IntKind.wrap IntKind.i64 (Int.tdiv b (gf a b))) (Cy.mk (IntKind.wrap IntKind.i64 (a + b)) (0 : Int) (0 : Int) (0 : Int) (0 : Int) (0 : Int) (0 : Int) (0 : Int)), Wh.mk (IntKind.wrap IntKind.i64 (Int.tdiv (IntKind.wrap IntKind.i64 (a + b)) (gf a b))) (Cy.mk (IntKind.wrap IntKind.i64 ((0 : Int) - d)) (0 : Int) (0 : Int) (0 : Int) (0 : Int) (0 : Int) (0 : Int) (0 : Int))])) (9 : Nat) (row9 (wfun (ti [Wh.mk (IntKind.wrap IntKind.i64 (Int.tdiv b (gf a b))) (Cy.mk (IntKind.wrap IntKind.i64 (a + b)) (0 : Int) (0 : Int) (0 : Int) (0 : Int) (0 : Int) (0 : Int) (0 : Int)), Wh.mk (IntKind.wrap IntKind.i64 (Int.tdiv (IntKind.wrap IntKind.i64 (a + b)) (gf a b))) (Cy.mk (IntKind.wrap IntKind.i64 ((0 : Int) - d)) (0 : Int) (0 : Int) (0 : Int) (0 : Int) (0 : Int) (0 : Int) (0 : Int))]))) (46 : TypeId)])) := by kernel_rfl

/-- The ring design that is drawn. -/
def FrdO (rd : Int → Int → Bool → Int → List Wh) (ro : Int → Int → Bool → Int → Bool) : List SA → Option FR
  | [.v (.int .i64 a), .v (.int .i64 b), .v (.bool c), .v (.int .i64 d)] => some { val := .tup [.own 0 (rd a b c d).length, .v (.bool (ro a b c d))], new := [.row true (rd a b c d).length 9 (row9 (wfun (rd a b c d))) 46] }
  | _ => none
def rnP (a b : Int) (c : Bool) (d : Int) : Bool := inR a 6 240 && (inR b 6 240 && (!(c && decide (b ≥ a)) && inR d (-300) 300))
def rnW (a b : Int) (c : Bool) (d : Int) : List Wh := bif c then [⟨IntKind.wrap IntKind.i64 (Int.tdiv b (gcdF a b)), ⟨IntKind.wrap IntKind.i64 (a - b), 0, 0, 0, 0, 0, 0, 0⟩⟩, ⟨IntKind.wrap IntKind.i64 (Int.tdiv (IntKind.wrap IntKind.i64 (b - a)) (gcdF a b)), ⟨d, 0, 0, 0, 0, 0, 0, 0⟩⟩] else [⟨IntKind.wrap IntKind.i64 (Int.tdiv b (gcdF a b)), ⟨IntKind.wrap IntKind.i64 (a + b), 0, 0, 0, 0, 0, 0, 0⟩⟩, ⟨IntKind.wrap IntKind.i64 (Int.tdiv (IntKind.wrap IntKind.i64 (a + b)) (gcdF a b)), ⟨IntKind.wrap IntKind.i64 (0 - d), 0, 0, 0, 0, 0, 0, 0⟩⟩]
def rnL (a b : Int) (c : Bool) (d : Int) : List Wh := bif rnP a b c d then tidyL (rnW a b c d) else []
def rnO (a b : Int) (c : Bool) (d : Int) : Bool := rnP a b c d && okT (rnW a b c d)
theorem gmRd_ok : GamOk Try.prog (gmRd gcdF tidyL okT) := by
  refine ext_ok (ext_ok (ext_ok gm_l6In_ok ?_) ok_num) ok_ti2
  have e : FgcO gcdF = F_gcd := by funext l; rfl
  rw [e]
  exact ok_gcd
theorem gcd_nz {a b : Int} (ha : inR a 6 240 = true) (hb : inR b 6 240 = true) : gcdF a b ≠ 0 := by
  have ha := inR_iff.1 ha
  have hb := inR_iff.1 hb
  rw [gcdF_eq (by omega) (by omega)]
  have : 0 < Nat.gcd a.natAbs b.natAbs := Nat.gcd_pos_of_pos_left _ (by omega)
  omega
theorem rnL_no {a b : Int} {c : Bool} {d : Int} (h : rnP a b c d = false) : rnL a b c d = [] ∧ rnO a b c d = false := ⟨by rw [rnL, h]; rfl, by rw [rnO, h]; rfl⟩
theorem rnL_yes {a b : Int} {c : Bool} {d : Int} (h : rnP a b c d = true) : rnL a b c d = tidyL (rnW a b c d) ∧ rnO a b c d = okT (rnW a b c d) := ⟨by rw [rnL, h]; rfl, by rw [rnO, h, Bool.true_and]⟩
theorem rnL_len (a b : Int) (c : Bool) (d : Int) : (rnL a b c d).length ≤ 12 := by
  cases h : rnP a b c d with
  | false => rw [(rnL_no h).1]; exact Nat.zero_le _
  | true =>
    rw [(rnL_yes h).1]
    cases ht : okT (rnW a b c d) with
    | true => exact tidyL_len ht
    | false => rw [tidyL_no ht]; exact Nat.zero_le _
theorem ok_rd : SpecOk Try.prog 125 (specR [.val, .val, .val, .val] (FrdO rnL rnO)) := by
  refine specR_hr gmRd_ok Try.func125 rfl fun sas fr hF ho => ?_
  unfold FrdO at hF
  split at hF
  · rename_i a b c d
    cases hF
    refine ⟨[], noLam, 100, .nil, noLam' _, ?_⟩
    show GoodQ (execF Try.prog (gmRd gcdF tidyL okT) noLam 100 Try.f125 [.v (i64 a), .v (i64 b), .v (.bool c), .v (i64 d)] [] (packK 0)) _
    rw [treeRd]
    have bad : rnP a b c d = false → GoodQ (.out .ret [.tup [.own 0 0, .v (.bool false)]] [.row true 0 9 (fun _ => []) 46]) (GivR (abP [.val, .val, .val, .val] [.v (.int .i64 a), .v (.int .i64 b), .v (.bool c), .v (.int .i64 d)] []) { val := .tup [.own 0 (rnL a b c d).length, .v (.bool (rnO a b c d))], new := [.row true (rnL a b c d).length 9 (row9 (wfun (rnL a b c d))) 46] }) := by
      intro h
      rw [(rnL_no h).1, (rnL_no h).2]
      exact good_out ⟨_, rfl, rfl, .cons (ABeq.row fun j hj => absurd hj (Nat.not_lt_zero _)) .nil⟩
    have yes : ∀ M : List Wh, rnP a b c d = true → rnW a b c d = M → GoodQ (.out .ret [.tup [.own 0 (tidyL M).length, .v (.bool (okT M))]] [.row true (tidyL M).length 9 (row9 (wfun (tidyL M))) 46]) (GivR (abP [.val, .val, .val, .val] [.v (.int .i64 a), .v (.int .i64 b), .v (.bool c), .v (.int .i64 d)] []) { val := .tup [.own 0 (rnL a b c d).length, .v (.bool (rnO a b c d))], new := [.row true (rnL a b c d).length 9 (row9 (wfun (rnL a b c d))) 46] }) := by
      rintro M h rfl
      rw [(rnL_yes h).1, (rnL_yes h).2]
      exact good_out ⟨_, rfl, rfl, Hsim.refl _⟩
    cases h1 : inR a 6 240 with
    | false => exact good_true rfl (bad (by rw [rnP, h1]; rfl))
    | true =>
    refine good_false rfl ?_
    cases h2 : inR b 6 240 with
    | false => exact good_true rfl (bad (by rw [rnP, h1, h2]; rfl))
    | true =>
    refine good_false rfl ?_
    have hz : decide (gcdF a b = 0) = false := decide_eq_false (gcd_nz h1 h2)
    rw [hz]
    cases c with
    | true =>
      refine good_true rfl ?_
      cases h3 : decide (b ≥ a) with
      | true => exact good_true rfl (bad (by rw [rnP, h1, h2, h3]; rfl))
      | false =>
      refine good_false rfl (good_needs rfl ?_)
      cases h4 : inR d (-300) 300 with
      | false => exact good_true rfl (bad (by rw [rnP, h1, h2, h3, h4]; rfl))
      | true => exact good_false rfl (good_true rfl (good_needs rfl (yes _ (by rw [rnP, h1, h2, h3, h4]; rfl) rfl)))
    | false =>
      refine good_false rfl (good_needs rfl ?_)
      cases h4 : inR d (-300) 300 with
      | false => exact good_true rfl (bad (by rw [rnP, h1, h2, h4]; rfl))
      | true => exact good_false rfl (good_false rfl (good_needs rfl (yes _ (by rw [rnP, h1, h2, h4]; rfl) rfl)))
  · cases hF

end Go.Proofs.Ytmdcafhnjihckaa

/- l92Design: its trees. Conditions: those of pick. -/
namespace Go.Proofs.Ytmdcafhnjihckaa
open Go.RowKit
set_option maxRecDepth 100000

noncomputable abbrev fD2 : Func := Try.f69
def gmD2 (pk : Nat → (Nat → Int) → Int → Int → Int) (cf : Nat → (Nat → Int) → Int → Nat → Int) (cp : Nat → (Nat → Int) → Int → Int) : Gam := ext (gmPk pk) 126 (specK [] (FcyO cf cp))
abbrev lvD2 : Ex → List Nat := lv3 [0, 5, 6, 7, 8, 9] [7] [2]
abbrev stD2 (st fi : Int) (n : Nat) (i : Nat) : List AV := [.ptr 0 0 0 0, .v (i64 st), .v (i64 fi), .own 2 i, .v (i64 n), .v (i64 i)]
theorem rndD2 (pk : Nat → (Nat → Int) → Int → Int → Int) (cf : Nat → (Nat → Int) → Int → Nat → Int) (cp : Nat → (Nat → Int) → Int → Int) (l : Nat) (c : Option Nat) (p : Int) (m : Nat) (b : Nat → Int) (tr tb : TypeId) (h : Nat → Nat → Int) (st fi : Int) (n : Nat) (i : Nat) : execC Try.prog (gmD2 pk cf cp) 100 noLam (loopAt 1 fD2) (mkT 0 65 ((lvD2 .normal).zip (stD2 st fi n i))) (hpDs l c p m b tr tb i h) (leafV 65 lvD2 2)
    = bif decide ((↑i : Int) < (↑n : Int)) then needs [okB m (rowB b), decide (l ≤ m), decide ((0 : Int) ≤ p), decide (p ≤ (1073741824 : Int)), decide ((0 : Nat) < m), okB m (rowB b), decide (l ≤ m), decide ((0 : Int) ≤ p + (1 : Int)), decide (p + (1 : Int) ≤ (536870912 : Int)), decide ((0 : Nat) < m), decide ((0 : Nat) < m), Nat.ble i i, Nat.ble (i + (1 : Nat)) (549755813888 : Nat)] (Res.out Ex.normal [AV.ptr (0 : Nat) (0 : Nat) (0 : Nat) (0 : Nat), AV.v (Value.int IntKind.i64 st), AV.v (Value.int IntKind.i64 fi), AV.own (2 : Nat) (i + (1 : Nat)), AV.v (Value.int IntKind.i64 (↑n : Int)), AV.v (Value.int IntKind.i64 (IntKind.wrap IntKind.i64 ((↑i : Int) + (1 : Int))))] [AB.cells [AV.sl (1 : Nat) (1 : Nat) (0 : Nat) (0 : Nat) l c, AV.v (Value.int IntKind.i64 (cp l (itB (rowB b)) (p + (1 : Int))))] tr, AB.row false m (1 : Nat) (rowB b) tb, AB.row true (i + (1 : Nat)) (9 : Nat) (fun q ↦ [Value.int IntKind.i64 (bif Nat.blt q i then h q (0 : Nat) else IntKind.wrap IntKind.i64 (fi + IntKind.wrap IntKind.i64 (st * IntKind.wrap IntKind.i64 (pk l (itB (rowB b)) p (5 : Int) - (2 : Int))))), Value.int IntKind.i64 (bif Nat.blt q i then h q (1 : Nat) else cf l (itB (rowB b)) (p + (1 : Int)) (0 : Nat)), Value.int IntKind.i64 (bif Nat.blt q i then h q (2 : Nat) else cf l (itB (rowB b)) (p + (1 : Int)) (1 : Nat)), Value.int IntKind.i64 (bif Nat.blt q i then h q (3 : Nat) else cf l (itB (rowB b)) (p + (1 : Int)) (2 : Nat)), Value.int IntKind.i64 (bif Nat.blt q i then h q (4 : Nat) else cf l (itB (rowB b)) (p + (1 : Int)) (3 : Nat)), Value.int IntKind.i64 (bif Nat.blt q i then h q (5 : Nat) else cf l (itB (rowB b)) (p + (1 : Int)) (4 : Nat)), Value.int IntKind.i64 (bif Nat.blt q i then h q (6 : Nat) else cf l (itB (rowB b)) (p + (1 : Int)) (5 : Nat)), Value.int IntKind.i64 (bif Nat.blt q i then h q (7 : Nat) else cf l (itB (rowB b)) (p + (1 : Int)) (6 : Nat)), Value.int IntKind.i64 (bif Nat.blt q i then h q (8 : Nat) else cf l (itB (rowB b)) (p + (1 : Int)) (7 : Nat))]) (46 : Nat)]) else Res.out (Ex.exit (1 : Nat)) [AV.own (2 : Nat) i] [AB.cells [AV.sl (1 : Nat) (1 : Nat) (0 : Nat) (0 : Nat) l c, AV.v (Value.int IntKind.i64 p)] tr, AB.row false m (1 : Nat) (rowB b) tb, AB.row true i (9 : Nat) (row9 h) (46 : TypeId)] := by kernel_rfl

noncomputable abbrev lamD2 (l : Nat) (c : Option Nat) (m : Nat) (b : Nat → Int) (tr tb : TypeId) (st fi : Int) (n : Nat) (p1 p2 : Int) (h : Nat → Nat → Int) : Nat → Option Sum := oneL 1 (atS 65 (lvD2 .normal) 2 (stD2 st fi n 0) (hpDs l c p1 m b tr tb 0 (wfun [])) (fun K => K .normal (mkT 0 65 [(7, .own 2 n)]) (hpDs l c p2 m b tr tb n h)))
def gmE2D (pk : Nat → (Nat → Int) → Int → Int → Int) (dl : Nat → (Nat → Int) → Int → List Wh) (dp : Nat → (Nat → Int) → Int → Int) (rd : Int → Int → Bool → Int → List Wh) (ro : Int → Int → Bool → Int → Bool) : Gam := ext (ext (gmPk pk) 107 (specK [] (FdgO dl dp))) 125 (specR [.val, .val, .val, .val] (FrdO rd ro))
theorem treeD2 (pk : Nat → (Nat → Int) → Int → Int → Int) (dl : Nat → (Nat → Int) → Int → List Wh) (dp : Nat → (Nat → Int) → Int → Int) (rd : Int → Int → Bool → Int → List Wh) (ro : Int → Int → Bool → Int → Bool) (l : Nat) (c : Option Nat) (p : Int) (m : Nat) (b : Nat → Int) (tr tb : TypeId) (st fi : Int) (n : Nat) (p1 p2 : Int) (h : Nat → Nat → Int) : execF Try.prog (gmE2D pk dl dp rd ro) (lamD2 l c m b tr tb st fi n p1 p2 h) 100 fD2 [.ptr 0 0 0 0] (hpRd l c p m b tr tb) (packK 2)
    = needs [okB m (rowB b), decide (l ≤ m), decide ((0 : Int) ≤ p), decide (p ≤ (1073741824 : Int)), decide ((0 : Nat) < m)] (bif pk l (itB (rowB b)) p (4 : Int) == (0 : Int) then needs [okB m (rowB b), decide (l ≤ m), decide ((0 : Int) ≤ p + (1 : Int)), decide (p + (1 : Int) ≤ (134217728 : Int)), decide ((0 : Nat) < m), decide ((0 : Nat) < m)] (Res.out Ex.ret [AV.own (2 : Nat) (List.length (dl l (itB (rowB b)) (p + (1 : Int))))] [AB.cells [AV.sl (1 : Nat) (1 : Nat) (0 : Nat) (0 : Nat) l c, AV.v (Value.int IntKind.i64 (dp l (itB (rowB b)) (p + (1 : Int))))] tr, AB.row false m (1 : Nat) (rowB b) tb, AB.row true (List.length (dl l (itB (rowB b)) (p + (1 : Int)))) (9 : Nat) (row9 (wfun (dl l (itB (rowB b)) (p + (1 : Int))))) (46 : TypeId)]) else bif pk l (itB (rowB b)) p (4 : Int) == (1 : Int) then needs [okB m (rowB b), decide (l ≤ m), decide ((0 : Int) ≤ p + (1 : Int)), decide (p + (1 : Int) ≤ (1073741824 : Int)), decide ((0 : Nat) < m), okB m (rowB b), decide (l ≤ m), decide ((0 : Int) ≤ p + (1 : Int) + (1 : Int)), decide (p + (1 : Int) + (1 : Int) ≤ (1073741824 : Int)), decide ((0 : Nat) < m), okB m (rowB b), decide (l ≤ m), decide ((0 : Int) ≤ p + (1 : Int) + (1 : Int) + (1 : Int)), decide (p + (1 : Int) + (1 : Int) + (1 : Int) ≤ (1073741824 : Int)), decide ((0 : Nat) < m), okB m (rowB b), decide (l ≤ m), decide ((0 : Int) ≤ p + (1 : Int) + (1 : Int) + (1 : Int) + (1 : Int)), decide (p + (1 : Int) + (1 : Int) + (1 : Int) + (1 : Int) ≤ (1073741824 : Int)), decide ((0 : Nat) < m)] (bif ro (IntKind.wrap IntKind.i64 ((6 : Int) + pk l (itB (rowB b)) (p + (1 : Int)) (30 : Int))) (IntKind.wrap IntKind.i64 ((6 : Int) + pk l (itB (rowB b)) (p + (1 : Int) + (1 : Int)) (12 : Int))) (pk l (itB (rowB b)) (p + (1 : Int) + (1 : Int) + (1 : Int)) (2 : Int) == (0 : Int)) (IntKind.wrap IntKind.i64 (pk l (itB (rowB b)) (p + (1 : Int) + (1 : Int) + (1 : Int) + (1 : Int)) (20 : Int) - (10 : Int))) then Res.out Ex.ret [AV.own (2 : Nat) (List.length (rd (IntKind.wrap IntKind.i64 ((6 : Int) + pk l (itB (rowB b)) (p + (1 : Int)) (30 : Int))) (IntKind.wrap IntKind.i64 ((6 : Int) + pk l (itB (rowB b)) (p + (1 : Int) + (1 : Int)) (12 : Int))) (pk l (itB (rowB b)) (p + (1 : Int) + (1 : Int) + (1 : Int)) (2 : Int) == (0 : Int)) (IntKind.wrap IntKind.i64 (pk l (itB (rowB b)) (p + (1 : Int) + (1 : Int) + (1 : Int) + (1 : Int)) (20 : Int) - (10 : Int)))))] [AB.cells [AV.sl (1 : Nat) (1 : Nat) (0 : Nat) (0 : Nat) l c, AV.v (Value.int IntKind.i64 (p + (1 : Int) + (1 : Int) + (1 : Int) + (1 : Int) + (1 : Int)))] tr, AB.row false m (1 : Nat) (rowB b) tb, AB.row true (List.length (rd (IntKind.wrap IntKind.i64 ((6 : Int) + pk l (itB (rowB b)) (p + (1 : Int)) (30 : Int))) (IntKind.wrap IntKind.i64 ((6 : Int) + pk l (itB (rowB b)) (p + (1 : Int) + (1 : Int)) (12 : Int))) (pk l (itB (rowB b)) (p + (1 : Int) + (1 : Int) + (1 : Int)) (2 : Int) == (0 : Int)) (IntKind.wrap IntKind.i64 (pk l (itB (rowB b)) (p + (1 : Int) + (1 : Int) + (1 : Int) + (1 : Int)) (20 : Int) - (10 : Int))))) (9 : Nat) (row9 (wfun (rd (IntKind.wrap IntKind.i64 ((6 : Int) + pk l (itB (rowB b)) (p + (1 : Int)) (30 : Int))) (IntKind.wrap IntKind.i64 ((6 : Int) + pk l (itB (rowB b)) (p + (1 : Int) + (1 : Int)) (12 : Int))) (pk l (itB (rowB b)) (p + (1 : Int) + (1 : Int) + (1 : Int)) (2 : Int) == (0 : Int)) (IntKind.wrap IntKind.i64 (pk l (itB (rowB b)) (p + (1 : Int) + (1 : Int) + (1 : Int) + (1 : Int)) (20 : Int) - (10 : Int)))))) (46 : TypeId)] else needs [okB m (rowB b), decide (l ≤ m), decide ((0 : Int) ≤ p + (1 : Int) + (1 : Int) + (1 : Int) + (1 : Int) + (1 : Int)), decide (p + (1 : Int) + (1 : Int) + (1 : Int) + (1 : Int) + (1 : Int) ≤ (1073741824 : Int)), decide ((0 : Nat) < m), okB m (rowB b), decide (l ≤ m), decide ((0 : Int) ≤ p + (1 : Int) + (1 : Int) + (1 : Int) + (1 : Int) + (1 : Int) + (1 : Int)), decide (p + (1 : Int) + (1 : Int) + (1 : Int) + (1 : Int) + (1 : Int) + (1 : Int) ≤ (1073741824 : Int)), decide ((0 : Nat) < m), okB m (rowB b), decide (l ≤ m), decide ((0 : Int) ≤ p + (1 : Int) + (1 : Int) + (1 : Int) + (1 : Int) + (1 : Int) + (1 : Int) + (1 : Int)), decide (p + (1 : Int) + (1 : Int) + (1 : Int) + (1 : Int) + (1 : Int) + (1 : Int) + (1 : Int) ≤ (1073741824 : Int)), decide ((0 : Nat) < m), chk ([AV.ptr (0 : Nat) (0 : Nat) (0 : Nat) (0 : Nat), AV.v (Value.int IntKind.i64 (IntKind.wrap IntKind.i64 ((1 : Int) + pk l (itB (rowB b)) (p + (1 : Int) + (1 : Int) + (1 : Int) + (1 : Int) + (1 : Int)) (4 : Int)))), AV.v (Value.int IntKind.i64 (IntKind.wrap IntKind.i64 (pk l (itB (rowB b)) (p + (1 : Int) + (1 : Int) + (1 : Int) + (1 : Int) + (1 : Int) + (1 : Int)) (5 : Int) - (2 : Int)))), AV.own (2 : Nat) (0 : Nat), AV.v (Value.int IntKind.i64 (IntKind.wrap IntKind.i64 ((1 : Int) + pk l (itB (rowB b)) (p + (1 : Int) + (1 : Int) + (1 : Int) + (1 : Int) + (1 : Int) + (1 : Int) + (1 : Int)) (3 : Int)))), AV.v (Value.int IntKind.i64 (0 : Int))] = stD2 st fi n (0 : Nat) ∧ Hsim [AB.cells [AV.sl (1 : Nat) (1 : Nat) (0 : Nat) (0 : Nat) l c, AV.v (Value.int IntKind.i64 (p + (1 : Int) + (1 : Int) + (1 : Int) + (1 : Int) + (1 : Int) + (1 : Int) + (1 : Int) + (1 : Int)))] tr, AB.row false m (1 : Nat) (rowB b) tb, AB.row true (0 : Nat) (9 : Nat) (fun _ ↦ []) (46 : Nat)] (hpDs l c p1 m b tr tb (0 : Nat) (wfun [])))] (Res.out Ex.ret [AV.own (2 : Nat) n] [AB.cells [AV.sl (1 : Nat) (1 : Nat) (0 : Nat) (0 : Nat) l c, AV.v (Value.int IntKind.i64 p2)] tr, AB.row false m (1 : Nat) (rowB b) tb, AB.row true n (9 : Nat) (row9 h) (46 : TypeId)])) else needs [okB m (rowB b), decide (l ≤ m), decide ((0 : Int) ≤ p + (1 : Int)), decide (p + (1 : Int) ≤ (1073741824 : Int)), decide ((0 : Nat) < m), okB m (rowB b), decide (l ≤ m), decide ((0 : Int) ≤ p + (1 : Int) + (1 : Int)), decide (p + (1 : Int) + (1 : Int) ≤ (1073741824 : Int)), decide ((0 : Nat) < m), okB m (rowB b), decide (l ≤ m), decide ((0 : Int) ≤ p + (1 : Int) + (1 : Int) + (1 : Int)), decide (p + (1 : Int) + (1 : Int) + (1 : Int) ≤ (1073741824 : Int)), decide ((0 : Nat) < m), chk ([AV.ptr (0 : Nat) (0 : Nat) (0 : Nat) (0 : Nat), AV.v (Value.int IntKind.i64 (IntKind.wrap IntKind.i64 ((1 : Int) + pk l (itB (rowB b)) (p + (1 : Int)) (4 : Int)))), AV.v (Value.int IntKind.i64 (IntKind.wrap IntKind.i64 (pk l (itB (rowB b)) (p + (1 : Int) + (1 : Int)) (5 : Int) - (2 : Int)))), AV.own (2 : Nat) (0 : Nat), AV.v (Value.int IntKind.i64 (IntKind.wrap IntKind.i64 ((1 : Int) + pk l (itB (rowB b)) (p + (1 : Int) + (1 : Int) + (1 : Int)) (3 : Int)))), AV.v (Value.int IntKind.i64 (0 : Int))] = stD2 st fi n (0 : Nat) ∧ Hsim [AB.cells [AV.sl (1 : Nat) (1 : Nat) (0 : Nat) (0 : Nat) l c, AV.v (Value.int IntKind.i64 (p + (1 : Int) + (1 : Int) + (1 : Int) + (1 : Int)))] tr, AB.row false m (1 : Nat) (rowB b) tb, AB.row true (0 : Nat) (9 : Nat) (fun _ ↦ []) (46 : Nat)] (hpDs l c p1 m b tr tb (0 : Nat) (wfun [])))] (Res.out Ex.ret [AV.own (2 : Nat) n] [AB.cells [AV.sl (1 : Nat) (1 : Nat) (0 : Nat) (0 : Nat) l c, AV.v (Value.int IntKind.i64 p2)] tr, AB.row false m (1 : Nat) (rowB b) tb, AB.row true n (9 : Nat) (row9 h) (46 : TypeId)])) := by kernel_rfl

end Go.Proofs.Ytmdcafhnjihckaa

/- l92Design: a list of wheels, whatever the bytes are. Conditions: those of pick. -/
namespace Go.Proofs.Ytmdcafhnjihckaa
open Go.RowKit
set_option maxRecDepth 100000

/-- Where the reader is after some wheels, and these. -/
noncomputable def d2L (st fi : Int) (l : Nat) (b : Nat → Int) (p : Int) : Nat → List Wh
  | 0 => []
  | i + 1 => d2L st fi l b p i ++ [⟨W (fi + W (st * W (pkV l b (dsP l b p i) 5 - 2))), cyOf (cyF l b (dsP l b p i + 1))⟩]
theorem d2L_len (st fi : Int) (l : Nat) (b : Nat → Int) (p : Int) : ∀ i : Nat, (d2L st fi l b p i).length = i
  | 0 => rfl
  | i + 1 => by
    show (d2L st fi l b p i ++ [_]).length = i + 1
    rw [List.length_append, d2L_len st fi l b p i]
    rfl
theorem gmD2_ok : GamOk Try.prog (gmD2 pkV cyF cyP) := ext_ok (ext_ok g0_ok ok_pick) ok_cyc
theorem gmE2D_ok : GamOk Try.prog (gmE2D pkV dgL dgP rnL rnO) := ext_ok (ext_ok (ext_ok g0_ok ok_pick) ok_design) ok_rd
theorem sumD2 (l : Nat) (c : Option Nat) (p : Int) (m : Nat) (b : Nat → Int) (tr tb : TypeId) (st fi : Int) (N : Nat) (hN : N ≤ 3) (hb : okB m (rowB b) = true) (hl : l ≤ m) (h0 : 0 ≤ p) (h1 : p ≤ 2 ^ 28) (hm : 0 < m) :
    SumOk Try.prog 2 (.block 1 (.loop (loopAt 1 fD2))) (atS 65 (lvD2 .normal) 2 (stD2 st fi N 0) (hpDs l c p m b tr tb 0 (wfun [])) (fun K => K .normal (mkT 0 65 [(7, .own 2 N)]) (hpDs l c (dsP l b p N) m b tr tb N (wfun (d2L st fi l b p N))))) := by
  refine for_at gmD2_ok (n := 100) (m := 2) (lv := lvD2) (fun i => stD2 st fi N i) (fun i => hpDs l c (dsP l b p i) m b tr tb i (wfun (d2L st fi l b p i))) (fun _ => True) N (fun _ => noLam) (lv3_ris rfl rfl rfl) (Nat.le_refl _) trivial fun K Q hk i _ hi => ⟨noLam_ok _ _ _, ?_⟩
  rw [rndD2]
  have hp := dsP_in l b p i
  refine good_cond (fun c1 => ?_) fun c1 => ?_
  · have c1 := of_decide_eq_true c1
    refine good_needs ?_ (good_out ⟨i + 1, ⟨rfl, by omega, trivial⟩, ?_, ?_⟩)
    · simp only [ob_cons, ob_nil, and_true, decide_eq_true_eq, Nat.ble_eq, hb, true_and]
      omega
    · rw [wr_in (x := (i : Int) + 1) (by omega)]
      rfl
    · refine .cons (ABeq.refl _) (.cons (ABeq.refl _) (.cons (ABeq.row fun q hq => ?_) .nil))
      exact ch_row (d2L st fi l b p i) ⟨W (fi + W (st * W (pkV l b (dsP l b p i) 5 - 2))), cyOf (cyF l b (dsP l b p i + 1))⟩ i (d2L_len st fi l b p i) q hq
  · have c1 := of_decide_eq_false c1
    have : i = N := by omega
    subst this
    refine good_out ⟨_, Hsim.refl _, ?_⟩
    rw [if_pos rfl]
    exact hk

theorem d2_ex (l : Nat) (b : Nat → Int) (p : Int) : ∃ (L : List Wh) (p' : Int), (p ≤ p' ∧ p' ≤ p + 70) ∧ L.length ≤ 12 ∧ ∀ (c : Option Nat) (m : Nat) (tr tb : TypeId), okB m (rowB b) = true → l ≤ m → 0 ≤ p → p ≤ 2 ^ 26 → 0 < m → ∃ Λ, (∀ cc, fD2.body = some cc → LamOk Try.prog 2 Λ cc) ∧
    GoodQ (execF Try.prog (gmE2D pkV dgL dgP rnL rnO) Λ 100 fD2 [.ptr 0 0 0 0] (hpRd l c p m b tr tb) (packK 2)) (fun _ vs He => vs = [.own 2 L.length] ∧ Hsim He (hpDs l c p' m b tr tb L.length (wfun L))) := by
  have pn := fun q n => pkV_nn l b q n
  have num : ∀ q : Int, ∃ N : Nat, (N : Int) = 1 + pkV l b q 3 ∧ N ≤ 3 := fun q => by
    have := pn q 3
    have := pkV_lt l b q (n := 3) (by omega)
    exact ⟨(1 + pkV l b q 3).toNat, by omega, by omega⟩
  have lam : ∀ (q : Int) (st fi : Int) (N : Nat), N ≤ 3 → p ≤ q → q ≤ p + 20 → ∀ (c : Option Nat) (m : Nat) (tr tb : TypeId), okB m (rowB b) = true → l ≤ m → 0 ≤ p → p ≤ 2 ^ 26 → 0 < m → (∀ cc, fD2.body = some cc → LamOk Try.prog 2 (lamD2 l c m b tr tb st fi N q (dsP l b q N) (wfun (d2L st fi l b q N))) cc) :=
    fun q st fi N hN h1 h2 c m tr tb hb hl h0 h3 hm => lam1 (by kernel_rfl) (sumD2 l c q m b tr tb st fi N hN hb hl (by omega) (by omega) hm)
  have n0 := pn p 4
  by_cases c0 : pkV l b p 4 = 0
  · have hp := dgP_in l b (p + 1)
    refine ⟨dgL l b (p + 1), dgP l b (p + 1), by omega, dgL_len _ _ _, fun c m tr tb hb hl h0 h1 hm => ⟨_, lam p 0 0 0 (by omega) (by omega) (by omega) c m tr tb hb hl h0 h1 hm, ?_⟩⟩
    rw [treeD2]
    exact good_needs (obP hb hl hm h0 (by omega)) (good_true (beq_iff_eq.2 c0) (good_needs (by simp only [ob_cons, ob_nil, and_true, decide_eq_true_eq, hb, true_and]; omega) (good_out ⟨rfl, Hsim.refl _⟩)))
  · -- the steps, from q on
    have steps : ∀ (q : Int), p + 1 ≤ q → q ≤ p + 5 → ∃ (N : Nat) (L : List Wh) (p' : Int), N ≤ 3 ∧ (N : Int) = 1 + pkV l b (q + 1 + 1) 3 ∧ L = d2L (W (1 + pkV l b q 4)) (W (pkV l b (q + 1) 5 - 2)) l b (q + 1 + 1 + 1) N ∧ p' = dsP l b (q + 1 + 1 + 1) N ∧ (p ≤ p' ∧ p' ≤ p + 70) ∧ L.length = N := fun q h1 h2 => by
      obtain ⟨N, e1, e2⟩ := num (q + 1 + 1)
      have hp := dsP_in l b (q + 1 + 1 + 1) N
      exact ⟨N, _, _, e2, e1, rfl, rfl, by omega, d2L_len _ _ _ _ _ _⟩
    have ob : ∀ (q : Int) (c : Option Nat) (m : Nat) (tr tb : TypeId) (N : Nat), (N : Int) = 1 + pkV l b (q + 1 + 1) 3 → p + 1 ≤ q → q ≤ p + 5 → okB m (rowB b) = true → l ≤ m → 0 ≤ p → p ≤ 2 ^ 26 → 0 < m → obls [okB m (rowB b), decide (l ≤ m), decide (0 ≤ q), decide (q ≤ 1073741824), decide (0 < m), okB m (rowB b), decide (l ≤ m), decide (0 ≤ q + 1), decide (q + 1 ≤ 1073741824), decide (0 < m), okB m (rowB b), decide (l ≤ m), decide (0 ≤ q + 1 + 1), decide (q + 1 + 1 ≤ 1073741824), decide (0 < m), chk ([AV.ptr 0 0 0 0, AV.v (i64 (W (1 + pkV l b q 4))), AV.v (i64 (W (pkV l b (q + 1) 5 - 2))), AV.own 2 0, AV.v (i64 (W (1 + pkV l b (q + 1 + 1) 3))), AV.v (i64 0)] = stD2 (W (1 + pkV l b q 4)) (W (pkV l b (q + 1) 5 - 2)) N 0 ∧ Hsim [AB.cells [AV.sl 1 1 0 0 l c, AV.v (i64 (q + 1 + 1 + 1))] tr, AB.row false m 1 (rowB b) tb, AB.row true 0 9 (fun _ => []) 46] (hpDs l c (q + 1 + 1 + 1) m b tr tb 0 (wfun [])))] = true := fun q c m tr tb N e1 h1 h2 hb hl h0 h3 hm => by
      have := pn (q + 1 + 1) 3
      have := pkV_lt l b (q + 1 + 1) (n := 3) (by omega)
      simp only [ob_cons, ob_nil, and_true, decide_eq_true_eq, hb, true_and]
      refine ⟨by omega, by omega, by omega, by omega, by omega, by omega, by omega, by omega, by omega, by omega, by omega, by omega, chk_of ⟨?_, .cons (ABeq.refl _) (.cons (ABeq.refl _) (.cons (ABeq.row fun j hj => absurd hj (Nat.not_lt_zero _)) .nil))⟩⟩
      rw [w64_in (x := 1 + pkV l b (q + 1 + 1) 3) (by omega) (by omega), ← e1]
      rfl
    by_cases c1 : pkV l b p 4 = 1
    · have a1 := pn (p + 1) 30
      have a1' := pkV_lt l b (p + 1) (n := 30) (by omega)
      have a2 := pn (p + 1 + 1) 12
      have a2' := pkV_lt l b (p + 1 + 1) (n := 12) (by omega)
      have a3 := pn (p + 1 + 1 + 1 + 1) 20
      have a3' := pkV_lt l b (p + 1 + 1 + 1 + 1) (n := 20) (by omega)
      have ob5 : ∀ (m : Nat), okB m (rowB b) = true → l ≤ m → 0 ≤ p → p ≤ 2 ^ 26 → 0 < m → obls [okB m (rowB b), decide (l ≤ m), decide (0 ≤ p + 1), decide (p + 1 ≤ 1073741824), decide (0 < m), okB m (rowB b), decide (l ≤ m), decide (0 ≤ p + 1 + 1), decide (p + 1 + 1 ≤ 1073741824), decide (0 < m), okB m (rowB b), decide (l ≤ m), decide (0 ≤ p + 1 + 1 + 1), decide (p + 1 + 1 + 1 ≤ 1073741824), decide (0 < m), okB m (rowB b), decide (l ≤ m), decide (0 ≤ p + 1 + 1 + 1 + 1), decide (p + 1 + 1 + 1 + 1 ≤ 1073741824), decide (0 < m)] = true := fun m hb hl h0 h1 hm => by
        simp only [ob_cons, ob_nil, and_true, decide_eq_true_eq, hb, true_and]
        omega
      cases hr : rnO (W (6 + pkV l b (p + 1) 30)) (W (6 + pkV l b (p + 1 + 1) 12)) (pkV l b (p + 1 + 1 + 1) 2 == 0) (W (pkV l b (p + 1 + 1 + 1 + 1) 20 - 10)) with
      | true =>
        refine ⟨rnL (W (6 + pkV l b (p + 1) 30)) (W (6 + pkV l b (p + 1 + 1) 12)) (pkV l b (p + 1 + 1 + 1) 2 == 0) (W (pkV l b (p + 1 + 1 + 1 + 1) 20 - 10)), p + 1 + 1 + 1 + 1 + 1, by omega, rnL_len _ _ _ _, fun c m tr tb hb hl h0 h1 hm => ⟨_, lam p 0 0 0 (by omega) (by omega) (by omega) c m tr tb hb hl h0 h1 hm, ?_⟩⟩
        rw [treeD2]
        exact good_needs (obP hb hl hm h0 (by omega)) (good_false (beq_eq_false_iff_ne.2 c0) (good_true (beq_iff_eq.2 c1) (good_needs (ob5 m hb hl h0 h1 hm) (good_true hr (good_out ⟨rfl, Hsim.refl _⟩)))))
      | false =>
        obtain ⟨N, L, p', e2, e1, rfl, rfl, hp, hlen⟩ := steps (p + 1 + 1 + 1 + 1 + 1) (by omega) (by omega)
        refine ⟨d2L (W (1 + pkV l b (p + 1 + 1 + 1 + 1 + 1) 4)) (W (pkV l b (p + 1 + 1 + 1 + 1 + 1 + 1) 5 - 2)) l b (p + 1 + 1 + 1 + 1 + 1 + 1 + 1 + 1) N, _, hp, by omega, fun c m tr tb hb hl h0 h1 hm => ⟨_, lam (p + 1 + 1 + 1 + 1 + 1 + 1 + 1 + 1) (W (1 + pkV l b (p + 1 + 1 + 1 + 1 + 1) 4)) (W (pkV l b (p + 1 + 1 + 1 + 1 + 1 + 1) 5 - 2)) N e2 (by omega) (by omega) c m tr tb hb hl h0 h1 hm, ?_⟩⟩
        rw [treeD2, hlen]
        exact good_needs (obP hb hl hm h0 (by omega)) (good_false (beq_eq_false_iff_ne.2 c0) (good_true (beq_iff_eq.2 c1) (good_needs (ob5 m hb hl h0 h1 hm) (good_false hr (good_needs (ob _ c m tr tb N e1 (by omega) (by omega) hb hl h0 h1 hm) (good_out ⟨rfl, Hsim.refl _⟩))))))
    · obtain ⟨N, L, p', e2, e1, rfl, rfl, hp, hlen⟩ := steps (p + 1) (by omega) (by omega)
      refine ⟨d2L (W (1 + pkV l b (p + 1) 4)) (W (pkV l b (p + 1 + 1) 5 - 2)) l b (p + 1 + 1 + 1 + 1) N, _, hp, by omega, fun c m tr tb hb hl h0 h1 hm => ⟨_, lam (p + 1 + 1 + 1 + 1) (W (1 + pkV l b (p + 1) 4)) (W (pkV l b (p + 1 + 1) 5 - 2)) N e2 (by omega) (by omega) c m tr tb hb hl h0 h1 hm, ?_⟩⟩
      rw [treeD2, hlen]
      exact good_needs (obP hb hl hm h0 (by omega)) (good_false (beq_eq_false_iff_ne.2 c0) (good_false (beq_eq_false_iff_ne.2 c1) (good_needs (ob _ c m tr tb N e1 (by omega) (by omega) hb hl h0 h1 hm) (good_out ⟨rfl, Hsim.refl _⟩))))
noncomputable def ehL (l : Nat) (b : Nat → Int) (p : Int) : List Wh := (d2_ex l b p).choose
noncomputable def ehP (l : Nat) (b : Nat → Int) (p : Int) : Int := (d2_ex l b p).choose_spec.choose
theorem ehP_in (l : Nat) (b : Nat → Int) (p : Int) : p ≤ ehP l b p ∧ ehP l b p ≤ p + 70 := (d2_ex l b p).choose_spec.choose_spec.1
theorem ehL_len (l : Nat) (b : Nat → Int) (p : Int) : (ehL l b p).length ≤ 12 := (d2_ex l b p).choose_spec.choose_spec.2.1
def FehO (dl : Nat → (Nat → Int) → Int → List Wh) (dp : Nat → (Nat → Int) → Int → Int) : List AV → List AB → Option HR
  | [.ptr 0 0 0 0], [.cells [.sl 1 1 0 0 l c, .v (.int .i64 p)] tr, .row false m 1 g tb] => some { val := .own 2 (dl l (itB g) p).length, out := [.cells [.sl 1 1 0 0 l c, .v (.int .i64 (dp l (itB g) p))] tr, .row false m 1 g tb], new := [.row true (dl l (itB g) p).length 9 (row9 (wfun (dl l (itB g) p))) 46], obl := [okB m g, decide (l ≤ m), decide (0 ≤ p), decide (p ≤ 2 ^ 26), decide (0 < m)] }
  | _, _ => none
theorem ok_design2 : SpecOk Try.prog 69 (specK [] (FehO ehL ehP)) := by
  refine specK_ok gmE2D_ok Try.func69 rfl fun avs H hr hF ho => ?_
  unfold FehO at hF
  split at hF
  · rename_i l c p tr m g tb
    cases hF
    simp only [ob_cons, decide_eq_true_eq] at ho
    obtain ⟨h1, h2, h3, h4, h5, _⟩ := ho
    obtain ⟨Λ, e1, e2⟩ := (d2_ex l (itB g) p).choose_spec.choose_spec.2.2 c m tr tb (okB_it h1) h2 h3 h4 h5
    refine ⟨hpRd l c p m (itB g) tr tb, Λ, 100, rd_sim h1, e1, ⟨res_mono (fun e vs He hq => ?_) e2.out⟩⟩
    refine ⟨hq.1, hq.2.trans' (.cons (ABeq.refl _) (.cons (ABeq.row fun j hj => (okB_get h1 hj).1.symm) (Hsim.refl _)))⟩
  · cases hF

end Go.Proofs.Ytmdcafhnjihckaa

/- What is drawn: designs with some symmetry. No conditions. -/
namespace Go.Proofs.Ytmdcafhnjihckaa
open Go.RowKit
set_option maxRecDepth 100000

/-- A design, drawn from bytes. -/
noncomputable def bEx (m : Nat) (b : Nat → Int) : List Wh := if m = 0 then noneL else ehL (lnB m) b 0
theorem bEx_len (m : Nat) (b : Nat → Int) : (bEx m b).length ≤ 12 := by
  unfold bEx
  split
  · show 1 ≤ 12; omega
  · exact ehL_len _ _ _
def gmDrE (dl : Nat → (Nat → Int) → Int → List Wh) (dp : Nat → (Nat → Int) → Int → Int) (pk : Nat → (Nat → Int) → Int → Int → Int) : Gam := ext (gmPk pk) 69 (specK [] (FehO dl dp))
theorem gmDrE_ok : GamOk Try.prog (gmDrE ehL ehP pkV) := ext_ok (ext_ok g0_ok ok_pick) ok_design2

end Go.Proofs.Ytmdcafhnjihckaa

/- DrawDesignMirrored: a list of wheels. Conditions: bytes, at most 2^21. -/
namespace Go.Proofs.Ytmdcafhnjihckaa
open Go.RowKit
set_option maxRecDepth 100000

theorem treeRMd (dl : Nat → (Nat → Int) → Int → List Wh) (dp : Nat → (Nat → Int) → Int → Int) (pk : Nat → (Nat → Int) → Int → Int → Int) (m : Nat) (b : Nat → Int) : execF Try.prog (gmDrE dl dp pk) noLam 100 Try.f43 [.sl 0 1 0 0 m none] [.row false m 1 (rowB b) 5] (packK 1)
    = bif decide ((↑m : Int) > (2000 : Int)) then needs [decide ((2000 : Int) ≤ (↑m : Int)), decide ((↑m : Int) ≤ (↑m : Int)), okB m (rowB b), decide (Int.toNat ((2000 : Int) - (0 : Int)) ≤ m), decide ((0 : Nat) < m), decide ((0 : Nat) < m)] (Res.out Ex.ret [AV.own (1 : Nat) (List.length (dl (Int.toNat ((2000 : Int) - (0 : Int))) (itB (rowB b)) (0 : Int)))] [AB.row false m (1 : Nat) (rowB b) (5 : TypeId), AB.row true (List.length (dl (Int.toNat ((2000 : Int) - (0 : Int))) (itB (rowB b)) (0 : Int))) (9 : Nat) (row9 (wfun (dl (Int.toNat ((2000 : Int) - (0 : Int))) (itB (rowB b)) (0 : Int)))) (46 : TypeId)]) else needs [okB m (rowB b), decide (m ≤ m), decide ((0 : Nat) < m), decide ((0 : Nat) < m)] (Res.out Ex.ret [AV.own (1 : Nat) (List.length (dl m (itB (rowB b)) (0 : Int)))] [AB.row false m (1 : Nat) (rowB b) (5 : TypeId), AB.row true (List.length (dl m (itB (rowB b)) (0 : Int))) (9 : Nat) (row9 (wfun (dl m (itB (rowB b)) (0 : Int)))) (46 : TypeId)]) := by kernel_rfl

theorem treeRMd0 (q : Option Addr) (c : Nat) (g : Nat → List Value) : execF Try.prog g0 noLam 100 Try.f43 [.v (.slice q 0 c)] [.row false 0 1 g 5] (packK 1)
    = Res.out Ex.ret [AV.own (1 : Nat) (1 : Nat)] [AB.row false (0 : Nat) (1 : Nat) g (5 : TypeId), AB.row true (1 : Nat) (9 : Nat) (fun _ ↦ [Value.int IntKind.i64 (1001 : Int), Value.int IntKind.i64 (0 : Int), Value.int IntKind.i64 (0 : Int), Value.int IntKind.i64 (0 : Int), Value.int IntKind.i64 (0 : Int), Value.int IntKind.i64 (0 : Int), Value.int IntKind.i64 (0 : Int), Value.int IntKind.i64 (0 : Int), Value.int IntKind.i64 (0 : Int)]) (46 : Nat)] := by kernel_rfl

theorem ok_drMd : SpecOk Try.prog 43 (specR md_co (FdrO fun m b => frL (bEx m b))) := by
  refine draw_ok Try.func43 rfl (fun m b h0 hm hb => ⟨_, gmDrE_ok, ?_⟩) fun q c g b => ⟨g0, g0_ok, ?_⟩
  · rw [treeRMd, itB_row]
    have e : bEx m b = ehL (lnB m) b 0 := by unfold bEx; rw [if_neg (by omega)]
    have hp := ehP_in (lnB m) b 0
    have hp2 := ehP_in (lnB m) b (ehP (lnB m) b 0)
    rw [e]
    refine good_ln (fun e1 hc => ?_) fun e1 hc => ?_
    · rw [e1] at hp hp2 ⊢
      rw [show Int.toNat ((2000 : Int) - 0) = 2000 from rfl]
      exact ⟨by simp only [ob_cons, ob_nil, and_true, decide_eq_true_eq, hb, true_and]; omega, good_out ⟨_, rfl, rfl, Hsim.refl _⟩⟩
    · rw [e1] at hp hp2 ⊢
      exact ⟨by simp only [ob_cons, ob_nil, and_true, decide_eq_true_eq, hb, true_and]; omega, good_out ⟨_, rfl, rfl, Hsim.refl _⟩⟩
  · rw [treeRMd0]
    exact good_out ⟨_, rfl, rfl, .cons (ABeq.refl _) (.cons (ABeq.row fun j hj => none_row j hj) .nil)⟩

end Go.Proofs.Ytmdcafhnjihckaa
