/- The reference's transform: its word. Conditions: a row of points. -/
import Derived.Test.YtmdcafhnjihckaaZD0
import Derived.Test.YtmdcafhnjihckaaZD1
import Derived.Test.YtmdcafhnjihckaaZD2
import Derived.Test.YtmdcafhnjihckaaZD3
import Derived.Test.YtmdcafhnjihckaaZD4
import Derived.Test.YtmdcafhnjihckaaZD5
import Derived.Test.YtmdcafhnjihckaaZD6
/- The program's CycMirror. Conditions: a point. -/
namespace Go.Proofs.Ytmdcafhnjihckaa
open Go.RowKit
set_option maxRecDepth 100000

def gmO2 (ok : (Nat → Int) → Bool) (mi : (Nat → Int) → Nat → Int) : Gam := ext (ext g0 66 (specV (fOkc ok))) 101 (specV (fMirO mi))
theorem gmO2_ok : GamOk Try.prog (gmO2 (fun v => cyOk (cyOf v)) mirF) := by
  unfold gmO2
  rw [fOkc_eq, fMirO_eq]
  exact ext_ok (ext_ok g0_ok ok_cvI) ok_mirror
/-- A point: a point, and whether it is one. -/
def FcqO (v : (Nat → Int) → Nat → Int) (ok : (Nat → Int) → Bool) : List SA → Option FR
  | [.v (.agg ⟨[.int .i64 a0, .int .i64 a1, .int .i64 a2, .int .i64 a3, .int .i64 a4, .int .i64 a5, .int .i64 a6, .int .i64 a7]⟩)] => some { val := .tup [.agg (cyC (v (v8 a0 a1 a2 a3 a4 a5 a6 a7))), .v (.bool (ok (v8 a0 a1 a2 a3 a4 a5 a6 a7)))] }
  | _ => none
def okMi (a : Nat → Int) : Bool := cyOk (cyOf a) && cyOk (cyOf (mirF a))
def vMi (a : Nat → Int) : Nat → Int := bif okMi a then mirF a else fun _ => 0
end Go.Proofs.Ytmdcafhnjihckaa

/- 'changed', for DesignFaster: trees. Conditions: a list of wheels. -/
namespace Go.Proofs.Ytmdcafhnjihckaa
open Go.RowKit
set_option maxRecDepth 100000

abbrev hpCFa (m : Nat) (f : Nat → Nat → Int) (t : TypeId) (x : Int) (n : Nat) (h : Nat → Nat → Int) : List AB := [.row false m 9 (row9 f) t, .cells [.v (i64 x)] 3, .row true n 9 (row9 h) 46]
end Go.Proofs.Ytmdcafhnjihckaa

/- 'changed', for DesignFaster: its words. Conditions: a list of wheels. -/
namespace Go.Proofs.Ytmdcafhnjihckaa
open Go.RowKit
set_option maxRecDepth 100000

def chFa (x : Int) (w : Wh) : Wh := ⟨IntKind.wrap IntKind.i64 (x * w.s), w.r⟩
abbrev mpFa : Int → List Wh → List Wh := fun x L => L.map (chFa x)
theorem inwFa (x : Int) {L : List Wh} (h : okD L = true) : inW (L.map (chFa x)) := by
  intro w' hw'
  obtain ⟨w, hw, rfl⟩ := List.mem_map.1 hw'
  exact (valid_in h hw : cyIn w.r)
end Go.Proofs.Ytmdcafhnjihckaa

/- The program's DesignFaster. Conditions: a list of wheels. -/
namespace Go.Proofs.Ytmdcafhnjihckaa
open Go.RowKit
set_option maxRecDepth 100000

/-- The list is a design, and what comes of it too. -/
def yesFa (x : Int) (L : List Wh) : Bool := inR x (-20) 20 && (okD L && okT (L.map (chFa x)))
def FdeYFa (yes : Int → List Wh → Bool) (ti : List Wh → List Wh) (mp : Int → List Wh → List Wh) : List SA → Option FR
  | [.row m g, .v (.int .i64 x)] => some { val := valY (ti (mp x (listW (itW g) m))), new := newY (ti (mp x (listW (itW g) m))), obl := [allW m g, decide (m ≤ 2 ^ 38), yes x (listW (itW g) m)] }
  | _ => none
def FdeNFa (yes : Int → List Wh → Bool) : List SA → Option FR
  | [.row m g, .v (.int .i64 x)] => some { val := valN, obl := [allW m g, decide (m ≤ 2 ^ 38), !yes x (listW (itW g) m)] }
  | _ => none
end Go.Proofs.Ytmdcafhnjihckaa

/- The program's DesignFaster, as a list or none, read as one. Conditions: a list of wheels. -/
namespace Go.Proofs.Ytmdcafhnjihckaa
open Go.RowKit
set_option maxRecDepth 100000

theorem chFa_same {x : Int} {w : Wh} : chFa x w = chE x 0 0 false w := by
  have e2 : (IntKind.wrap IntKind.i64 ((0 : Int) + IntKind.wrap IntKind.i64 (0 * w.s)) % 24).toNat = 0 := by rw [Int.zero_mul]; rfl
  rw [chFa, chE, e2]
  rfl
def yF (x : Int) (L : List Wh) : Bool := inR x (-20) 20 && eachOk x 0 0 false L
def tF (x : Int) (L : List Wh) : List Wh := bif inR x (-20) 20 then eachL x 0 0 false L else []
end Go.Proofs.Ytmdcafhnjihckaa

/- Plain laws of designs: turned, later, back, mirrored, faster. No program, no conditions. -/
namespace Go.Proofs.Ytmdcafhnjihckaa
open Go.RowKit

theorem lin_tn {φ : Int → (Nat → Int) → Int} (h : Lin φ) (g c : Int → Int) : Lin fun s f => φ (g s) (tnI f (c s)) := fun s f f' => by
  show φ (g s) (tnI (fun k => f k + f' k) (c s)) = _
  rw [tnI_add]
  exact h _ _ _
theorem loc_tn {φ : Int → (Nat → Int) → Int} (h : Loc φ) (g c : Int → Int) : Loc fun s f => φ (g s) (tnI f (c s)) := fun _ _ _ hf => h _ _ _ (tnI_congr hf _)
theorem tnI_mulmod (f : Nat → Int) (a s : Int) : tnI f (a % 24 * s) = tnI f (a * s) := tnI_mod f (by rw [Int.mul_emod, Int.emod_emod, ← Int.mul_emod])
theorem each_tidy {sp tn la : Int} {mir : Bool} {L : List Wh} (h1 : -20 ≤ sp ∧ sp ≤ 20) (h : eachOk sp tn la mir L = true) : isTidy (eachL sp tn la mir L) := (each_spec h1 h).2.2.2.1
theorem tnI_24 (f : Nat → Int) {n : Int} (h : n % 24 = 0) : ∀ k, k < 8 → tnI f n k = f k := fun k _ => by
  rw [tnI, h]
  rfl
/-- Turned on to a whole turn. -/
theorem law_turned {L : List Wh} {t x : Int} (hx : (t + x) % 24 = 0) (h1 : eachOk 1 t 0 false L = true) (h2 : eachOk 1 x 0 false (eachL 1 t 0 false L) = true) (h3 : yI L = true) : eachL 1 x 0 false (eachL 1 t 0 false L) = tI L := by
  refine tidy_unique (each_tidy (by omega) h2) (tI_spec h3).2.1 fun s k hk => ?_
  rw [(tI_spec h3).2.2 _ (atSp_lin s k), each_lin (by omega) h2 (atSp_lin s k) (atSp_loc s hk), each_lin (by omega) h1 (lin_tn (atSp_lin s k) (fun s => 1 * s) fun s => x + 0 * s) (loc_tn (atSp_loc s hk) (fun s => 1 * s) fun s => x + 0 * s)]
  refine linS_congr fun w _ => ?_
  show atSp s k (1 * (1 * w.s)) (tnI (tnI w.r.f (t + 0 * w.s)) (x + 0 * (1 * w.s))) = atSp s k w.s w.r.f
  rw [show (1 : Int) * (1 * w.s) = w.s by omega, show t + 0 * w.s = t by omega, show x + 0 * (1 * w.s) = x by omega]
  refine atSp_loc s hk _ _ _ fun j hj => ?_
  rw [tnI_tnI _ _ _ j hj, tnI_24 _ hx j hj]
/-- Later. -/
theorem law_later {L : List Wh} {t : Int} {k : Nat} (hk : k < 8) (h1 : eachOk 1 0 t false L = true) : dAt (eachL 1 0 t false L) 5 k = dAt L ((5 + t) % 24) k := by
  refine (each_lin (by omega) h1 (atT_lin 5 k) (atT_loc 5 hk)).trans (linS_congr fun w _ => ?_)
  show tnI (tnI w.r.f (0 + t * w.s)) (5 * (1 * w.s)) k = tnI w.r.f ((5 + t) % 24 * w.s) k
  rw [tnI_tnI _ _ _ k hk, tnI_mulmod, show 0 + t * w.s + 5 * (1 * w.s) = (5 + t) * w.s by rw [Int.add_mul]; omega]
/-- Back and back. -/
theorem law_back {L : List Wh} (h1 : eachOk (-1) 0 0 false L = true) (h2 : eachOk (-1) 0 0 false (eachL (-1) 0 0 false L) = true) (h3 : yI L = true) : eachL (-1) 0 0 false (eachL (-1) 0 0 false L) = tI L := by
  refine tidy_unique (each_tidy (by omega) h2) (tI_spec h3).2.1 fun s k hk => ?_
  rw [(tI_spec h3).2.2 _ (atSp_lin s k), each_lin (by omega) h2 (atSp_lin s k) (atSp_loc s hk), each_lin (by omega) h1 (lin_tn (atSp_lin s k) (fun s => -1 * s) fun s => 0 + 0 * s) (loc_tn (atSp_loc s hk) (fun s => -1 * s) fun s => 0 + 0 * s)]
  refine linS_congr fun w _ => ?_
  show atSp s k (-1 * (-1 * w.s)) (tnI (tnI w.r.f (0 + 0 * w.s)) (0 + 0 * (-1 * w.s))) = atSp s k w.s w.r.f
  rw [show (-1 : Int) * (-1 * w.s) = w.s by omega, show 0 + 0 * w.s = 0 by omega, show 0 + 0 * (-1 * w.s) = 0 by omega]
  rfl
theorem law_back_at {L : List Wh} {k : Nat} (hk : k < 8) (h1 : eachOk (-1) 0 0 false L = true) : dAt (eachL (-1) 0 0 false L) 5 k = dAt L 19 k := by
  refine (each_lin (by omega) h1 (atT_lin 5 k) (atT_loc 5 hk)).trans (linS_congr fun w _ => ?_)
  show tnI (tnI w.r.f (0 + 0 * w.s)) (5 * (-1 * w.s)) k = tnI w.r.f (19 * w.s) k
  rw [show 0 + 0 * w.s = 0 by omega, tnI_zero, tnI_mod w.r.f (m := 5 * (-1 * w.s)) (n := 19 * w.s) (by omega)]
/-- A mirrored point turned. -/
theorem mir_step (f : Nat → Int) : ∀ k, k < 8 → stZ (mirZ (stZ f)) k = mirZ f k := by
  refine forall8 ?_ ?_ ?_ ?_ ?_ ?_ ?_ ?_ <;> simp only [stZ, mirZ] <;> omega
theorem mir_tn (f : Nat → Int) : ∀ (n k : Nat), k < 8 → tnZ (mirZ (tnZ f n)) n k = mirZ f k
  | 0, _, _ => rfl
  | n + 1, k, hk => by
    have e : tnZ (mirZ (stZ (tnZ f n))) (n + 1) k = tnZ (stZ (mirZ (stZ (tnZ f n)))) n k := by
      rw [show n + 1 = 1 + n by omega, ← tnZ_tnZ]
      rfl
    show tnZ (mirZ (stZ (tnZ f n))) (n + 1) k = mirZ f k
    rw [e, tnZ_congr (mir_step (tnZ f n)) n k hk]
    exact mir_tn f n k hk
theorem mir_tnI (f : Nat → Int) (n : Int) (k : Nat) (hk : k < 8) : mirZ (tnI f n) k = tnI (mirZ f) (-n) k := by
  have h := tnI_congr (mir_tn f (n % 24).toNat) (-n) k hk
  rw [← h]
  show _ = tnI (tnZ (mirZ (tnI f n)) (n % 24).toNat) (-n) k
  have e : tnZ (mirZ (tnI f n)) (n % 24).toNat = tnI (mirZ (tnI f n)) n := rfl
  rw [e, tnI_tnI _ _ _ k hk, tnI_24 _ (by omega) k hk]
theorem linS_mir {φ : Nat → Int → (Nat → Int) → Int} : ∀ (L : List Wh) (k : Nat), mirZ (fun k => linS (φ k) L) k = linS (fun s f => mirZ (fun k => φ k s f) k) L
  | [], k => by
    show mirZ (fun _ => 0) k = 0
    unfold mirZ
    split <;> rfl
  | w :: l, k => by
    show mirZ (fun k => φ k w.s w.r.f + linS (φ k) l) k = _
    rw [mir_add]
    show mirZ (fun k => φ k w.s w.r.f) k + mirZ (fun k => linS (φ k) l) k = _
    rw [linS_mir l k]
    rfl
theorem law_mirror {L : List Wh} {k : Nat} (hk : k < 8) (h1 : eachOk (-1) 0 0 true L = true) : dAt (eachL (-1) 0 0 true L) 5 k = mirZ (dAt L 5) k := by
  refine (each_linM (by omega) h1 (atT_lin 5 k) (atT_loc 5 hk)).trans ?_
  refine Eq.trans (linS_congr fun w _ => ?_) (linS_mir (φ := atT 5) L k).symm
  show tnI (tnI (mirZ w.r.f) (0 + 0 * w.s)) (5 * (-1 * w.s)) k = mirZ (tnI w.r.f (5 * w.s)) k
  rw [mir_tnI _ _ k hk, show 0 + 0 * w.s = 0 by omega, tnI_zero, show 5 * (-1 * w.s) = -(5 * w.s) by omega]
theorem vMi_exact {a : Nat → Int} (h : okMi a = true) : ∀ k, k < 8 → vMi a k = mirZ a k := fun k hk => by
  rw [vMi, h, cond_true]
  rw [okMi, Bool.and_eq_true] at h
  have hb : bd8 1000000 a := fun k hk => by
    have := cyOk_bd h.1 k hk
    rwa [cyOf_f8 _ k hk] at this
  exact W8 (mir_bd hb) (by omega) k hk
/-- Faster. -/
theorem law_faster {L : List Wh} {n : Int} {k : Nat} (hk : k < 8) (h1 : yF n L = true) : dAt (tF n L) 1 k = dAt L (n % 24) k := by
  rw [yF, Bool.and_eq_true] at h1
  have hn := inR_iff.1 h1.1
  have e : tF n L = eachL n 0 0 false L := by rw [tF, h1.1]; rfl
  rw [e]
  refine (each_lin (by omega) h1.2 (atT_lin 1 k) (atT_loc 1 hk)).trans (linS_congr fun w _ => ?_)
  show tnI (tnI w.r.f (0 + 0 * w.s)) (1 * (n * w.s)) k = tnI w.r.f (n % 24 * w.s) k
  rw [tnI_mulmod, show 0 + 0 * w.s = 0 by omega, tnI_zero, Int.one_mul]

end Go.Proofs.Ytmdcafhnjihckaa

/- l1Gcd, the reference's: its word. Conditions: numbers of 64 bits. -/
namespace Go.Proofs.Ytmdcafhnjihckaa
open Go.RowKit
set_option maxRecDepth 100000

abbrev lvGc : Ex → List Nat := lv3 [0, 1] [0] [4]
theorem rndGc (a b : Int) : execC Try.prog g0 100 noLam (loopAt 0 Try.f154) (mkT 0 17 ((lvGc .normal).zip [.v (i64 a), .v (i64 b)])) [] (leafV 17 lvGc 0)
    = bif b != (0 : Int) then needs [!decide (b = (0 : Int))] (Res.out Ex.normal [AV.v (Value.int IntKind.i64 b), AV.v (Value.int IntKind.i64 (Int.tmod a b))] []) else Res.out (Ex.exit (0 : Nat)) [AV.v (Value.int IntKind.i64 a)] [] := by kernel_rfl

noncomputable abbrev lamGc (a b c : Int) : Nat → Option Sum := oneL 0 (atS 17 (lvGc .normal) 0 [.v (i64 a), .v (i64 b)] [] (fun K => K .normal (mkT 0 17 [(0, .v (i64 c))]) []))
theorem treeGc (a b c : Int) : execF Try.prog g0 (lamGc a b c) 100 Try.f154 [.v (i64 a), .v (i64 b)] [] (packK 0)
    = needs [chk ([AV.v (Value.int IntKind.i64 a), AV.v (Value.int IntKind.i64 b)] = [AV.v (Value.int IntKind.i64 a), AV.v (Value.int IntKind.i64 b)] ∧ Hsim [] [])] (Res.out Ex.ret [AV.v (Value.int IntKind.i64 (if IntKind.wrap IntKind.i64 ((0 : Int) - c) > c then IntKind.wrap IntKind.i64 ((0 : Int) - c) else c))] []) := by kernel_rfl

def gcdE : Nat → Int → Int → Int
  | 0, a, _ => a
  | n + 1, a, b => if b = 0 then a else gcdE n b (a.tmod b)

theorem sumGc (a b : Int) : SumOk Try.prog 0 (.block 0 (.loop (loopAt 0 Try.f154))) (atS 17 (lvGc .normal) 0 [.v (i64 a), .v (i64 b)] [] (fun K => K .normal (mkT 0 17 [(0, .v (i64 (gcdE (b.natAbs + 1) a b)))]) [])) := by
  refine loop_at g0_ok (n := 100) (m := 0) (lv := lvGc) (σ := Nat × Int × Int) (fun s => [.v (i64 s.2.1), .v (i64 s.2.2)]) (fun _ => []) (fun s => s.2.2.natAbs < s.1 ∧ gcdE s.1 s.2.1 s.2.2 = gcdE (b.natAbs + 1) a b) (fun s => s.1) (b.natAbs + 1, a, b) (fun _ => noLam) (lv3_ris rfl rfl rfl) (Nat.le_refl _) ⟨Nat.lt_succ_self _, rfl⟩ fun K Q hk s hs => ⟨noLam_ok _ _ _, ?_⟩
  obtain ⟨n, x, y⟩ := s
  obtain ⟨h1, h2⟩ := hs
  rw [rndGc]
  cases n with
  | zero => exact absurd h1 (Nat.not_lt_zero _)
  | succ n =>
    refine good_cond (fun c => ?_) fun c => ?_
    · have c : y ≠ 0 := by simpa using c
      have h2 : gcdE n y (x.tmod y) = gcdE (b.natAbs + 1) a b := by
        rw [← h2]
        show _ = if y = 0 then x else gcdE n y (x.tmod y)
        rw [if_neg c]
      have h1 : y.natAbs < n + 1 := h1
      have h3 : (x.tmod y).natAbs < y.natAbs := by
        rw [Int.natAbs_tmod]
        exact Nat.mod_lt _ (by omega)
      exact good_needs (by simp [obls, c]) (good_out ⟨(n, y, x.tmod y), ⟨⟨by show (x.tmod y).natAbs < n; omega, h2⟩, Nat.lt_succ_self _⟩, rfl, .nil⟩)
    · have c : y = 0 := by simpa using c
      have h2 : x = gcdE (b.natAbs + 1) a b := by
        rw [← h2]
        show _ = if y = 0 then x else gcdE n y (x.tmod y)
        rw [if_pos c]
      refine good_out ⟨_, .nil, ?_⟩
      rw [if_pos rfl]
      rw [← h2] at hk
      exact hk

def gcdF (a b : Int) : Int := if IntKind.wrap IntKind.i64 (0 - gcdE (b.natAbs + 1) a b) > gcdE (b.natAbs + 1) a b then IntKind.wrap IntKind.i64 (0 - gcdE (b.natAbs + 1) a b) else gcdE (b.natAbs + 1) a b
def F_gcd : List SA → Option FR
  | [.v (.int .i64 a), .v (.int .i64 b)] => some { val := .v (i64 (gcdF a b)) }
  | _ => none
theorem ok_gcd : SpecOk Try.prog 154 (specR [.val, .val] F_gcd) := by
  refine specR_hr g0_ok Try.func154 rfl fun sas fr hF ho => ?_
  unfold F_gcd at hF
  split at hF
  · rename_i a b
    cases hF
    refine ⟨[], lamGc a b (gcdE (b.natAbs + 1) a b), 100, .nil, lam1 (by kernel_rfl) (sumGc a b), ?_⟩
    show GoodQ (execF Try.prog g0 (lamGc a b (gcdE (b.natAbs + 1) a b)) 100 Try.f154 [.v (i64 a), .v (i64 b)] [] (packK 0)) _
    rw [treeGc]
    exact good_needs (by rw [ob_cons]; exact ⟨chk_of ⟨rfl, .nil⟩, rfl⟩) (good_out ⟨_, rfl, rfl, .nil⟩)
  · cases hF

end Go.Proofs.Ytmdcafhnjihckaa

/- The reference's RingDesign: trees; greatest common divisors. Conditions: numbers of 64 bits. -/
namespace Go.Proofs.Ytmdcafhnjihckaa
open Go.RowKit
set_option maxRecDepth 100000

theorem gcdE_abs : ∀ (n : Nat) (a b : Int), b.natAbs < n → (gcdE n a b).natAbs = Nat.gcd a.natAbs b.natAbs
  | 0, _, _, h => absurd h (Nat.not_lt_zero _)
  | n + 1, a, b, h => by
    unfold gcdE
    split
    · rename_i hb
      subst hb
      simp
    · rename_i hb
      have e : (a.tmod b).natAbs = a.natAbs % b.natAbs := Int.natAbs_tmod _ _
      have hlt : a.natAbs % b.natAbs < b.natAbs := Nat.mod_lt _ (by omega)
      rw [gcdE_abs n b (a.tmod b) (by omega), e, Nat.gcd_comm a.natAbs, Nat.gcd_rec b.natAbs a.natAbs, Nat.gcd_comm]
/-- The greatest common divisor. -/
theorem gcdF_eq {a b : Int} (ha : -1000000000000 ≤ a ∧ a ≤ 1000000000000) (hb : -1000000000000 ≤ b ∧ b ≤ 1000000000000) : gcdF a b = (Nat.gcd a.natAbs b.natAbs : Int) := by
  have h := gcdE_abs (b.natAbs + 1) a b (Nat.lt_succ_self _)
  have hle : Nat.gcd a.natAbs b.natAbs ≤ 1000000000000 := by
    by_cases h0 : a.natAbs = 0
    · rw [h0, Nat.gcd_zero_left]
      omega
    · exact Nat.le_trans (Nat.gcd_le_left _ (by omega)) (by omega)
  unfold gcdF
  rw [wr_in (by omega)]
  split <;> omega

theorem treeNu (s r : Int) : execF Try.prog g0 noLam 100 Try.f155 [.v (i64 s), .v (i64 r)] [] (packK 0)
    = Res.out Ex.ret [AV.agg [AV.v (Value.int IntKind.i64 s), AV.v (Value.int IntKind.i64 r), AV.v (Value.int IntKind.i64 (0 : Int)), AV.v (Value.int IntKind.i64 (0 : Int)), AV.v (Value.int IntKind.i64 (0 : Int)), AV.v (Value.int IntKind.i64 (0 : Int)), AV.v (Value.int IntKind.i64 (0 : Int)), AV.v (Value.int IntKind.i64 (0 : Int)), AV.v (Value.int IntKind.i64 (0 : Int))]] [] := by kernel_rfl

/-- A wheel with a whole radius. -/
def FnuO : List SA → Option FR
  | [.v (.int .i64 s), .v (.int .i64 r)] => some { val := .agg [.v (i64 s), .v (i64 r), .v (i64 0), .v (i64 0), .v (i64 0), .v (i64 0), .v (i64 0), .v (i64 0), .v (i64 0)] }
  | _ => none
theorem ok_num : SpecOk Try.prog 155 (specR [.val, .val] FnuO) := by
  refine specR_hr g0_ok Try.func155 rfl fun sas fr hF ho => ?_
  unfold FnuO at hF
  split at hF
  · rename_i s r
    cases hF
    refine ⟨[], noLam, 100, .nil, noLam' _, ?_⟩
    show GoodQ (execF Try.prog g0 noLam 100 Try.f155 [.v (i64 s), .v (i64 r)] [] (packK 0)) _
    rw [treeNu]
    exact good_out ⟨_, rfl, rfl, .nil⟩
  · cases hF
def FgcO (gf : Int → Int → Int) : List SA → Option FR
  | [.v (.int .i64 a), .v (.int .i64 b)] => some { val := .v (i64 (gf a b)) }
  | _ => none
theorem specR_sub' {P : Program} {f : FuncId} {mds : List Md} {F F' : List SA → Option FR} (h : ∀ sas fr', F' sas = some fr' → ∃ fr, F sas = some fr ∧ fr.val = fr'.val ∧ fr.new = fr'.new ∧ fr.put = fr'.put ∧ (obls fr'.obl = true → obls fr.obl = true)) (hs : SpecOk P f (specR mds F)) : SpecOk P f (specR mds F') := by
  refine ⟨hs.1, fun avs H base δ ν vals w hS ho hv hr hlt hf hsep => ?_⟩
  unfold specR at hS
  split at hS
  case h_2 => cases hS
  rename_i xs hxs
  split at hS
  case h_2 => cases hS
  rename_i fr' hF
  obtain ⟨fr, e, e1, e2, e3, e4⟩ := h _ _ hF
  split at hS
  case h_2 => cases hS
  rename_i av hav
  cases hc : ((!hasWr mds || nodupB ((ixC mds xs).filterMap id)) && fr'.new.all isRowT && Nat.beq (abP mds (xs.map (·.sa)) fr'.put).length (abC mds (xs.map (·.sa))).length) with
  | false => rw [hc] at hS; cases hS
  | true =>
  rw [hc] at hS
  simp only [cond_true, Option.some.injEq] at hS
  subst hS
  have ho' : obls (xs.flatMap (·.ob)) = true ∧ obls fr'.obl = true := by simpa [obls, List.all_append] using ho
  have hS2 : specR mds F avs H base = some { val := av, rd := (ixC mds xs).filterMap id, put := putC (ixC mds xs) (abP mds (xs.map (·.sa)) fr'.put), new := fr'.new, obl := xs.flatMap (·.ob) ++ fr.obl } := by
    unfold specR
    rw [hxs]
    simp only [e]
    rw [e1, e2, e3, hav]
    simp only [hc]
    rfl
  refine (hs.2 avs H base _ ν vals w hS2 (by simpa [obls, List.all_append] using And.intro ho'.1 (e4 ho'.2)) hv hr hlt hf hsep).mono ?_
  rintro e w' ⟨v, ν', rfl, d⟩
  exact ⟨v, ν', rfl, d.le, d.dom, d.val, d.put, d.new, d.os, d.tape, d.output, d.size, d.block, d.fresh, d.apart⟩
/-- l5Tidy of two wheels. -/
def Fti2 (ti : List Wh → List Wh) (okt : List Wh → Bool) : List SA → Option FR
  | [.row 2 g] => match g 0, g 1 with
    | [.int .i64 a0, .int .i64 a1, .int .i64 a2, .int .i64 a3, .int .i64 a4, .int .i64 a5, .int .i64 a6, .int .i64 a7, .int .i64 a8], [.int .i64 b0, .int .i64 b1, .int .i64 b2, .int .i64 b3, .int .i64 b4, .int .i64 b5, .int .i64 b6, .int .i64 b7, .int .i64 b8] => some { val := .tup [.own 0 (ti [⟨a0, ⟨a1, a2, a3, a4, a5, a6, a7, a8⟩⟩, ⟨b0, ⟨b1, b2, b3, b4, b5, b6, b7, b8⟩⟩]).length, .v (.bool (okt [⟨a0, ⟨a1, a2, a3, a4, a5, a6, a7, a8⟩⟩, ⟨b0, ⟨b1, b2, b3, b4, b5, b6, b7, b8⟩⟩]))], new := [.row true (ti [⟨a0, ⟨a1, a2, a3, a4, a5, a6, a7, a8⟩⟩, ⟨b0, ⟨b1, b2, b3, b4, b5, b6, b7, b8⟩⟩]).length 9 (row9 (wfun (ti [⟨a0, ⟨a1, a2, a3, a4, a5, a6, a7, a8⟩⟩, ⟨b0, ⟨b1, b2, b3, b4, b5, b6, b7, b8⟩⟩]))) 46] }
    | _, _ => none
  | _ => none
theorem ok_ti2 : SpecOk Try.prog 62 (specR md_ws (Fti2 tidyL okT)) := by
  have h := ok_tidyS
  rw [← FtidyO_eq] at h
  refine specR_sub' (fun sas fr hF => ?_) h
  unfold Fti2 at hF
  split at hF
  · rename_i g
    split at hF
    · rename_i a0 a1 a2 a3 a4 a5 a6 a7 a8 b0 b1 b2 b3 b4 b5 b6 b7 b8 e0 e1
      cases hF
      have hL : listW (itW g) 2 = [⟨a0, ⟨a1, a2, a3, a4, a5, a6, a7, a8⟩⟩, ⟨b0, ⟨b1, b2, b3, b4, b5, b6, b7, b8⟩⟩] := by
        show [whOf (itW g 0), whOf (itW g 1)] = _
        unfold whOf itW
        rw [e0, e1]
        rfl
      refine ⟨_, rfl, by simp only [hL], by simp only [hL], rfl, ?_⟩
      · have ha : allW 2 g = true := List.all_eq_true.2 fun j hj => by
          have hj : j < 2 := by simpa using hj
          rcases (by omega : j = 0 ∨ j = 1) with rfl | rfl
          · rw [e0]; rfl
          · rw [e1]; rfl
        intro _
        simp only [ob_cons, ob_nil, and_true]
        exact ⟨ha, by decide⟩
    · cases hF
  · cases hF
def gmRd (gf : Int → Int → Int) (ti : List Wh → List Wh) (okt : List Wh → Bool) : Gam := ext (ext (ext gm_l6In 154 (specR [.val, .val] (FgcO gf))) 155 (specR [.val, .val] FnuO)) 62 (specR md_ws (Fti2 ti okt))
theorem treeRd (gf : Int → Int → Int) (ti : List Wh → List Wh) (okt : List Wh → Bool) (a b : Int) (c : Bool) (d : Int) : execF Try.prog (gmRd gf ti okt) noLam 100 Try.f125 [.v (i64 a), .v (i64 b), .v (.bool c), .v (i64 d)] [] (packK 0)
    = bif !inR a (6 : Int) (240 : Int) then Res.out Ex.ret [AV.tup [AV.own (0 : Nat) (0 : Nat), AV.v (Value.bool false)]] [AB.row true (0 : Nat) (9 : Nat) (fun _ ↦ []) (46 : Nat)] else bif !inR b (6 : Int) (240 : Int) then Res.out Ex.ret [AV.tup [AV.own (0 : Nat) (0 : Nat), AV.v (Value.bool false)]] [AB.row true (0 : Nat) (9 : Nat) (fun _ ↦ []) (46 : Nat)] else bif c then bif decide (b ≥ a) then Res.out Ex.ret [AV.tup [AV.own (0 : Nat) (0 : Nat), AV.v (Value.bool false)]] [AB.row true (0 : Nat) (9 : Nat) (fun _ ↦ []) (46 : Nat)] else needs [!decide (gf a b = (0 : Int))] (bif !inR d (-300 : Int) (300 : Int) then Res.out Ex.ret [AV.tup [AV.own (0 : Nat) (0 : Nat), AV.v (Value.bool false)]] [AB.row true (0 : Nat) (9 : Nat) (fun _ ↦ []) (46 : Nat)] else bif c then needs [!decide (gf a b = (0 : Int)), !decide (gf a b = (0 : Int))] (Res.out Ex.ret [AV.tup [AV.own (0 : Nat) (List.length (ti [Wh.mk (IntKind.wrap IntKind.i64 (Int.tdiv b (gf a b))) (Cy.mk (IntKind.wrap IntKind.i64 (a - b)) (0 : Int) (0 : Int) (0 : Int) (0 : Int) (0 : Int) (0 : Int) (0 : Int)), Wh.mk (IntKind.wrap IntKind.i64 (Int.tdiv (IntKind.wrap IntKind.i64 (b - a)) (gf a b))) (Cy.mk d (0 : Int) (0 : Int) (0 : Int) (0 : Int) (0 : Int) (0 : Int) (0 : Int))])), AV.v (Value.bool (okt [Wh.mk (IntKind.wrap IntKind.i64 (Int.tdiv b (gf a b))) (Cy.mk (IntKind.wrap IntKind.i64 (a - b)) (0 : Int) (0 : Int) (0 : Int) (0 : Int) (0 : Int) (0 : Int) (0 : Int)), Wh.mk (IntKind.wrap IntKind.i64 (Int.tdiv (IntKind.wrap IntKind.i64 (b - a)) (gf a b))) (Cy.mk d (0 : Int) (0 : Int) (0 : Int) (0 : Int) (0 : Int) (0 : Int) (0 : Int))]))]] [AB.row true (List.length (ti [Wh.mk (IntKind.wrap IntKind.i64 (Int.tdiv b (gf a b))) (Cy.mk (IntKind.wrap IntKind.i64 (a - b)) (0 : Int) (0 : Int) (0 : Int) (0 : Int) (0 : Int) (0 : Int) (0 : Int)), Wh.mk (IntKind.wrap IntKind.i64 (Int.tdiv (IntKind.wrap IntKind.i64 (b - a)) (gf a b))) (Cy.mk d (0 : Int) (0 : Int) (0 : Int) (0 : Int) (0 : Int) (0 : Int) (0 : Int))])) (9 : Nat) (row9 (wfun (ti [Wh.mk (IntKind.wrap IntKind.i64 (Int.tdiv b (gf a b))) (Cy.mk (IntKind.wrap IntKind.i64 (a - b)) (0 : Int) (0 : Int) (0 : Int) (0 : Int) (0 : Int) (0 : Int) (0 : Int)), Wh.mk (IntKind.wrap IntKind.i64 (Int.tdiv (IntKind.wrap IntKind.i64 (b - a)) (gf a b))) (Cy.mk d (0 : Int) (0 : Int) (0 : Int) (0 : Int) (0 : Int) (0 : Int) (0 : Int))]))) (46 : TypeId)]) else needs [!decide (gf a b = (0 : Int)), !decide (gf a b = (0 : Int))] (Res.out Ex.ret [AV.tup [AV.own (0 : Nat) (List.length (ti [Wh.mk (IntKind.wrap IntKind.i64 (Int.tdiv b (gf a b))) (Cy.mk (IntKind.wrap IntKind.i64 (a + b)) (0 : Int) (0 : Int) (0 : Int) (0 : Int) (0 : Int) (0 : Int) (0 : Int)), Wh.mk (IntKind.wrap IntKind.i64 (Int.tdiv (IntKind.wrap IntKind.i64 (a + b)) (gf a b))) (Cy.mk (IntKind.wrap IntKind.i64 ((0 : Int) - d)) (0 : Int) (0 : Int) (0 : Int) (0 : Int) (0 : Int) (0 : Int) (0 : Int))])), AV.v (Value.bool (okt [Wh.mk (IntKind.wrap IntKind.i64 (Int.tdiv b (gf a b))) (Cy.mk (IntKind.wrap IntKind.i64 (a + b)) (0 : Int) (0 : Int) (0 : Int) (0 : Int) (0 : Int) (0 : Int) (0 : Int)), Wh.mk (IntKind.wrap IntKind.i64 (Int.tdiv (IntKind.wrap IntKind.i64 (a + b)) (gf a b))) (Cy.mk (IntKind.wrap IntKind.i64 ((0 : Int) - d)) (0 : Int) (0 : Int) (0 : Int) (0 : Int) (0 : Int) (0 : Int) (0 : Int))]))]] [AB.row true (List.length (ti [Wh.mk (IntKind.wrap IntKind.i64 (Int.tdiv b (gf a b))) (Cy.mk (IntKind.wrap IntKind.i64 (a + b)) (0 : Int) (0 : Int) (0 : Int) (0 : Int) (0 : Int) (0 : Int) (0 : Int)), Wh.mk (IntKind.wrap IntKind.i64 (Int.tdiv (IntKind.wrap IntKind.i64 (a + b)) (gf a b))) (Cy.mk (IntKind.wrap IntKind.i64 ((0 : Int) - d)) (0 : Int) (0 : Int) (0 : Int) (0 : Int) (0 : Int) (0 : Int) (0 : Int))])) (9 : Nat) (row9 (wfun (ti [Wh.mk (IntKind.wrap IntKind.i64 (Int.tdiv b (gf a b))) (Cy.mk (IntKind.wrap IntKind.i64 (a + b)) (0 : Int) (0 : Int) (0 : Int) (0 : Int) (0 : Int) (0 : Int) (0 : Int)), Wh.mk (IntKind.wrap IntKind.i64 (Int.tdiv (IntKind.wrap IntKind.i64 (a + b)) (gf a b))) (Cy.mk (IntKind.wrap IntKind.i64 ((0 : Int) - d)) (0 : Int) (0 : Int) (0 : Int) (0 : Int) (0 : Int) (0 : Int) (0 : Int))]))) (46 : TypeId)])) else needs [!decide (gf a b = (0 : Int))] (bif !inR d (-300 : Int) (300 : Int) then Res.out Ex.ret [AV.tup [AV.own (0 : Nat) (0 : Nat), AV.v (Value.bool false)]] [AB.row true (0 : Nat) (9 : Nat) (fun _ ↦ []) (46 : Nat)] else bif c then needs [!decide (gf a b = (0 : Int)), !decide (gf a b = (0 : Int))] (Res.out Ex.ret [AV.tup [AV.own (0 : Nat) (List.length (ti [Wh.mk (IntKind.wrap IntKind.i64 (Int.tdiv b (gf a b))) (Cy.mk (IntKind.wrap IntKind.i64 (a - b)) (0 : Int) (0 : Int) (0 : Int) (0 : Int) (0 : Int) (0 : Int) (0 : Int)), Wh.mk (IntKind.wrap IntKind.i64 (Int.tdiv (IntKind.wrap IntKind.i64 (b - a)) (gf a b))) (Cy.mk d (0 : Int) (0 : Int) (0 : Int) (0 : Int) (0 : Int) (0 : Int) (0 : Int))])), AV.v (Value.bool (okt [Wh.mk (IntKind.wrap IntKind.i64 (Int.tdiv b (gf a b))) (Cy.mk (IntKind.wrap IntKind.i64 (a - b)) (0 : Int) (0 : Int) (0 : Int) (0 : Int) (0 : Int) (0 : Int) (0 : Int)), Wh.mk (IntKind.wrap IntKind.i64 (Int.tdiv (IntKind.wrap IntKind.i64 (b - a)) (gf a b))) (Cy.mk d (0 : Int) (0 : Int) (0 : Int) (0 : Int) (0 : Int) (0 : Int) (0 : Int))]))]] [AB.row true (List.length (ti [Wh.mk (IntKind.wrap IntKind.i64 (Int.tdiv b (gf a b))) (Cy.mk (IntKind.wrap IntKind.i64 (a - b)) (0 : Int) (0 : Int) (0 : Int) (0 : Int) (0 : Int) (0 : Int) (0 : Int)), Wh.mk (IntKind.wrap IntKind.i64 (Int.tdiv (IntKind.wrap IntKind.i64 (b - a)) (gf a b))) (Cy.mk d (0 : Int) (0 : Int) (0 : Int) (0 : Int) (0 : Int) (0 : Int) (0 : Int))])) (9 : Nat) (row9 (wfun (ti [Wh.mk (IntKind.wrap IntKind.i64 (Int.tdiv b (gf a b))) (Cy.mk (IntKind.wrap IntKind.i64 (a - b)) (0 : Int) (0 : Int) (0 : Int) (0 : Int) (0 : Int) (0 : Int) (0 : Int)), Wh.mk (IntKind.wrap IntKind.i64 (Int.tdiv (IntKind.wrap IntKind.i64 (b - a)) (gf a b))) (Cy.mk d (0 : Int) (0 : Int) (0 : Int) (0 : Int) (0 : Int) (0 : Int) (0 : Int))]))) (46 : TypeId)]) else needs [!decide (gf a b = (0 : Int)), !decide (gf a b = (0 : Int))] (Res.out Ex.ret [AV.tup [AV.own (0 : Nat) (List.length (ti [Wh.mk (IntKind.wrap IntKind.i64 (Int.tdiv b (gf a b))) (Cy.mk (IntKind.wrap IntKind.i64 (a + b)) (0 : Int) (0 : Int) (0 : Int) (0 : Int) (0 : Int) (0 : Int) (0 : Int)), Wh.mk (IntKind.wrap IntKind.i64 (Int.tdiv (IntKind.wrap IntKind.i64 (a + b)) (gf a b))) (Cy.mk (IntKind.wrap IntKind.i64 ((0 : Int) - d)) (0 : Int) (0 : Int) (0 : Int) (0 : Int) (0 : Int) (0 : Int) (0 : Int))])), AV.v (Value.bool (okt [Wh.mk (IntKind.wrap IntKind.i64 (Int.tdiv b (gf a b))) (Cy.mk (IntKind.wrap IntKind.i64 (a + b)) (0 : Int) (0 : Int) (0 : Int) (0 : Int) (0 : Int) (0 : Int) (0 : Int)), Wh.mk (IntKind.wrap IntKind.i64 (Int.tdiv (IntKind.wrap IntKind.i64 (a + b)) (gf a b))) (Cy.mk (IntKind.wrap IntKind.i64 ((0 : Int) - d)) (0 : Int) (0 : Int) (0 : Int) (0 : Int) (0 : Int) (0 : Int) (0 : Int))]))]] [AB.row true (List.length (ti [Wh.mk (IntKind.wrap IntKind.i64 (Int.tdiv b (gf a b))) (Cy.mk (IntKind.wrap IntKind.i64 (a + b)) (0 : Int) (0 : Int) (0 : Int) (0 : Int) (0 : Int) (0 : Int) (0 : Int)), Wh.mk (IntKind.wrap IntKind.i64 (Int.tdiv (IntKind.wrap IntKind.i64 (a + b)) (gf a b))) (Cy.mk (IntKind.wrap IntKind.i64 ((0 : Int) - d)) (0 : Int) (0 : Int) (0 : Int) (0 : Int) (0 : Int) (0 : Int) (0 : Int))])) (9 : Nat) (row9 (wfun (ti [Wh.mk (IntKind.wrap IntKind.i64 (Int.tdiv b (gf a b))) (Cy.mk (IntKind.wrap IntKind.i64 (a + b)) (0 : Int) (0 : Int) (0 : Int) (0 : Int) (0 : Int) (0 : Int) (0 : Int)), Wh.mk (IntKind.wrap IntKind.i64 (Int.tdiv (IntKind.wrap IntKind.i64 (a + b)) (gf a b))) (Cy.mk (IntKind.wrap IntKind.i64 ((0 : Int) - d)) (0 : Int) (0 : Int) (0 : Int) (0 : Int) (0 : Int) (0 : Int) (0 : Int))]))) (46 : TypeId)])) := by kernel_rfl

/-- The ring design that is drawn. -/
def FrdO (rd : Int → Int → Bool → Int → List Wh) (ro : Int → Int → Bool → Int → Bool) : List SA → Option FR
  | [.v (.int .i64 a), .v (.int .i64 b), .v (.bool c), .v (.int .i64 d)] => some { val := .tup [.own 0 (rd a b c d).length, .v (.bool (ro a b c d))], new := [.row true (rd a b c d).length 9 (row9 (wfun (rd a b c d))) 46] }
  | _ => none
def rnP (a b : Int) (c : Bool) (d : Int) : Bool := inR a 6 240 && (inR b 6 240 && (!(c && decide (b ≥ a)) && inR d (-300) 300))
def rnW (a b : Int) (c : Bool) (d : Int) : List Wh := bif c then [⟨IntKind.wrap IntKind.i64 (Int.tdiv b (gcdF a b)), ⟨IntKind.wrap IntKind.i64 (a - b), 0, 0, 0, 0, 0, 0, 0⟩⟩, ⟨IntKind.wrap IntKind.i64 (Int.tdiv (IntKind.wrap IntKind.i64 (b - a)) (gcdF a b)), ⟨d, 0, 0, 0, 0, 0, 0, 0⟩⟩] else [⟨IntKind.wrap IntKind.i64 (Int.tdiv b (gcdF a b)), ⟨IntKind.wrap IntKind.i64 (a + b), 0, 0, 0, 0, 0, 0, 0⟩⟩, ⟨IntKind.wrap IntKind.i64 (Int.tdiv (IntKind.wrap IntKind.i64 (a + b)) (gcdF a b)), ⟨IntKind.wrap IntKind.i64 (0 - d), 0, 0, 0, 0, 0, 0, 0⟩⟩]
def rnL (a b : Int) (c : Bool) (d : Int) : List Wh := bif rnP a b c d then tidyL (rnW a b c d) else []
def rnO (a b : Int) (c : Bool) (d : Int) : Bool := rnP a b c d && okT (rnW a b c d)
theorem gmRd_ok : GamOk Try.prog (gmRd gcdF tidyL okT) := by
  refine ext_ok (ext_ok (ext_ok gm_l6In_ok ?_) ok_num) ok_ti2
  have e : FgcO gcdF = F_gcd := by funext l; rfl
  rw [e]
  exact ok_gcd
theorem gcd_nz {a b : Int} (ha : inR a 6 240 = true) (hb : inR b 6 240 = true) : gcdF a b ≠ 0 := by
  have ha := inR_iff.1 ha
  have hb := inR_iff.1 hb
  rw [gcdF_eq (by omega) (by omega)]
  have : 0 < Nat.gcd a.natAbs b.natAbs := Nat.gcd_pos_of_pos_left _ (by omega)
  omega
theorem rnL_no {a b : Int} {c : Bool} {d : Int} (h : rnP a b c d = false) : rnL a b c d = [] ∧ rnO a b c d = false := ⟨by rw [rnL, h]; rfl, by rw [rnO, h]; rfl⟩
theorem rnL_yes {a b : Int} {c : Bool} {d : Int} (h : rnP a b c d = true) : rnL a b c d = tidyL (rnW a b c d) ∧ rnO a b c d = okT (rnW a b c d) := ⟨by rw [rnL, h]; rfl, by rw [rnO, h, Bool.true_and]⟩
theorem rnL_len (a b : Int) (c : Bool) (d : Int) : (rnL a b c d).length ≤ 12 := by
  cases h : rnP a b c d with
  | false => rw [(rnL_no h).1]; exact Nat.zero_le _
  | true =>
    rw [(rnL_yes h).1]
    cases ht : okT (rnW a b c d) with
    | true => exact tidyL_len ht
    | false => rw [tidyL_no ht]; exact Nat.zero_le _
theorem ok_rd : SpecOk Try.prog 125 (specR [.val, .val, .val, .val] (FrdO rnL rnO)) := by
  refine specR_hr gmRd_ok Try.func125 rfl fun sas fr hF ho => ?_
  unfold FrdO at hF
  split at hF
  · rename_i a b c d
    cases hF
    refine ⟨[], noLam, 100, .nil, noLam' _, ?_⟩
    show GoodQ (execF Try.prog (gmRd gcdF tidyL okT) noLam 100 Try.f125 [.v (i64 a), .v (i64 b), .v (.bool c), .v (i64 d)] [] (packK 0)) _
    rw [treeRd]
    have bad : rnP a b c d = false → GoodQ (.out .ret [.tup [.own 0 0, .v (.bool false)]] [.row true 0 9 (fun _ => []) 46]) (GivR (abP [.val, .val, .val, .val] [.v (.int .i64 a), .v (.int .i64 b), .v (.bool c), .v (.int .i64 d)] []) { val := .tup [.own 0 (rnL a b c d).length, .v (.bool (rnO a b c d))], new := [.row true (rnL a b c d).length 9 (row9 (wfun (rnL a b c d))) 46] }) := by
      intro h
      rw [(rnL_no h).1, (rnL_no h).2]
      exact good_out ⟨_, rfl, rfl, .cons (ABeq.row fun j hj => absurd hj (Nat.not_lt_zero _)) .nil⟩
    have yes : ∀ M : List Wh, rnP a b c d = true → rnW a b c d = M → GoodQ (.out .ret [.tup [.own 0 (tidyL M).length, .v (.bool (okT M))]] [.row true (tidyL M).length 9 (row9 (wfun (tidyL M))) 46]) (GivR (abP [.val, .val, .val, .val] [.v (.int .i64 a), .v (.int .i64 b), .v (.bool c), .v (.int .i64 d)] []) { val := .tup [.own 0 (rnL a b c d).length, .v (.bool (rnO a b c d))], new := [.row true (rnL a b c d).length 9 (row9 (wfun (rnL a b c d))) 46] }) := by
      rintro M h rfl
      rw [(rnL_yes h).1, (rnL_yes h).2]
      exact good_out ⟨_, rfl, rfl, Hsim.refl _⟩
    cases h1 : inR a 6 240 with
    | false => exact good_true rfl (bad (by rw [rnP, h1]; rfl))
    | true =>
    refine good_false rfl ?_
    cases h2 : inR b 6 240 with
    | false => exact good_true rfl (bad (by rw [rnP, h1, h2]; rfl))
    | true =>
    refine good_false rfl ?_
    have hz : decide (gcdF a b = 0) = false := decide_eq_false (gcd_nz h1 h2)
    rw [hz]
    cases c with
    | true =>
      refine good_true rfl ?_
      cases h3 : decide (b ≥ a) with
      | true => exact good_true rfl (bad (by rw [rnP, h1, h2, h3]; rfl))
      | false =>
      refine good_false rfl (good_needs rfl ?_)
      cases h4 : inR d (-300) 300 with
      | false => exact good_true rfl (bad (by rw [rnP, h1, h2, h3, h4]; rfl))
      | true => exact good_false rfl (good_true rfl (good_needs rfl (yes _ (by rw [rnP, h1, h2, h3, h4]; rfl) rfl)))
    | false =>
      refine good_false rfl (good_needs rfl ?_)
      cases h4 : inR d (-300) 300 with
      | false => exact good_true rfl (bad (by rw [rnP, h1, h2, h4]; rfl))
      | true => exact good_false rfl (good_false rfl (good_needs rfl (yes _ (by rw [rnP, h1, h2, h4]; rfl) rfl)))
  · cases hF

end Go.Proofs.Ytmdcafhnjihckaa

/- The greatest common divisor, of both. Conditions: numbers up to 10^12. -/
namespace Go.Proofs.Ytmdcafhnjihckaa
open Go.RowKit
set_option maxRecDepth 100000

def gcdI (a b : Int) : Int := (Nat.gcd a.natAbs b.natAbs : Int)
def FgdO (gf : Int → Int → Int) : List SA → Option FR
  | [.v (.int .i64 a), .v (.int .i64 b)] => some { val := .v (i64 (gf a b)), obl := [inR a (-1000000000000) 1000000000000, inR b (-1000000000000) 1000000000000] }
  | _ => none
theorem ok_gdS : SpecOk Try.prog 154 (specR [.val, .val] (FgdO gcdI)) := by
  refine ⟨ok_gcd.1, fun avs H base δ ν vals w hS ho hv hr hlt hf hsep => ?_⟩
  unfold specR at hS
  split at hS
  case h_2 => cases hS
  rename_i xs hxs
  split at hS
  case h_2 => cases hS
  rename_i fr' hF
  unfold FgdO at hF
  split at hF
  case h_2 => cases hF
  rename_i a b hx
  cases hF
  have hS' := hS
  simp only [shA] at hS
  cases hc : ((!hasWr [Md.val, Md.val] || nodupB ((ixC [Md.val, Md.val] xs).filterMap id)) && ([] : List AB).all isRowT && Nat.beq (abP [Md.val, Md.val] (xs.map (·.sa)) []).length (abC [Md.val, Md.val] (xs.map (·.sa))).length) with
  | false => rw [hc] at hS; cases hS
  | true =>
  rw [hc] at hS
  simp only [cond_true, Option.some.injEq] at hS
  subst hS
  have ho' : obls (xs.flatMap (·.ob)) = true ∧ obls [inR a (-1000000000000) 1000000000000, inR b (-1000000000000) 1000000000000] = true := by simpa [obls, List.all_append] using ho
  have h2 := ho'.2
  simp only [ob_cons] at h2
  have ha := inR_iff.1 h2.1
  have hb := inR_iff.1 h2.2.1
  have hS2 : specR [.val, .val] F_gcd avs H base = some { val := .v (i64 (gcdI a b)), rd := (ixC [Md.val, Md.val] xs).filterMap id, put := putC (ixC [Md.val, Md.val] xs) (abP [Md.val, Md.val] (xs.map (·.sa)) []), new := [], obl := xs.flatMap (·.ob) ++ [] } := by
    unfold specR
    rw [hxs]
    simp only [hx, F_gcd, shA, gcdF_eq ha hb]
    rw [hx] at hc
    simp only [hc]
    rfl
  refine (ok_gcd.2 avs H base _ ν vals w hS2 (by simpa [obls, List.all_append] using ho'.1) hv hr hlt hf hsep).mono ?_
  rintro e w' ⟨v, ν', rfl, d⟩
  exact ⟨v, ν', rfl, d.le, d.dom, d.val, d.put, d.new, d.os, d.tape, d.output, d.size, d.block, d.fresh, d.apart⟩

abbrev lvGd : Ex → List Nat := lv3 [0, 1] [0] [4]
theorem rndGd (a b : Int) : execC Try.prog g0 100 noLam (loopAt 0 Try.f78) (mkT 0 15 ((lvGd .normal).zip [.v (i64 a), .v (i64 b)])) [] (leafV 15 lvGd 0)
    = bif b != (0 : Int) then needs [!decide (b = (0 : Int))] (Res.out Ex.normal [AV.v (Value.int IntKind.i64 b), AV.v (Value.int IntKind.i64 (Int.tmod a b))] []) else Res.out (Ex.exit (0 : Nat)) [AV.v (Value.int IntKind.i64 a)] [] := by kernel_rfl

noncomputable abbrev lamGd (a b c : Int) : Nat → Option Sum := oneL 0 (atS 15 (lvGd .normal) 0 [.v (i64 a), .v (i64 b)] [] (fun K => K .normal (mkT 0 15 [(0, .v (i64 c))]) []))
theorem treeGd (a b c : Int) : execF Try.prog g0 (lamGd a b c) 100 Try.f78 [.v (i64 a), .v (i64 b)] [] (packK 0)
    = needs [chk ([AV.v (Value.int IntKind.i64 a), AV.v (Value.int IntKind.i64 b)] = [AV.v (Value.int IntKind.i64 a), AV.v (Value.int IntKind.i64 b)] ∧ Hsim [] [])] (Res.out Ex.ret [AV.v (Value.int IntKind.i64 (if IntKind.wrap IntKind.i64 ((0 : Int) - c) > c then IntKind.wrap IntKind.i64 ((0 : Int) - c) else c))] []) := by kernel_rfl

theorem sumGd (a b : Int) : SumOk Try.prog 0 (.block 0 (.loop (loopAt 0 Try.f78))) (atS 15 (lvGd .normal) 0 [.v (i64 a), .v (i64 b)] [] (fun K => K .normal (mkT 0 15 [(0, .v (i64 (gcdE (b.natAbs + 1) a b)))]) [])) := by
  refine loop_at g0_ok (n := 100) (m := 0) (lv := lvGd) (σ := Nat × Int × Int) (fun s => [.v (i64 s.2.1), .v (i64 s.2.2)]) (fun _ => []) (fun s => s.2.2.natAbs < s.1 ∧ gcdE s.1 s.2.1 s.2.2 = gcdE (b.natAbs + 1) a b) (fun s => s.1) (b.natAbs + 1, a, b) (fun _ => noLam) (lv3_ris rfl rfl rfl) (Nat.le_refl _) ⟨Nat.lt_succ_self _, rfl⟩ fun K Q hk s hs => ⟨noLam_ok _ _ _, ?_⟩
  obtain ⟨n, x, y⟩ := s
  obtain ⟨h1, h2⟩ := hs
  rw [rndGd]
  cases n with
  | zero => exact absurd h1 (Nat.not_lt_zero _)
  | succ n =>
    refine good_cond (fun c => ?_) fun c => ?_
    · have c : y ≠ 0 := by simpa using c
      have h2 : gcdE n y (x.tmod y) = gcdE (b.natAbs + 1) a b := by
        rw [← h2]
        show _ = if y = 0 then x else gcdE n y (x.tmod y)
        rw [if_neg c]
      have h1 : y.natAbs < n + 1 := h1
      have h3 : (x.tmod y).natAbs < y.natAbs := by
        rw [Int.natAbs_tmod]
        exact Nat.mod_lt _ (by omega)
      exact good_needs (by simp [obls, c]) (good_out ⟨(n, y, x.tmod y), ⟨⟨by show (x.tmod y).natAbs < n; omega, h2⟩, Nat.lt_succ_self _⟩, rfl, .nil⟩)
    · have c : y = 0 := by simpa using c
      have h2 : x = gcdE (b.natAbs + 1) a b := by
        rw [← h2]
        show _ = if y = 0 then x else gcdE n y (x.tmod y)
        rw [if_pos c]
      refine good_out ⟨_, .nil, ?_⟩
      rw [if_pos rfl]
      rw [← h2] at hk
      exact hk


theorem ok_gdI : SpecOk Try.prog 78 (specR [.val, .val] (FgdO gcdI)) := by
  refine specR_hr g0_ok Try.func78 rfl fun sas fr hF ho => ?_
  unfold FgdO at hF
  split at hF
  · rename_i a b
    cases hF
    simp only [ob_cons] at ho
    obtain ⟨ha, hb, _⟩ := ho
    have e := gcdF_eq (inR_iff.1 ha) (inR_iff.1 hb)
    refine ⟨[], lamGd a b (gcdE (b.natAbs + 1) a b), 100, .nil, lam1 (by kernel_rfl) (sumGd a b), ?_⟩
    show GoodQ (execF Try.prog g0 (lamGd a b (gcdE (b.natAbs + 1) a b)) 100 Try.f78 [.v (i64 a), .v (i64 b)] [] (packK 0)) _
    rw [treeGd]
    refine good_needs (by rw [ob_cons]; exact ⟨chk_of ⟨rfl, .nil⟩, rfl⟩) (good_out ⟨_, rfl, ?_, .nil⟩)
    show [AV.v (i64 (gcdF a b))] = [AV.v (i64 (gcdI a b))]
    rw [e]
    rfl
  · cases hF

end Go.Proofs.Ytmdcafhnjihckaa

/- DesignPeriod and DesignFold of both: trees. Conditions: a list of wheels. -/
namespace Go.Proofs.Ytmdcafhnjihckaa
open Go.RowKit
set_option maxRecDepth 100000

def gmPr (gf : Int → Int → Int) : Gam := ext (ext g0 78 (specR [.val, .val] (FgdO gf))) 154 (specR [.val, .val] (FgdO gf))
def gmPt (yI : List Wh → Bool) (tI : List Wh → List Wh) : Gam := ext (ext g0 37 (specU md_ws (UO0 yI tI))) 73 (specR md_ws (FOw yI tI))
abbrev hpPI (m : Nat) (f : Nat → Nat → Int) (k : Nat) (g : Nat → Nat → Int) : List AB := [.row false m 9 (row9 f) 46, .row false k 9 (row9 g) 46]
abbrev hpPS (m : Nat) (f : Nat → Nat → Int) (k : Nat) (g : Nat → Nat → Int) : List AB := [.row false m 9 (row9 f) 46, .row true k 9 (row9 g) 46]
abbrev hpP1 (m : Nat) (f : Nat → Nat → Int) : List AB := [.row false m 9 (row9 f) 46]
abbrev lvPI : Ex → List Nat := lv3 [5, 15, 16, 17] [5] [2]
abbrev stPI (k : Nat) (x : Int) (i : Nat) : List AV := [.v (i64 x), .sl 1 9 0 0 k (some k), .v (i64 k), .v (i64 i)]
noncomputable abbrev lamPI (m : Nat) (f : Nat → Nat → Int) (k : Nat) (g : Nat → Nat → Int) (x : Int) : Nat → Option Sum := oneL 0 (atS 27 (lvPI .normal) 1 (stPI k 0 0) (hpPI m f k g) (fun K => K .normal (mkT 0 27 [(5, .v (i64 x))]) (hpP1 m f)))
abbrev lvPS : Ex → List Nat := lv3 [3, 5, 6] [5] [2]
abbrev stPS (k : Nat) (x : Int) (i : Nat) : List AV := [.own 1 k, .v (i64 x), .v (i64 i)]
noncomputable abbrev lamPS (m : Nat) (f : Nat → Nat → Int) (k : Nat) (g : Nat → Nat → Int) (x : Int) : Nat → Option Sum := oneL 0 (atS 28 (lvPS .normal) 1 (stPS k 0 0) (hpPS m f k g) (fun K => K .normal (mkT 0 28 [(5, .v (i64 x))]) (hpP1 m f)))
noncomputable abbrev fQI : Func := Try.f23
abbrev lvQI : Ex → List Nat := lv3 [3, 5, 15, 16, 17] [5] [2]
abbrev stQI (k : Nat) (x : Int) (i : Nat) : List AV := [.sl 1 9 0 0 k (some k), .v (i64 x), .sl 1 9 0 0 k (some k), .v (i64 k), .v (i64 i)]
theorem rndQI (gf : Int → Int → Int) (m : Nat) (f : Nat → Nat → Int) (k : Nat) (g : Nat → Nat → Int) (x : Int) (i : Nat) : execC Try.prog (gmPr gf) 100 noLam (loopAt 0 fQI) (mkT 0 32 ((lvQI .normal).zip (stQI k x i))) (hpPI m f k g) (leafV 32 lvQI 1)
    = bif decide ((↑i : Int) < (↑k : Int)) then needs [decide ((↑i : Int) < (↑k : Int)), decide ((0 : Nat) + Int.toNat (↑i : Int) < k), decide ((0 : Int) < (↑k : Int)), decide ((0 : Nat) < k), inR x (-1000000000000 : Int) (1000000000000 : Int), inR (IntKind.wrap IntKind.i64 (g ((0 : Nat) + Int.toNat (↑i : Int)) (0 : Nat) - g (0 : Nat) (0 : Nat))) (-1000000000000 : Int) (1000000000000 : Int)] (Res.out Ex.normal [AV.sl (1 : Nat) (9 : Nat) (0 : Nat) (0 : Nat) k (some k), AV.v (Value.int IntKind.i64 (gf x (IntKind.wrap IntKind.i64 (g ((0 : Nat) + Int.toNat (↑i : Int)) (0 : Nat) - g (0 : Nat) (0 : Nat))))), AV.sl (1 : Nat) (9 : Nat) (0 : Nat) (0 : Nat) k (some k), AV.v (Value.int IntKind.i64 (↑k : Int)), AV.v (Value.int IntKind.i64 (IntKind.wrap IntKind.i64 ((↑i : Int) + (1 : Int))))] [AB.row false m (9 : Nat) (row9 f) (46 : TypeId), AB.row false k (9 : Nat) (row9 g) (46 : TypeId)]) else Res.out (Ex.exit (0 : Nat)) [AV.v (Value.int IntKind.i64 x)] [AB.row false m (9 : Nat) (row9 f) (46 : TypeId)] := by kernel_rfl

noncomputable abbrev lamQI (m : Nat) (f : Nat → Nat → Int) (k : Nat) (g : Nat → Nat → Int) (x : Int) : Nat → Option Sum := oneL 0 (atS 32 (lvQI .normal) 1 (stQI k 0 0) (hpPI m f k g) (fun K => K .normal (mkT 0 32 [(5, .v (i64 x))]) (hpP1 m f)))
theorem treeQI (yI : List Wh → Bool) (tI : List Wh → List Wh) (m : Nat) (f : Nat → Nat → Int) (k : Nat) (g : Nat → Nat → Int) (x : Int) : execF Try.prog (gmPt yI tI) (lamQI m f k g x) 100 fQI [.sl 0 9 0 0 m none] (hpP1 m f) (packK 1)
    = needs [Nat.ble ((0 : Nat) + m) m, allW m fun q ↦ row9 f ((0 : Nat) + q), decide (m ≤ (274877906944 : Nat))] (bif !yI (listW (itW fun q ↦ row9 f ((0 : Nat) + q)) m) then Res.out Ex.ret [AV.v (Value.int IntKind.i64 (-1 : Int))] [AB.row false m (9 : Nat) (row9 f) (46 : TypeId)] else needs [chk ([AV.sl (1 : Nat) (9 : Nat) (0 : Nat) (0 : Nat) (List.length (tI (listW (itW fun q ↦ row9 f ((0 : Nat) + q)) m))) (some (List.length (tI (listW (itW fun q ↦ row9 f ((0 : Nat) + q)) m)))), AV.v (Value.int IntKind.i64 (0 : Int)), AV.sl (1 : Nat) (9 : Nat) (0 : Nat) (0 : Nat) (List.length (tI (listW (itW fun q ↦ row9 f ((0 : Nat) + q)) m))) (some (List.length (tI (listW (itW fun q ↦ row9 f ((0 : Nat) + q)) m)))), AV.v (Value.int IntKind.i64 (↑(List.length (tI (listW (itW fun q ↦ row9 f ((0 : Nat) + q)) m))) : Int)), AV.v (Value.int IntKind.i64 (0 : Int))] = stQI k (0 : Int) (0 : Nat) ∧ Hsim [AB.row false m (9 : Nat) (row9 f) (46 : TypeId), AB.row false (List.length (tI (listW (itW fun q ↦ row9 f ((0 : Nat) + q)) m))) (9 : Nat) (row9 (wfun (tI (listW (itW fun q ↦ row9 f ((0 : Nat) + q)) m)))) (46 : TypeId)] (hpPI m f k g))] (Res.out Ex.ret [AV.v (Value.int IntKind.i64 x)] [AB.row false m (9 : Nat) (row9 f) (46 : TypeId)])) := by kernel_rfl

abbrev lvQS : Ex → List Nat := lv3 [3, 5, 6] [5] [2]
abbrev stQS (k : Nat) (x : Int) (i : Nat) : List AV := [.own 1 k, .v (i64 x), .v (i64 ((i : Int) + 1))]
noncomputable abbrev lamQS (m : Nat) (f : Nat → Nat → Int) (k : Nat) (g : Nat → Nat → Int) (x : Int) : Nat → Option Sum := oneL 0 (atS 33 (lvQS .normal) 1 (stQS k 0 0) (hpPS m f k g) (fun K => K .normal (mkT 0 33 [(5, .v (i64 x))]) (hpP1 m f)))
end Go.Proofs.Ytmdcafhnjihckaa

/- DesignPeriod and DesignFold of both: their words. Conditions: a list of wheels. -/
namespace Go.Proofs.Ytmdcafhnjihckaa
open Go.RowKit
set_option maxRecDepth 100000

/-- The greatest common divisor of the first numbers. -/
def pgF (h : Nat → Int) : Nat → Int
  | 0 => 0
  | i + 1 => gcdI (pgF h i) (h i)
theorem gcdI_zero (a : Int) : gcdI 0 a = a.natAbs := by
  unfold gcdI
  rw [show (0 : Int).natAbs = 0 from rfl, Nat.gcd_zero_left]
theorem pgF_in {h : Nat → Int} {k : Nat} (hh : ∀ i, i < k → -2000 ≤ h i ∧ h i ≤ 2000) : ∀ i, i ≤ k → 0 ≤ pgF h i ∧ pgF h i ≤ 2000
  | 0, _ => by show 0 ≤ (0 : Int) ∧ (0 : Int) ≤ 2000; omega
  | i + 1, hi => by
    have ih := pgF_in hh i (by omega)
    have hb := hh i (by omega)
    show 0 ≤ (Nat.gcd (pgF h i).natAbs (h i).natAbs : Int) ∧ (Nat.gcd (pgF h i).natAbs (h i).natAbs : Int) ≤ 2000
    refine ⟨by omega, ?_⟩
    by_cases h0 : (pgF h i).natAbs = 0
    · rw [h0, Nat.gcd_zero_left]
      omega
    · have := Nat.gcd_le_left (h i).natAbs (show 0 < (pgF h i).natAbs by omega)
      omega
theorem gmPr_ok : GamOk Try.prog (gmPr gcdI) := ext_ok (ext_ok g0_ok ok_gdI) ok_gdS
theorem gmPt_ok : GamOk Try.prog (gmPt yI tI) := ext_ok (ext_ok g0_ok ok_UTi) ok_tiS
def spH (T : List Wh) : Nat → Int := fun i => wfun T i 0
def dfH (T : List Wh) : Nat → Int := fun i => IntKind.wrap IntKind.i64 (wfun T i 0 - wfun T 0 0)
theorem spH_at {T : List Wh} {i : Nat} (hi : i < T.length) : spH T i = T[i].s := by
  unfold spH
  rw [wfun_get hi]
  rfl
theorem tidy_sp {T : List Wh} (h : isTidy T) {i : Nat} (hi : i < T.length) : -1000 ≤ wfun T i 0 ∧ wfun T i 0 ≤ 1000 := by
  have e : wfun T i 0 = T[i].s := spH_at hi
  rw [e]
  exact (okD_all (tidy_okD h) (List.getElem_mem hi)).1
theorem dfH_in {T : List Wh} (hT : isTidy T) {i : Nat} (hi : i < T.length) : -2000 ≤ dfH T i ∧ dfH T i ≤ 2000 := by
  have h1 := tidy_sp hT hi
  have h0 := tidy_sp hT (i := 0) (by omega)
  unfold dfH
  rw [wr_in (by omega)]
  omega
theorem sumQI (m : Nat) (f : Nat → Nat → Int) (T : List Wh) (hT : isTidy T) :
    SumOk Try.prog 1 (.block 0 (.loop (loopAt 0 fQI))) (atS 32 (lvQI .normal) 1 (stQI T.length 0 0) (hpPI m f T.length (wfun T)) (fun K => K .normal (mkT 0 32 [(5, .v (i64 (pgF (dfH T) T.length)))]) (hpP1 m f))) := by
  refine for_at gmPr_ok (n := 100) (m := 1) (lv := lvQI) (fun i => stQI T.length (pgF (dfH T) i) i) (fun _ => hpPI m f T.length (wfun T)) (fun _ => True) T.length (fun _ => noLam) (lv3_ris rfl rfl rfl) (Nat.le_refl _) trivial fun K Q hk i _ hi => ⟨noLam_ok _ _ _, ?_⟩
  have hlen := okD_len (tidy_okD hT)
  rw [rndQI]
  refine good_cond (fun c1 => ?_) fun c1 => ?_
  · have c1 := of_decide_eq_true c1
    have c1' : i < T.length := by omega
    rw [show 0 + Int.toNat (i : Int) = i by omega, wr_in (x := (i : Int) + 1) (by omega)]
    have h1 := pgF_in (h := dfH T) (k := T.length) (fun j hj => dfH_in hT hj) i (by omega)
    have h2 : -2000 ≤ IntKind.wrap IntKind.i64 (wfun T i 0 - wfun T 0 0) ∧ IntKind.wrap IntKind.i64 (wfun T i 0 - wfun T 0 0) ≤ 2000 := dfH_in hT c1'
    refine good_needs (by simp only [ob_cons, ob_nil, and_true, decide_eq_true_eq]; exact ⟨by omega, by omega, by omega, by omega, inR_iff.2 (by omega), inR_iff.2 (by omega)⟩) (good_out ⟨i + 1, ⟨rfl, c1', trivial⟩, rfl, Hsim.refl _⟩)
  · have c1 := of_decide_eq_false c1
    have : i = T.length := by omega
    subst this
    refine good_out ⟨_, Hsim.refl _, ?_⟩
    rw [if_pos rfl]
    exact hk
theorem dfH_first {T : List Wh} : pgF (dfH T) 1 = 0 := by
  show gcdI 0 (dfH T 0) = 0
  rw [gcdI_zero]
  unfold dfH
  rw [Int.sub_self]
  rfl
def perV (L : List Wh) : Int := bif yI L then pgF (spH (tI L)) (tI L).length else -1
def fldV (L : List Wh) : Int := bif yI L then pgF (dfH (tI L)) (tI L).length else -1
/-- A number of a list of wheels. -/
def FnmO (v : List Wh → Int) : List SA → Option FR
  | [.row m g] => some { val := .v (.int .i64 (v (listW (itW g) m))), obl := [allW m g, decide (m ≤ 2 ^ 38)] }
  | _ => none
theorem nm_fin {m : Nat} {g : Nat → List Value} {v : List Wh → Int} {x : Int} {ob : List Bool} {fn : Func} {Λ : Nat → Option Sum} (h1 : allW m g = true) (hm : m ≤ 2 ^ 38) {P : Prop} (c : P) (hob : P → obls ob = true) (h0 : yI (listW (itW g) m) = false → v (listW (itW g) m) = -1) (hx : yI (listW (itW g) m) = true → v (listW (itW g) m) = x)
    (ht : execF Try.prog (gmPt yI tI) Λ 100 fn [.sl 0 9 0 0 m none] (hpP1 m (itW g)) (packK 1) = needs [Nat.ble (0 + m) m, allW m fun q => row9 (itW g) (0 + q), decide (m ≤ 274877906944)] (bif !yI (listW (itW fun q => row9 (itW g) (0 + q)) m) then .out .ret [.v (i64 (-1))] [.row false m 9 (row9 (itW g)) 46] else needs ob (.out .ret [.v (i64 x)] [.row false m 9 (row9 (itW g)) 46]))) :
    GoodQ (execF Try.prog (gmPt yI tI) Λ 100 fn [.sl 0 9 0 0 m none] (hpP1 m (itW g)) (packK 1)) (GivR (abP md_ws [.row m g] []) { val := .v (.int .i64 (v (listW (itW g) m))), obl := [allW m g, decide (m ≤ 2 ^ 38)] }) := by
  rw [ht]
  simp only [row0, listW_itW]
  refine good_needs (by simp only [ob_cons, ob_nil, and_true, decide_eq_true_eq, Nat.ble_eq, allW_row, true_and]; omega) (good_cond (fun q => ?_) fun q => ?_)
  · have q2 : yI (listW (itW g) m) = false := by simpa using q
    exact good_out ⟨_, rfl, by rw [h0 q2], .cons (ABeq.row fun j hj => (allW_get h1 j hj).symm) .nil⟩
  · have q2 : yI (listW (itW g) m) = true := by simpa using q
    exact good_needs (hob c) (good_out ⟨_, rfl, by rw [hx q2], .cons (ABeq.row fun j hj => (allW_get h1 j hj).symm) .nil⟩)
theorem ok_foI : SpecOk Try.prog 23 (specR md_ws (FnmO fldV)) := by
  refine specR_hr gmPt_ok Try.func23 rfl fun sas fr hF ho => ?_
  unfold FnmO at hF
  split at hF
  · rename_i m g
    cases hF
    simp only [ob_cons] at ho
    obtain ⟨h1, h2, _⟩ := ho
    have hm := of_decide_eq_true h2
    refine ⟨hpP1 m (itW g), _, 100, .cons (ABeq.row fun j hj => allW_get h1 j hj) .nil, lam1 (by kernel_rfl) (sumQI m (itW g) (tI (listW (itW g) m)) (tI_tidy _)), ?_⟩
    refine nm_fin h1 hm trivial (fun _ => ?_) (fun q => by rw [fldV, q]; rfl) (fun q => by rw [fldV, q]; rfl) (treeQI yI tI m (itW g) _ _ _)
    simp only [row0, listW_itW, ob_cons, ob_nil, and_true]
    exact chk_of ⟨rfl, Hsim.refl _⟩
  · cases hF
end Go.Proofs.Ytmdcafhnjihckaa

/- Plain laws of designs: periods and folds. No program, no conditions. -/
namespace Go.Proofs.Ytmdcafhnjihckaa
open Go.RowKit

theorem pgF_dvd (h : Nat → Int) : ∀ (k i : Nat), i < k → pgF h k ∣ h i
  | 0, i, hi => absurd hi (Nat.not_lt_zero _)
  | k + 1, i, hi => by
    show ((Nat.gcd (pgF h k).natAbs (h k).natAbs : Nat) : Int) ∣ h i
    by_cases e : i = k
    · subst e
      exact Int.ofNat_dvd_left.2 (Nat.gcd_dvd_right _ _)
    · exact Int.dvd_trans (Int.ofNat_dvd_left.2 (Nat.gcd_dvd_left _ _)) (pgF_dvd h k i (by omega))
theorem spH_mem {T : List Wh} {w : Wh} (hw : w ∈ T) : ∃ i, i < T.length ∧ spH T i = w.s := by
  obtain ⟨i, hi, e⟩ := List.mem_iff_getElem.1 hw
  exact ⟨i, hi, by rw [spH_at hi, e]⟩
theorem tidy_sub0 {A B : List Wh} (hA : rising A) (hz : ∀ w ∈ A, w.r ≠ cyZ) (hB : rising B) (h : ∀ s k, k < 8 → linS (atSp s k) A = linS (atSp s k) B) : ∀ w ∈ A, w ∈ B := fun w hw => by
  have hne : ∃ k, k < 8 ∧ w.r.f k ≠ 0 := by
    refine Classical.byContradiction fun hn => hz w hw (cy_ext fun k hk => ?_)
    have : w.r.f k = 0 := Classical.byContradiction fun h0 => hn ⟨k, hk, h0⟩
    rw [this]
    rcases (by omega : k = 0 ∨ k = 1 ∨ k = 2 ∨ k = 3 ∨ k = 4 ∨ k = 5 ∨ k = 6 ∨ k = 7) with rfl | rfl | rfl | rfl | rfl | rfl | rfl | rfl <;> rfl
  obtain ⟨k, hk, h0⟩ := hne
  have hex : ∃ x ∈ B, x.s = w.s := by
    refine Classical.byContradiction fun hn => h0 ?_
    rw [← atSp_of hA hw, h w.s k hk]
    exact atSp_none fun x hx e => hn ⟨x, hx, e⟩
  obtain ⟨x, hx, e⟩ := hex
  have hr : x.r = w.r := cy_ext fun j hj => by
    rw [← atSp_of hA hw, h w.s j hj, ← e]
    exact (atSp_of hB hx).symm
  have : x = w := by
    cases x
    cases w
    simp_all
  rw [← this]
  exact hx
theorem tidy_unique0 {A B : List Wh} (hA : rising A) (zA : ∀ w ∈ A, w.r ≠ cyZ) (hB : rising B) (zB : ∀ w ∈ B, w.r ≠ cyZ) (h : ∀ s k, k < 8 → linS (atSp s k) A = linS (atSp s k) B) : A = B :=
  rising_ext hA hB fun w => ⟨tidy_sub0 hA zA hB h w, tidy_sub0 hB zB hA (fun s k hk => (h s k hk).symm) w⟩

/-- Later by a part of a whole turn that the period has: nothing changes. -/
theorem law_period {L : List Wh} {n q : Int} (hq : q * n % 24 = 0) (hn : n ∣ pgF (spH (tI L)) (tI L).length) (hy : yI L = true) (hL : eachOk 1 0 q false L = true) : eachL 1 0 q false L = tI L := by
  obtain ⟨_, hT, hl⟩ := tI_spec hy
  refine tidy_unique (each_tidy (by omega) hL) hT fun s k hk => ?_
  rw [each_lin (by omega) hL (atSp_lin s k) (atSp_loc s hk), ← hl _ (lin_tn (atSp_lin s k) (fun s => 1 * s) fun s => 0 + q * s)]
  refine linS_congr fun w hw => ?_
  obtain ⟨i, hi, e⟩ := spH_mem hw
  have hd := Int.dvd_trans hn (pgF_dvd (spH (tI L)) _ i hi)
  rw [e] at hd
  obtain ⟨c, hc⟩ := hd
  show atSp s k (1 * w.s) (tnI w.r.f (0 + q * w.s)) = atSp s k w.s w.r.f
  rw [Int.one_mul]
  refine atSp_loc s hk _ _ _ fun j hj => tnI_24 _ ?_ j hj
  rw [Int.zero_add, hc, ← Int.mul_assoc, Int.mul_emod, hq, Int.zero_mul]
  rfl
/-- Twice as fast. -/
def dbl (w : Wh) : Wh := ⟨2 * w.s, w.r⟩
theorem dbl_all {L : List Wh} (hy : yI L = true) (hF : yF 2 L = true) : tF 2 L = (tI L).map dbl := by
  rw [yF, Bool.and_eq_true] at hF
  obtain ⟨_, hT, hl⟩ := tI_spec hy
  have e : tF 2 L = eachL 2 0 0 false L := rfl
  have hM := each_tidy (by omega) hF.2
  rw [e]
  refine tidy_unique0 hM.1 hM.2.1 ?_ ?_ fun s k hk => ?_
  · refine List.pairwise_map.2 (List.Pairwise.imp (fun {a c} h => ?_) hT.1)
    show 2 * a.s < 2 * c.s
    omega
  · intro w hw
    obtain ⟨x, hx, rfl⟩ := List.mem_map.1 hw
    exact hT.2.1 x hx
  · rw [each_lin (by omega) hF.2 (atSp_lin s k) (atSp_loc s hk), ← hl _ (lin_tn (atSp_lin s k) (fun s => 2 * s) fun s => 0 + 0 * s)]
    refine (linS_map (ψ := fun s' f => atSp s k (2 * s') (tnI f (0 + 0 * s'))) fun w hw => ?_).symm
    show atSp s k (2 * w.s) w.r.f = atSp s k (2 * w.s) (tnI w.r.f (0 + 0 * w.s))
    rw [show 0 + 0 * w.s = 0 by omega]
    rfl
theorem gcdI_two (a b : Int) : gcdI (2 * a) (2 * b) = 2 * gcdI a b := by
  unfold gcdI
  rw [Int.natAbs_mul, Int.natAbs_mul, show (2 : Int).natAbs = 2 from rfl, Nat.gcd_mul_left]
  omega
theorem pgF_dbl (T : List Wh) : ∀ i, i ≤ T.length → pgF (spH (T.map dbl)) i = 2 * pgF (spH T) i
  | 0, _ => rfl
  | i + 1, hi => by
    show gcdI (pgF (spH (T.map dbl)) i) (spH (T.map dbl) i) = 2 * gcdI (pgF (spH T) i) (spH T i)
    have e : spH (T.map dbl) i = 2 * spH T i := by
      rw [spH_at (T := T) (by omega), spH_at (T := T.map dbl) (by rw [List.length_map]; omega), List.getElem_map]
      rfl
    rw [pgF_dbl T i (by omega), e, gcdI_two]
theorem law_period2 {L : List Wh} (hy : yI L = true) (hF : yF 2 L = true) : perV (tF 2 L) = 2 * perV L := by
  have hM : isTidy (tF 2 L) := by
    rw [yF, Bool.and_eq_true] at hF
    exact each_tidy (by omega) hF.2
  rw [perV, perV, yI_self hM, hy, cond_true, cond_true, tI_self hM, dbl_all hy hF, List.length_map]
  exact pgF_dbl _ _ (Nat.le_refl _)

end Go.Proofs.Ytmdcafhnjihckaa

/- DesignCentre of both: trees. Conditions: a list of wheels. -/
namespace Go.Proofs.Ytmdcafhnjihckaa
open Go.RowKit
set_option maxRecDepth 100000

abbrev hpCI (m : Nat) (f : Nat → Nat → Int) (k : Nat) (g : Nat → Nat → Int) : List AB := [.row false m 9 (row9 f) 46, .cells (cyC fun _ => 0) 31, .row false k 9 (row9 g) 46]
abbrev hpCS (m : Nat) (f : Nat → Nat → Int) (k : Nat) (g : Nat → Nat → Int) : List AB := [.row false m 9 (row9 f) 46, .cells (cyC fun _ => 0) 31, .row true k 9 (row9 g) 46]
abbrev hpCO (m : Nat) (f : Nat → Nat → Int) (a : Nat → Int) : List AB := [.row false m 9 (row9 f) 46, .cells (cyC a) 31]
abbrev lvCI : Ex → List Nat := lv3 [2, 16, 17, 18] [2] [2, 3]
abbrev stCI (k i : Nat) : List AV := [.ptr 1 0 0 0, .sl 2 9 0 0 k (some k), .v (i64 k), .v (i64 i)]
noncomputable abbrev lamCI (m : Nat) (f : Nat → Nat → Int) (k : Nat) (g : Nat → Nat → Int) (c : Bool) (a : Nat → Int) : Nat → Option Sum := oneL 0 (atS 29 (lvCI .normal) 1 (stCI k 0) (hpCI m f k g) (fun K => cond c (K .normal (mkT 0 29 [(2, .ptr 1 0 0 0)]) (hpCO m f fun _ => 0)) (K .ret (mkT 0 29 [(2, .ptr 1 0 0 0), (3, .v (.bool true))]) (hpCO m f a))))
abbrev lvCS : Ex → List Nat := lv3 [2, 4, 6] [2] [2, 3]
abbrev stCS (k i : Nat) : List AV := [.ptr 1 0 0 0, .own 2 k, .v (i64 i)]
noncomputable abbrev lamCS (m : Nat) (f : Nat → Nat → Int) (k : Nat) (g : Nat → Nat → Int) (c : Bool) (a : Nat → Int) : Nat → Option Sum := oneL 0 (atS 33 (lvCS .normal) 1 (stCS k 0) (hpCS m f k g) (fun K => cond c (K .normal (mkT 0 33 [(2, .ptr 1 0 0 0)]) (hpCO m f fun _ => 0)) (K .ret (mkT 0 33 [(2, .ptr 1 0 0 0), (3, .v (.bool true))]) (hpCO m f a))))
end Go.Proofs.Ytmdcafhnjihckaa

/- DesignCentre of both: its word. Conditions: a list of wheels. -/
namespace Go.Proofs.Ytmdcafhnjihckaa
open Go.RowKit
set_option maxRecDepth 100000

/-- The radius that stands. -/
def cenT (T : List Wh) : Nat → Int := fun k => linS (atSp 0 k) T
def cenV (L : List Wh) : Nat → Int := cenT (tI L)
def badC (T : List Wh) (i : Nat) : Bool := wfun T i 0 == 0
theorem cenT_at {T : List Wh} (hT : isTidy T) {i : Nat} (hi : i < T.length) (h : badC T i = true) : cyC (cenT T) = [.v (i64 (wfun T i 1)), .v (i64 (wfun T i 2)), .v (i64 (wfun T i 3)), .v (i64 (wfun T i 4)), .v (i64 (wfun T i 5)), .v (i64 (wfun T i 6)), .v (i64 (wfun T i 7)), .v (i64 (wfun T i 8))] := by
  have hs : T[i].s = 0 := by
    rw [← spH_at hi]
    exact beq_iff_eq.1 h
  have e : ∀ k, cenT T k = T[i].r.f k := fun k => by
    show linS (atSp 0 k) T = _
    rw [← hs]
    exact atSp_of hT.1 (List.getElem_mem hi)
  show [AV.v (i64 (cenT T 0)), .v (i64 (cenT T 1)), .v (i64 (cenT T 2)), .v (i64 (cenT T 3)), .v (i64 (cenT T 4)), .v (i64 (cenT T 5)), .v (i64 (cenT T 6)), .v (i64 (cenT T 7))] = _
  rw [e, e, e, e, e, e, e, e, wfun_get hi]
  rfl
theorem cenT_no {T : List Wh} (h : noneTo (badC T) T.length = true) : cenT T = fun _ => 0 := by
  funext k
  refine atSp_none fun w hw hs => ?_
  obtain ⟨i, hi, e⟩ := spH_mem hw
  have := noneTo_iff.1 h i hi
  have hb : badC T i = true := by
    unfold badC
    rw [show wfun T i 0 = w.s from e, hs]
    rfl
  rw [hb] at this
  cases this
/-- A point of a list of wheels, and whether there is one. -/
def FptO (v : List Wh → Nat → Int) (yI : List Wh → Bool) : List SA → Option FR
  | [.row m g] => some { val := .tup [.agg (cyC (v (listW (itW g) m))), .v (.bool (yI (listW (itW g) m)))], obl := [allW m g, decide (m ≤ 2 ^ 38)] }
  | _ => none
theorem cenV_no {L : List Wh} (h : yI L = false) : cenV L = fun _ => 0 := by
  rw [cenV, tI_no h]
  rfl
end Go.Proofs.Ytmdcafhnjihckaa

/- Plain laws of designs: the sum over all turns. No program, no conditions. -/
namespace Go.Proofs.Ytmdcafhnjihckaa
open Go.RowKit

theorem linS_add {φ ψ : Int → (Nat → Int) → Int} : ∀ L : List Wh, linS (fun s f => φ s f + ψ s f) L = linS φ L + linS ψ L
  | [] => rfl
  | w :: l => by
    show φ w.s w.r.f + ψ w.s w.r.f + linS (fun s f => φ s f + ψ s f) l = φ w.s w.r.f + linS φ l + (ψ w.s w.r.f + linS ψ l)
    rw [linS_add l]
    omega
/-- The points of some turns, summed. -/
def sumD (L : List Wh) : Nat → Nat → Int
  | 0 => fun _ => 0
  | t + 1 => fun k => sumD L t k + dAt L t k
def tsum (f : Nat → Int) (s : Int) : Nat → Nat → Int
  | 0 => fun _ => 0
  | t + 1 => fun k => tsum f s t k + tnI f ((t : Int) * s) k
theorem linS_zero : ∀ L : List Wh, linS (fun _ _ => 0) L = 0
  | [] => rfl
  | w :: l => by
    show 0 + linS (fun _ _ => 0) l = 0
    rw [linS_zero l]
    rfl
theorem sumD_lin (L : List Wh) (k : Nat) : ∀ t, sumD L t k = linS (fun s f => tsum f s t k) L
  | 0 => (linS_zero L).symm
  | t + 1 => by
    show sumD L t k + linS (atT t k) L = linS (fun s f => tsum f s t k + atT t k s f) L
    rw [linS_add, sumD_lin L k t]
theorem tsum_lin (k : Nat) : ∀ t, Lin fun s f => tsum f s t k
  | 0 => fun _ _ _ => rfl
  | t + 1 => fun s f g => by
    show tsum (fun k => f k + g k) s t k + tnI (fun k => f k + g k) ((t : Int) * s) k = tsum f s t k + tnI f ((t : Int) * s) k + (tsum g s t k + tnI g ((t : Int) * s) k)
    have ih : tsum (fun k => f k + g k) s t k = tsum f s t k + tsum g s t k := tsum_lin k t s f g
    rw [ih, tnI_add]
    show tsum f s t k + tsum g s t k + (tnI f ((t : Int) * s) k + tnI g ((t : Int) * s) k) = _
    omega
def eB (j : Nat) : Nat → Int := fun i => if i = j then 1 else 0
theorem tnZ_basis (f : Nat → Int) : ∀ (n k : Nat), k < 8 → tnZ f n k = f 0 * tnZ (eB 0) n k + f 1 * tnZ (eB 1) n k + f 2 * tnZ (eB 2) n k + f 3 * tnZ (eB 3) n k + f 4 * tnZ (eB 4) n k + f 5 * tnZ (eB 5) n k + f 6 * tnZ (eB 6) n k + f 7 * tnZ (eB 7) n k
  | 0 => by
    refine forall8 ?_ ?_ ?_ ?_ ?_ ?_ ?_ ?_ <;> simp [tnZ, eB]
  | n + 1 => by
    have ih := tnZ_basis f n
    have s0 : ∀ g : Nat → Int, tnZ g (n + 1) 0 = - tnZ g n 7 := fun _ => rfl
    have s1 : ∀ g : Nat → Int, tnZ g (n + 1) 1 = tnZ g n 0 := fun _ => rfl
    have s2 : ∀ g : Nat → Int, tnZ g (n + 1) 2 = tnZ g n 1 := fun _ => rfl
    have s3 : ∀ g : Nat → Int, tnZ g (n + 1) 3 = tnZ g n 2 := fun _ => rfl
    have s4 : ∀ g : Nat → Int, tnZ g (n + 1) 4 = tnZ g n 3 + tnZ g n 7 := fun _ => rfl
    have s5 : ∀ g : Nat → Int, tnZ g (n + 1) 5 = tnZ g n 4 := fun _ => rfl
    have s6 : ∀ g : Nat → Int, tnZ g (n + 1) 6 = tnZ g n 5 := fun _ => rfl
    have s7 : ∀ g : Nat → Int, tnZ g (n + 1) 7 = tnZ g n 6 := fun _ => rfl
    refine forall8 ?_ ?_ ?_ ?_ ?_ ?_ ?_ ?_
    · simp only [s0, ih 7 (by omega), Int.mul_neg]; omega
    · simp only [s1, ih 0 (by omega)]
    · simp only [s2, ih 1 (by omega)]
    · simp only [s3, ih 2 (by omega)]
    · simp only [s4, ih 3 (by omega), ih 7 (by omega), Int.mul_add]; omega
    · simp only [s5, ih 4 (by omega)]
    · simp only [s6, ih 5 (by omega)]
    · simp only [s7, ih 6 (by omega)]
theorem tsum_basis (f : Nat → Int) (s : Int) (k : Nat) (hk : k < 8) : ∀ t, tsum f s t k = f 0 * tsum (eB 0) s t k + f 1 * tsum (eB 1) s t k + f 2 * tsum (eB 2) s t k + f 3 * tsum (eB 3) s t k + f 4 * tsum (eB 4) s t k + f 5 * tsum (eB 5) s t k + f 6 * tsum (eB 6) s t k + f 7 * tsum (eB 7) s t k
  | 0 => by simp [tsum]
  | t + 1 => by
    have ih := tsum_basis f s k hk t
    have e : ∀ g : Nat → Int, tsum g s (t + 1) k = tsum g s t k + tnZ g (((t : Int) * s) % 24).toNat k := fun _ => rfl
    simp only [e, Int.mul_add, ih, tnZ_basis f (((t : Int) * s) % 24).toNat k hk]
    omega
theorem tsum_mod (f : Nat → Int) (s : Int) (k : Nat) : ∀ t, tsum f s t k = tsum f (s % 24) t k
  | 0 => rfl
  | t + 1 => by
    show tsum f s t k + tnI f ((t : Int) * s) k = tsum f (s % 24) t k + tnI f ((t : Int) * (s % 24)) k
    rw [tsum_mod f s k t, Int.mul_comm (t : Int) (s % 24), tnI_mulmod, Int.mul_comm s]
set_option maxRecDepth 100000 in
theorem tsum_decide : ∀ s, s < 24 → s ≠ 0 → ∀ j, j < 8 → ∀ k, k < 8 → tsum (eB j) ((s : Nat) : Int) 24 k = 0 := by
  decide +kernel
theorem tsum_none {f : Nat → Int} {s : Int} (h : s % 24 ≠ 0) {k : Nat} (hk : k < 8) : tsum f s 24 k = 0 := by
  rw [tsum_mod]
  obtain ⟨n, hn⟩ : ∃ n : Nat, (n : Int) = s % 24 := ⟨(s % 24).toNat, by omega⟩
  have d := fun j hj => tsum_decide n (by omega) (by omega) j hj k hk
  rw [← hn, tsum_basis f _ k hk, d 0 (by omega), d 1 (by omega), d 2 (by omega), d 3 (by omega), d 4 (by omega), d 5 (by omega), d 6 (by omega), d 7 (by omega)]
  simp
theorem tsum_stand (f : Nat → Int) (k : Nat) : ∀ t : Nat, tsum f 0 t k = (t : Int) * f k
  | 0 => by simp [tsum]
  | t + 1 => by
    show tsum f 0 t k + tnI f ((t : Int) * 0) k = _
    rw [tsum_stand f k t, Int.mul_zero, tnI_zero]
    rw [show ((t + 1 : Nat) : Int) = (t : Int) + 1 by omega, Int.add_mul, Int.one_mul]
theorem linS_smul {φ : Int → (Nat → Int) → Int} (c : Int) : ∀ L : List Wh, linS (fun s f => c * φ s f) L = c * linS φ L
  | [] => by show (0 : Int) = c * 0; omega
  | w :: l => by
    show c * φ w.s w.r.f + linS (fun s f => c * φ s f) l = c * (φ w.s w.r.f + linS φ l)
    rw [linS_smul c l, Int.mul_add]
/-- The points of all turns add up to the radius that stands, 24 times. -/
theorem law_centre {L : List Wh} (hy : yI L = true) (hs : ∀ w ∈ tI L, -23 ≤ w.s ∧ w.s ≤ 23) {k : Nat} (hk : k < 8) : sumD L 24 k = 24 * cenV L k := by
  rw [sumD_lin, ← (tI_spec hy).2.2 _ (tsum_lin k 24)]
  show _ = 24 * linS (atSp 0 k) (tI L)
  rw [← linS_smul]
  refine linS_congr fun w hw => ?_
  have := hs w hw
  show tsum w.r.f w.s 24 k = 24 * atSp 0 k w.s w.r.f
  unfold atSp
  by_cases h0 : w.s = 0
  · rw [if_pos h0, h0, tsum_stand]
    rfl
  · rw [if_neg h0, tsum_none (by omega) hk]
    rfl

end Go.Proofs.Ytmdcafhnjihckaa

/- Rows of points. No conditions. -/
namespace Go.Proofs.Ytmdcafhnjihckaa
open Go.RowKit
set_option maxRecDepth 100000

abbrev row8 (f : Nat → Nat → Int) : Nat → List Value := fun j => [i64 (f j 0), i64 (f j 1), i64 (f j 2), i64 (f j 3), i64 (f j 4), i64 (f j 5), i64 (f j 6), i64 (f j 7)]
def is8 : List Value → Bool
  | [.int .i64 _, .int .i64 _, .int .i64 _, .int .i64 _, .int .i64 _, .int .i64 _, .int .i64 _, .int .i64 _] => true
  | _ => false
def it8 (g : Nat → List Value) : Nat → Nat → Int := fun j k => intOf ((g j).getD k undef)
def all8 (m : Nat) (g : Nat → List Value) : Bool := (List.range m).all fun j => is8 (g j)
theorem all8_get {m : Nat} {g : Nat → List Value} (h : all8 m g = true) (j : Nat) (hj : j < m) : g j = row8 (it8 g) j := by
  have := List.all_eq_true.1 h j (by simpa using hj)
  simp only [row8, it8, i64]
  unfold is8 at this
  split at this
  · rename_i e; rw [e]; rfl
  · cases this
theorem all8_row (m : Nat) (f : Nat → Nat → Int) : all8 m (row8 f) = true := List.all_eq_true.2 fun _ _ => rfl
theorem row8_it8 (f : Nat → Nat → Int) : row8 (it8 (row8 f)) = row8 f := rfl
theorem row80 (f : Nat → Nat → Int) : (fun q => row8 f (0 + q)) = row8 f := by
  funext q
  rw [Nat.zero_add]
def listC (f : Nat → Nat → Int) (m : Nat) : List Cy := (List.range m).map fun j => cyOf (f j)
def cfun (L : List Cy) : Nat → Nat → Int := fun j k => match L[j]? with
  | some c => c.f k
  | none => 0
theorem listC_length (f : Nat → Nat → Int) (m : Nat) : (listC f m).length = m := by simp [listC]
theorem listC_get (f : Nat → Nat → Int) {m j : Nat} (hj : j < m) : (listC f m)[j]? = some (cyOf (f j)) := by simp [listC, hj]
theorem listC_fun (L : List Cy) : listC (cfun L) L.length = L := by
  apply List.ext_getElem?
  intro j
  by_cases hj : j < L.length
  · rw [listC_get _ hj, List.getElem?_eq_getElem hj]
    have : cfun L j = L[j].f := by
      funext k
      simp only [cfun, List.getElem?_eq_getElem hj]
    rw [this, cyOf_f]
  · rw [List.getElem?_eq_none (by rw [listC_length]; omega), List.getElem?_eq_none (by omega)]
theorem listC_it8 (f : Nat → Nat → Int) (m : Nat) : listC (it8 (row8 f)) m = listC f m := rfl
theorem listC_me (L : List Cy) : listC (it8 (row8 (cfun L))) L.length = L := by rw [listC_it8, listC_fun]
theorem listC_succ (f : Nat → Nat → Int) (m : Nat) : listC f (m + 1) = listC f m ++ [cyOf (f m)] := by simp [listC, List.range_succ]
theorem row8_congr {f g : Nat → Nat → Int} {j : Nat} (h : ∀ k, k < 8 → f j k = g j k) : row8 f j = row8 g j := by
  simp only [row8, h 0 (by omega), h 1 (by omega), h 2 (by omega), h 3 (by omega), h 4 (by omega), h 5 (by omega), h 6 (by omega), h 7 (by omega)]
theorem cfun_get {L : List Cy} {j : Nat} (hj : j < L.length) : cfun L j = L[j].f := by
  funext k
  simp only [cfun, List.getElem?_eq_getElem hj]
theorem row8_list (f : Nat → Nat → Int) {m j : Nat} (hj : j < m) : row8 (cfun (listC f m)) j = row8 f j := by
  refine row8_congr fun k hk => ?_
  simp only [cfun, listC_get f hj]
  rcases (by omega : k = 0 ∨ k = 1 ∨ k = 2 ∨ k = 3 ∨ k = 4 ∨ k = 5 ∨ k = 6 ∨ k = 7) with rfl | rfl | rfl | rfl | rfl | rfl | rfl | rfl <;> rfl

end Go.Proofs.Ytmdcafhnjihckaa

/- A word for a callee that hands back an own list of points or none: read as one. Conditions: those of its two cases. -/
namespace Go.Proofs.Ytmdcafhnjihckaa
open Go.RowKit
set_option maxRecDepth 100000

/-- The points, or none. -/
structure PtR where
  b : Bool
  T : List Cy
  obl : List Bool
abbrev newG (T : List Cy) : List AB := [.row true T.length 8 (row8 (cfun T)) 31]
abbrev valG (T : List Cy) : AV := .tup [.own 0 T.length, .v (.bool true)]
def specG (mds : List Md) (U : List SA → Option PtR) : Spec := fun avs H base =>
  match saAll H mds avs with
  | some xs => match U (xs.map (·.sa)) with
    | some u => some { val := .tup [.sl base 8 0 0 u.T.length none, .v (.bool u.b)], rd := (ixC mds xs).filterMap id, put := [], new := [.row false u.T.length 8 (row8 (cfun u.T)) 31], obl := xs.flatMap (·.ob) ++ u.obl }
    | none => none
  | none => none

theorem specG_ok {P : Program} {f : FuncId} {mds : List Md} {FY FN : List SA → Option FR} {U : List SA → Option PtR} (hw : hasWr mds = false) (hY : SpecOk P f (specR mds FY)) (hN : SpecOk P f (specR mds FN))
    (h : ∀ sas u, U sas = some u → obls u.obl = true → Nat.beq (abP mds sas []).length (abC mds sas).length = true ∧ ((u.b = true ∧ ∃ ob, FY sas = some { val := valG u.T, new := newG u.T, obl := ob } ∧ obls ob = true) ∨ (u.b = false ∧ u.T = [] ∧ ∃ ob, FN sas = some { val := valN, obl := ob } ∧ obls ob = true))) : SpecOk P f (specG mds U) := by
  refine ⟨hY.1, fun avs H base δ ν vals w hS ho hv hr hlt hfree hsep => ?_⟩
  unfold specG at hS
  split at hS
  case h_2 => cases hS
  rename_i xs hxs
  split at hS
  case h_2 => cases hS
  rename_i u hu
  simp only [Option.some.injEq] at hS
  subst hS
  have ho' : obls (xs.flatMap (·.ob)) = true ∧ obls u.obl = true := by simpa [obls, List.all_append] using ho
  obtain ⟨hl, hc⟩ := h _ _ hu ho'.2
  have hput : putC (ixC mds xs) (abP mds (xs.map (·.sa)) []) = [] := putC_nil _ _ fun b hb => abP_rd hw b hb
  rcases hc with ⟨hb, ob, e1, e2⟩ | ⟨hb, hT, ob, e1, e2⟩
  · have hS2 : specR mds FY avs H base = some { val := .tup [.own base u.T.length, .v (.bool true)], rd := (ixC mds xs).filterMap id, put := [], new := newG u.T, obl := xs.flatMap (·.ob) ++ ob } := by
      unfold specR
      rw [hxs]
      simp only [e1]
      show cond _ _ _ = _
      rw [hw, hl, hput]
      rfl
    refine (hY.2 avs H base _ ν vals w hS2 (by simpa [obls, List.all_append] using And.intro ho'.1 e2) hv hr hlt hfree (fun i o j b b' hp => by cases hp)).mono ?_
    rintro e w' ⟨v, ν', rfl, d⟩
    have hnew := d.new 0 _ rfl
    have hv2 : VR ν' (.tup [.sl base 8 0 0 u.T.length none, .v (.bool u.b)]) v := by
      have := d.val
      simp only [VR, VRs] at this ⊢
      obtain ⟨l, e1, e2⟩ := this
      match l, e2 with
      | [a, c], ⟨⟨b0, hb0, ha⟩, hbb, _⟩ =>
        refine ⟨[a, c], e1, ⟨some ⟨b0.n, b0.o, none⟩, b0.c, ha, fun c' hc' => (by cases hc'), ?_, fun _ => ⟨b0, hb0, by simp⟩⟩, by rw [hb]; exact hbb, trivial⟩
        rcases hnew with ⟨h1, _, _⟩ | ⟨k, l, t', fz, h1, _, _, h4, _⟩
        · cases h1
        · rw [Nat.add_zero] at h1
          rw [hb0] at h1
          cases h1
          exact h4
    refine ⟨v, ν', rfl, d.le, d.dom, hv2, fun i b hl => (by cases hl), fun j b hj => ?_, d.os, d.tape, d.output, d.size, d.block, d.fresh, d.apart⟩
    match j with
    | 0 =>
      simp only [List.getElem?_cons_zero, Option.some.injEq] at hj
      subst hj
      rcases hnew with ⟨h1, _, _⟩ | ⟨k, l, t', fz, h1, h2, _, h4, h5⟩
      · cases h1
      · exact .inr ⟨k, l, t', fz, h1, h2, fun h => (by cases h), h4, h5⟩
    | j + 1 => simp at hj
  · have hS2 : specR mds FN avs H base = some { val := valN, rd := (ixC mds xs).filterMap id, put := [], new := [], obl := xs.flatMap (·.ob) ++ ob } := by
      unfold specR
      rw [hxs]
      simp only [e1]
      show cond _ _ _ = _
      rw [hw, hl, hput]
      rfl
    refine (hN.2 avs H base _ ν vals w hS2 (by simpa [obls, List.all_append] using And.intro ho'.1 e2) hv hr hlt (fun j hj => absurd hj (Nat.not_lt_zero _)) (fun i o j b b' hp => by cases hp)).mono ?_
    rintro e w' ⟨v, ν', rfl, d⟩
    have hnone : ν' base = none := by
      have h0 : ν base = none := hfree 0 (Nat.zero_lt_one)
      cases hq : ν' base with
      | none => rfl
      | some b =>
        have := d.dom base h0 (by rw [hq]; simp)
        simp at this
    have hv0 : VR ν' (.tup [.sl base 8 0 0 0 none, .v (.bool false)]) v := by
      have := d.val
      simp only [VR, VRs] at this ⊢
      obtain ⟨l, e1, e2⟩ := this
      match l, e2 with
      | [a, b], ⟨ha, hbb, _⟩ => exact ⟨[a, b], e1, ⟨none, 0, ha, fun c' hc' => (by cases hc'), Nat.le_refl _, fun hc => absurd hc (Nat.lt_irrefl 0)⟩, hbb, trivial⟩
    refine ⟨v, ν', rfl, d.le, fun i h1 h2 => ?_, by rw [hb, hT]; exact hv0, fun i b hl => (by cases hl), fun j b hj => ?_, d.os, d.tape, d.output, d.size, d.block, fun j b hj hq => ?_, fun j j' b b' hne hj hj' => ?_⟩
    · have := d.dom i h1 h2
      simp at this
      omega
    · match j with
      | 0 =>
        simp only [List.getElem?_cons_zero, Option.some.injEq] at hj
        subst hj
        rw [hT]
        exact .inl ⟨rfl, rfl, hnone⟩
      | j + 1 => simp at hj
    · have hj : j < 1 := hj
      have : j = 0 := by omega
      subst this
      rw [Nat.add_zero, hnone] at hq
      cases hq
    · have hj : j < 1 := hj
      have hj' : j' < 1 := hj'
      omega

end Go.Proofs.Ytmdcafhnjihckaa

/- RowOf of both: trees. Conditions: a list of wheels, a number. -/
namespace Go.Proofs.Ytmdcafhnjihckaa
open Go.RowKit
set_option maxRecDepth 100000

noncomputable abbrev fRI : Func := Try.f31
def gmRO (dv : (Nat → Nat → Int) → Int → Nat → Nat → Int) (dk : (Nat → Nat → Int) → Int → Nat → Bool) : Gam := ext (ext g0 18 (specR md_wv (FDAo dv dk))) 75 (specR md_wv (FDAo dv dk))
def gmRV (okd : List Wh → Bool) : Gam := ext (ext gm_l6In 58 (specR md_ws (FdvO okd))) 61 (specR md_ws (FdvO okd))
abbrev hpRO (m : Nat) (f : Nat → Nat → Int) (i : Nat) (h : Nat → Nat → Int) : List AB := [.row false m 9 (row9 f) 46, .row true i 8 (row8 h) 31]
abbrev hpR1 (m : Nat) (f : Nat → Nat → Int) : List AB := [.row false m 9 (row9 f) 46]
abbrev lvRI : Ex → List Nat := lv3 [0, 1, 6, 20, 21] [6] [4, 5]
abbrev stRI (m n i : Nat) : List AV := [.sl 0 9 0 0 m none, .v (i64 n), .own 1 i, .v (i64 n), .v (i64 i)]
theorem rndRI (dv : (Nat → Nat → Int) → Int → Nat → Nat → Int) (dk : (Nat → Nat → Int) → Int → Nat → Bool) (m : Nat) (f : Nat → Nat → Int) (n : Nat) (h : Nat → Nat → Int) (i : Nat) : execC Try.prog (gmRO dv dk) 100 noLam (loopAt 0 fRI) (mkT 0 41 ((lvRI .normal).zip (stRI m n i))) (hpRO m f i h) (leafV 41 lvRI 1)
    = bif decide ((↑i : Int) < (↑n : Int)) then needs [!decide ((↑n : Int) = (0 : Int)), Nat.ble ((0 : Nat) + m) m, allW m fun q ↦ row9 f ((0 : Nat) + q), decide (m ≤ (274877906944 : Nat))] (bif !dk (itW fun q ↦ row9 f ((0 : Nat) + q)) (IntKind.wrap IntKind.i64 ((↑i : Int) * IntKind.wrap IntKind.i64 (Int.tdiv (24 : Int) (↑n : Int)))) m then Res.out Ex.ret [AV.v (Value.slice none (0 : Nat) (0 : Nat)), AV.v (Value.bool false)] [AB.row false m (9 : Nat) (row9 f) (46 : TypeId)] else needs [Nat.ble i i, Nat.ble (i + (1 : Nat)) (549755813888 : Nat)] (Res.out Ex.normal [AV.sl (0 : Nat) (9 : Nat) (0 : Nat) (0 : Nat) m none, AV.v (Value.int IntKind.i64 (↑n : Int)), AV.own (1 : Nat) (i + (1 : Nat)), AV.v (Value.int IntKind.i64 (↑n : Int)), AV.v (Value.int IntKind.i64 (IntKind.wrap IntKind.i64 ((↑i : Int) + (1 : Int))))] [AB.row false m (9 : Nat) (row9 f) (46 : TypeId), AB.row true (i + (1 : Nat)) (8 : Nat) (fun q ↦ [Value.int IntKind.i64 (bif Nat.blt q i then h q (0 : Nat) else dv (itW fun q ↦ row9 f ((0 : Nat) + q)) (IntKind.wrap IntKind.i64 ((↑i : Int) * IntKind.wrap IntKind.i64 (Int.tdiv (24 : Int) (↑n : Int)))) m (0 : Nat)), Value.int IntKind.i64 (bif Nat.blt q i then h q (1 : Nat) else dv (itW fun q ↦ row9 f ((0 : Nat) + q)) (IntKind.wrap IntKind.i64 ((↑i : Int) * IntKind.wrap IntKind.i64 (Int.tdiv (24 : Int) (↑n : Int)))) m (1 : Nat)), Value.int IntKind.i64 (bif Nat.blt q i then h q (2 : Nat) else dv (itW fun q ↦ row9 f ((0 : Nat) + q)) (IntKind.wrap IntKind.i64 ((↑i : Int) * IntKind.wrap IntKind.i64 (Int.tdiv (24 : Int) (↑n : Int)))) m (2 : Nat)), Value.int IntKind.i64 (bif Nat.blt q i then h q (3 : Nat) else dv (itW fun q ↦ row9 f ((0 : Nat) + q)) (IntKind.wrap IntKind.i64 ((↑i : Int) * IntKind.wrap IntKind.i64 (Int.tdiv (24 : Int) (↑n : Int)))) m (3 : Nat)), Value.int IntKind.i64 (bif Nat.blt q i then h q (4 : Nat) else dv (itW fun q ↦ row9 f ((0 : Nat) + q)) (IntKind.wrap IntKind.i64 ((↑i : Int) * IntKind.wrap IntKind.i64 (Int.tdiv (24 : Int) (↑n : Int)))) m (4 : Nat)), Value.int IntKind.i64 (bif Nat.blt q i then h q (5 : Nat) else dv (itW fun q ↦ row9 f ((0 : Nat) + q)) (IntKind.wrap IntKind.i64 ((↑i : Int) * IntKind.wrap IntKind.i64 (Int.tdiv (24 : Int) (↑n : Int)))) m (5 : Nat)), Value.int IntKind.i64 (bif Nat.blt q i then h q (6 : Nat) else dv (itW fun q ↦ row9 f ((0 : Nat) + q)) (IntKind.wrap IntKind.i64 ((↑i : Int) * IntKind.wrap IntKind.i64 (Int.tdiv (24 : Int) (↑n : Int)))) m (6 : Nat)), Value.int IntKind.i64 (bif Nat.blt q i then h q (7 : Nat) else dv (itW fun q ↦ row9 f ((0 : Nat) + q)) (IntKind.wrap IntKind.i64 ((↑i : Int) * IntKind.wrap IntKind.i64 (Int.tdiv (24 : Int) (↑n : Int)))) m (7 : Nat))]) (31 : Nat)])) else Res.out (Ex.exit (0 : Nat)) [AV.own (1 : Nat) i] [AB.row false m (9 : Nat) (row9 f) (46 : TypeId), AB.row true i (8 : Nat) (row8 h) (31 : TypeId)] := by kernel_rfl

noncomputable abbrev lamRI (m : Nat) (f : Nat → Nat → Int) (n : Nat) (c : Bool) (h : Nat → Nat → Int) : Nat → Option Sum := oneL 0 (atS 41 (lvRI .normal) 1 (stRI m n 0) (hpRO m f 0 fun _ _ => 0) (fun K => cond c (K .normal (mkT 0 41 [(6, .own 1 n)]) (hpRO m f n h)) (K .ret (mkT 0 41 [(4, .v (.slice none 0 0)), (5, .v (.bool false))]) (hpR1 m f))))
theorem treeRI (okd : List Wh → Bool) (m : Nat) (f : Nat → Nat → Int) (x : Int) (n : Nat) (c : Bool) (h : Nat → Nat → Int) : execF Try.prog (gmRV okd) (lamRI m f n c h) 100 fRI [.sl 0 9 0 0 m none, .v (i64 x)] (hpR1 m f) (packK 1)
    = bif decide (x ≥ (1 : Int)) then needs [!decide (x = (0 : Int))] (bif !Int.tmod (24 : Int) x == (0 : Int) then Res.out Ex.ret [AV.tup [AV.v (Value.slice none (0 : Nat) (0 : Nat)), AV.v (Value.bool false)]] [AB.row false m (9 : Nat) (row9 f) (46 : TypeId)] else needs [Nat.ble ((0 : Nat) + m) m, allW m fun q ↦ row9 f ((0 : Nat) + q), decide (m ≤ (549755813888 : Nat))] (bif !okd (listW (itW fun q ↦ row9 f ((0 : Nat) + q)) m) then Res.out Ex.ret [AV.tup [AV.v (Value.slice none (0 : Nat) (0 : Nat)), AV.v (Value.bool false)]] [AB.row false m (9 : Nat) (row9 f) (46 : TypeId)] else needs [decide ((0 : Int) ≤ x), decide (x ≤ (1099511627776 : Int)), chk ([AV.sl (0 : Nat) (9 : Nat) (0 : Nat) (0 : Nat) m none, AV.v (Value.int IntKind.i64 x), AV.own (1 : Nat) (0 : Nat), AV.v (Value.int IntKind.i64 x), AV.v (Value.int IntKind.i64 (0 : Int))] = stRI m n (0 : Nat) ∧ Hsim [AB.row false m (9 : Nat) (row9 f) (46 : TypeId), AB.row true (0 : Nat) (8 : Nat) (fun _ ↦ [Value.int IntKind.i64 (0 : Int), Value.int IntKind.i64 (0 : Int), Value.int IntKind.i64 (0 : Int), Value.int IntKind.i64 (0 : Int), Value.int IntKind.i64 (0 : Int), Value.int IntKind.i64 (0 : Int), Value.int IntKind.i64 (0 : Int), Value.int IntKind.i64 (0 : Int)]) (31 : Nat)] (hpRO m f (0 : Nat) fun x x_1 ↦ (0 : Int)))] (bif c then Res.out Ex.ret [AV.tup [AV.own (1 : Nat) n, AV.v (Value.bool true)]] [AB.row false m (9 : Nat) (row9 f) (46 : TypeId), AB.row true n (8 : Nat) (row8 h) (31 : TypeId)] else Res.out Ex.ret [AV.tup [AV.v (Value.slice none (0 : Nat) (0 : Nat)), AV.v (Value.bool false)]] [AB.row false m (9 : Nat) (row9 f) (46 : TypeId)]))) else Res.out Ex.ret [AV.tup [AV.v (Value.slice none (0 : Nat) (0 : Nat)), AV.v (Value.bool false)]] [AB.row false m (9 : Nat) (row9 f) (46 : TypeId)] := by kernel_rfl

abbrev lvRS : Ex → List Nat := lv3 [0, 1, 6, 7] [6] [4, 5]
abbrev stRS (m n i : Nat) : List AV := [.sl 0 9 0 0 m none, .v (i64 n), .own 1 i, .v (i64 i)]
noncomputable abbrev lamRS (m : Nat) (f : Nat → Nat → Int) (n : Nat) (c : Bool) (h : Nat → Nat → Int) : Nat → Option Sum := oneL 0 (atS 42 (lvRS .normal) 1 (stRS m n 0) (hpRO m f 0 fun _ _ => 0) (fun K => cond c (K .normal (mkT 0 42 [(6, .own 1 n)]) (hpRO m f n h)) (K .ret (mkT 0 42 [(4, .own 1 0), (5, .v (.bool false))]) (hpRO m f 0 fun _ _ => 0))))
end Go.Proofs.Ytmdcafhnjihckaa

/- RowOf of both: its word. Conditions: a list of wheels, a number. -/
namespace Go.Proofs.Ytmdcafhnjihckaa
open Go.RowKit
set_option maxRecDepth 100000

/-- The points in turn. -/
def roF (f : Nat → Nat → Int) (m : Nat) (x : Int) : Nat → Nat → Int := fun j => daV f ((j : Int) * Int.tdiv 24 x) m
def rwB (f : Nat → Nat → Int) (m : Nat) (x : Int) (j : Nat) : Bool := !daOk f ((j : Int) * Int.tdiv 24 x) m
def roV (x : Int) : Bool := decide (x ≥ 1) && (decide (x ≤ 24) && (Int.tmod 24 x == 0))
def roK (f : Nat → Nat → Int) (m : Nat) (x : Int) : Bool := roV x && (okD (listW f m) && noneTo (rwB f m x) x.toNat)
def roT (f : Nat → Nat → Int) (m : Nat) (x : Int) : List Cy := bif roK f m x then listC (roF f m x) x.toNat else []
theorem roV_in {x : Int} (h : roV x = true) : 1 ≤ x ∧ x ≤ 24 := by
  rw [roV, Bool.and_eq_true, Bool.and_eq_true, decide_eq_true_eq, decide_eq_true_eq] at h
  exact ⟨h.1, h.2.1⟩
theorem tdiv24 {n : Nat} (h0 : 1 ≤ n) (h1 : n ≤ 24) : 0 ≤ Int.tdiv 24 (n : Int) ∧ Int.tdiv 24 (n : Int) ≤ 24 := by
  rw [Int.tdiv_eq_ediv_of_nonneg (by omega)]
  exact ⟨Int.ediv_nonneg (by omega) (by omega), Int.ediv_le_self _ (by omega)⟩
theorem ro_mul {i n : Nat} (hi : i < n) (hn : n ≤ 24) : IntKind.wrap IntKind.i64 ((i : Int) * IntKind.wrap IntKind.i64 (Int.tdiv 24 (n : Int))) = (i : Int) * Int.tdiv 24 (n : Int) := by
  have h := tdiv24 (n := n) (by omega) hn
  have hm := mul_bd (x := (i : Int)) (y := Int.tdiv 24 (n : Int)) (A := 24) (B := 24) (by omega) (by omega) (by omega) h.2
  rw [wr_in (x := Int.tdiv 24 (n : Int)) (by omega), wr_in (by omega)]
theorem gmRO_ok : GamOk Try.prog (gmRO daV daOk) := by
  refine ext_ok (ext_ok g0_ok ok_DAI) ?_
  rw [FDAo_eq]
  exact ok_DA
theorem gmRV_ok : GamOk Try.prog (gmRV okD) := by
  unfold gmRV
  rw [FdvO_eq]
  exact ext_ok (ext_ok gm_l6In_ok ok_dvI) ok_dv
theorem ro_row (f : Nat → Nat → Int) (m n i : Nat) (o : Nat → Nat → Int) (ho : ∀ j, j < i → o j = roF f m n j) (j : Nat) (hj : j < i + 1) : [i64 (bif Nat.blt j i then o j 0 else daV f ((i : Int) * Int.tdiv 24 (n : Int)) m 0), i64 (bif Nat.blt j i then o j 1 else daV f ((i : Int) * Int.tdiv 24 (n : Int)) m 1), i64 (bif Nat.blt j i then o j 2 else daV f ((i : Int) * Int.tdiv 24 (n : Int)) m 2), i64 (bif Nat.blt j i then o j 3 else daV f ((i : Int) * Int.tdiv 24 (n : Int)) m 3), i64 (bif Nat.blt j i then o j 4 else daV f ((i : Int) * Int.tdiv 24 (n : Int)) m 4), i64 (bif Nat.blt j i then o j 5 else daV f ((i : Int) * Int.tdiv 24 (n : Int)) m 5), i64 (bif Nat.blt j i then o j 6 else daV f ((i : Int) * Int.tdiv 24 (n : Int)) m 6), i64 (bif Nat.blt j i then o j 7 else daV f ((i : Int) * Int.tdiv 24 (n : Int)) m 7)] = row8 (roF f m n) j := by
  by_cases h : j < i
  · rw [blt_yes h]
    simp only [cond_true, ho j h]
  · have : j = i := by omega
    subst this
    rw [blt_no]
    rfl
theorem sumRI (m : Nat) (f : Nat → Nat → Int) (n : Nat) (hm : m ≤ 2 ^ 38) (hn : n ≤ 24) :
    SumOk Try.prog 1 (.block 0 (.loop (loopAt 0 fRI))) (atS 41 (lvRI .normal) 1 (stRI m n 0) (hpRO m f 0 fun _ _ => 0) (fun K => cond (noneTo (rwB f m n) n) (K .normal (mkT 0 41 [(6, .own 1 n)]) (hpRO m f n (roF f m n))) (K .ret (mkT 0 41 [(4, .v (.slice none 0 0)), (5, .v (.bool false))]) (hpR1 m f)))) := by
  refine for_at gmRO_ok (n := 100) (m := 1) (lv := lvRI) (fun i => stRI m n i) (fun i => hpRO m f i (bif Nat.beq i 0 then (fun _ _ => 0) else roF f m n)) (fun i => noneTo (rwB f m n) i = true) n (fun _ => noLam) (lv3_ris rfl rfl rfl) (Nat.le_refl _) rfl fun K Q hk i hno hi => ⟨noLam_ok _ _ _, ?_⟩
  have ho : ∀ j, j < i → (bif Nat.beq i 0 then (fun _ _ => (0 : Int)) else roF f m n) j = roF f m n j := by
    intro j hj
    cases i with
    | zero => exact absurd hj (Nat.not_lt_zero _)
    | succ i => rfl
  rw [rndRI]
  simp only [row0, daOk_row, daV_row]
  refine good_cond (fun c1 => ?_) fun c1 => ?_
  · have c1 := of_decide_eq_true c1
    have c1' : i < n := by omega
    rw [ro_mul c1' hn, wr_in (x := (i : Int) + 1) (by omega)]
    refine good_needs (by simp only [ob_cons, ob_nil, and_true, Bool.not_eq_true', decide_eq_false_iff_not, decide_eq_true_eq, Nat.ble_eq, allW_row, true_and]; omega) (good_cond (fun q => ?_) fun q => good_needs (by simp only [ob_cons, ob_nil, and_true, decide_eq_true_eq, Nat.ble_eq]; omega) (good_out ⟨i + 1, ⟨rfl, c1', noneTo_succ hno q⟩, rfl, .cons (ABeq.refl _) (.cons (ABeq.row fun j hj => ?_) .nil)⟩))
    · refine good_out ⟨_, Hsim.refl _, ?_⟩
      rw [noneTo_no c1' q] at hk
      exact hk
    · exact ro_row f m n i _ ho j hj
  · have c1 := of_decide_eq_false c1
    have : i = n := by omega
    subst this
    refine good_out ⟨hpRO m f i (roF f m i), .cons (ABeq.refl _) (.cons (ABeq.row fun j hj => row8_congr fun k _ => by rw [ho j hj]) .nil), ?_⟩
    rw [if_pos rfl]
    rw [hno] at hk
    exact hk
def FroY : List SA → Option FR
  | [.row m g, .v (.int .i64 x)] => some { val := valG (roT (itW g) m x), new := newG (roT (itW g) m x), obl := [allW m g, decide (m ≤ 2 ^ 38), roK (itW g) m x] }
  | _ => none
def FroN : List SA → Option FR
  | [.row m g, .v (.int .i64 x)] => some { val := valN, obl := [allW m g, decide (m ≤ 2 ^ 38), !roK (itW g) m x] }
  | _ => none
def UroO (rk : (Nat → Nat → Int) → Nat → Int → Bool) (rt : (Nat → Nat → Int) → Nat → Int → List Cy) : List SA → Option PtR
  | [.row m g, .v (.int .i64 x)] => some ⟨rk (itW g) m x, rt (itW g) m x, [allW m g, decide (m ≤ 2 ^ 38)]⟩
  | _ => none
def FroS (rk : (Nat → Nat → Int) → Nat → Int → Bool) (rt : (Nat → Nat → Int) → Nat → Int → List Cy) : List SA → Option FR
  | [.row m g, .v (.int .i64 x)] => some { val := .tup [.own 0 (rt (itW g) m x).length, .v (.bool (rk (itW g) m x))], new := newG (rt (itW g) m x), obl := [allW m g, decide (m ≤ 2 ^ 38)] }
  | _ => none
theorem roK_parts {f : Nat → Nat → Int} {m : Nat} {x : Int} (h : roK f m x = true) : roV x = true ∧ okD (listW f m) = true ∧ noneTo (rwB f m x) x.toNat = true := by
  rw [roK, Bool.and_eq_true, Bool.and_eq_true] at h
  exact ⟨h.1, h.2.1, h.2.2⟩
theorem roV_parts {x : Int} (h : roV x = true) : decide (x ≥ 1) = true ∧ decide (x ≤ 24) = true ∧ (Int.tmod 24 x == 0) = true := by
  rw [roV, Bool.and_eq_true, Bool.and_eq_true] at h
  exact ⟨h.1, h.2.1, h.2.2⟩
theorem roT_yes {f : Nat → Nat → Int} {m : Nat} {x : Int} (h : roK f m x = true) : roT f m x = listC (roF f m x) x.toNat := by rw [roT, h]; rfl
theorem roT_no {f : Nat → Nat → Int} {m : Nat} {x : Int} (h : roK f m x = false) : roT f m x = [] := by rw [roT, h]; rfl
theorem roT_len (f : Nat → Nat → Int) (m : Nat) (x : Int) : (roT f m x).length ≤ 24 := by
  cases h : roK f m x with
  | true =>
    have := roV_in (roK_parts h).1
    rw [roT_yes h, listC_length]
    omega
  | false => rw [roT_no h]; exact Nat.zero_le _
theorem rs_le {x : Int} (h0 : x ≥ 1) (h : Int.tmod 24 x = 0) : x ≤ 24 := by
  by_cases hx : x ≤ 24
  · exact hx
  · exfalso
    rw [Int.tmod_eq_emod_of_nonneg (by omega), Int.emod_eq_of_lt (by omega) (by omega)] at h
    omega
theorem roI_run {m : Nat} {f : Nat → Nat → Int} {x : Int} {Q : Ex → List AV → List AB → Prop} (n : Nat) (hn : n ≤ 24) (hx : roV x = true → x = n) (hm : m ≤ 2 ^ 38)
    (yes : roK f m x = true → GoodQ (.out .ret [.tup [.own 1 n, .v (.bool true)]] (hpRO m f n (roF f m n))) Q) (no : roK f m x = false → GoodQ (.out .ret [.tup [.v (.slice none 0 0), .v (.bool false)]] (hpR1 m f)) Q) :
    GoodQ (execF Try.prog (gmRV okD) (lamRI m f n (noneTo (rwB f m n) n) (roF f m n)) 100 fRI [.sl 0 9 0 0 m none, .v (i64 x)] (hpR1 m f) (packK 1)) Q := by
  rw [treeRI]
  simp only [row0, listW_itW]
  refine good_cond (fun c1 => ?_) fun c1 => no (by rw [roK, roV, c1]; rfl)
  have c1' := of_decide_eq_true c1
  refine good_needs (by simp only [ob_cons, ob_nil, and_true, Bool.not_eq_true', decide_eq_false_iff_not]; omega) (good_cond (fun c2 => no ?_) fun c2 => ?_)
  · have c2 : (Int.tmod 24 x == 0) = false := by simpa using c2
    rw [roK, roV, c2, Bool.and_false, Bool.and_false]
    rfl
  · have c2 : (Int.tmod 24 x == 0) = true := by simpa using c2
    have hv : roV x = true := by rw [roV, c1, c2, decide_eq_true (rs_le c1' (beq_iff_eq.1 c2))]; rfl
    have e := hx hv
    subst e
    refine good_needs (by simp only [ob_cons, ob_nil, and_true, decide_eq_true_eq, Nat.ble_eq, allW_row, true_and]; omega) (good_cond (fun c3 => no ?_) fun c3 => good_needs ?_ (good_cond (fun c4 => yes ?_) fun c4 => no ?_))
    · have c3 : okD (listW f m) = false := by simpa using c3
      rw [roK, c3, hv]
      rfl
    · simp only [ob_cons, ob_nil, and_true, decide_eq_true_eq]
      exact ⟨by omega, by omega, chk_of ⟨rfl, .cons (ABeq.refl _) (.cons (ABeq.row fun j hj => absurd hj (Nat.not_lt_zero _)) .nil)⟩⟩
    · have c3 : okD (listW f m) = true := by simpa using c3
      rw [roK, c3, hv, Int.toNat_natCast, c4]
      rfl
    · have c3 : okD (listW f m) = true := by simpa using c3
      rw [roK, c3, hv, Int.toNat_natCast, c4]
      rfl
theorem ro_fin {m : Nat} {g : Nat → List Value} {x : Int} {n : Nat} (h1 : allW m g = true) (hk : roK (itW g) m x = true) (hx : x = n) : Hsim (hpRO m (itW g) n (roF (itW g) m n)) ([.row false m 9 g 46] ++ newG (roT (itW g) m x)) ∧ (roT (itW g) m x).length = n := by
  subst hx
  have e := roT_yes hk
  rw [Int.toNat_natCast] at e
  have hl : (roT (itW g) m n).length = n := by rw [e, listC_length]
  refine ⟨.cons (ABeq.row fun j hj => (allW_get h1 j hj).symm) ?_, hl⟩
  show Hsim _ [.row true (roT (itW g) m n).length 8 (row8 (cfun (roT (itW g) m n))) 31]
  rw [hl, e]
  exact .cons (ABeq.row fun j hj => (row8_list _ hj).symm) .nil
theorem ok_roY : SpecOk Try.prog 31 (specR md_wv FroY) := by
  refine specR_hr gmRV_ok Try.func31 rfl fun sas fr hF ho => ?_
  unfold FroY at hF
  split at hF
  · rename_i m g x
    cases hF
    simp only [ob_cons] at ho
    obtain ⟨h1, h2, h3, _⟩ := ho
    have hm := of_decide_eq_true h2
    have hv := roV_in (roK_parts h3).1
    obtain ⟨n, hn⟩ : ∃ n : Nat, x = n := ⟨x.toNat, by omega⟩
    refine ⟨hpR1 m (itW g), lamRI m (itW g) n (noneTo (rwB (itW g) m n) n) (roF (itW g) m n), 100, .cons (ABeq.row fun j hj => allW_get h1 j hj) .nil, lam1 (by kernel_rfl) (sumRI m (itW g) n hm (by omega)), ?_⟩
    refine roI_run n (by omega) (fun _ => hn) hm (fun hk => ?_) fun hk => by rw [h3] at hk; cases hk
    obtain ⟨e1, e2⟩ := ro_fin h1 hk hn
    exact good_out ⟨_, rfl, by rw [e2]; rfl, e1⟩
  · cases hF
theorem ok_roN : SpecOk Try.prog 31 (specR md_wv FroN) := by
  refine specR_hr gmRV_ok Try.func31 rfl fun sas fr hF ho => ?_
  unfold FroN at hF
  split at hF
  · rename_i m g x
    cases hF
    simp only [ob_cons] at ho
    obtain ⟨h1, h2, h3, _⟩ := ho
    have hm := of_decide_eq_true h2
    have h3 : roK (itW g) m x = false := by simpa using h3
    obtain ⟨n, hn, hn2⟩ : ∃ n : Nat, n ≤ 24 ∧ (roV x = true → x = n) := by
      cases hv : roV x with
      | true => have := roV_in hv; exact ⟨x.toNat, by omega, fun _ => by omega⟩
      | false => exact ⟨0, by omega, fun h => by cases h⟩
    refine ⟨hpR1 m (itW g), lamRI m (itW g) n (noneTo (rwB (itW g) m n) n) (roF (itW g) m n), 100, .cons (ABeq.row fun j hj => allW_get h1 j hj) .nil, lam1 (by kernel_rfl) (sumRI m (itW g) n hm hn), ?_⟩
    refine roI_run n hn hn2 hm (fun hk => by rw [h3] at hk; cases hk) fun _ => ?_
    exact good_out ⟨_, rfl, rfl, .cons (ABeq.row fun j hj => (allW_get h1 j hj).symm) .nil⟩
  · cases hF
theorem ok_Uro : SpecOk Try.prog 31 (specG md_wv (UroO roK roT)) := by
  refine specG_ok rfl ok_roY ok_roN fun sas u hu ho => ?_
  unfold UroO at hu
  split at hu
  · rename_i m g x
    cases hu
    simp only [ob_cons] at ho
    obtain ⟨h1, h2, _⟩ := ho
    refine ⟨rfl, ?_⟩
    cases hv : roK (itW g) m x with
    | true =>
      left
      refine ⟨rfl, [allW m g, decide (m ≤ 2 ^ 38), roK (itW g) m x], rfl, ?_⟩
      simp only [ob_cons, ob_nil, and_true]
      exact ⟨h1, h2, hv⟩
    | false =>
      right
      refine ⟨rfl, roT_no hv, [allW m g, decide (m ≤ 2 ^ 38), !roK (itW g) m x], rfl, ?_⟩
      simp only [ob_cons, ob_nil, and_true]
      exact ⟨h1, h2, by rw [hv]; rfl⟩
  · cases hu
end Go.Proofs.Ytmdcafhnjihckaa

/- The program's RowShift, of a valid row. Conditions: a valid row, a number. -/
namespace Go.Proofs.Ytmdcafhnjihckaa
open Go.RowKit
set_option maxRecDepth 100000

noncomputable abbrev fIC : Func := Try.f175
abbrev fnIy : AV := .v (.func (.func 160) ⟨[]⟩ ⟨[]⟩)
abbrev lvIy : Ex → List Nat := lv3 [0, 1, 7, 8] [] [4]
abbrev hpIy (m : Nat) (f : Nat → Nat → Int) : List AB := [.row false m 8 (row8 f) 31]
def gmIy (ok : (Nat → Int) → Bool) : Gam := ext g0 66 (specV (fOkc ok))
theorem rndIy (ok : (Nat → Int) → Bool) (m : Nat) (f : Nat → Nat → Int) (i : Nat) : execC Try.prog (gmIy ok) 100 noLam (loopAt 0 fIC) (mkT 0 19 ((lvIy .normal).zip [.sl 0 8 0 0 m none, fnIy, .v (i64 m), .v (i64 i)])) (hpIy m f) (leafV 19 lvIy 1)
    = bif decide ((↑i : Int) < (↑m : Int)) then needs [decide ((↑i : Int) < (↑m : Int)), decide ((0 : Nat) + Int.toNat (↑i : Int) < m)] (bif !ok (w8 (f ((0 : Nat) + Int.toNat (↑i : Int)))) then Res.out Ex.ret [AV.v (Value.int IntKind.i64 (↑i : Int))] [AB.row false m (8 : Nat) (row8 f) (31 : TypeId)] else Res.out Ex.normal [AV.sl (0 : Nat) (8 : Nat) (0 : Nat) (0 : Nat) m none, AV.v (Value.func (Fn.func (160 : FuncId)) (Array.mk []) (Array.mk [])), AV.v (Value.int IntKind.i64 (↑m : Int)), AV.v (Value.int IntKind.i64 (IntKind.wrap IntKind.i64 ((↑i : Int) + (1 : Int))))] [AB.row false m (8 : Nat) (row8 f) (31 : TypeId)]) else Res.out (Ex.exit (0 : Nat)) [] [AB.row false m (8 : Nat) (row8 f) (31 : TypeId)] := by kernel_rfl

noncomputable abbrev lamIy (m : Nat) (f : Nat → Nat → Int) : Nat → Option Sum := oneL 0 (atS 19 (lvIy .normal) 1 [.sl 0 8 0 0 m none, fnIy, .v (i64 m), .v (i64 (0 : Nat))] (hpIy m f) (fun K => K .normal (mkT 0 19 []) (hpIy m f)))
theorem treeIy (m : Nat) (f : Nat → Nat → Int) : execF Try.prog g0 (lamIy m f) 100 fIC [.sl 0 8 0 0 m none, fnIy] (hpIy m f) (packK 1)
    = needs [chk ([AV.sl (0 : Nat) (8 : Nat) (0 : Nat) (0 : Nat) m none, AV.v (Value.func (Fn.func (160 : FuncId)) (Array.mk []) (Array.mk [])), AV.v (Value.int IntKind.i64 (↑m : Int)), AV.v (Value.int IntKind.i64 (0 : Int))] = [AV.sl (0 : Nat) (8 : Nat) (0 : Nat) (0 : Nat) m none, fnIy, AV.v (Value.int IntKind.i64 (↑m : Int)), AV.v (Value.int IntKind.i64 (0 : Int))] ∧ Hsim [AB.row false m (8 : Nat) (row8 f) (31 : TypeId)] (hpIy m f))] (Res.out Ex.ret [AV.v (Value.int IntKind.i64 (-1 : Int))] [AB.row false m (8 : Nat) (row8 f) (31 : TypeId)]) := by kernel_rfl

/-- Where all points are valid, none is found. -/
def FidY (ok : (Nat → Int) → Bool) : List SA → Option FR
  | [.row m g, .v (.func (.func f) ⟨[]⟩ ⟨[]⟩)] => some { val := .v (i64 (-1)), obl := [Nat.beq f 160, all8 m g, decide (m ≤ 2 ^ 38), (List.range m).all fun j => ok (it8 g j)] }
  | _ => none
def md_ic : List Md := [.rd 8 31, .val]
abbrev lvRh : Ex → List Nat := lv3 [0, 1, 6, 20, 21] [6] [4, 5]
abbrev stRh (m : Nat) (x : Int) (i : Nat) : List AV := [.sl 0 8 0 0 m none, .v (i64 x), .own 1 i, .v (i64 m), .v (i64 i)]
abbrev hpRh (m : Nat) (f : Nat → Nat → Int) (i : Nat) (h : Nat → Nat → Int) : List AB := [.row false m 8 (row8 f) 31, .row true i 8 (row8 h) 31]
noncomputable abbrev lamRh (m : Nat) (f : Nat → Nat → Int) (x : Int) (h : Nat → Nat → Int) : Nat → Option Sum := oneL 0 (atS 38 (lvRh .normal) 1 (stRh m x 0) (hpRh m f 0 fun _ _ => 0) (fun K => K .normal (mkT 0 38 [(6, .own 1 m)]) (hpRh m f m h)))
def gmRh (ok : (Nat → Int) → Bool) : Gam := ext gm_within 175 (specR md_ic (FidY ok))
end Go.Proofs.Ytmdcafhnjihckaa

/- The program's RowShift, of a valid row: its word. Conditions: a valid row, a number. -/
namespace Go.Proofs.Ytmdcafhnjihckaa
open Go.RowKit
set_option maxRecDepth 100000

def cvB (f : Nat → Nat → Int) (m : Nat) : Bool := (List.range m).all fun j => cyOk (cyOf (f j))
theorem cvB_at {f : Nat → Nat → Int} {m i : Nat} (h : cvB f m = true) (hi : i < m) : cyOk (cyOf (f i)) = true := List.all_eq_true.1 h i (by simpa using hi)
theorem gmIy_ok : GamOk Try.prog (gmIy (fun v => cyOk (cyOf v))) := by
  unfold gmIy
  rw [fOkc_eq]
  exact ext_ok g0_ok ok_cvI
theorem sumIy (m : Nat) (f : Nat → Nat → Int) (hm : m ≤ 2 ^ 40) (hv : cvB f m = true) :
    SumOk Try.prog 1 (.block 0 (.loop (loopAt 0 fIC))) (atS 19 (lvIy .normal) 1 [.sl 0 8 0 0 m none, fnIy, .v (i64 m), .v (i64 (0 : Nat))] (hpIy m f) (fun K => K .normal (mkT 0 19 []) (hpIy m f))) := by
  refine for_at gmIy_ok (n := 100) (m := 1) (lv := lvIy) (fun i => [.sl 0 8 0 0 m none, fnIy, .v (i64 m), .v (i64 (i : Nat))]) (fun _ => hpIy m f) (fun _ => True) m (fun _ => noLam) (lv3_ris rfl rfl rfl) (Nat.le_refl _) trivial fun K Q hk i _ hi => ⟨noLam_ok _ _ _, ?_⟩
  rw [rndIy]
  refine good_cond (fun c1 => ?_) fun c1 => ?_
  · have c1 := of_decide_eq_true c1
    have c1' : i < m := by omega
    rw [show 0 + Int.toNat (i : Int) = i by omega, wr_in (x := (i : Int) + 1) (by omega)]
    refine good_needs (by simp only [ob_cons, ob_nil, and_true, decide_eq_true_eq]; omega) (good_false ?_ (good_out ⟨i + 1, ⟨rfl, c1', trivial⟩, rfl, Hsim.refl _⟩))
    have := cvB_at hv c1'
    show (!cyOk (cyOf (f i))) = false
    rw [this]
    rfl
  · have c1 := of_decide_eq_false c1
    have : i = m := by omega
    subst this
    refine good_out ⟨_, Hsim.refl _, ?_⟩
    rw [if_pos rfl]
    exact hk
theorem ok_idY : SpecOk Try.prog 175 (specR md_ic (FidY fun v => cyOk (cyOf v))) := by
  refine specR_hr g0_ok Try.func175 rfl fun sas fr hF ho => ?_
  unfold FidY at hF
  split at hF
  · rename_i m g fi
    cases hF
    simp only [ob_cons] at ho
    obtain ⟨h0, h1, h2, h3, _⟩ := ho
    have h0 := Nat.eq_of_beq_eq_true h0
    subst h0
    have hm := of_decide_eq_true h2
    refine ⟨hpIy m (it8 g), lamIy m (it8 g), 100, .cons (ABeq.row fun j hj => all8_get h1 j hj) .nil, lam1 (by kernel_rfl) (sumIy m (it8 g) (by omega) h3), ?_⟩
    show GoodQ (execF Try.prog g0 (lamIy m (it8 g)) 100 fIC [.sl 0 8 0 0 m none, fnIy] (hpIy m (it8 g)) (packK 1)) _
    rw [treeIy]
    exact good_needs (by rw [ob_cons]; exact ⟨chk_of ⟨rfl, Hsim.refl _⟩, rfl⟩) (good_out ⟨_, rfl, rfl, .cons (ABeq.row fun j hj => (all8_get h1 j hj).symm) .nil⟩)
  · cases hF
/-- The row that begins further on. -/
def rhF (f : Nat → Nat → Int) (m : Nat) (x : Int) : Nat → Nat → Int := fun j => f (Int.tmod ((j : Int) + x) m).toNat
/-- A valid row, shifted. -/
def FrhY (rv : (Nat → Nat → Int) → Nat → Bool) (rh : (Nat → Nat → Int) → Nat → Int → Nat → Nat → Int) : List SA → Option FR
  | [.row m g, .v (.int .i64 x)] => some { val := .tup [.own 0 m, .v (.bool true)], new := [.row true m 8 (row8 (rh (it8 g) m x)) 31], obl := [all8 m g, rv (it8 g) m, inR x 0 23] }
  | _ => none
def rvB (f : Nat → Nat → Int) (m : Nat) : Bool := roV m && cvB f m
def md_cv : List Md := [.rd 8 31, .val]
theorem gmRh_ok : GamOk Try.prog (gmRh (fun v => cyOk (cyOf v))) := ext_ok gm_within_ok ok_idY
end Go.Proofs.Ytmdcafhnjihckaa

/- The program's transform: what is turned, what is added. Conditions: a row of points, numbers. -/
namespace Go.Proofs.Ytmdcafhnjihckaa
open Go.RowKit
set_option maxRecDepth 100000

noncomputable abbrev fT1 : Func := Try.f162
abbrev hpT (m : Nat) (f : Nat → Nat → Int) (d j n : Int) : List AB := [.cells [.sl 4 8 0 0 m none] 48, .cells [.v (i64 d)] 3, .cells [.v (i64 j)] 3, .cells [.v (i64 n)] 3, .row false m 8 (row8 f) 31]
def gmTf1 (tu : (Nat → Int) → Int → Nat → Int) : Gam := ext g0 72 (specR [.val, .val] (FtuI tu))
theorem treeT1 (tu : (Nat → Int) → Int → Nat → Int) (m : Nat) (f : Nat → Nat → Int) (d j n : Int) (k : Nat) : execF Try.prog (gmTf1 tu) noLam 100 fT1 [.v (i64 k), .ptr 0 0 0 0, .ptr 1 0 0 0, .ptr 2 0 0 0, .ptr 3 0 0 0] (hpT m f d j n) (packK 5)
    = needs [decide ((↑k : Int) < (↑m : Int)), decide ((0 : Nat) + Int.toNat (↑k : Int) < m), !decide (n = (0 : Int)), !decide (n = (0 : Int)), inB (w8 (f ((0 : Nat) + Int.toNat (↑k : Int)))), inR (IntKind.wrap IntKind.i64 (Int.tmod (IntKind.wrap IntKind.i64 (IntKind.wrap IntKind.i64 (d * j) * (↑k : Int))) n * IntKind.wrap IntKind.i64 (Int.tdiv (24 : Int) n))) (-9223372036854775808 : Int) (9223372036854775807 : Int)] (Res.out Ex.ret [AV.agg [AV.v (Value.int IntKind.i64 (tu (w8 (f ((0 : Nat) + Int.toNat (↑k : Int)))) (IntKind.wrap IntKind.i64 (Int.tmod (IntKind.wrap IntKind.i64 (IntKind.wrap IntKind.i64 (d * j) * (↑k : Int))) n * IntKind.wrap IntKind.i64 (Int.tdiv (24 : Int) n))) (0 : Nat))), AV.v (Value.int IntKind.i64 (tu (w8 (f ((0 : Nat) + Int.toNat (↑k : Int)))) (IntKind.wrap IntKind.i64 (Int.tmod (IntKind.wrap IntKind.i64 (IntKind.wrap IntKind.i64 (d * j) * (↑k : Int))) n * IntKind.wrap IntKind.i64 (Int.tdiv (24 : Int) n))) (1 : Nat))), AV.v (Value.int IntKind.i64 (tu (w8 (f ((0 : Nat) + Int.toNat (↑k : Int)))) (IntKind.wrap IntKind.i64 (Int.tmod (IntKind.wrap IntKind.i64 (IntKind.wrap IntKind.i64 (d * j) * (↑k : Int))) n * IntKind.wrap IntKind.i64 (Int.tdiv (24 : Int) n))) (2 : Nat))), AV.v (Value.int IntKind.i64 (tu (w8 (f ((0 : Nat) + Int.toNat (↑k : Int)))) (IntKind.wrap IntKind.i64 (Int.tmod (IntKind.wrap IntKind.i64 (IntKind.wrap IntKind.i64 (d * j) * (↑k : Int))) n * IntKind.wrap IntKind.i64 (Int.tdiv (24 : Int) n))) (3 : Nat))), AV.v (Value.int IntKind.i64 (tu (w8 (f ((0 : Nat) + Int.toNat (↑k : Int)))) (IntKind.wrap IntKind.i64 (Int.tmod (IntKind.wrap IntKind.i64 (IntKind.wrap IntKind.i64 (d * j) * (↑k : Int))) n * IntKind.wrap IntKind.i64 (Int.tdiv (24 : Int) n))) (4 : Nat))), AV.v (Value.int IntKind.i64 (tu (w8 (f ((0 : Nat) + Int.toNat (↑k : Int)))) (IntKind.wrap IntKind.i64 (Int.tmod (IntKind.wrap IntKind.i64 (IntKind.wrap IntKind.i64 (d * j) * (↑k : Int))) n * IntKind.wrap IntKind.i64 (Int.tdiv (24 : Int) n))) (5 : Nat))), AV.v (Value.int IntKind.i64 (tu (w8 (f ((0 : Nat) + Int.toNat (↑k : Int)))) (IntKind.wrap IntKind.i64 (Int.tmod (IntKind.wrap IntKind.i64 (IntKind.wrap IntKind.i64 (d * j) * (↑k : Int))) n * IntKind.wrap IntKind.i64 (Int.tdiv (24 : Int) n))) (6 : Nat))), AV.v (Value.int IntKind.i64 (tu (w8 (f ((0 : Nat) + Int.toNat (↑k : Int)))) (IntKind.wrap IntKind.i64 (Int.tmod (IntKind.wrap IntKind.i64 (IntKind.wrap IntKind.i64 (d * j) * (↑k : Int))) n * IntKind.wrap IntKind.i64 (Int.tdiv (24 : Int) n))) (7 : Nat)))]] [AB.cells [AV.sl (4 : Nat) (8 : Nat) (0 : Nat) (0 : Nat) m none] (48 : TypeId), AB.cells [AV.v (Value.int IntKind.i64 d)] (3 : TypeId), AB.cells [AV.v (Value.int IntKind.i64 j)] (3 : TypeId), AB.cells [AV.v (Value.int IntKind.i64 n)] (3 : TypeId), AB.row false m (8 : Nat) (row8 f) (31 : TypeId)]) := by kernel_rfl

end Go.Proofs.Ytmdcafhnjihckaa

/- A callee that leaves what it reads as it was: its word, by its view, without a way back for its memory. No conditions. -/
namespace Go.Proofs.Ytmdcafhnjihckaa
open Go.RowKit

mutual
/-- Its slices are not empty. -/
def posA : AV → Bool
  | .sl _ _ _ _ len _ => Nat.blt 0 len
  | .agg cs => posAs cs
  | .tup cs => posAs cs
  | .fn _ cs => posAs cs
  | _ => true
def posAs : List AV → Bool
  | [] => true
  | a :: al => posA a && posAs al
end
def posB : AB → Bool
  | .cells cs _ => posAs cs
  | _ => true
mutual
theorem VR.unren {keep : List Nat} {ν ν' : Nu} (h : ∀ j b, keepNu keep ν j = some b → ν' j = some b) : ∀ {a a' : AV} {x y : Value}, renA keep a = some a' → posA a = true → VR ν a x → VR ν' a' y → VR ν a y
  | .v _, a', _, _, hs, _, _, hv => by
    simp only [renA, Option.some.injEq] at hs
    subst hs
    simpa only [VR] using hv
  | .ptr .., a', _, _, hs, _, hx, hv => by
    simp only [renA, Option.map_eq_some_iff] at hs
    obtain ⟨q, hq, rfl⟩ := hs
    simp only [VR] at hx hv ⊢
    obtain ⟨b, h1, h2⟩ := hv
    obtain ⟨c, h3, _⟩ := hx
    have := h q c (by simp [keepNu, idxOf_get hq, h3])
    rw [h1, Option.some.injEq] at this
    subst this
    exact ⟨b, h3, h2⟩
  | .sl .., a', _, _, hs, hp, hx, hv => by
    simp only [renA, Option.map_eq_some_iff] at hs
    obtain ⟨q, hq, rfl⟩ := hs
    simp only [posA, Nat.blt_eq] at hp
    simp only [VR] at hx hv ⊢
    obtain ⟨p, c, h1, h2, h3, h4⟩ := hv
    obtain ⟨_, c0, _, _, g3, g4⟩ := hx
    refine ⟨p, c, h1, h2, h3, fun hc => ?_⟩
    obtain ⟨b, h5, h6⟩ := h4 hc
    obtain ⟨b0, g5, _⟩ := g4 (by omega)
    have := h q b0 (by simp [keepNu, idxOf_get hq, g5])
    rw [h5, Option.some.injEq] at this
    subst this
    exact ⟨b, g5, h6⟩
  | .own .., a', _, _, hs, _, hx, hv => by
    simp only [renA, Option.map_eq_some_iff] at hs
    obtain ⟨q, hq, rfl⟩ := hs
    simp only [VR] at hx hv ⊢
    obtain ⟨b, h1, h2⟩ := hv
    obtain ⟨c, h3, _⟩ := hx
    have := h q c (by simp [keepNu, idxOf_get hq, h3])
    rw [h1, Option.some.injEq] at this
    subst this
    exact ⟨b, h3, h2⟩
  | .agg _, a', _, _, hs, hp, hx, hv => by
    simp only [renA, Option.map_eq_some_iff] at hs
    obtain ⟨q, hq, rfl⟩ := hs
    simp only [posA] at hp
    simp only [VR] at hx hv ⊢
    obtain ⟨l, h1, h2⟩ := hv
    obtain ⟨l0, _, h3⟩ := hx
    exact ⟨l, h1, VRs.unren h hq hp h3 h2⟩
  | .tup _, a', _, _, hs, hp, hx, hv => by
    simp only [renA, Option.map_eq_some_iff] at hs
    obtain ⟨q, hq, rfl⟩ := hs
    simp only [posA] at hp
    simp only [VR] at hx hv ⊢
    obtain ⟨l, h1, h2⟩ := hv
    obtain ⟨l0, _, h3⟩ := hx
    exact ⟨l, h1, VRs.unren h hq hp h3 h2⟩
  | .fn _ _, a', _, _, hs, hp, hx, hv => by
    simp only [renA, Option.map_eq_some_iff] at hs
    obtain ⟨q, hq, rfl⟩ := hs
    simp only [posA] at hp
    simp only [VR] at hx hv ⊢
    obtain ⟨l, h1, h2⟩ := hv
    obtain ⟨l0, _, h3⟩ := hx
    exact ⟨l, h1, VRs.unren h hq hp h3 h2⟩
  | .dead, _, _, _, _, _, _, _ => by simp only [VR]
theorem VRs.unren {keep : List Nat} {ν ν' : Nu} (h : ∀ j b, keepNu keep ν j = some b → ν' j = some b) : ∀ {al al' : List AV} {xs ys : List Value}, renAs keep al = some al' → posAs al = true → VRs ν al xs → VRs ν' al' ys → VRs ν al ys
  | [], al', _, ys, hs, _, _, hv => by
    simp only [renAs, Option.some.injEq] at hs
    subst hs
    cases ys with
    | nil => simp only [VRs]
    | cons => simp only [VRs] at hv
  | a :: al, al', xs, ys, hs, hp, hx, hv => by
    simp only [renAs] at hs
    split at hs
    case h_2 => cases hs
    rename_i x xs' h1 h2
    cases hs
    cases ys with
    | nil => simp only [VRs] at hv
    | cons y ys =>
      cases xs with
      | nil => simp only [VRs] at hx
      | cons x0 xs =>
        simp only [VRs] at hx hv ⊢
        simp only [posAs, Bool.and_eq_true] at hp
        exact ⟨VR.unren h h1 hp.1 hx.1 hv.1, VRs.unren h h2 hp.2 hx.2 hv.2⟩
end

structure QRd where
  val : AV
  obl : List Bool := []
/-- A callee's word, by its view: its memory is as it was. -/
def specQ (ros : List Bool) (F : List AV → List AB → Option QRd) : Spec := fun avs H _ =>
  match viewH ros avs H with
  | some q => match F q.2.1 q.2.2 with
    | some kr => match mapA (fun _ => none) kr.val with
      | some v => some { val := v, rd := q.1, put := putH q.1 q.2.2 (q.1.map fun i => H.getD i .gone), new := [], obl := kr.obl ++ q.1.map fun i => posB (H.getD i .gone) }
      | none => none
    | none => none
  | none => none
def GivQ (kr : QRd) (H : List AB) : Ex → List AV → List AB → Prop := fun _ l He => l = [kr.val] ∧ Hsim He H
theorem specQ_ok {Γ : Gam} (hΓ : GamOk Try.prog Γ) {f : FuncId} {fn : Func} {ros : List Bool} {F : List AV → List AB → Option QRd} (hf : Try.prog.funcs[f]? = some fn) (hb : fn.body.isSome = true)
    (h : ∀ avs H kr, F avs H = some kr → obls kr.obl = true → ∃ (H0 : List AB) (Λ : Nat → Option Sum) (n : Nat), Hsim H H0 ∧ (∀ c, fn.body = some c → LamOk Try.prog H0.length Λ c) ∧ GoodQ (execF Try.prog Γ Λ n fn avs H0 (packK H0.length)) (GivQ kr H)) : SpecOk Try.prog f (specQ ros F) := by
  refine ⟨fun args w => enters f fn hf hb args w, fun avs H base δ ν vals w hS ho hv hbr hlt hfree hsep => ?_⟩
  unfold specQ at hS
  split at hS
  case h_2 => cases hS
  rename_i q hq
  split at hS
  case h_2 => cases hS
  rename_i hr hF
  split at hS
  case h_2 => cases hS
  rename_i v hval
  simp only [Option.some.injEq] at hS
  subst hS
  unfold viewH at hq
  generalize reach H 400 [] (idxAs avs) = keep at *
  split at hq
  case h_2 => cases hq
  rename_i avs' H1 hra hrb
  cases hnd : nodupB keep with
  | false => rw [hnd] at hq; cases hq
  | true =>
  rw [hnd] at hq
  simp only [cond_true, Option.some.injEq] at hq
  subst hq
  simp only at hval hF hbr hsep ho hfree ⊢
  have ho2 : obls hr.obl = true ∧ obls (keep.map fun i => posB (H.getD i .gone)) = true := by
    unfold obls at ho ⊢
    rw [List.all_append, Bool.and_eq_true] at ho
    exact ho
  obtain ⟨ho, hpos⟩ := ho2
  obtain ⟨hl1, hg1⟩ := renBs_get hrb
  have hlHc : (roL ros H1).length = keep.length := by rw [roL_length, hl1]
  have nuAt : ∀ {j i}, keep[j]? = some i → keepNu keep ν j = ν i := fun hj => by simp [keepNu, hj]
  have ofNu : ∀ {j b}, keepNu keep ν j = some b → ∃ i, keep[j]? = some i ∧ ν i = some b := by
    intro j b hb
    unfold keepNu at hb
    split at hb
    · rename_i i hi; exact ⟨i, hi, hb⟩
    · cases hb
  have ren_marks : ∀ {b b' : AB}, renB keep b = some b' → b'.wr = b.wr ∧ b'.live = b.live := by
    intro b b' hb
    cases b with
    | cells cs t => simp only [renB, Option.map_eq_some_iff] at hb; obtain ⟨q, _, rfl⟩ := hb; exact ⟨rfl, rfl⟩
    | row => simp only [renB, Option.some.injEq] at hb; subst hb; exact ⟨rfl, rfl⟩
    | gone => simp only [renB, Option.some.injEq] at hb; subst hb; exact ⟨rfl, rfl⟩
  -- the callee's block j is the caller's block keep j
  have view : ∀ {j i}, keep[j]? = some i → ∃ b1, H1[j]? = some b1 ∧ renB keep (H.getD i .gone) = some b1 ∧ (roL ros H1)[j]? = some (roB (ros.getD j false) b1) := by
    intro j i hj
    obtain ⟨b1, e1, e2⟩ := hg1 j i hj
    exact ⟨b1, e1, e2, by rw [roL_get, e1]; rfl⟩
  have wrOf : ∀ {j i}, keep[j]? = some i → ((roL ros H1).getD j .gone).wr = true → (H.getD i .gone).wr = true := by
    intro j i hj hw
    obtain ⟨b1, _, e2, e3⟩ := view hj
    have : (roL ros H1).getD j .gone = roB (ros.getD j false) b1 := by simp [List.getD_eq_getElem?_getD, e3]
    rw [this] at hw
    rw [← (ren_marks e2).1]
    exact roB_wr hw
  have liveOf : ∀ {j i}, keep[j]? = some i → ((roL ros H1).getD j .gone).live = true → (H.getD i .gone).live = true := by
    intro j i hj hw
    obtain ⟨b1, _, e2, e3⟩ := view hj
    have : (roL ros H1).getD j .gone = roB (ros.getD j false) b1 := by simp [List.getD_eq_getElem?_getD, e3]
    rw [this, roB_live] at hw
    rw [← (ren_marks e2).2]
    exact hw
  have roSame : ∀ {r : Bool} {b : AB}, (roB r b).wr = true → roB r b = b := by
    intro r b hw
    cases b with
    | cells => cases r <;> rfl
    | gone => cases r <;> rfl
    | row rw n wd g t => cases r <;> cases rw <;> first | rfl | cases hw
  have inPut : ∀ {j i}, keep[j]? = some i → ((roL ros H1).getD j .gone).wr = true → (i, H.getD i .gone) ∈ putH keep (roL ros H1) (keep.map fun i => H.getD i .gone) := by
    intro j i hj hw
    have hjl : j < keep.length := (List.getElem?_eq_some_iff.1 hj).1
    have hh : (roL ros H1)[j]? = some ((roL ros H1)[j]'(by omega)) := List.getElem?_eq_getElem _
    refine putH_of hj hh (by rw [List.getElem?_map, hj]; rfl) ?_
    have : (roL ros H1).getD j .gone = (roL ros H1)[j]'(by omega) := by simp [List.getD_eq_getElem?_getD, hh]
    rw [← this]; exact hw
  let M : Nat → Prop := fun k => w.heap.size ≤ k ∨ ∃ j b, ((roL ros H1).getD j .gone).wr = true ∧ keepNu keep ν j = some b ∧ b.n = k
  have hRH : RH M (keepNu keep ν) (fun b => (roL ros H1).getD b .gone) w := by
    refine ⟨fun j => ?_, fun i j b b' hne hw hlv hb hb' => ?_, fun i b hw hb => .inr ⟨i, b, hw, hb, rfl⟩, fun i b hb => ?_⟩
    · cases hj : keep[j]? with
      | none =>
        have : (roL ros H1).getD j .gone = .gone := by
          rw [List.getD_eq_getElem?_getD, List.getElem?_eq_none]
          · rfl
          · rw [hlHc]
            exact List.getElem?_eq_none_iff.1 hj
        simp only [this]
        trivial
      | some i =>
        obtain ⟨b1, e1, e2, e3⟩ := view hj
        have : (roL ros H1).getD j .gone = roB (ros.getD j false) b1 := by simp [List.getD_eq_getElem?_getD, e3]
        simp only [this]
        refine roB_br ?_
        have hbi := hbr i (List.mem_of_getElem? hj)
        have hν := nuAt hj
        cases hi : H.getD i .gone with
        | cells cs t =>
          rw [hi] at e2 hbi
          simp only [renB, Option.map_eq_some_iff] at e2
          obtain ⟨cs', h1, h2⟩ := e2
          rw [← h2]
          obtain ⟨b, l, g1, g2, g3, g4⟩ := hbi
          exact ⟨b, l, by rw [hν]; exact g1, g2, g3, g4.ren h1⟩
        | row rw' n wd g t =>
          rw [hi] at e2 hbi
          simp only [renB, Option.some.injEq] at e2
          rw [← e2]
          rcases hbi with ⟨g1, g2, g3⟩ | ⟨b, l, t', fz, g1, g2⟩
          · exact .inl ⟨g1, g2, by rw [hν]; exact g3⟩
          · exact .inr ⟨b, l, t', fz, by rw [hν]; exact g1, g2⟩
        | gone =>
          rw [hi] at e2
          simp only [renB, Option.some.injEq] at e2
          rw [← e2]
          trivial
    · obtain ⟨i', hi, e1⟩ := ofNu hb
      obtain ⟨j', hj, e2⟩ := ofNu hb'
      have hp := inPut hi hw
      refine hsep i' _ j' b b' hp (List.mem_of_getElem? hj) (fun e => ?_) (liveOf hj hlv) e1 e2
      subst e
      exact hne (nodupB_ne hnd i j i' hi hj)
    · obtain ⟨i', _, e1⟩ := ofNu hb
      exact hlt i' b e1
  obtain ⟨H0, Λ, n, hsim, hL, hG⟩ := h avs' (roL ros H1) hr hF ho
  have hl0 : H0.length = keep.length := by rw [← hsim.length, hlHc]
  have hdom0 : ∀ i b, keepNu keep ν i = some b → i < H0.length := by
    intro i b hb
    obtain ⟨i', hi, _⟩ := ofNu hb
    rw [hl0]
    exact (List.getElem?_eq_some_iff.1 hi).1
  refine (calls_pack hΓ mixed enters hf hL (fun k hk => Or.inl hk) hG.out (hv.ren hra) (hRH.sim hsim) hdom0).mono ?_
  rintro e w' ⟨vv, av, He, ν', rfl, ⟨hav, hHe⟩, hvr, hRH', hfr, hle, hdom'⟩
  simp only [List.cons.injEq, and_true] at hav
  subst hav
  have hRH2 := hRH'.sim hHe
  -- a block that may be written has a place
  have wrNu : ∀ {j : Nat}, ((roL ros H1).getD j .gone).wr = true → ∃ b, keepNu keep ν j = some b := by
    intro j hw
    have : BR (keepNu keep ν) j ((roL ros H1).getD j .gone) w := hRH.br j
    cases hb : (roL ros H1).getD j .gone with
    | cells cs t => rw [hb] at this; obtain ⟨b, l, e1, _⟩ := this; exact ⟨b, e1⟩
    | row rw' n wd g t =>
      rw [hb] at this hw
      rcases this with ⟨e1, _⟩ | ⟨b, l, t', fz, e1, _⟩
      · simp only [AB.wr] at hw
        rw [e1] at hw
        cases hw
      · exact ⟨b, e1⟩
    | gone => rw [hb] at hw; cases hw
  have mp : ∀ i i' b, (fun _ : Nat => (none : Option Nat)) i = some i' → ν' i = some b → ν i' = some b := fun i i' b h1 _ => by cases h1
  refine ⟨vv, ν, rfl, ⟨fun i b hb => hb, fun i h1 h2 => (h2 h1).elim, hvr.map mp hval, fun i b hl => ?_, fun j b hj => by simp at hj, hfr.os, hfr.tape, hfr.output, hfr.size, fun k hk hne => ?_, fun j b hj _ => absurd hj (Nat.not_lt_zero _), fun j j' b b' hne hj => absurd hj (Nat.not_lt_zero _)⟩⟩
  · obtain ⟨j, hh, e1, e2, e3, e4⟩ := putH_mem (lookB_mem hl)
    rw [List.getElem?_map, e1] at e3
    simp only [Option.map_some, Option.some.injEq] at e3
    subst e3
    obtain ⟨b1, _, v2, v3⟩ := view e1
    rw [e2, Option.some.injEq] at v3
    subst v3
    have hb1 := roSame e4
    rw [hb1] at e2
    have hout : BR ν' j b1 w' := by
      have := hRH2.br j
      simp only [List.getD_eq_getElem?_getD, e2, Option.getD_some] at this
      exact this
    have hin := hbr i (List.mem_of_getElem? e1)
    have hp : posB (H.getD i .gone) = true := by
      unfold obls at hpos
      rw [List.all_eq_true] at hpos
      exact hpos _ (List.mem_map.2 ⟨i, List.mem_of_getElem? e1, rfl⟩)
    rw [hb1] at e4
    have back : ∀ {b}, ν i = some b → ν' j = some b := fun hb => hle _ _ (by rw [nuAt e1]; exact hb)
    cases hi : H.getD i .gone with
    | cells cs t =>
      rw [hi] at v2 hin hp
      simp only [renB, Option.map_eq_some_iff] at v2
      obtain ⟨cs', h1, h2⟩ := v2
      rw [← h2] at hout
      obtain ⟨b, l, g1, g2, g3, g4⟩ := hin
      obtain ⟨b', l', f1, f2, f3, f4⟩ := hout
      have := back g1
      rw [f1, Option.some.injEq] at this
      subst this
      exact ⟨b', l', g1, f2, f3, VRs.unren hle h1 hp g4 f4⟩
    | row rw' n wd g t =>
      rw [hi] at v2 hin
      simp only [renB, Option.some.injEq] at v2
      rw [← v2] at hout e4
      simp only [AB.wr] at e4
      rcases hin with ⟨g1, _⟩ | ⟨b, l, t', fz, g1, _⟩
      · rw [g1] at e4; cases e4
      · rcases hout with ⟨f1, _⟩ | ⟨b', l', t2, fz2, f1, f2⟩
        · rw [f1] at e4; cases e4
        · have := back g1
          rw [f1, Option.some.injEq] at this
          subst this
          exact .inr ⟨b', l', t2, fz2, g1, f2⟩
    | gone =>
      rw [hi] at v2
      simp only [renB, Option.some.injEq] at v2
      rw [← v2] at e4
      cases e4
  · refine hfr.block k hk fun hM => ?_
    rcases hM with hM | ⟨j, b, hw, hb, e⟩
    · omega
    · obtain ⟨i, hi, e1⟩ := ofNu hb
      exact hne _ b (inPut hi hw) e1 e

end Go.Proofs.Ytmdcafhnjihckaa

/- The program's transform: trees. Conditions: a row of points, numbers. -/
namespace Go.Proofs.Ytmdcafhnjihckaa
open Go.RowKit
set_option maxRecDepth 100000

/-- What the closure turns: the word's angle is a whole number. -/
def agC (n j k : Int) : Int := -(j * k) * Int.tdiv 24 n
def Ft1O (tu : (Nat → Int) → Int → Nat → Int) : List AV → List AB → Option QRd
  | [.v (.int .i64 k), .ptr 0 0 0 0, .ptr 1 0 0 0, .ptr 2 0 0 0, .ptr 3 0 0 0], [.cells [.sl 4 8 0 0 m none] ta, .cells [.v (.int .i64 d)] tb, .cells [.v (.int .i64 j)] tc, .cells [.v (.int .i64 n)] td, .row false m2 8 g te] =>
    some { val := .agg (cyC (tu (w8 (it8 g k.toNat)) (agC n j k))), obl := [decide (0 ≤ k), decide (k < m), decide (k ≤ 23), Nat.beq m m2, all8 m g, (List.range m).all fun i => inB (w8 (it8 g i)), decide (d = -1), inR j 0 23, roV n, Nat.beq ta 48, Nat.beq tb 3, Nat.beq tc 3, Nat.beq td 3, Nat.beq te 31] }
  | _, _ => none
noncomputable abbrev fSO : Func := Try.f161
def gmSO (tu : (Nat → Int) → Int → Nat → Int) (ad : (Nat → Int) → (Nat → Int) → Nat → Int) (ok : (Nat → Int) → Bool) : Gam := ext (ext (ext g0 162 (specQ [] (Ft1O tu))) 67 (specV (fAdd2 ad))) 66 (specV (fOkc ok))
abbrev fnT1 : AV := .fn 162 [.ptr 0 0 0 0, .ptr 1 0 0 0, .ptr 2 0 0 0, .ptr 3 0 0 0]
abbrev lvSO : Ex → List Nat := lv3 [1, 4, 6, 9, 10] [4, 6] [4, 5]
abbrev stSO (n : Int) (i : Nat) : List AV := [fnT1, .ptr 5 0 0 0, .ptr 6 0 0 0, .v (i64 n), .v (i64 i)]
abbrev hpSOt (m : Nat) (f : Nat → Nat → Int) (d j n : Int) (z s : Nat → Int) : List AB := [.cells [.sl 4 8 0 0 m none] 48, .cells [.v (i64 d)] 3, .cells [.v (i64 j)] 3, .cells [.v (i64 n)] 3, .row false m 8 (row8 f) 31, .cells (cyC z) 31, .cells (cyC s) 31]
theorem rndSO (tu : (Nat → Int) → Int → Nat → Int) (ad : (Nat → Int) → (Nat → Int) → Nat → Int) (ok : (Nat → Int) → Bool) (m : Nat) (f : Nat → Nat → Int) (d j n : Int) (s : Nat → Int) (i : Nat) : execC Try.prog (gmSO tu ad ok) 100 noLam (loopAt 0 fSO) (mkT 0 26 ((lvSO .normal).zip (stSO n i))) (hpSOt m f d j n (fun _ => 0) s) (leafV 26 lvSO 5)
    = bif decide ((↑i : Int) < n) then needs [decide ((↑i : Int) < (↑m : Int)), decide ((↑i : Int) ≤ (23 : Int)), Nat.beq m m, all8 m (row8 f), List.all (List.range m) fun i ↦ inB (w8 (it8 (row8 f) i)), decide (d = (-1 : Int)), inR j (0 : Int) (23 : Int), roV n, Nat.blt (0 : Nat) m && true] (bif !ok (w8 (ad (w8 s) (w8 (tu (w8 (it8 (row8 f) (Int.toNat (↑i : Int)))) (agC n j (↑i : Int)))))) then Res.out Ex.ret [AV.ptr (5 : Nat) (0 : Nat) (0 : Nat) (0 : Nat), AV.v (Value.bool false)] [AB.cells [AV.sl (4 : Nat) (8 : Nat) (0 : Nat) (0 : Nat) m none] (48 : TypeId), AB.cells [AV.v (Value.int IntKind.i64 d)] (3 : TypeId), AB.cells [AV.v (Value.int IntKind.i64 j)] (3 : TypeId), AB.cells [AV.v (Value.int IntKind.i64 n)] (3 : TypeId), AB.row false m (8 : Nat) (row8 f) (31 : TypeId), AB.cells [AV.v (Value.int IntKind.i64 (0 : Int)), AV.v (Value.int IntKind.i64 (0 : Int)), AV.v (Value.int IntKind.i64 (0 : Int)), AV.v (Value.int IntKind.i64 (0 : Int)), AV.v (Value.int IntKind.i64 (0 : Int)), AV.v (Value.int IntKind.i64 (0 : Int)), AV.v (Value.int IntKind.i64 (0 : Int)), AV.v (Value.int IntKind.i64 (0 : Int))] (31 : TypeId)] else Res.out Ex.normal [AV.fn (162 : FuncId) [AV.ptr (0 : Nat) (0 : Nat) (0 : Nat) (0 : Nat), AV.ptr (1 : Nat) (0 : Nat) (0 : Nat) (0 : Nat), AV.ptr (2 : Nat) (0 : Nat) (0 : Nat) (0 : Nat), AV.ptr (3 : Nat) (0 : Nat) (0 : Nat) (0 : Nat)], AV.ptr (5 : Nat) (0 : Nat) (0 : Nat) (0 : Nat), AV.ptr (6 : Nat) (0 : Nat) (0 : Nat) (0 : Nat), AV.v (Value.int IntKind.i64 n), AV.v (Value.int IntKind.i64 (IntKind.wrap IntKind.i64 ((↑i : Int) + (1 : Int))))] [AB.cells [AV.sl (4 : Nat) (8 : Nat) (0 : Nat) (0 : Nat) m none] (48 : TypeId), AB.cells [AV.v (Value.int IntKind.i64 d)] (3 : TypeId), AB.cells [AV.v (Value.int IntKind.i64 j)] (3 : TypeId), AB.cells [AV.v (Value.int IntKind.i64 n)] (3 : TypeId), AB.row false m (8 : Nat) (row8 f) (31 : TypeId), AB.cells [AV.v (Value.int IntKind.i64 (0 : Int)), AV.v (Value.int IntKind.i64 (0 : Int)), AV.v (Value.int IntKind.i64 (0 : Int)), AV.v (Value.int IntKind.i64 (0 : Int)), AV.v (Value.int IntKind.i64 (0 : Int)), AV.v (Value.int IntKind.i64 (0 : Int)), AV.v (Value.int IntKind.i64 (0 : Int)), AV.v (Value.int IntKind.i64 (0 : Int))] (31 : TypeId), AB.cells [AV.v (Value.int IntKind.i64 (ad (w8 s) (w8 (tu (w8 (it8 (row8 f) (Int.toNat (↑i : Int)))) (agC n j (↑i : Int)))) (0 : Nat))), AV.v (Value.int IntKind.i64 (ad (w8 s) (w8 (tu (w8 (it8 (row8 f) (Int.toNat (↑i : Int)))) (agC n j (↑i : Int)))) (1 : Nat))), AV.v (Value.int IntKind.i64 (ad (w8 s) (w8 (tu (w8 (it8 (row8 f) (Int.toNat (↑i : Int)))) (agC n j (↑i : Int)))) (2 : Nat))), AV.v (Value.int IntKind.i64 (ad (w8 s) (w8 (tu (w8 (it8 (row8 f) (Int.toNat (↑i : Int)))) (agC n j (↑i : Int)))) (3 : Nat))), AV.v (Value.int IntKind.i64 (ad (w8 s) (w8 (tu (w8 (it8 (row8 f) (Int.toNat (↑i : Int)))) (agC n j (↑i : Int)))) (4 : Nat))), AV.v (Value.int IntKind.i64 (ad (w8 s) (w8 (tu (w8 (it8 (row8 f) (Int.toNat (↑i : Int)))) (agC n j (↑i : Int)))) (5 : Nat))), AV.v (Value.int IntKind.i64 (ad (w8 s) (w8 (tu (w8 (it8 (row8 f) (Int.toNat (↑i : Int)))) (agC n j (↑i : Int)))) (6 : Nat))), AV.v (Value.int IntKind.i64 (ad (w8 s) (w8 (tu (w8 (it8 (row8 f) (Int.toNat (↑i : Int)))) (agC n j (↑i : Int)))) (7 : Nat)))] (31 : TypeId)]) else Res.out (Ex.exit (0 : Nat)) [AV.ptr (5 : Nat) (0 : Nat) (0 : Nat) (0 : Nat), AV.ptr (6 : Nat) (0 : Nat) (0 : Nat) (0 : Nat)] [AB.cells [AV.sl (4 : Nat) (8 : Nat) (0 : Nat) (0 : Nat) m none] (48 : TypeId), AB.cells [AV.v (Value.int IntKind.i64 d)] (3 : TypeId), AB.cells [AV.v (Value.int IntKind.i64 j)] (3 : TypeId), AB.cells [AV.v (Value.int IntKind.i64 n)] (3 : TypeId), AB.row false m (8 : Nat) (row8 f) (31 : TypeId), AB.cells [AV.v (Value.int IntKind.i64 (0 : Int)), AV.v (Value.int IntKind.i64 (0 : Int)), AV.v (Value.int IntKind.i64 (0 : Int)), AV.v (Value.int IntKind.i64 (0 : Int)), AV.v (Value.int IntKind.i64 (0 : Int)), AV.v (Value.int IntKind.i64 (0 : Int)), AV.v (Value.int IntKind.i64 (0 : Int)), AV.v (Value.int IntKind.i64 (0 : Int))] (31 : TypeId), AB.cells [AV.v (Value.int IntKind.i64 (s (0 : Nat))), AV.v (Value.int IntKind.i64 (s (1 : Nat))), AV.v (Value.int IntKind.i64 (s (2 : Nat))), AV.v (Value.int IntKind.i64 (s (3 : Nat))), AV.v (Value.int IntKind.i64 (s (4 : Nat))), AV.v (Value.int IntKind.i64 (s (5 : Nat))), AV.v (Value.int IntKind.i64 (s (6 : Nat))), AV.v (Value.int IntKind.i64 (s (7 : Nat)))] (31 : TypeId)] := by kernel_rfl

noncomputable abbrev lamSO (m : Nat) (f : Nat → Nat → Int) (d j n : Int) (c : Bool) (s : Nat → Int) : Nat → Option Sum := oneL 0 (atS 26 (lvSO .normal) 5 (stSO n 0) (hpSOt m f d j n (fun _ => 0) fun _ => 0) (fun K => cond c (K .normal (mkT 0 26 [(4, .ptr 5 0 0 0), (6, .ptr 6 0 0 0)]) (hpSOt m f d j n (fun _ => 0) s)) (K .ret (mkT 0 26 [(4, .ptr 5 0 0 0), (5, .v (.bool false))]) [.cells [.sl 4 8 0 0 m none] 48, .cells [.v (i64 d)] 3, .cells [.v (i64 j)] 3, .cells [.v (i64 n)] 3, .row false m 8 (row8 f) 31, .cells (cyC fun _ => 0) 31])))
theorem treeSO (m : Nat) (f : Nat → Nat → Int) (d j n : Int) (c : Bool) (s : Nat → Int) : execF Try.prog g0 (lamSO m f d j n c s) 100 fSO [.v (i64 n), fnT1] (hpT m f d j n) (packK 5)
    = needs [chk ([AV.fn (162 : FuncId) [AV.ptr (0 : Nat) (0 : Nat) (0 : Nat) (0 : Nat), AV.ptr (1 : Nat) (0 : Nat) (0 : Nat) (0 : Nat), AV.ptr (2 : Nat) (0 : Nat) (0 : Nat) (0 : Nat), AV.ptr (3 : Nat) (0 : Nat) (0 : Nat) (0 : Nat)], AV.ptr (5 : Nat) (0 : Nat) (0 : Nat) (0 : Nat), AV.ptr (6 : Nat) (0 : Nat) (0 : Nat) (0 : Nat), AV.v (Value.int IntKind.i64 n), AV.v (Value.int IntKind.i64 (0 : Int))] = stSO n (0 : Nat) ∧ Hsim [AB.cells [AV.sl (4 : Nat) (8 : Nat) (0 : Nat) (0 : Nat) m none] (48 : TypeId), AB.cells [AV.v (Value.int IntKind.i64 d)] (3 : TypeId), AB.cells [AV.v (Value.int IntKind.i64 j)] (3 : TypeId), AB.cells [AV.v (Value.int IntKind.i64 n)] (3 : TypeId), AB.row false m (8 : Nat) (row8 f) (31 : TypeId), AB.cells [AV.v (Value.int IntKind.i64 (0 : Int)), AV.v (Value.int IntKind.i64 (0 : Int)), AV.v (Value.int IntKind.i64 (0 : Int)), AV.v (Value.int IntKind.i64 (0 : Int)), AV.v (Value.int IntKind.i64 (0 : Int)), AV.v (Value.int IntKind.i64 (0 : Int)), AV.v (Value.int IntKind.i64 (0 : Int)), AV.v (Value.int IntKind.i64 (0 : Int))] (31 : Nat), AB.cells [AV.v (Value.int IntKind.i64 (0 : Int)), AV.v (Value.int IntKind.i64 (0 : Int)), AV.v (Value.int IntKind.i64 (0 : Int)), AV.v (Value.int IntKind.i64 (0 : Int)), AV.v (Value.int IntKind.i64 (0 : Int)), AV.v (Value.int IntKind.i64 (0 : Int)), AV.v (Value.int IntKind.i64 (0 : Int)), AV.v (Value.int IntKind.i64 (0 : Int))] (31 : Nat)] (hpSOt m f d j n (fun _ ↦ (0 : Int)) fun _ ↦ (0 : Int)))] (bif c then Res.out Ex.ret [AV.tup [AV.agg [AV.v (Value.int IntKind.i64 (s (0 : Nat))), AV.v (Value.int IntKind.i64 (s (1 : Nat))), AV.v (Value.int IntKind.i64 (s (2 : Nat))), AV.v (Value.int IntKind.i64 (s (3 : Nat))), AV.v (Value.int IntKind.i64 (s (4 : Nat))), AV.v (Value.int IntKind.i64 (s (5 : Nat))), AV.v (Value.int IntKind.i64 (s (6 : Nat))), AV.v (Value.int IntKind.i64 (s (7 : Nat)))], AV.v (Value.bool true)]] [AB.cells [AV.sl (4 : Nat) (8 : Nat) (0 : Nat) (0 : Nat) m none] (48 : TypeId), AB.cells [AV.v (Value.int IntKind.i64 d)] (3 : TypeId), AB.cells [AV.v (Value.int IntKind.i64 j)] (3 : TypeId), AB.cells [AV.v (Value.int IntKind.i64 n)] (3 : TypeId), AB.row false m (8 : Nat) (row8 f) (31 : TypeId)] else Res.out Ex.ret [AV.tup [AV.agg [AV.v (Value.int IntKind.i64 (0 : Int)), AV.v (Value.int IntKind.i64 (0 : Int)), AV.v (Value.int IntKind.i64 (0 : Int)), AV.v (Value.int IntKind.i64 (0 : Int)), AV.v (Value.int IntKind.i64 (0 : Int)), AV.v (Value.int IntKind.i64 (0 : Int)), AV.v (Value.int IntKind.i64 (0 : Int)), AV.v (Value.int IntKind.i64 (0 : Int))], AV.v (Value.bool false)]] [AB.cells [AV.sl (4 : Nat) (8 : Nat) (0 : Nat) (0 : Nat) m none] (48 : TypeId), AB.cells [AV.v (Value.int IntKind.i64 d)] (3 : TypeId), AB.cells [AV.v (Value.int IntKind.i64 j)] (3 : TypeId), AB.cells [AV.v (Value.int IntKind.i64 n)] (3 : TypeId), AB.row false m (8 : Nat) (row8 f) (31 : TypeId)]) := by kernel_rfl

def FsoO (tv : (Nat → Nat → Int) → Int → Int → Nat → Int) (tk : (Nat → Nat → Int) → Int → Int → Bool) : List AV → List AB → Option QRd
  | [.v (.int .i64 n'), .fn 162 [.ptr 0 0 0 0, .ptr 1 0 0 0, .ptr 2 0 0 0, .ptr 3 0 0 0]], [.cells [.sl 4 8 0 0 m none] ta, .cells [.v (.int .i64 d)] tb, .cells [.v (.int .i64 j)] tc, .cells [.v (.int .i64 n)] td, .row false m2 8 g te] =>
    some { val := .tup [.agg (cyC (tv (it8 g) n j)), .v (.bool (tk (it8 g) n j))], obl := [decide (n' = n), decide (n = m), Nat.beq m m2, all8 m g, (List.range m).all fun i => inB (w8 (it8 g i)), decide (d = -1), inR j 0 23, roV n, Nat.beq ta 48, Nat.beq tb 3, Nat.beq tc 3, Nat.beq td 3, Nat.beq te 31] }
  | _, _ => none
noncomputable abbrev fTr : Func := Try.f138
def gmTr (tv : (Nat → Nat → Int) → Int → Int → Nat → Int) (tk : (Nat → Nat → Int) → Int → Int → Bool) : Gam := ext g0 161 (specQ [] (FsoO tv tk))
abbrev lvTr : Ex → List Nat := lv3 [2, 3, 6, 7, 15, 16] [7] [4, 5]
abbrev stTr (n : Int) (i : Nat) : List AV := [.ptr 1 0 0 0, .ptr 2 0 0 0, .ptr 3 0 0 0, .own 4 i, .v (i64 n), .v (i64 i)]
abbrev hpTr8 (m : Nat) (f : Nat → Nat → Int) (d n : Int) (i : Nat) (h : Nat → Nat → Int) : List AB := [.row false m 8 (row8 f) 31, .cells [.sl 0 8 0 0 m none] 48, .cells [.v (i64 d)] 3, .cells [.v (i64 n)] 3, .row true i 8 (row8 h) 31]
theorem rndTr8 (tv : (Nat → Nat → Int) → Int → Int → Nat → Int) (tk : (Nat → Nat → Int) → Int → Int → Bool) (m : Nat) (f : Nat → Nat → Int) (d n : Int) (h : Nat → Nat → Int) (i : Nat) : execC Try.prog (gmTr tv tk) 100 noLam (loopAt 0 fTr) (mkT 0 33 ((lvTr .normal).zip (stTr n i))) (hpTr8 m f d n i h) (leafV 33 lvTr 1)
    = bif decide ((↑i : Int) < n) then needs [decide (n = n), decide (n = (↑m : Int)), Nat.beq m m, all8 m (row8 f), List.all (List.range m) fun i ↦ inB (w8 (it8 (row8 f) i)), decide (d = (-1 : Int)), inR (↑i : Int) (0 : Int) (23 : Int), roV n, Nat.blt (0 : Nat) m && true] (bif !tk (it8 (row8 f)) n (↑i : Int) then Res.out Ex.ret [AV.v (Value.slice none (0 : Nat) (0 : Nat)), AV.v (Value.bool false)] [AB.row false m (8 : Nat) (row8 f) (31 : TypeId)] else needs [Nat.ble i i, Nat.ble (i + (1 : Nat)) (549755813888 : Nat)] (Res.out Ex.normal [AV.ptr (1 : Nat) (0 : Nat) (0 : Nat) (0 : Nat), AV.ptr (2 : Nat) (0 : Nat) (0 : Nat) (0 : Nat), AV.ptr (3 : Nat) (0 : Nat) (0 : Nat) (0 : Nat), AV.own (4 : Nat) (i + (1 : Nat)), AV.v (Value.int IntKind.i64 n), AV.v (Value.int IntKind.i64 (IntKind.wrap IntKind.i64 ((↑i : Int) + (1 : Int))))] [AB.row false m (8 : Nat) (row8 f) (31 : TypeId), AB.cells [AV.sl (0 : Nat) (8 : Nat) (0 : Nat) (0 : Nat) m none] (48 : TypeId), AB.cells [AV.v (Value.int IntKind.i64 d)] (3 : TypeId), AB.cells [AV.v (Value.int IntKind.i64 n)] (3 : TypeId), AB.row true (i + (1 : Nat)) (8 : Nat) (fun q ↦ [Value.int IntKind.i64 (bif Nat.blt q i then h q (0 : Nat) else tv (it8 (row8 f)) n (↑i : Int) (0 : Nat)), Value.int IntKind.i64 (bif Nat.blt q i then h q (1 : Nat) else tv (it8 (row8 f)) n (↑i : Int) (1 : Nat)), Value.int IntKind.i64 (bif Nat.blt q i then h q (2 : Nat) else tv (it8 (row8 f)) n (↑i : Int) (2 : Nat)), Value.int IntKind.i64 (bif Nat.blt q i then h q (3 : Nat) else tv (it8 (row8 f)) n (↑i : Int) (3 : Nat)), Value.int IntKind.i64 (bif Nat.blt q i then h q (4 : Nat) else tv (it8 (row8 f)) n (↑i : Int) (4 : Nat)), Value.int IntKind.i64 (bif Nat.blt q i then h q (5 : Nat) else tv (it8 (row8 f)) n (↑i : Int) (5 : Nat)), Value.int IntKind.i64 (bif Nat.blt q i then h q (6 : Nat) else tv (it8 (row8 f)) n (↑i : Int) (6 : Nat)), Value.int IntKind.i64 (bif Nat.blt q i then h q (7 : Nat) else tv (it8 (row8 f)) n (↑i : Int) (7 : Nat))]) (31 : Nat)])) else Res.out (Ex.exit (0 : Nat)) [AV.own (1 : Nat) i] [AB.row false m (8 : Nat) (row8 f) (31 : TypeId), AB.row true i (8 : Nat) (row8 h) (31 : TypeId)] := by kernel_rfl

noncomputable abbrev lamTr (m : Nat) (f : Nat → Nat → Int) (d n : Int) (q : Nat) (h : Nat → Nat → Int) (c : Bool) : Nat → Option Sum := oneL 0 (atS 33 (lvTr .normal) 1 (stTr n 0) (hpTr8 m f d n 0 fun _ _ => 0) (fun K => cond c (K .normal (mkT 0 33 [(7, .own 1 q)]) [.row false m 8 (row8 f) 31, .row true q 8 (row8 h) 31]) (K .ret (mkT 0 33 [(4, .v (.slice none 0 0)), (5, .v (.bool false))]) [.row false m 8 (row8 f) 31])))
theorem treeTr8 (m : Nat) (f : Nat → Nat → Int) (d n : Int) (q : Nat) (h : Nat → Nat → Int) (c : Bool) : execF Try.prog g0 (lamTr m f d n q h c) 100 fTr [.sl 0 8 0 0 m none, .v (i64 d)] [.row false m 8 (row8 f) 31] (packK 1)
    = needs [decide ((↑m : Int) ≤ (1099511627776 : Int)), chk ([AV.ptr (1 : Nat) (0 : Nat) (0 : Nat) (0 : Nat), AV.ptr (2 : Nat) (0 : Nat) (0 : Nat) (0 : Nat), AV.ptr (3 : Nat) (0 : Nat) (0 : Nat) (0 : Nat), AV.own (4 : Nat) (0 : Nat), AV.v (Value.int IntKind.i64 (↑m : Int)), AV.v (Value.int IntKind.i64 (0 : Int))] = stTr n (0 : Nat) ∧ Hsim [AB.row false m (8 : Nat) (row8 f) (31 : TypeId), AB.cells [AV.sl (0 : Nat) (8 : Nat) (0 : Nat) (0 : Nat) m none] (48 : Nat), AB.cells [AV.v (Value.int IntKind.i64 d)] (3 : Nat), AB.cells [AV.v (Value.int IntKind.i64 (↑m : Int))] (3 : Nat), AB.row true (0 : Nat) (8 : Nat) (fun _ ↦ [Value.int IntKind.i64 (0 : Int), Value.int IntKind.i64 (0 : Int), Value.int IntKind.i64 (0 : Int), Value.int IntKind.i64 (0 : Int), Value.int IntKind.i64 (0 : Int), Value.int IntKind.i64 (0 : Int), Value.int IntKind.i64 (0 : Int), Value.int IntKind.i64 (0 : Int)]) (31 : Nat)] (hpTr8 m f d n (0 : Nat) fun x x_1 ↦ (0 : Int)))] (bif c then Res.out Ex.ret [AV.tup [AV.own (1 : Nat) q, AV.v (Value.bool true)]] [AB.row false m (8 : Nat) (row8 f) (31 : TypeId), AB.row true q (8 : Nat) (row8 h) (31 : TypeId)] else Res.out Ex.ret [AV.tup [AV.v (Value.slice none (0 : Nat) (0 : Nat)), AV.v (Value.bool false)]] [AB.row false m (8 : Nat) (row8 f) (31 : TypeId)]) := by kernel_rfl

end Go.Proofs.Ytmdcafhnjihckaa

/- The program's transform: the closure, and sums of turned points. Conditions: a row of points, numbers. -/
namespace Go.Proofs.Ytmdcafhnjihckaa
open Go.RowKit
set_option maxRecDepth 100000

/-- Two ways to the angle. -/
theorem ag_eq {n j k : Int} (hn : roV n = true) (hj : 0 ≤ j ∧ j ≤ 23) (hk : 0 ≤ k ∧ k ≤ 23) :
    IntKind.wrap IntKind.i64 (Int.tmod (IntKind.wrap IntKind.i64 (IntKind.wrap IntKind.i64 (-1 * j) * k)) n * IntKind.wrap IntKind.i64 (Int.tdiv 24 n)) % 24 = agC n j k % 24
    ∧ inR (IntKind.wrap IntKind.i64 (Int.tmod (IntKind.wrap IntKind.i64 (IntKind.wrap IntKind.i64 (-1 * j) * k)) n * IntKind.wrap IntKind.i64 (Int.tdiv 24 n))) (-9223372036854775808) 9223372036854775807 = true := by
  have hv := roV_in hn
  have hz := (roV_parts hn).2.2
  have hz : Int.tmod 24 n = 0 := by simpa using hz
  obtain ⟨n', rfl⟩ := Int.eq_ofNat_of_zero_le (show 0 ≤ n by omega)
  have hq := tdiv24 (n := n') (by omega) (by omega)
  have h24 : (n' : Int) * Int.tdiv 24 n' = 24 := by
    have := Int.tmod_add_mul_tdiv 24 (n' : Int)
    omega
  have hjk := mul_bd (x := j) (y := k) (A := 23) (B := 23) (by omega) hj.2 (by omega) hk.2
  have hjk0 := Int.mul_nonneg hj.1 hk.1
  rw [wr_in (x := -1 * j) (by omega), show -1 * j * k = -(j * k) by rw [Int.neg_mul, Int.one_mul, Int.neg_mul], wr_in (x := -(j * k)) (by omega), wr_in (x := Int.tdiv 24 (n' : Int)) (by omega)]
  have e1 := Int.tmod_add_mul_tdiv (-(j * k)) (n' : Int)
  have e2 : Int.tmod (-(j * k)) n' = -(Int.tmod (j * k) n') := Int.neg_tmod ..
  have b1 : 0 ≤ Int.tmod (j * k) n' ∧ Int.tmod (j * k) n' < n' := by
    rw [Int.tmod_eq_emod_of_nonneg hjk0]
    exact ⟨Int.emod_nonneg _ (by omega), Int.emod_lt_of_pos _ (by omega)⟩
  have b2 := mul_bd (x := Int.tmod (j * k) n') (y := Int.tdiv 24 (n' : Int)) (A := 24) (B := 24) (by omega) (by omega) (by omega) hq.2
  have e3 : Int.tmod (-(j * k)) n' * Int.tdiv 24 n' = -(Int.tmod (j * k) n' * Int.tdiv 24 n') := by rw [e2, Int.neg_mul]
  rw [wr_in (by omega)]
  refine ⟨?_, inR_iff.2 (by omega)⟩
  unfold agC
  rw [show -(j * k) * Int.tdiv 24 n' = Int.tmod (-(j * k)) n' * Int.tdiv 24 n' + 24 * Int.tdiv (-(j * k)) n' by
    conv => lhs; rw [← e1]
    rw [Int.add_mul, Int.mul_assoc, Int.mul_comm (Int.tdiv (-(j * k)) n') (Int.tdiv 24 n'), ← Int.mul_assoc, h24]]
  rw [Int.add_mul_emod_self_left]
theorem ok_t1 : SpecOk Try.prog 162 (specQ [] (Ft1O tuF)) := by
  refine specQ_ok (Γ := gmTf1 tuF) (ext_ok g0_ok ok_tuI) Try.func162 rfl fun avs H kr hF ho => ?_
  unfold Ft1O at hF
  split at hF
  · rename_i k m ta d tb j tc n td m2 g te
    cases hF
    simp only [ob_cons] at ho
    obtain ⟨h1, h2, h3, h4, h5, h6, h7, h8, h9, t1, t2, t3, t4, t5, _⟩ := ho
    have h1 := of_decide_eq_true h1
    have h2 := of_decide_eq_true h2
    have h3 := of_decide_eq_true h3
    have h4 := Nat.eq_of_beq_eq_true h4
    have h7 := of_decide_eq_true h7
    have h8 := inR_iff.1 h8
    have t1 := Nat.eq_of_beq_eq_true t1
    have t2 := Nat.eq_of_beq_eq_true t2
    have t3 := Nat.eq_of_beq_eq_true t3
    have t4 := Nat.eq_of_beq_eq_true t4
    have t5 := Nat.eq_of_beq_eq_true t5
    subst h4 h7 t1 t2 t3 t4 t5
    obtain ⟨k, rfl⟩ := Int.eq_ofNat_of_zero_le h1
    have hkm : k < m := by omega
    have hv := roV_in h9
    have ha := ag_eq h9 ⟨h8.1, h8.2⟩ (k := (k : Int)) ⟨by omega, h3⟩
    refine ⟨hpT m (it8 g) (-1) j n, noLam, 100, .cons (ABeq.refl _) (.cons (ABeq.refl _) (.cons (ABeq.refl _) (.cons (ABeq.refl _) (.cons (ABeq.row fun j hj => all8_get h5 j hj) .nil)))), noLam' _, ?_⟩
    show GoodQ (execF Try.prog (gmTf1 tuF) noLam 100 fT1 [.v (i64 (k : Nat)), .ptr 0 0 0 0, .ptr 1 0 0 0, .ptr 2 0 0 0, .ptr 3 0 0 0] (hpT m (it8 g) (-1) j n) (packK 5)) _
    rw [treeT1]
    simp only [Int.toNat_natCast, Nat.zero_add]
    have hin : inB (w8 (it8 g k)) = true := List.all_eq_true.1 h6 k (List.mem_range.2 hkm)
    refine good_needs ?_ (good_out ⟨?_, .cons (ABeq.refl _) (.cons (ABeq.refl _) (.cons (ABeq.refl _) (.cons (ABeq.refl _) (.cons (ABeq.row fun j hj => (all8_get h5 j hj).symm) .nil))))⟩)
    · simp only [ob_cons, ob_nil, and_true, Bool.not_eq_true', decide_eq_false_iff_not, decide_eq_true_eq]
      exact ⟨by omega, hkm, by omega, by omega, hin, ha.2⟩
    · show [AV.agg (cyC (turnedF (w8 (it8 g k)) _))] = [AV.agg (cyC (turnedF (w8 (it8 g k)) _))]
      rw [ha.1]
  · cases hF

/-- Sums of turned points, so far. -/
def trS (f : Nat → Nat → Int) (n j : Int) : Nat → Nat → Int
  | 0 => fun _ => 0
  | k + 1 => plusF (w8 (trS f n j k)) (w8 (tuF (w8 (f k)) (agC n j k)))
def trB (f : Nat → Nat → Int) (n j : Int) (k : Nat) : Bool := !cyOk (cyOf (trS f n j (k + 1)))
def trK (f : Nat → Nat → Int) (n j : Int) : Bool := noneTo (trB f n j) n.toNat
def trV (f : Nat → Nat → Int) (n j : Int) : Nat → Int := bif trK f n j then trS f n j n.toNat else fun _ => 0
theorem trS_row (f : Nat → Nat → Int) (n j : Int) : ∀ k, trS (it8 (row8 f)) n j k = trS f n j k
  | 0 => rfl
  | k + 1 => by rw [trS, trS, trS_row f n j k]; rfl
theorem trK_row (f : Nat → Nat → Int) (n j : Int) : trK (it8 (row8 f)) n j = trK f n j := by
  unfold trK trB
  simp only [trS_row]
theorem trV_row (f : Nat → Nat → Int) (n j : Int) : trV (it8 (row8 f)) n j = trV f n j := by
  unfold trV
  rw [trK_row, trS_row]
theorem gmSO_ok : GamOk Try.prog (gmSO tuF plusF fun v => cyOk (cyOf v)) := by
  have e2 : fAdd2 plusF = f_plus := by funext l; rfl
  unfold gmSO
  rw [fOkc_eq, e2]
  exact ext_ok (ext_ok (ext_ok g0_ok ok_t1) ok_plus) ok_cvI
theorem sumSO (f : Nat → Nat → Int) (j : Int) (n : Nat) (hj : inR j 0 23 = true) (hn : roV n = true) (hin : ∀ i, i < n → inB (w8 (f i)) = true) :
    SumOk Try.prog 5 (.block 0 (.loop (loopAt 0 fSO))) (atS 26 (lvSO .normal) 5 (stSO n 0) (hpSOt n f (-1) j n (fun _ => 0) fun _ => 0) (fun K => cond (trK f n j) (K .normal (mkT 0 26 [(4, .ptr 5 0 0 0), (6, .ptr 6 0 0 0)]) (hpSOt n f (-1) j n (fun _ => 0) (trS f n j n))) (K .ret (mkT 0 26 [(4, .ptr 5 0 0 0), (5, .v (.bool false))]) [.cells [.sl 4 8 0 0 n none] 48, .cells [.v (i64 (-1))] 3, .cells [.v (i64 j)] 3, .cells [.v (i64 n)] 3, .row false n 8 (row8 f) 31, .cells (cyC fun _ => 0) 31]))) := by
  refine for_at gmSO_ok (n := 100) (m := 5) (lv := lvSO) (fun i => stSO n i) (fun i => hpSOt n f (-1) j n (fun _ => 0) (trS f n j i)) (fun i => noneTo (trB f n j) i = true) n (fun _ => noLam) (lv3_ris rfl rfl rfl) (Nat.le_refl _) rfl fun K Q hk i hi him => ⟨noLam_ok _ _ _, ?_⟩
  have hv := roV_in hn
  rw [rndSO]
  refine good_cond (fun c1 => ?_) fun c1 => ?_
  · have c1 := of_decide_eq_true c1
    have c1' : i < n := by omega
    rw [wr_in (x := (i : Int) + 1) (by omega)]
    have hall : ((List.range n).all fun i => inB (w8 (it8 (row8 f) i))) = true := List.all_eq_true.2 fun i hi => hin i (List.mem_range.1 hi)
    refine good_needs ?_ (good_cond (fun q => ?_) fun q => ?_)
    · simp only [ob_cons, ob_nil, and_true, Bool.and_true, decide_eq_true_eq, Nat.blt_eq, beq_me, all8_row, hall, hj, hn, true_and]
      omega
    · refine good_out ⟨_, Hsim.refl _, ?_⟩
      have hb : trB f n j i = true := q
      have : trK f n j = false := by
        rw [trK, Int.toNat_natCast]
        exact noneTo_no c1' hb
      rw [this] at hk
      exact hk
    · exact good_out ⟨i + 1, ⟨rfl, c1', noneTo_succ hi q⟩, rfl, Hsim.refl _⟩
  · have c1 := of_decide_eq_false c1
    have : i = n := by omega
    subst this
    refine good_out ⟨_, Hsim.refl _, ?_⟩
    rw [if_pos rfl]
    have : trK f i j = true := by
      rw [trK, Int.toNat_natCast]
      exact hi
    rw [this] at hk
    exact hk
theorem ok_so : SpecOk Try.prog 161 (specQ [] (FsoO trV trK)) := by
  refine specQ_ok g0_ok Try.func161 rfl fun avs H kr hF ho => ?_
  unfold FsoO at hF
  split at hF
  · rename_i n' m ta d tb j tc n td m2 g te
    cases hF
    simp only [ob_cons] at ho
    obtain ⟨h1, h2, h3, h4, h5, h6, h7, h8, t1, t2, t3, t4, t5, _⟩ := ho
    have h1 := of_decide_eq_true h1
    have h2 := of_decide_eq_true h2
    have h3 := Nat.eq_of_beq_eq_true h3
    have h6 := of_decide_eq_true h6
    have t1 := Nat.eq_of_beq_eq_true t1
    have t2 := Nat.eq_of_beq_eq_true t2
    have t3 := Nat.eq_of_beq_eq_true t3
    have t4 := Nat.eq_of_beq_eq_true t4
    have t5 := Nat.eq_of_beq_eq_true t5
    subst h1 h2 h3 h6 t1 t2 t3 t4 t5
    refine ⟨hpT m (it8 g) (-1) j m, lamSO m (it8 g) (-1) j m (trK (it8 g) m j) (trS (it8 g) m j m), 100, .cons (ABeq.refl _) (.cons (ABeq.refl _) (.cons (ABeq.refl _) (.cons (ABeq.refl _) (.cons (ABeq.row fun j hj => all8_get h4 j hj) .nil)))), lam1 (by kernel_rfl) (sumSO (it8 g) j m h7 h8 fun i hi => List.all_eq_true.1 h5 i (List.mem_range.2 hi)), ?_⟩
    show GoodQ (execF Try.prog g0 (lamSO m (it8 g) (-1) j m (trK (it8 g) m j) (trS (it8 g) m j m)) 100 fSO [.v (i64 (m : Nat)), fnT1] (hpT m (it8 g) (-1) j m) (packK 5)) _
    rw [treeSO]
    refine good_needs (by rw [ob_cons]; exact ⟨chk_of ⟨rfl, Hsim.refl _⟩, rfl⟩) (good_cond (fun q => ?_) fun q => ?_)
    · refine good_out ⟨?_, .cons (ABeq.refl _) (.cons (ABeq.refl _) (.cons (ABeq.refl _) (.cons (ABeq.refl _) (.cons (ABeq.row fun j hj => (all8_get h4 j hj).symm) .nil))))⟩
      rw [trV, q]
      rfl
    · refine good_out ⟨?_, .cons (ABeq.refl _) (.cons (ABeq.refl _) (.cons (ABeq.refl _) (.cons (ABeq.refl _) (.cons (ABeq.row fun j hj => (all8_get h4 j hj).symm) .nil))))⟩
      rw [trV, q]
      rfl
  · cases hF

end Go.Proofs.Ytmdcafhnjihckaa

/- Single points of both. Conditions: a point. -/
namespace Go.Proofs.Ytmdcafhnjihckaa
open Go.RowKit
set_option maxRecDepth 100000

/-- The roots, as single numbers. -/
def rtR : Nat → Nat
  | 0 => 1065353216
  | 1 => 1064781546
  | 2 => 1063105495
  | 3 => 1060439283
  | 4 => 1056964608
  | 5 => 1048871918
  | 6 => 0
  | _ => 3196355566
def rtM : Nat → Nat
  | 0 => 0
  | 1 => 1048871918
  | 2 => 1056964608
  | 3 => 1060439283
  | 4 => 1063105495
  | 5 => 1064781546
  | 6 => 1065353216
  | _ => 1064781546
def pdR (a : Nat → Int) (k : Nat) : Option Nat := FloatKind.f32.format.mul (FloatKind.f32.nearest (a k)) (rtR k)
def pdM (a : Nat → Int) (k : Nat) : Option Nat := FloatKind.f32.format.mul (FloatKind.f32.nearest (a k)) (rtM k)
def smR (a : Nat → Int) : Nat → Nat
  | 0 => 0
  | k + 1 => (FloatKind.f32.format.add (smR a k) ((pdR a k).getD 0)).getD 0
def smM (a : Nat → Int) : Nat → Nat
  | 0 => 0
  | k + 1 => (FloatKind.f32.format.add (smM a k) ((pdM a k).getD 0)).getD 0
def obS (a : Nat → Int) : List Bool := (List.range 8).flatMap fun k => [(pdR a k).isSome, (pdM a k).isSome, (FloatKind.f32.format.add (smR a k) ((pdR a k).getD 0)).isSome, (FloatKind.f32.format.add (smM a k) ((pdM a k).getD 0)).isSome]
theorem exSg (a : Nat → Int) : execF Try.prog g0 noLam 100 Try.f88 [.v (cyv a)] [] valK = needs (obS a) (.out .ret [.v (.complex .f32 (smR a 8) (smM a 8))] []) := by kernel_rfl
def gmCv (ok : (Nat → Int) → Bool) : Gam := ext g0 121 (specV (fOkc ok))
theorem exSp (ok : (Nat → Int) → Bool) (a : Nat → Int) : execF Try.prog (gmCv ok) noLam 100 Try.f90 [.v (cyv a)] [] (packK 0) = cond (!ok (w8 a)) (.out .ret [.tup [.v (.complex .f32 0 0), .v (.bool false)]] []) (needs (obS a) (.out .ret [.tup [.v (.complex .f32 (smR a 8) (smM a 8)), .v (.bool true)]] [])) := by kernel_rfl

end Go.Proofs.Ytmdcafhnjihckaa

/- RowValid, TransformOf of both: trees. Conditions: a row of points. -/
namespace Go.Proofs.Ytmdcafhnjihckaa
open Go.RowKit
set_option maxRecDepth 100000

noncomputable abbrev lamIg (m : Nat) (f : Nat → Nat → Int) (c : Bool) (x : Int) : Nat → Option Sum := oneL 0 (atS 19 (lvIy .normal) 1 [.sl 0 8 0 0 m none, fnIy, .v (i64 m), .v (i64 (0 : Nat))] (hpIy m f) (fun K => cond c (K .normal (mkT 0 19 []) (hpIy m f)) (K .ret (mkT 0 19 [(4, .v (i64 x))]) (hpIy m f))))
theorem treeIg (m : Nat) (f : Nat → Nat → Int) (c : Bool) (x : Int) : execF Try.prog g0 (lamIg m f c x) 100 fIC [.sl 0 8 0 0 m none, fnIy] (hpIy m f) (packK 1)
    = needs [chk ([AV.sl (0 : Nat) (8 : Nat) (0 : Nat) (0 : Nat) m none, AV.v (Value.func (Fn.func (160 : FuncId)) (Array.mk []) (Array.mk [])), AV.v (Value.int IntKind.i64 (↑m : Int)), AV.v (Value.int IntKind.i64 (0 : Int))] = [AV.sl (0 : Nat) (8 : Nat) (0 : Nat) (0 : Nat) m none, fnIy, AV.v (Value.int IntKind.i64 (↑m : Int)), AV.v (Value.int IntKind.i64 (0 : Int))] ∧ Hsim [AB.row false m (8 : Nat) (row8 f) (31 : TypeId)] (hpIy m f))] (bif c then Res.out Ex.ret [AV.v (Value.int IntKind.i64 (-1 : Int))] [AB.row false m (8 : Nat) (row8 f) (31 : TypeId)] else Res.out Ex.ret [AV.v (Value.int IntKind.i64 x)] [AB.row false m (8 : Nat) (row8 f) (31 : TypeId)]) := by kernel_rfl

def FicO (o : (Nat → Nat → Int) → Nat → Int) : List SA → Option FR
  | [.row m g, .v (.func (.func f) ⟨[]⟩ ⟨[]⟩)] => some { val := .v (i64 (o (it8 g) m)), obl := [Nat.beq f 160, all8 m g, decide (m ≤ 2 ^ 38)] }
  | _ => none
def gmRvI (o : (Nat → Nat → Int) → Nat → Int) : Gam := ext gm_within 175 (specR md_ic (FicO o))
theorem treeRvI (o : (Nat → Nat → Int) → Nat → Int) (m : Nat) (f : Nat → Nat → Int) : execF Try.prog (gmRvI o) noLam 100 Try.f137 [.sl 0 8 0 0 m none] (hpIy m f) (packK 1)
    = bif decide ((↑m : Int) ≥ (1 : Int)) then needs [!decide ((↑m : Int) = (0 : Int))] (bif Int.tmod (24 : Int) (↑m : Int) == (0 : Int) then needs [Nat.ble ((0 : Nat) + m) m, all8 m fun q ↦ row8 f ((0 : Nat) + q), decide (m ≤ (274877906944 : Nat))] (Res.out Ex.ret [AV.v (Value.bool !decide (o (it8 fun q ↦ row8 f ((0 : Nat) + q)) m ≥ (0 : Int)))] [AB.row false m (8 : Nat) (row8 f) (31 : TypeId)]) else Res.out Ex.ret [AV.v (Value.bool false)] [AB.row false m (8 : Nat) (row8 f) (31 : TypeId)]) else Res.out Ex.ret [AV.v (Value.bool false)] [AB.row false m (8 : Nat) (row8 f) (31 : TypeId)] := by kernel_rfl

def md_c8 : List Md := [.rd 8 31]
def FrvO (rv : (Nat → Nat → Int) → Nat → Bool) : List SA → Option FR
  | [.row m g] => some { val := .v (.bool (rv (it8 g) m)), obl := [all8 m g, decide (m ≤ 2 ^ 38)] }
  | _ => none
noncomputable abbrev fRvS : Func := Try.f163
abbrev lvRv : Ex → List Nat := lv3 [0, 3] [0] [2]
theorem rndRvS (ok : (Nat → Int) → Bool) (m : Nat) (f : Nat → Nat → Int) (i : Nat) : execC Try.prog (gmCv ok) 100 noLam (loopAt 0 fRvS) (mkT 0 19 ((lvRv .normal).zip [.sl 0 8 0 0 m none, .v (i64 i)])) (hpIy m f) (leafV 19 lvRv 1)
    = bif decide ((↑i : Int) < (↑m : Int)) then needs [decide ((↑i : Int) < (↑m : Int)), decide ((0 : Nat) + Int.toNat (↑i : Int) < m)] (bif !ok (w8 (f ((0 : Nat) + Int.toNat (↑i : Int)))) then Res.out Ex.ret [AV.v (Value.bool false)] [AB.row false m (8 : Nat) (row8 f) (31 : TypeId)] else Res.out Ex.normal [AV.sl (0 : Nat) (8 : Nat) (0 : Nat) (0 : Nat) m none, AV.v (Value.int IntKind.i64 (IntKind.wrap IntKind.i64 ((↑i : Int) + (1 : Int))))] [AB.row false m (8 : Nat) (row8 f) (31 : TypeId)]) else Res.out (Ex.exit (0 : Nat)) [AV.sl (0 : Nat) (8 : Nat) (0 : Nat) (0 : Nat) m none] [AB.row false m (8 : Nat) (row8 f) (31 : TypeId)] := by kernel_rfl

noncomputable abbrev lamRv (m : Nat) (f : Nat → Nat → Int) (c : Bool) : Nat → Option Sum := oneL 0 (atS 19 (lvRv .normal) 1 [.sl 0 8 0 0 m none, .v (i64 (0 : Nat))] (hpIy m f) (fun K => cond c (K .normal (mkT 0 19 [(0, .sl 0 8 0 0 m none)]) (hpIy m f)) (K .ret (mkT 0 19 [(2, .v (.bool false))]) (hpIy m f))))
theorem treeRvS (m : Nat) (f : Nat → Nat → Int) (c : Bool) : execF Try.prog gm_l6In (lamRv m f c) 100 fRvS [.sl 0 8 0 0 m none] (hpIy m f) (packK 1)
    = needs [chk ([AV.sl (0 : Nat) (8 : Nat) (0 : Nat) (0 : Nat) m none, AV.v (Value.int IntKind.i64 (0 : Int))] = [AV.sl (0 : Nat) (8 : Nat) (0 : Nat) (0 : Nat) m none, AV.v (Value.int IntKind.i64 (0 : Int))] ∧ Hsim [AB.row false m (8 : Nat) (row8 f) (31 : TypeId)] (hpIy m f))] (bif c then bif decide ((↑m : Int) ≥ (1 : Int)) then bif decide ((↑m : Int) ≤ (24 : Int)) then needs [!decide ((↑m : Int) = (0 : Int))] (Res.out Ex.ret [AV.v (Value.bool (Int.tmod (24 : Int) (↑m : Int) == (0 : Int)))] [AB.row false m (8 : Nat) (row8 f) (31 : TypeId)]) else Res.out Ex.ret [AV.v (Value.bool false)] [AB.row false m (8 : Nat) (row8 f) (31 : TypeId)] else Res.out Ex.ret [AV.v (Value.bool false)] [AB.row false m (8 : Nat) (row8 f) (31 : TypeId)] else Res.out Ex.ret [AV.v (Value.bool false)] [AB.row false m (8 : Nat) (row8 f) (31 : TypeId)]) := by kernel_rfl

def FtrY (rv tk : (Nat → Nat → Int) → Nat → Bool) (tT : (Nat → Nat → Int) → Nat → List Cy) : List SA → Option FR
  | [.row m g, .v (.int .i64 d)] => some { val := valG (tT (it8 g) m), new := newG (tT (it8 g) m), obl := [all8 m g, decide (d = -1), rv (it8 g) m, tk (it8 g) m] }
  | _ => none
def FtrN (rv tk : (Nat → Nat → Int) → Nat → Bool) : List SA → Option FR
  | [.row m g, .v (.int .i64 d)] => some { val := valN, obl := [all8 m g, decide (d = -1), rv (it8 g) m, !tk (it8 g) m] }
  | _ => none
def gmToY (rv tk : (Nat → Nat → Int) → Nat → Bool) (tT : (Nat → Nat → Int) → Nat → List Cy) : Gam := ext (ext g0 137 (specR md_c8 (FrvO rv))) 138 (specR md_cv (FtrY rv tk tT))
def gmToN (rv tk : (Nat → Nat → Int) → Nat → Bool) : Gam := ext (ext g0 137 (specR md_c8 (FrvO rv))) 138 (specR md_cv (FtrN rv tk))
theorem treeToY (rv tk : (Nat → Nat → Int) → Nat → Bool) (tT : (Nat → Nat → Int) → Nat → List Cy) (m : Nat) (f : Nat → Nat → Int) : execF Try.prog (gmToY rv tk tT) noLam 100 Try.f85 [.sl 0 8 0 0 m none] (hpIy m f) (packK 1)
    = needs [Nat.ble ((0 : Nat) + m) m, all8 m fun q ↦ row8 f ((0 : Nat) + q), decide (m ≤ (274877906944 : Nat))] (bif !rv (it8 fun q ↦ row8 f ((0 : Nat) + q)) m then Res.out Ex.ret [AV.tup [AV.v (Value.slice none (0 : Nat) (0 : Nat)), AV.v (Value.bool false)]] [AB.row false m (8 : Nat) (row8 f) (31 : TypeId)] else needs [Nat.ble ((0 : Nat) + m) m, all8 m fun q ↦ row8 f ((0 : Nat) + q), rv (it8 fun q ↦ row8 f ((0 : Nat) + q)) m, tk (it8 fun q ↦ row8 f ((0 : Nat) + q)) m] (Res.out Ex.ret [AV.tup [AV.own (1 : Nat) (List.length (tT (it8 fun q ↦ row8 f ((0 : Nat) + q)) m)), AV.v (Value.bool true)]] [AB.row false m (8 : Nat) (row8 f) (31 : TypeId), AB.row true (List.length (tT (it8 fun q ↦ row8 f ((0 : Nat) + q)) m)) (8 : Nat) (row8 (cfun (tT (it8 fun q ↦ row8 f ((0 : Nat) + q)) m))) (31 : TypeId)])) := by kernel_rfl

theorem treeToN (rv tk : (Nat → Nat → Int) → Nat → Bool) (m : Nat) (f : Nat → Nat → Int) : execF Try.prog (gmToN rv tk) noLam 100 Try.f85 [.sl 0 8 0 0 m none] (hpIy m f) (packK 1)
    = needs [Nat.ble ((0 : Nat) + m) m, all8 m fun q ↦ row8 f ((0 : Nat) + q), decide (m ≤ (274877906944 : Nat))] (bif !rv (it8 fun q ↦ row8 f ((0 : Nat) + q)) m then Res.out Ex.ret [AV.tup [AV.v (Value.slice none (0 : Nat) (0 : Nat)), AV.v (Value.bool false)]] [AB.row false m (8 : Nat) (row8 f) (31 : TypeId)] else needs [Nat.ble ((0 : Nat) + m) m, all8 m fun q ↦ row8 f ((0 : Nat) + q), rv (it8 fun q ↦ row8 f ((0 : Nat) + q)) m, !tk (it8 fun q ↦ row8 f ((0 : Nat) + q)) m] (Res.out Ex.ret [AV.tup [AV.v (Value.slice none (0 : Nat) (0 : Nat)), AV.v (Value.bool false)]] [AB.row false m (8 : Nat) (row8 f) (31 : TypeId)])) := by kernel_rfl

noncomputable abbrev fTs : Func := Try.f139
def gmTs2 (md : Int → Int) (tu : (Nat → Int) → Int → Nat → Int) (ad : (Nat → Int) → Int → (Nat → Int) → Nat → Int) (ok : (Nat → Int) → Bool) : Gam := ext (ext (ext (ext g0 76 (specV (fMd md))) 77 (specR [.val, .val] (FtuO tu))) 121 (specV (fOkc ok))) 152 (specV (fAdd3 ad))
abbrev lvTs2 : Ex → List Nat := lv3 [0, 1, 6, 7, 8, 9, 10] [0, 1, 6, 7, 8, 9] [4, 5]
abbrev stTs2 (m : Nat) (d : Int) (i : Nat) (k : Nat) : List AV := [.sl 0 8 0 0 m none, .v (i64 d), .own 1 i, .v (i64 m), .v (i64 i), .ptr 2 0 0 0, .v (i64 k)]
abbrev hpTs2 (m : Nat) (f : Nat → Nat → Int) (i : Nat) (h : Nat → Nat → Int) (s : Nat → Int) : List AB := [.row false m 8 (row8 f) 31, .row true i 8 (row8 h) 31, .cells (cyC s) 31]
theorem rndTs2 (md : Int → Int) (tu : (Nat → Int) → Int → Nat → Int) (ad : (Nat → Int) → Int → (Nat → Int) → Nat → Int) (ok : (Nat → Int) → Bool) (m : Nat) (f : Nat → Nat → Int) (d : Int) (i : Nat) (h : Nat → Nat → Int) (s : Nat → Int) (k : Nat) : execC Try.prog (gmTs2 md tu ad ok) 100 noLam (loopAt 2 fTs) (mkT 0 54 ((lvTs2 .normal).zip (stTs2 m d i k))) (hpTs2 m f i h s) (leafV 54 lvTs2 1)
    = bif decide ((↑k : Int) < (↑m : Int)) then needs [decide ((↑k : Int) < (↑m : Int)), decide ((0 : Nat) + Int.toNat (↑k : Int) < m), !decide ((↑m : Int) = (0 : Int)), decide (md (IntKind.wrap IntKind.i64 (IntKind.wrap IntKind.i64 (IntKind.wrap IntKind.i64 (d * (↑i : Int)) * (↑k : Int)) * IntKind.wrap IntKind.i64 (Int.tdiv (24 : Int) (↑m : Int)))) ≤ (1099511627776 : Int))] (bif !ok (w8 (ad (w8 s) (1 : Int) (w8 (tu (w8 (f ((0 : Nat) + Int.toNat (↑k : Int)))) (md (IntKind.wrap IntKind.i64 (IntKind.wrap IntKind.i64 (IntKind.wrap IntKind.i64 (d * (↑i : Int)) * (↑k : Int)) * IntKind.wrap IntKind.i64 (Int.tdiv (24 : Int) (↑m : Int))))))))) then Res.out Ex.ret [AV.own (1 : Nat) (0 : Nat), AV.v (Value.bool false)] [AB.row false m (8 : Nat) (row8 f) (31 : TypeId), AB.row true (0 : Nat) (8 : Nat) (fun _ ↦ []) (31 : Nat)] else Res.out Ex.normal [AV.sl (0 : Nat) (8 : Nat) (0 : Nat) (0 : Nat) m none, AV.v (Value.int IntKind.i64 d), AV.own (1 : Nat) i, AV.v (Value.int IntKind.i64 (↑m : Int)), AV.v (Value.int IntKind.i64 (↑i : Int)), AV.ptr (2 : Nat) (0 : Nat) (0 : Nat) (0 : Nat), AV.v (Value.int IntKind.i64 (IntKind.wrap IntKind.i64 ((↑k : Int) + (1 : Int))))] [AB.row false m (8 : Nat) (row8 f) (31 : TypeId), AB.row true i (8 : Nat) (row8 h) (31 : TypeId), AB.cells [AV.v (Value.int IntKind.i64 (ad (w8 s) (1 : Int) (w8 (tu (w8 (f ((0 : Nat) + Int.toNat (↑k : Int)))) (md (IntKind.wrap IntKind.i64 (IntKind.wrap IntKind.i64 (IntKind.wrap IntKind.i64 (d * (↑i : Int)) * (↑k : Int)) * IntKind.wrap IntKind.i64 (Int.tdiv (24 : Int) (↑m : Int))))))) (0 : Nat))), AV.v (Value.int IntKind.i64 (ad (w8 s) (1 : Int) (w8 (tu (w8 (f ((0 : Nat) + Int.toNat (↑k : Int)))) (md (IntKind.wrap IntKind.i64 (IntKind.wrap IntKind.i64 (IntKind.wrap IntKind.i64 (d * (↑i : Int)) * (↑k : Int)) * IntKind.wrap IntKind.i64 (Int.tdiv (24 : Int) (↑m : Int))))))) (1 : Nat))), AV.v (Value.int IntKind.i64 (ad (w8 s) (1 : Int) (w8 (tu (w8 (f ((0 : Nat) + Int.toNat (↑k : Int)))) (md (IntKind.wrap IntKind.i64 (IntKind.wrap IntKind.i64 (IntKind.wrap IntKind.i64 (d * (↑i : Int)) * (↑k : Int)) * IntKind.wrap IntKind.i64 (Int.tdiv (24 : Int) (↑m : Int))))))) (2 : Nat))), AV.v (Value.int IntKind.i64 (ad (w8 s) (1 : Int) (w8 (tu (w8 (f ((0 : Nat) + Int.toNat (↑k : Int)))) (md (IntKind.wrap IntKind.i64 (IntKind.wrap IntKind.i64 (IntKind.wrap IntKind.i64 (d * (↑i : Int)) * (↑k : Int)) * IntKind.wrap IntKind.i64 (Int.tdiv (24 : Int) (↑m : Int))))))) (3 : Nat))), AV.v (Value.int IntKind.i64 (ad (w8 s) (1 : Int) (w8 (tu (w8 (f ((0 : Nat) + Int.toNat (↑k : Int)))) (md (IntKind.wrap IntKind.i64 (IntKind.wrap IntKind.i64 (IntKind.wrap IntKind.i64 (d * (↑i : Int)) * (↑k : Int)) * IntKind.wrap IntKind.i64 (Int.tdiv (24 : Int) (↑m : Int))))))) (4 : Nat))), AV.v (Value.int IntKind.i64 (ad (w8 s) (1 : Int) (w8 (tu (w8 (f ((0 : Nat) + Int.toNat (↑k : Int)))) (md (IntKind.wrap IntKind.i64 (IntKind.wrap IntKind.i64 (IntKind.wrap IntKind.i64 (d * (↑i : Int)) * (↑k : Int)) * IntKind.wrap IntKind.i64 (Int.tdiv (24 : Int) (↑m : Int))))))) (5 : Nat))), AV.v (Value.int IntKind.i64 (ad (w8 s) (1 : Int) (w8 (tu (w8 (f ((0 : Nat) + Int.toNat (↑k : Int)))) (md (IntKind.wrap IntKind.i64 (IntKind.wrap IntKind.i64 (IntKind.wrap IntKind.i64 (d * (↑i : Int)) * (↑k : Int)) * IntKind.wrap IntKind.i64 (Int.tdiv (24 : Int) (↑m : Int))))))) (6 : Nat))), AV.v (Value.int IntKind.i64 (ad (w8 s) (1 : Int) (w8 (tu (w8 (f ((0 : Nat) + Int.toNat (↑k : Int)))) (md (IntKind.wrap IntKind.i64 (IntKind.wrap IntKind.i64 (IntKind.wrap IntKind.i64 (d * (↑i : Int)) * (↑k : Int)) * IntKind.wrap IntKind.i64 (Int.tdiv (24 : Int) (↑m : Int))))))) (7 : Nat)))] (31 : TypeId)]) else Res.out (Ex.exit (2 : Nat)) [AV.sl (0 : Nat) (8 : Nat) (0 : Nat) (0 : Nat) m none, AV.v (Value.int IntKind.i64 d), AV.own (1 : Nat) i, AV.v (Value.int IntKind.i64 (↑m : Int)), AV.v (Value.int IntKind.i64 (↑i : Int)), AV.ptr (2 : Nat) (0 : Nat) (0 : Nat) (0 : Nat)] [AB.row false m (8 : Nat) (row8 f) (31 : TypeId), AB.row true i (8 : Nat) (row8 h) (31 : TypeId), AB.cells [AV.v (Value.int IntKind.i64 (s (0 : Nat))), AV.v (Value.int IntKind.i64 (s (1 : Nat))), AV.v (Value.int IntKind.i64 (s (2 : Nat))), AV.v (Value.int IntKind.i64 (s (3 : Nat))), AV.v (Value.int IntKind.i64 (s (4 : Nat))), AV.v (Value.int IntKind.i64 (s (5 : Nat))), AV.v (Value.int IntKind.i64 (s (6 : Nat))), AV.v (Value.int IntKind.i64 (s (7 : Nat)))] (31 : TypeId)] := by kernel_rfl

end Go.Proofs.Ytmdcafhnjihckaa

/- RowValid of both; the program's transform and TransformOf. Conditions: a row of points. -/
namespace Go.Proofs.Ytmdcafhnjihckaa
open Go.RowKit
set_option maxRecDepth 100000

def bdC (f : Nat → Nat → Int) (i : Nat) : Bool := !cyOk (cyOf (f i))
theorem bdC_cv (f : Nat → Nat → Int) (m : Nat) : noneTo (bdC f) m = cvB f m := by
  unfold noneTo cvB bdC
  simp only [Bool.not_not]
theorem bdC_row (f : Nat → Nat → Int) (m : Nat) : fstAt (bdC (it8 (row8 f))) m = fstAt (bdC f) m := fstAt_congr fun _ _ => rfl
theorem cvB_row (f : Nat → Nat → Int) (m : Nat) : cvB (it8 (row8 f)) m = cvB f m := rfl
theorem rvB_row (f : Nat → Nat → Int) (m : Nat) : rvB (it8 (row8 f)) m = rvB f m := rfl
theorem sumIg (m : Nat) (f : Nat → Nat → Int) (hm : m ≤ 2 ^ 40) :
    SumOk Try.prog 1 (.block 0 (.loop (loopAt 0 fIC))) (atS 19 (lvIy .normal) 1 [.sl 0 8 0 0 m none, fnIy, .v (i64 m), .v (i64 (0 : Nat))] (hpIy m f) (fun K => cond (noneTo (bdC f) m) (K .normal (mkT 0 19 []) (hpIy m f)) (K .ret (mkT 0 19 [(4, .v (i64 (fstAt (bdC f) m)))]) (hpIy m f)))) := by
  refine for_at gmIy_ok (n := 100) (m := 1) (lv := lvIy) (fun i => [.sl 0 8 0 0 m none, fnIy, .v (i64 m), .v (i64 (i : Nat))]) (fun _ => hpIy m f) (fun i => noneTo (bdC f) i = true) m (fun _ => noLam) (lv3_ris rfl rfl rfl) (Nat.le_refl _) rfl fun K Q hk i hi him => ⟨noLam_ok _ _ _, ?_⟩
  rw [rndIy]
  simp only [Int.toNat_natCast, Nat.zero_add]
  refine good_cond (fun c1 => ?_) fun c1 => ?_
  · have c1 := of_decide_eq_true c1
    have c1' : i < m := by omega
    rw [wr_in (x := (i : Int) + 1) (by omega)]
    refine good_needs (by simp only [ob_cons, ob_nil, and_true, decide_eq_true_eq]; omega) (good_cond (fun q => ?_) fun q => ?_)
    · have hb : bdC f i = true := q
      refine good_out ⟨_, Hsim.refl _, ?_⟩
      rw [noneTo_no c1' hb, fstAt_at hi c1' hb] at hk
      exact hk
    · have hb : bdC f i = false := q
      exact good_out ⟨i + 1, ⟨rfl, c1', noneTo_succ hi hb⟩, rfl, Hsim.refl _⟩
  · have c1 := of_decide_eq_false c1
    have : i = m := by omega
    subst this
    refine good_out ⟨_, Hsim.refl _, ?_⟩
    rw [if_pos rfl]
    rw [hi] at hk
    exact hk
theorem ok_ic : SpecOk Try.prog 175 (specR md_ic (FicO fun f m => fstAt (bdC f) m)) := by
  refine specR_hr g0_ok Try.func175 rfl fun sas fr hF ho => ?_
  unfold FicO at hF
  split at hF
  · rename_i m g fi
    cases hF
    simp only [ob_cons] at ho
    obtain ⟨h0, h1, h2, _⟩ := ho
    have h0 := Nat.eq_of_beq_eq_true h0
    subst h0
    have hm := of_decide_eq_true h2
    refine ⟨hpIy m (it8 g), lamIg m (it8 g) (noneTo (bdC (it8 g)) m) (fstAt (bdC (it8 g)) m), 100, .cons (ABeq.row fun j hj => all8_get h1 j hj) .nil, lam1 (by kernel_rfl) (sumIg m (it8 g) (by omega)), ?_⟩
    show GoodQ (execF Try.prog g0 (lamIg m (it8 g) (noneTo (bdC (it8 g)) m) (fstAt (bdC (it8 g)) m)) 100 fIC [.sl 0 8 0 0 m none, fnIy] (hpIy m (it8 g)) (packK 1)) _
    rw [treeIg]
    refine good_needs (by rw [ob_cons]; exact ⟨chk_of ⟨rfl, Hsim.refl _⟩, rfl⟩) (good_cond (fun q => ?_) fun q => ?_)
    · exact good_out ⟨_, rfl, by show [AV.v (i64 (-1))] = [AV.v (i64 (fstAt (bdC (it8 g)) m))]; rw [fstAt_no q], .cons (ABeq.row fun j hj => (all8_get h1 j hj).symm) .nil⟩
    · exact good_out ⟨_, rfl, rfl, .cons (ABeq.row fun j hj => (all8_get h1 j hj).symm) .nil⟩
  · cases hF
theorem ok_rvI : SpecOk Try.prog 137 (specR md_c8 (FrvO rvB)) := by
  refine specR_hr (Γ := gmRvI fun f m => fstAt (bdC f) m) (ext_ok gm_within_ok ok_ic) Try.func137 rfl fun sas fr hF ho => ?_
  unfold FrvO at hF
  split at hF
  · rename_i m g
    cases hF
    simp only [ob_cons] at ho
    obtain ⟨h1, h2, _⟩ := ho
    have hm := of_decide_eq_true h2
    have fin : ∀ b, rvB (it8 g) m = b → GoodQ (.out .ret [.v (.bool b)] (hpIy m (it8 g))) (GivR (abP md_c8 [.row m g] []) { val := .v (.bool (rvB (it8 g) m)), obl := [all8 m g, decide (m ≤ 2 ^ 38)] }) := fun b hb =>
      good_out ⟨_, rfl, by rw [hb], .cons (ABeq.row fun j hj => (all8_get h1 j hj).symm) .nil⟩
    refine ⟨hpIy m (it8 g), noLam, 100, .cons (ABeq.row fun j hj => all8_get h1 j hj) .nil, noLam' _, ?_⟩
    show GoodQ (execF Try.prog (gmRvI fun f m => fstAt (bdC f) m) noLam 100 Try.f137 [.sl 0 8 0 0 m none] (hpIy m (it8 g)) (packK 1)) _
    rw [treeRvI]
    simp only [row80, bdC_row]
    refine good_cond (fun c1 => ?_) fun c1 => fin false (by rw [rvB, roV, c1]; rfl)
    have c1' := of_decide_eq_true c1
    refine good_needs (by simp only [ob_cons, ob_nil, and_true, Bool.not_eq_true', decide_eq_false_iff_not]; omega) (good_cond (fun c2 => ?_) fun c2 => fin false (by rw [rvB, roV, c2, Bool.and_false, Bool.and_false]; rfl))
    refine good_needs (by simp only [ob_cons, ob_nil, and_true, decide_eq_true_eq, Nat.ble_eq, all8_row, true_and]; omega) (fin _ ?_)
    rw [fstAt_ge, Bool.not_not, bdC_cv, rvB, roV, c1, c2, decide_eq_true (rs_le c1' (beq_iff_eq.1 c2))]
    rfl
  · cases hF
theorem gmCv_ok : GamOk Try.prog (gmCv fun v => cyOk (cyOf v)) := by
  unfold gmCv
  rw [fOkc_eq]
  exact ext_ok g0_ok ok_cv
theorem sumRv (m : Nat) (f : Nat → Nat → Int) (hm : m ≤ 2 ^ 40) :
    SumOk Try.prog 1 (.block 0 (.loop (loopAt 0 fRvS))) (atS 19 (lvRv .normal) 1 [.sl 0 8 0 0 m none, .v (i64 (0 : Nat))] (hpIy m f) (fun K => cond (noneTo (bdC f) m) (K .normal (mkT 0 19 [(0, .sl 0 8 0 0 m none)]) (hpIy m f)) (K .ret (mkT 0 19 [(2, .v (.bool false))]) (hpIy m f)))) := by
  refine for_at gmCv_ok (n := 100) (m := 1) (lv := lvRv) (fun i => [.sl 0 8 0 0 m none, .v (i64 (i : Nat))]) (fun _ => hpIy m f) (fun i => noneTo (bdC f) i = true) m (fun _ => noLam) (lv3_ris rfl rfl rfl) (Nat.le_refl _) rfl fun K Q hk i hi him => ⟨noLam_ok _ _ _, ?_⟩
  rw [rndRvS]
  simp only [Int.toNat_natCast, Nat.zero_add]
  refine good_cond (fun c1 => ?_) fun c1 => ?_
  · have c1 := of_decide_eq_true c1
    have c1' : i < m := by omega
    rw [wr_in (x := (i : Int) + 1) (by omega)]
    refine good_needs (by simp only [ob_cons, ob_nil, and_true, decide_eq_true_eq]; omega) (good_cond (fun q => ?_) fun q => ?_)
    · have hb : bdC f i = true := q
      refine good_out ⟨_, Hsim.refl _, ?_⟩
      rw [noneTo_no c1' hb] at hk
      exact hk
    · have hb : bdC f i = false := q
      exact good_out ⟨i + 1, ⟨rfl, c1', noneTo_succ hi hb⟩, rfl, Hsim.refl _⟩
  · have c1 := of_decide_eq_false c1
    have : i = m := by omega
    subst this
    refine good_out ⟨_, Hsim.refl _, ?_⟩
    rw [if_pos rfl]
    rw [hi] at hk
    exact hk
theorem ok_rvS : SpecOk Try.prog 163 (specR md_c8 (FrvO rvB)) := by
  refine specR_hr gm_l6In_ok Try.func163 rfl fun sas fr hF ho => ?_
  unfold FrvO at hF
  split at hF
  · rename_i m g
    cases hF
    simp only [ob_cons] at ho
    obtain ⟨h1, h2, _⟩ := ho
    have hm := of_decide_eq_true h2
    have fin : ∀ b, rvB (it8 g) m = b → GoodQ (.out .ret [.v (.bool b)] (hpIy m (it8 g))) (GivR (abP md_c8 [.row m g] []) { val := .v (.bool (rvB (it8 g) m)), obl := [all8 m g, decide (m ≤ 2 ^ 38)] }) := fun b hb =>
      good_out ⟨_, rfl, by rw [hb], .cons (ABeq.row fun j hj => (all8_get h1 j hj).symm) .nil⟩
    refine ⟨hpIy m (it8 g), lamRv m (it8 g) (noneTo (bdC (it8 g)) m), 100, .cons (ABeq.row fun j hj => all8_get h1 j hj) .nil, lam1 (by kernel_rfl) (sumRv m (it8 g) (by omega)), ?_⟩
    show GoodQ (execF Try.prog gm_l6In (lamRv m (it8 g) (noneTo (bdC (it8 g)) m)) 100 fRvS [.sl 0 8 0 0 m none] (hpIy m (it8 g)) (packK 1)) _
    rw [treeRvS]
    refine good_needs (by rw [ob_cons]; exact ⟨chk_of ⟨rfl, Hsim.refl _⟩, rfl⟩) (good_cond (fun q => ?_) fun q => fin false (by rw [rvB, ← bdC_cv, q, Bool.and_false]))
    have e : rvB (it8 g) m = roV m := by rw [rvB, ← bdC_cv, q, Bool.and_true]
    refine good_cond (fun c1 => ?_) fun c1 => fin false (by rw [e, roV, c1]; rfl)
    have c1' := of_decide_eq_true c1
    refine good_cond (fun c2 => ?_) fun c2 => fin false (by rw [e, roV, c1, c2]; rfl)
    exact good_needs (by simp only [ob_cons, ob_nil, and_true, Bool.not_eq_true', decide_eq_false_iff_not]; omega) (fin _ (by rw [e, roV, c1, c2]; rfl))
  · cases hF

def trF (f : Nat → Nat → Int) (n : Int) : Nat → Nat → Int := fun j => trV f n j
theorem trF_row (f : Nat → Nat → Int) (n : Int) : trF (it8 (row8 f)) n = trF f n := by
  funext j
  exact trV_row f n j
/-- All sums are points. -/
def tbK (f : Nat → Nat → Int) (m : Nat) (j : Nat) : Bool := !trK f m j
def tkB (f : Nat → Nat → Int) (m : Nat) : Bool := noneTo (tbK f m) m
def tTf (f : Nat → Nat → Int) (m : Nat) : List Cy := listC (trF f m) m
def toK (f : Nat → Nat → Int) (m : Nat) : Bool := rvB f m && tkB f m
def toT (f : Nat → Nat → Int) (m : Nat) : List Cy := bif toK f m then tTf f m else []
theorem tkB_row (f : Nat → Nat → Int) (m : Nat) : tkB (it8 (row8 f)) m = tkB f m := by
  unfold tkB tbK
  simp only [trK_row]
theorem tTf_row (f : Nat → Nat → Int) (m : Nat) : tTf (it8 (row8 f)) m = tTf f m := by
  unfold tTf
  rw [trF_row]
theorem cv_inB {f : Nat → Nat → Int} {m : Nat} (h : cvB f m = true) (i : Nat) (hi : i < m) : inB (w8 (f i)) = true := smallF_iff.2 fun k hk => by
  have := smallF_iff.1 (cvB_at h hi) k hk
  have e : (cyOf (f i)).f k = w8 (f i) k := by
    match k, hk with
    | 0, _ => rfl
    | 1, _ => rfl
    | 2, _ => rfl
    | 3, _ => rfl
    | 4, _ => rfl
    | 5, _ => rfl
    | 6, _ => rfl
    | 7, _ => rfl
  omega
theorem rvB_parts {f : Nat → Nat → Int} {m : Nat} (h : rvB f m = true) : roV m = true ∧ cvB f m = true := by
  rw [rvB, Bool.and_eq_true] at h
  exact h
theorem tr_row (f : Nat → Nat → Int) (m i : Nat) (o : Nat → Nat → Int) (ho : ∀ j, j < i → o j = trF f m j) (j : Nat) (hj : j < i + 1) : [i64 (bif Nat.blt j i then o j 0 else trV f m i 0), i64 (bif Nat.blt j i then o j 1 else trV f m i 1), i64 (bif Nat.blt j i then o j 2 else trV f m i 2), i64 (bif Nat.blt j i then o j 3 else trV f m i 3), i64 (bif Nat.blt j i then o j 4 else trV f m i 4), i64 (bif Nat.blt j i then o j 5 else trV f m i 5), i64 (bif Nat.blt j i then o j 6 else trV f m i 6), i64 (bif Nat.blt j i then o j 7 else trV f m i 7)] = row8 (trF f m) j := by
  by_cases h : j < i
  · rw [blt_yes h]
    simp only [cond_true, ho j h]
  · have : j = i := by omega
    subst this
    rw [blt_no]
    rfl
theorem sumTr (f : Nat → Nat → Int) (n : Nat) (hv : rvB f n = true) :
    SumOk Try.prog 1 (.block 0 (.loop (loopAt 0 fTr))) (atS 33 (lvTr .normal) 1 (stTr n 0) (hpTr8 n f (-1) n 0 fun _ _ => 0) (fun K => cond (tkB f n) (K .normal (mkT 0 33 [(7, .own 1 n)]) [.row false n 8 (row8 f) 31, .row true n 8 (row8 (trF f n)) 31]) (K .ret (mkT 0 33 [(4, .v (.slice none 0 0)), (5, .v (.bool false))]) [.row false n 8 (row8 f) 31]))) := by
  have hg : GamOk Try.prog (gmTr trV trK) := ext_ok g0_ok ok_so
  refine for_at hg (n := 100) (m := 1) (lv := lvTr) (fun i => stTr n i) (fun i => hpTr8 n f (-1) n i (bif Nat.beq i 0 then (fun _ _ => 0) else trF f n)) (fun i => noneTo (tbK f n) i = true) n (fun _ => noLam) (lv3_ris rfl rfl rfl) (Nat.le_refl _) rfl fun K Q hk i hno hi => ⟨noLam_ok _ _ _, ?_⟩
  have hv2 := rvB_parts hv
  have hn := roV_in hv2.1
  have ho : ∀ j, j < i → (bif Nat.beq i 0 then (fun _ _ => (0 : Int)) else trF f n) j = trF f n j := by
    intro j hj
    cases i with
    | zero => exact absurd hj (Nat.not_lt_zero _)
    | succ i => rfl
  rw [rndTr8]
  simp only [trK_row, trV_row]
  refine good_cond (fun c1 => ?_) fun c1 => ?_
  · have c1 := of_decide_eq_true c1
    have c1' : i < n := by omega
    rw [wr_in (x := (i : Int) + 1) (by omega)]
    have hall : ((List.range n).all fun i => inB (w8 (it8 (row8 f) i))) = true := List.all_eq_true.2 fun i hi => cv_inB hv2.2 i (List.mem_range.1 hi)
    have hj : inR (i : Int) 0 23 = true := inR_iff.2 (by omega)
    refine good_needs ?_ (good_cond (fun q => ?_) fun q => good_needs (by simp only [ob_cons, ob_nil, and_true, Nat.ble_eq]; omega) (good_out ⟨i + 1, ⟨rfl, c1', noneTo_succ hno q⟩, rfl, .cons (ABeq.refl _) (.cons (ABeq.refl _) (.cons (ABeq.refl _) (.cons (ABeq.refl _) (.cons (ABeq.row fun j hj => ?_) .nil))))⟩))
    · simp only [ob_cons, ob_nil, and_true, Bool.and_true, decide_eq_true_eq, Nat.blt_eq, beq_me, all8_row, hall, hj, hv2.1, true_and]
      omega
    · refine good_out ⟨_, Hsim.refl _, ?_⟩
      have hb : tbK f n i = true := q
      rw [show tkB f n = false from noneTo_no c1' hb] at hk
      exact hk
    · exact tr_row f n i _ ho j hj
  · have c1 := of_decide_eq_false c1
    have : i = n := by omega
    subst this
    refine good_out ⟨[.row false i 8 (row8 f) 31, .row true i 8 (row8 (trF f i)) 31], .cons (ABeq.refl _) (.cons (ABeq.row fun j hj => row8_congr fun k _ => by rw [ho j hj]) .nil), ?_⟩
    rw [if_pos rfl]
    rw [show tkB f i = true from hno] at hk
    exact hk
theorem tr_run {f : Nat → Nat → Int} {m : Nat} {Q : Ex → List AV → List AB → Prop} (hv : rvB f m = true)
    (yes : tkB f m = true → GoodQ (.out .ret [.tup [.own 1 m, .v (.bool true)]] [.row false m 8 (row8 f) 31, .row true m 8 (row8 (trF f m)) 31]) Q) (no : tkB f m = false → GoodQ (.out .ret [.tup [.v (.slice none 0 0), .v (.bool false)]] [.row false m 8 (row8 f) 31]) Q) :
    GoodQ (execF Try.prog g0 (lamTr m f (-1) m m (trF f m) (tkB f m)) 100 fTr [.sl 0 8 0 0 m none, .v (i64 (-1))] [.row false m 8 (row8 f) 31] (packK 1)) Q := by
  have hn := roV_in (rvB_parts hv).1
  rw [treeTr8]
  refine good_needs ?_ (good_cond yes no)
  simp only [ob_cons, ob_nil, and_true, decide_eq_true_eq]
  exact ⟨by omega, chk_of ⟨rfl, .cons (ABeq.refl _) (.cons (ABeq.refl _) (.cons (ABeq.refl _) (.cons (ABeq.refl _) (.cons (ABeq.row fun j hj => absurd hj (Nat.not_lt_zero _)) .nil))))⟩⟩
theorem ok_trY : SpecOk Try.prog 138 (specR md_cv (FtrY rvB tkB tTf)) := by
  refine specR_hr g0_ok Try.func138 rfl fun sas fr hF ho => ?_
  unfold FtrY at hF
  split at hF
  · rename_i m g d
    cases hF
    simp only [ob_cons] at ho
    obtain ⟨h1, h2, h3, h4, _⟩ := ho
    have h2 := of_decide_eq_true h2
    subst h2
    refine ⟨hpIy m (it8 g), lamTr m (it8 g) (-1) m m (trF (it8 g) m) (tkB (it8 g) m), 100, .cons (ABeq.row fun j hj => all8_get h1 j hj) .nil, lam1 (by kernel_rfl) (sumTr (it8 g) m h3), ?_⟩
    refine tr_run h3 (fun _ => ?_) fun q => by rw [h4] at q; cases q
    have hl : (tTf (it8 g) m).length = m := by rw [tTf, listC_length]
    refine good_out ⟨_, rfl, by rw [hl]; rfl, .cons (ABeq.row fun j hj => (all8_get h1 j hj).symm) ?_⟩
    show Hsim _ [.row true (tTf (it8 g) m).length 8 (row8 (cfun (tTf (it8 g) m))) 31]
    rw [hl]
    exact .cons (ABeq.row fun j hj => (row8_list _ hj).symm) .nil
  · cases hF
theorem ok_trN : SpecOk Try.prog 138 (specR md_cv (FtrN rvB tkB)) := by
  refine specR_hr g0_ok Try.func138 rfl fun sas fr hF ho => ?_
  unfold FtrN at hF
  split at hF
  · rename_i m g d
    cases hF
    simp only [ob_cons] at ho
    obtain ⟨h1, h2, h3, h4, _⟩ := ho
    have h2 := of_decide_eq_true h2
    subst h2
    have h4 : tkB (it8 g) m = false := by simpa using h4
    refine ⟨hpIy m (it8 g), lamTr m (it8 g) (-1) m m (trF (it8 g) m) (tkB (it8 g) m), 100, .cons (ABeq.row fun j hj => all8_get h1 j hj) .nil, lam1 (by kernel_rfl) (sumTr (it8 g) m h3), ?_⟩
    refine tr_run h3 (fun q => by rw [h4] at q; cases q) fun _ => ?_
    exact good_out ⟨_, rfl, rfl, .cons (ABeq.row fun j hj => (all8_get h1 j hj).symm) .nil⟩
  · cases hF

def FtoY : List SA → Option FR
  | [.row m g] => some { val := valG (toT (it8 g) m), new := newG (toT (it8 g) m), obl := [all8 m g, decide (m ≤ 2 ^ 38), toK (it8 g) m] }
  | _ => none
def FtoN : List SA → Option FR
  | [.row m g] => some { val := valN, obl := [all8 m g, decide (m ≤ 2 ^ 38), !toK (it8 g) m] }
  | _ => none
def UtoO (rk : (Nat → Nat → Int) → Nat → Bool) (rt : (Nat → Nat → Int) → Nat → List Cy) : List SA → Option PtR
  | [.row m g] => some ⟨rk (it8 g) m, rt (it8 g) m, [all8 m g, decide (m ≤ 2 ^ 38)]⟩
  | _ => none
theorem toT_no {f : Nat → Nat → Int} {m : Nat} (h : toK f m = false) : toT f m = [] := by rw [toT, h]; rfl
theorem toT_yes {f : Nat → Nat → Int} {m : Nat} (h : toK f m = true) : toT f m = tTf f m := by rw [toT, h]; rfl
theorem ok_toY : SpecOk Try.prog 85 (specR md_c8 FtoY) := by
  refine specR_hr (Γ := gmToY rvB tkB tTf) (ext_ok (ext_ok g0_ok ok_rvI) ok_trY) Try.func85 rfl fun sas fr hF ho => ?_
  unfold FtoY at hF
  split at hF
  · rename_i m g
    cases hF
    simp only [ob_cons] at ho
    obtain ⟨h1, h2, h3, _⟩ := ho
    have hm := of_decide_eq_true h2
    refine ⟨hpIy m (it8 g), noLam, 100, .cons (ABeq.row fun j hj => all8_get h1 j hj) .nil, noLam' _, ?_⟩
    show GoodQ (execF Try.prog (gmToY rvB tkB tTf) noLam 100 Try.f85 [.sl 0 8 0 0 m none] (hpIy m (it8 g)) (packK 1)) _
    rw [treeToY]
    simp only [row80, rvB_row, tkB_row, tTf_row]
    have h3' := h3
    rw [toK, Bool.and_eq_true] at h3'
    refine good_needs (by simp only [ob_cons, ob_nil, and_true, decide_eq_true_eq, Nat.ble_eq, all8_row, true_and]; omega) (good_false (by rw [h3'.1]; rfl) (good_needs (by simp only [ob_cons, ob_nil, and_true, decide_eq_true_eq, Nat.ble_eq, all8_row, true_and, h3'.1, h3'.2]; omega) (good_out ⟨_, rfl, ?_, .cons (ABeq.row fun j hj => (all8_get h1 j hj).symm) ?_⟩)))
    · rw [toT_yes h3]
      rfl
    · show Hsim _ [.row true (toT (it8 g) m).length 8 (row8 (cfun (toT (it8 g) m))) 31]
      rw [toT_yes h3]
      exact Hsim.refl _
  · cases hF
theorem ok_toN : SpecOk Try.prog 85 (specR md_c8 FtoN) := by
  refine specR_hr (Γ := gmToN rvB tkB) (ext_ok (ext_ok g0_ok ok_rvI) ok_trN) Try.func85 rfl fun sas fr hF ho => ?_
  unfold FtoN at hF
  split at hF
  · rename_i m g
    cases hF
    simp only [ob_cons] at ho
    obtain ⟨h1, h2, h3, _⟩ := ho
    have hm := of_decide_eq_true h2
    have h3 : toK (it8 g) m = false := by simpa using h3
    refine ⟨hpIy m (it8 g), noLam, 100, .cons (ABeq.row fun j hj => all8_get h1 j hj) .nil, noLam' _, ?_⟩
    show GoodQ (execF Try.prog (gmToN rvB tkB) noLam 100 Try.f85 [.sl 0 8 0 0 m none] (hpIy m (it8 g)) (packK 1)) _
    rw [treeToN]
    simp only [row80, rvB_row, tkB_row]
    refine good_needs (by simp only [ob_cons, ob_nil, and_true, decide_eq_true_eq, Nat.ble_eq, all8_row, true_and]; omega) (good_cond (fun _ => good_out ⟨_, rfl, rfl, .cons (ABeq.row fun j hj => (all8_get h1 j hj).symm) .nil⟩) fun q => ?_)
    have q : rvB (it8 g) m = true := by simpa using q
    rw [toK, q, Bool.true_and] at h3
    exact good_needs (by simp only [ob_cons, ob_nil, and_true, decide_eq_true_eq, Nat.ble_eq, all8_row, true_and, q, h3, Bool.not_false]; omega) (good_out ⟨_, rfl, rfl, .cons (ABeq.row fun j hj => (all8_get h1 j hj).symm) .nil⟩)
  · cases hF
theorem ok_Uto : SpecOk Try.prog 85 (specG md_c8 (UtoO toK toT)) := by
  refine specG_ok rfl ok_toY ok_toN fun sas u hu ho => ?_
  unfold UtoO at hu
  split at hu
  · rename_i m g
    cases hu
    simp only [ob_cons] at ho
    obtain ⟨h1, h2, _⟩ := ho
    refine ⟨rfl, ?_⟩
    cases hv : toK (it8 g) m with
    | true =>
      left
      refine ⟨rfl, [all8 m g, decide (m ≤ 2 ^ 38), toK (it8 g) m], rfl, ?_⟩
      simp only [ob_cons, ob_nil, and_true]
      exact ⟨h1, h2, hv⟩
    | false =>
      right
      refine ⟨rfl, toT_no hv, [all8 m g, decide (m ≤ 2 ^ 38), !toK (it8 g) m], rfl, ?_⟩
      simp only [ob_cons, ob_nil, and_true]
      exact ⟨h1, h2, by rw [hv]; rfl⟩
  · cases hu

end Go.Proofs.Ytmdcafhnjihckaa

/- The reference's transform: trees. Conditions: a row of points. -/
namespace Go.Proofs.Ytmdcafhnjihckaa
open Go.RowKit
set_option maxRecDepth 100000

noncomputable abbrev lamTs2 (m : Nat) (f : Nat → Nat → Int) (i : Nat) (h : Nat → Nat → Int) (c : Bool) (s : Nat → Int) : Nat → Option Sum := oneL 2 (atS 54 (lvTs2 .normal) 1 (stTs2 m (-1) i 0) (hpTs2 m f i h fun _ => 0) (fun K => cond c (K .normal (mkT 0 54 [(0, .sl 0 8 0 0 m none), (1, .v (i64 (-1))), (6, .own 1 i), (7, .v (i64 m)), (8, .v (i64 i)), (9, .ptr 2 0 0 0)]) (hpTs2 m f i h s)) (K .ret (mkT 0 54 [(4, .own 1 0), (5, .v (.bool false))]) [.row false m 8 (row8 f) 31, .row true 0 8 (fun _ => []) 31])))
abbrev lvTs0 : Ex → List Nat := lv3 [0, 1, 6, 7, 8] [6] [4, 5]
abbrev stTs0 (m : Nat) (i : Nat) : List AV := [.sl 0 8 0 0 m none, .v (i64 (-1)), .own 1 i, .v (i64 m), .v (i64 i)]
abbrev hpTs0 (m : Nat) (f : Nat → Nat → Int) (i : Nat) (h : Nat → Nat → Int) : List AB := [.row false m 8 (row8 f) 31, .row true i 8 (row8 h) 31]
theorem rndTs0 (m : Nat) (f : Nat → Nat → Int) (i : Nat) (h : Nat → Nat → Int) (c : Bool) (s : Nat → Int) : execC Try.prog g0 100 (lamTs2 m f i h c s) (loopAt 0 fTs) (mkT 0 54 ((lvTs0 .normal).zip (stTs0 m i))) (hpTs0 m f i h) (leafV 54 lvTs0 1)
    = bif decide ((↑i : Int) < (↑m : Int)) then needs [chk ([AV.sl (0 : Nat) (8 : Nat) (0 : Nat) (0 : Nat) m none, AV.v (Value.int IntKind.i64 (-1 : Int)), AV.own (1 : Nat) i, AV.v (Value.int IntKind.i64 (↑m : Int)), AV.v (Value.int IntKind.i64 (↑i : Int)), AV.ptr (2 : Nat) (0 : Nat) (0 : Nat) (0 : Nat), AV.v (Value.int IntKind.i64 (0 : Int))] = stTs2 m (-1 : Int) i (0 : Nat) ∧ Hsim [AB.row false m (8 : Nat) (row8 f) (31 : TypeId), AB.row true i (8 : Nat) (row8 h) (31 : TypeId), AB.cells [AV.v (Value.int IntKind.i64 (0 : Int)), AV.v (Value.int IntKind.i64 (0 : Int)), AV.v (Value.int IntKind.i64 (0 : Int)), AV.v (Value.int IntKind.i64 (0 : Int)), AV.v (Value.int IntKind.i64 (0 : Int)), AV.v (Value.int IntKind.i64 (0 : Int)), AV.v (Value.int IntKind.i64 (0 : Int)), AV.v (Value.int IntKind.i64 (0 : Int))] (31 : Nat)] (hpTs2 m f i h fun _ ↦ (0 : Int)))] (bif c then needs [Nat.ble i i, Nat.ble (i + (1 : Nat)) (549755813888 : Nat)] (Res.out Ex.normal [AV.sl (0 : Nat) (8 : Nat) (0 : Nat) (0 : Nat) m none, AV.v (Value.int IntKind.i64 (-1 : Int)), AV.own (1 : Nat) (i + (1 : Nat)), AV.v (Value.int IntKind.i64 (↑m : Int)), AV.v (Value.int IntKind.i64 (IntKind.wrap IntKind.i64 ((↑i : Int) + (1 : Int))))] [AB.row false m (8 : Nat) (row8 f) (31 : TypeId), AB.row true (i + (1 : Nat)) (8 : Nat) (fun q ↦ [Value.int IntKind.i64 (bif Nat.blt q i then h q (0 : Nat) else s (0 : Nat)), Value.int IntKind.i64 (bif Nat.blt q i then h q (1 : Nat) else s (1 : Nat)), Value.int IntKind.i64 (bif Nat.blt q i then h q (2 : Nat) else s (2 : Nat)), Value.int IntKind.i64 (bif Nat.blt q i then h q (3 : Nat) else s (3 : Nat)), Value.int IntKind.i64 (bif Nat.blt q i then h q (4 : Nat) else s (4 : Nat)), Value.int IntKind.i64 (bif Nat.blt q i then h q (5 : Nat) else s (5 : Nat)), Value.int IntKind.i64 (bif Nat.blt q i then h q (6 : Nat) else s (6 : Nat)), Value.int IntKind.i64 (bif Nat.blt q i then h q (7 : Nat) else s (7 : Nat))]) (31 : Nat)]) else Res.out Ex.ret [AV.own (1 : Nat) (0 : Nat), AV.v (Value.bool false)] [AB.row false m (8 : Nat) (row8 f) (31 : TypeId), AB.row true (0 : Nat) (8 : Nat) (fun _ ↦ []) (31 : TypeId)]) else Res.out (Ex.exit (0 : Nat)) [AV.own (1 : Nat) i] [AB.row false m (8 : Nat) (row8 f) (31 : TypeId), AB.row true i (8 : Nat) (row8 h) (31 : TypeId)] := by kernel_rfl

theorem rndTs0e (m : Nat) (f : Nat → Nat → Int) (i : Nat) (h : Nat → Nat → Int) : execC Try.prog g0 100 (oneL 2 errS) (loopAt 0 fTs) (mkT 0 54 ((lvTs0 .normal).zip (stTs0 m i))) (hpTs0 m f i h) (leafV 54 lvTs0 1)
    = bif decide ((↑i : Int) < (↑m : Int)) then Res.err else Res.out (Ex.exit (0 : Nat)) [AV.own (1 : Nat) i] [AB.row false m (8 : Nat) (row8 f) (31 : TypeId), AB.row true i (8 : Nat) (row8 h) (31 : TypeId)] := by kernel_rfl

noncomputable abbrev lamTs0 (m : Nat) (f : Nat → Nat → Int) (h : Nat → Nat → Int) (c : Bool) : Nat → Option Sum := oneL 0 (atS 54 (lvTs0 .normal) 1 (stTs0 m 0) (hpTs0 m f 0 fun _ _ => 0) (fun K => cond c (K .normal (mkT 0 54 [(6, .own 1 m)]) (hpTs0 m f m h)) (K .ret (mkT 0 54 [(4, .own 1 0), (5, .v (.bool false))]) [.row false m 8 (row8 f) 31, .row true 0 8 (fun _ => []) 31])))
def gmTsV (rv : (Nat → Nat → Int) → Nat → Bool) : Gam := ext g0 163 (specR md_c8 (FrvO rv))
theorem treeTs (rv : (Nat → Nat → Int) → Nat → Bool) (m : Nat) (f : Nat → Nat → Int) (h : Nat → Nat → Int) (c : Bool) : execF Try.prog (gmTsV rv) (lamTs0 m f h c) 100 fTs [.sl 0 8 0 0 m none, .v (i64 (-1))] (hpIy m f) (packK 1)
    = needs [Nat.ble ((0 : Nat) + m) m, all8 m fun q ↦ row8 f ((0 : Nat) + q), decide (m ≤ (274877906944 : Nat))] (bif !rv (it8 fun q ↦ row8 f ((0 : Nat) + q)) m then Res.out Ex.ret [AV.tup [AV.own (1 : Nat) (0 : Nat), AV.v (Value.bool false)]] [AB.row false m (8 : Nat) (row8 f) (31 : TypeId), AB.row true (0 : Nat) (8 : Nat) (fun _ ↦ []) (31 : Nat)] else needs [chk ([AV.sl (0 : Nat) (8 : Nat) (0 : Nat) (0 : Nat) m none, AV.v (Value.int IntKind.i64 (-1 : Int)), AV.own (1 : Nat) (0 : Nat), AV.v (Value.int IntKind.i64 (↑m : Int)), AV.v (Value.int IntKind.i64 (0 : Int))] = stTs0 m (0 : Nat) ∧ Hsim [AB.row false m (8 : Nat) (row8 f) (31 : TypeId), AB.row true (0 : Nat) (8 : Nat) (fun _ ↦ []) (31 : Nat)] (hpTs0 m f (0 : Nat) fun x x_1 ↦ (0 : Int)))] (bif c then Res.out Ex.ret [AV.tup [AV.own (1 : Nat) m, AV.v (Value.bool true)]] [AB.row false m (8 : Nat) (row8 f) (31 : TypeId), AB.row true m (8 : Nat) (row8 h) (31 : TypeId)] else Res.out Ex.ret [AV.tup [AV.own (1 : Nat) (0 : Nat), AV.v (Value.bool false)]] [AB.row false m (8 : Nat) (row8 f) (31 : TypeId), AB.row true (0 : Nat) (8 : Nat) (fun _ ↦ []) (31 : TypeId)])) := by kernel_rfl

theorem treeTse (rv : (Nat → Nat → Int) → Nat → Bool) (m : Nat) (f : Nat → Nat → Int) : execF Try.prog (gmTsV rv) (oneL 0 errS) 100 fTs [.sl 0 8 0 0 m none, .v (i64 (-1))] (hpIy m f) (packK 1)
    = needs [Nat.ble ((0 : Nat) + m) m, all8 m fun q ↦ row8 f ((0 : Nat) + q), decide (m ≤ (274877906944 : Nat)), !rv (it8 fun q ↦ row8 f ((0 : Nat) + q)) m] (Res.out Ex.ret [AV.tup [AV.own (1 : Nat) (0 : Nat), AV.v (Value.bool false)]] [AB.row false m (8 : Nat) (row8 f) (31 : TypeId), AB.row true (0 : Nat) (8 : Nat) (fun _ ↦ []) (31 : Nat)]) := by kernel_rfl

end Go.Proofs.Ytmdcafhnjihckaa

/- The reference's transform: its word. Conditions: a row of points. -/
namespace Go.Proofs.Ytmdcafhnjihckaa
open Go.RowKit
set_option maxRecDepth 100000

theorem ag_eq2 {n j k : Int} (hn : roV n = true) (hj : 0 ≤ j ∧ j ≤ 23) (hk : 0 ≤ k ∧ k ≤ 23) :
    IntKind.wrap IntKind.i64 (IntKind.wrap IntKind.i64 (IntKind.wrap IntKind.i64 (-1 * j) * k) * IntKind.wrap IntKind.i64 (Int.tdiv 24 n)) = agC n j k := by
  have hv := roV_in hn
  obtain ⟨n', rfl⟩ := Int.eq_ofNat_of_zero_le (show 0 ≤ n by omega)
  have hq := tdiv24 (n := n') (by omega) (by omega)
  have hjk := mul_bd (x := j) (y := k) (A := 23) (B := 23) (by omega) hj.2 (by omega) hk.2
  have hjk0 := Int.mul_nonneg hj.1 hk.1
  have b2 := mul_bd (x := -(j * k)) (y := Int.tdiv 24 (n' : Int)) (A := 529) (B := 24) (by omega) (by omega) (by omega) hq.2
  rw [wr_in (x := -1 * j) (by omega), show -1 * j * k = -(j * k) by rw [Int.neg_mul, Int.one_mul, Int.neg_mul], wr_in (x := -(j * k)) (by omega), wr_in (x := Int.tdiv 24 (n' : Int)) (by omega), wr_in (by omega)]
  rfl
theorem sumF1 (a b : Nat → Int) : sumF a 1 b = plusF a b := by
  funext k
  simp only [sumF, plusF, Int.one_mul]
theorem gmTs2_ok : GamOk Try.prog (gmTs2 (fun n => n % 24) (fun a n => turnedF a n.toNat) sumF fun v => cyOk (cyOf v)) := by
  unfold gmTs2
  rw [fMd_eq, FtuO_eq, fAdd3_eq, fOkc_eq]
  exact ext_ok (ext_ok (ext_ok (ext_ok g0_ok ok_l1Mod) ok_turnedS) ok_cv) ok_l2Sum
theorem sumTs2 (f : Nat → Nat → Int) (m i : Nat) (h : Nat → Nat → Int) (hn : roV m = true) (hi : i < m) :
    SumOk Try.prog 1 (.block 2 (.loop (loopAt 2 fTs))) (atS 54 (lvTs2 .normal) 1 (stTs2 m (-1) i 0) (hpTs2 m f i h fun _ => 0) (fun K => cond (trK f m i) (K .normal (mkT 0 54 [(0, .sl 0 8 0 0 m none), (1, .v (i64 (-1))), (6, .own 1 i), (7, .v (i64 m)), (8, .v (i64 i)), (9, .ptr 2 0 0 0)]) (hpTs2 m f i h (trS f m i m))) (K .ret (mkT 0 54 [(4, .own 1 0), (5, .v (.bool false))]) [.row false m 8 (row8 f) 31, .row true 0 8 (fun _ => []) 31]))) := by
  refine for_at gmTs2_ok (n := 100) (m := 1) (lv := lvTs2) (fun k => stTs2 m (-1) i k) (fun k => hpTs2 m f i h (trS f m i k)) (fun k => noneTo (trB f m i) k = true) m (fun _ => noLam) (lv3_ris rfl rfl rfl) (Nat.le_refl _) rfl fun K Q hk k hno hkm => ⟨noLam_ok _ _ _, ?_⟩
  have hv := roV_in hn
  rw [rndTs2]
  simp only [Int.toNat_natCast, Nat.zero_add]
  refine good_cond (fun c1 => ?_) fun c1 => ?_
  · have c1 := of_decide_eq_true c1
    have c1' : k < m := by omega
    rw [ag_eq2 hn (j := (i : Int)) (k := (k : Int)) (by omega) (by omega), sumF1, wr_in (x := (k : Int) + 1) (by omega)]
    have hmod : agC (m : Int) i k % 24 ≤ 1099511627776 := by omega
    refine good_needs (by simp only [ob_cons, ob_nil, and_true, decide_eq_true_eq, Bool.not_eq_true', decide_eq_false_iff_not]; omega) (good_cond (fun q => ?_) fun q => ?_)
    · refine good_out ⟨_, Hsim.refl _, ?_⟩
      have hb : trB f m i k = true := q
      have : trK f m i = false := by
        rw [trK, Int.toNat_natCast]
        exact noneTo_no c1' hb
      rw [this] at hk
      exact hk
    · exact good_out ⟨k + 1, ⟨rfl, c1', noneTo_succ hno q⟩, rfl, Hsim.refl _⟩
  · have c1 := of_decide_eq_false c1
    have : k = m := by omega
    subst this
    refine good_out ⟨_, Hsim.refl _, ?_⟩
    rw [if_pos rfl]
    have : trK f k i = true := by
      rw [trK, Int.toNat_natCast]
      exact hno
    rw [this] at hk
    exact hk
theorem sumTs0 (f : Nat → Nat → Int) (m : Nat) (hv : rvB f m = true) :
    SumOk Try.prog 1 (.block 0 (.loop (loopAt 0 fTs))) (atS 54 (lvTs0 .normal) 1 (stTs0 m 0) (hpTs0 m f 0 fun _ _ => 0) (fun K => cond (tkB f m) (K .normal (mkT 0 54 [(6, .own 1 m)]) (hpTs0 m f m (trF f m))) (K .ret (mkT 0 54 [(4, .own 1 0), (5, .v (.bool false))]) [.row false m 8 (row8 f) 31, .row true 0 8 (fun _ => []) 31]))) := by
  have hv2 := rvB_parts hv
  have hn := roV_in hv2.1
  refine for_at g0_ok (n := 100) (m := 1) (lv := lvTs0) (fun i => stTs0 m i) (fun i => hpTs0 m f i (bif Nat.beq i 0 then (fun _ _ => 0) else trF f m)) (fun i => noneTo (tbK f m) i = true) m (fun i => bif Nat.blt i m then lamTs2 m f i (bif Nat.beq i 0 then (fun _ _ => 0) else trF f m) (trK f m i) (trS f m i m) else oneL 2 errS) (lv3_ris rfl rfl rfl) (Nat.le_refl _) rfl fun K Q hk i hno hi => ?_
  have ho : ∀ j, j < i → (bif Nat.beq i 0 then (fun _ _ => (0 : Int)) else trF f m) j = trF f m j := by
    intro j hj
    cases i with
    | zero => exact absurd hj (Nat.not_lt_zero _)
    | succ i => rfl
  by_cases hlt : i < m
  · have b : Nat.blt i m = true := by rw [Nat.blt_eq]; exact hlt
    rw [b, cond_true]
    refine ⟨lamC (c := loopAt 2 fTs) (by kernel_rfl) (sumTs2 f m i _ hv2.1 hlt), ?_⟩
    rw [rndTs0]
    refine good_true (decide_eq_true (by omega)) (good_needs (by rw [ob_cons]; exact ⟨chk_of ⟨rfl, Hsim.refl _⟩, rfl⟩) (good_cond (fun q => ?_) fun q => ?_))
    · rw [wr_in (x := (i : Int) + 1) (by omega)]
      have hb : tbK f m i = false := by rw [tbK, q]; rfl
      have hs : trV f m i = trS f m i m := by rw [trV, q, Int.toNat_natCast]; rfl
      refine good_needs (by simp only [ob_cons, ob_nil, and_true, Nat.ble_eq]; omega) (good_out ⟨i + 1, ⟨rfl, hlt, noneTo_succ hno hb⟩, rfl, .cons (ABeq.refl _) (.cons (ABeq.row fun j hj => ?_) .nil)⟩)
      rw [← hs]
      exact tr_row f m i _ ho j hj
    · have hb : tbK f m i = true := by rw [tbK, q]; rfl
      refine good_out ⟨_, Hsim.refl _, ?_⟩
      rw [show tkB f m = false from noneTo_no hlt hb] at hk
      exact hk
  · have b : Nat.blt i m = false := by
      cases hb : Nat.blt i m with
      | false => rfl
      | true => rw [Nat.blt_eq] at hb; omega
    rw [b, cond_false]
    have : i = m := by omega
    subst this
    refine ⟨lamC (c := loopAt 2 fTs) (by kernel_rfl) errS_ok, ?_⟩
    rw [rndTs0e]
    refine good_false (decide_eq_false (by omega)) (good_out ⟨hpTs0 i f i (trF f i), .cons (ABeq.refl _) (.cons (ABeq.row fun j hj => row8_congr fun k _ => by rw [ho j hj]) .nil), ?_⟩)
    rw [if_pos rfl]
    rw [show tkB f i = true from hno] at hk
    exact hk
/-- The points of the transform, or none. -/
def FtsS (rk : (Nat → Nat → Int) → Nat → Bool) (rt : (Nat → Nat → Int) → Nat → List Cy) : List SA → Option FR
  | [.row m g, .v (.int .i64 d)] => some { val := .tup [.own 0 (rt (it8 g) m).length, .v (.bool (rk (it8 g) m))], new := newG (rt (it8 g) m), obl := [all8 m g, decide (m ≤ 2 ^ 38), decide (d = -1)] }
  | _ => none
theorem ok_ts : SpecOk Try.prog 139 (specR md_cv (FtsS toK toT)) := by
  refine specR_hr (Γ := gmTsV rvB) (ext_ok g0_ok ok_rvS) Try.func139 rfl fun sas fr hF ho => ?_
  unfold FtsS at hF
  split at hF
  · rename_i m g d
    cases hF
    simp only [ob_cons] at ho
    obtain ⟨h1, h2, h3, _⟩ := ho
    have hm := of_decide_eq_true h2
    have h3 := of_decide_eq_true h3
    subst h3
    have no : toK (it8 g) m = false → GoodQ (.out .ret [.tup [.own 1 0, .v (.bool false)]] [.row false m 8 (row8 (it8 g)) 31, .row true 0 8 (fun _ => []) 31]) (GivR (abP md_cv [.row m g, .v (.int .i64 (-1))] []) { val := .tup [.own 0 (toT (it8 g) m).length, .v (.bool (toK (it8 g) m))], new := newG (toT (it8 g) m), obl := [all8 m g, decide (m ≤ 2 ^ 38), decide ((-1 : Int) = -1)] }) := fun h => by
      refine good_out ⟨_, rfl, by rw [toT_no h, h]; rfl, .cons (ABeq.row fun j hj => (all8_get h1 j hj).symm) ?_⟩
      show Hsim _ [.row true (toT (it8 g) m).length 8 (row8 (cfun (toT (it8 g) m))) 31]
      rw [toT_no h]
      exact .cons (ABeq.row fun j hj => absurd hj (Nat.not_lt_zero _)) .nil
    cases hv : rvB (it8 g) m with
    | false =>
      refine ⟨hpIy m (it8 g), oneL 0 errS, 100, .cons (ABeq.row fun j hj => all8_get h1 j hj) .nil, lam1 (c := loopAt 0 fTs) (by kernel_rfl) errS_ok, ?_⟩
      show GoodQ (execF Try.prog (gmTsV rvB) (oneL 0 errS) 100 fTs [.sl 0 8 0 0 m none, .v (i64 (-1))] (hpIy m (it8 g)) (packK 1)) _
      rw [treeTse]
      simp only [row80, rvB_row]
      exact good_needs (by simp only [ob_cons, ob_nil, and_true, decide_eq_true_eq, Nat.ble_eq, all8_row, true_and, hv, Bool.not_false]; omega) (no (by rw [toK, hv]; rfl))
    | true =>
      refine ⟨hpIy m (it8 g), lamTs0 m (it8 g) (trF (it8 g) m) (tkB (it8 g) m), 100, .cons (ABeq.row fun j hj => all8_get h1 j hj) .nil, lam1 (by kernel_rfl) (sumTs0 (it8 g) m hv), ?_⟩
      show GoodQ (execF Try.prog (gmTsV rvB) (lamTs0 m (it8 g) (trF (it8 g) m) (tkB (it8 g) m)) 100 fTs [.sl 0 8 0 0 m none, .v (i64 (-1))] (hpIy m (it8 g)) (packK 1)) _
      rw [treeTs]
      simp only [row80, rvB_row]
      refine good_needs (by simp only [ob_cons, ob_nil, and_true, decide_eq_true_eq, Nat.ble_eq, all8_row, true_and]; omega) (good_false (by rw [hv]; rfl) (good_needs (by rw [ob_cons]; exact ⟨chk_of ⟨rfl, .cons (ABeq.refl _) (.cons (ABeq.row fun j hj => absurd hj (Nat.not_lt_zero _)) .nil)⟩, rfl⟩) (good_cond (fun q => ?_) fun q => no (by rw [toK, q, Bool.and_false]))))
      have hk : toK (it8 g) m = true := by rw [toK, hv, q]; rfl
      have hl : (toT (it8 g) m).length = m := by rw [toT_yes hk, tTf, listC_length]
      refine good_out ⟨_, rfl, by rw [hl, hk]; rfl, .cons (ABeq.row fun j hj => (all8_get h1 j hj).symm) ?_⟩
      show Hsim _ [.row true (toT (it8 g) m).length 8 (row8 (cfun (toT (it8 g) m))) 31]
      rw [hl, toT_yes hk]
      exact .cons (ABeq.row fun j hj => (row8_list _ hj).symm) .nil
  · cases hF

end Go.Proofs.Ytmdcafhnjihckaa
