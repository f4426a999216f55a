/- DesignStill, the reference's. Conditions: a list of wheels. -/
import Derived.Test.YtmdcafhnjihckaaZD0
import Derived.Test.YtmdcafhnjihckaaZD1
import Derived.Test.YtmdcafhnjihckaaZD2
import Derived.Test.YtmdcafhnjihckaaZD3
import Derived.Test.YtmdcafhnjihckaaZD4
import Derived.Test.YtmdcafhnjihckaaZD5
import Derived.Test.YtmdcafhnjihckaaZD6
/- The program's CycMirror. Conditions: a point. -/
namespace Go.Proofs.Ytmdcafhnjihckaa
open Go.RowKit
set_option maxRecDepth 100000

def gmO2 (ok : (Nat → Int) → Bool) (mi : (Nat → Int) → Nat → Int) : Gam := ext (ext g0 66 (specV (fOkc ok))) 101 (specV (fMirO mi))
theorem gmO2_ok : GamOk Try.prog (gmO2 (fun v => cyOk (cyOf v)) mirF) := by
  unfold gmO2
  rw [fOkc_eq, fMirO_eq]
  exact ext_ok (ext_ok g0_ok ok_cvI) ok_mirror
/-- A point: a point, and whether it is one. -/
def FcqO (v : (Nat → Int) → Nat → Int) (ok : (Nat → Int) → Bool) : List SA → Option FR
  | [.v (.agg ⟨[.int .i64 a0, .int .i64 a1, .int .i64 a2, .int .i64 a3, .int .i64 a4, .int .i64 a5, .int .i64 a6, .int .i64 a7]⟩)] => some { val := .tup [.agg (cyC (v (v8 a0 a1 a2 a3 a4 a5 a6 a7))), .v (.bool (ok (v8 a0 a1 a2 a3 a4 a5 a6 a7)))] }
  | _ => none
def okMi (a : Nat → Int) : Bool := cyOk (cyOf a) && cyOk (cyOf (mirF a))
def vMi (a : Nat → Int) : Nat → Int := bif okMi a then mirF a else fun _ => 0
end Go.Proofs.Ytmdcafhnjihckaa

/- 'changed', for DesignFaster: trees. Conditions: a list of wheels. -/
namespace Go.Proofs.Ytmdcafhnjihckaa
open Go.RowKit
set_option maxRecDepth 100000

abbrev hpCFa (m : Nat) (f : Nat → Nat → Int) (t : TypeId) (x : Int) (n : Nat) (h : Nat → Nat → Int) : List AB := [.row false m 9 (row9 f) t, .cells [.v (i64 x)] 3, .row true n 9 (row9 h) 46]
end Go.Proofs.Ytmdcafhnjihckaa

/- 'changed', for DesignFaster: its words. Conditions: a list of wheels. -/
namespace Go.Proofs.Ytmdcafhnjihckaa
open Go.RowKit
set_option maxRecDepth 100000

def chFa (x : Int) (w : Wh) : Wh := ⟨IntKind.wrap IntKind.i64 (x * w.s), w.r⟩
abbrev mpFa : Int → List Wh → List Wh := fun x L => L.map (chFa x)
theorem inwFa (x : Int) {L : List Wh} (h : okD L = true) : inW (L.map (chFa x)) := by
  intro w' hw'
  obtain ⟨w, hw, rfl⟩ := List.mem_map.1 hw'
  exact (valid_in h hw : cyIn w.r)
end Go.Proofs.Ytmdcafhnjihckaa

/- The program's DesignFaster. Conditions: a list of wheels. -/
namespace Go.Proofs.Ytmdcafhnjihckaa
open Go.RowKit
set_option maxRecDepth 100000

/-- The list is a design, and what comes of it too. -/
def yesFa (x : Int) (L : List Wh) : Bool := inR x (-20) 20 && (okD L && okT (L.map (chFa x)))
def FdeYFa (yes : Int → List Wh → Bool) (ti : List Wh → List Wh) (mp : Int → List Wh → List Wh) : List SA → Option FR
  | [.row m g, .v (.int .i64 x)] => some { val := valY (ti (mp x (listW (itW g) m))), new := newY (ti (mp x (listW (itW g) m))), obl := [allW m g, decide (m ≤ 2 ^ 38), yes x (listW (itW g) m)] }
  | _ => none
def FdeNFa (yes : Int → List Wh → Bool) : List SA → Option FR
  | [.row m g, .v (.int .i64 x)] => some { val := valN, obl := [allW m g, decide (m ≤ 2 ^ 38), !yes x (listW (itW g) m)] }
  | _ => none
end Go.Proofs.Ytmdcafhnjihckaa

/- The program's DesignFaster, as a list or none, read as one. Conditions: a list of wheels. -/
namespace Go.Proofs.Ytmdcafhnjihckaa
open Go.RowKit
set_option maxRecDepth 100000

theorem chFa_same {x : Int} {w : Wh} : chFa x w = chE x 0 0 false w := by
  have e2 : (IntKind.wrap IntKind.i64 ((0 : Int) + IntKind.wrap IntKind.i64 (0 * w.s)) % 24).toNat = 0 := by rw [Int.zero_mul]; rfl
  rw [chFa, chE, e2]
  rfl
def yF (x : Int) (L : List Wh) : Bool := inR x (-20) 20 && eachOk x 0 0 false L
def tF (x : Int) (L : List Wh) : List Wh := bif inR x (-20) 20 then eachL x 0 0 false L else []
end Go.Proofs.Ytmdcafhnjihckaa

/- Plain laws of designs: turned, later, back, mirrored, faster. No program, no conditions. -/
namespace Go.Proofs.Ytmdcafhnjihckaa
open Go.RowKit

theorem lin_tn {φ : Int → (Nat → Int) → Int} (h : Lin φ) (g c : Int → Int) : Lin fun s f => φ (g s) (tnI f (c s)) := fun s f f' => by
  show φ (g s) (tnI (fun k => f k + f' k) (c s)) = _
  rw [tnI_add]
  exact h _ _ _
theorem loc_tn {φ : Int → (Nat → Int) → Int} (h : Loc φ) (g c : Int → Int) : Loc fun s f => φ (g s) (tnI f (c s)) := fun _ _ _ hf => h _ _ _ (tnI_congr hf _)
theorem tnI_mulmod (f : Nat → Int) (a s : Int) : tnI f (a % 24 * s) = tnI f (a * s) := tnI_mod f (by rw [Int.mul_emod, Int.emod_emod, ← Int.mul_emod])
theorem each_tidy {sp tn la : Int} {mir : Bool} {L : List Wh} (h1 : -20 ≤ sp ∧ sp ≤ 20) (h : eachOk sp tn la mir L = true) : isTidy (eachL sp tn la mir L) := (each_spec h1 h).2.2.2.1
theorem tnI_24 (f : Nat → Int) {n : Int} (h : n % 24 = 0) : ∀ k, k < 8 → tnI f n k = f k := fun k _ => by
  rw [tnI, h]
  rfl
/-- Turned on to a whole turn. -/
theorem law_turned {L : List Wh} {t x : Int} (hx : (t + x) % 24 = 0) (h1 : eachOk 1 t 0 false L = true) (h2 : eachOk 1 x 0 false (eachL 1 t 0 false L) = true) (h3 : yI L = true) : eachL 1 x 0 false (eachL 1 t 0 false L) = tI L := by
  refine tidy_unique (each_tidy (by omega) h2) (tI_spec h3).2.1 fun s k hk => ?_
  rw [(tI_spec h3).2.2 _ (atSp_lin s k), each_lin (by omega) h2 (atSp_lin s k) (atSp_loc s hk), each_lin (by omega) h1 (lin_tn (atSp_lin s k) (fun s => 1 * s) fun s => x + 0 * s) (loc_tn (atSp_loc s hk) (fun s => 1 * s) fun s => x + 0 * s)]
  refine linS_congr fun w _ => ?_
  show atSp s k (1 * (1 * w.s)) (tnI (tnI w.r.f (t + 0 * w.s)) (x + 0 * (1 * w.s))) = atSp s k w.s w.r.f
  rw [show (1 : Int) * (1 * w.s) = w.s by omega, show t + 0 * w.s = t by omega, show x + 0 * (1 * w.s) = x by omega]
  refine atSp_loc s hk _ _ _ fun j hj => ?_
  rw [tnI_tnI _ _ _ j hj, tnI_24 _ hx j hj]
/-- Later. -/
theorem law_later {L : List Wh} {t : Int} {k : Nat} (hk : k < 8) (h1 : eachOk 1 0 t false L = true) : dAt (eachL 1 0 t false L) 5 k = dAt L ((5 + t) % 24) k := by
  refine (each_lin (by omega) h1 (atT_lin 5 k) (atT_loc 5 hk)).trans (linS_congr fun w _ => ?_)
  show tnI (tnI w.r.f (0 + t * w.s)) (5 * (1 * w.s)) k = tnI w.r.f ((5 + t) % 24 * w.s) k
  rw [tnI_tnI _ _ _ k hk, tnI_mulmod, show 0 + t * w.s + 5 * (1 * w.s) = (5 + t) * w.s by rw [Int.add_mul]; omega]
/-- Back and back. -/
theorem law_back {L : List Wh} (h1 : eachOk (-1) 0 0 false L = true) (h2 : eachOk (-1) 0 0 false (eachL (-1) 0 0 false L) = true) (h3 : yI L = true) : eachL (-1) 0 0 false (eachL (-1) 0 0 false L) = tI L := by
  refine tidy_unique (each_tidy (by omega) h2) (tI_spec h3).2.1 fun s k hk => ?_
  rw [(tI_spec h3).2.2 _ (atSp_lin s k), each_lin (by omega) h2 (atSp_lin s k) (atSp_loc s hk), each_lin (by omega) h1 (lin_tn (atSp_lin s k) (fun s => -1 * s) fun s => 0 + 0 * s) (loc_tn (atSp_loc s hk) (fun s => -1 * s) fun s => 0 + 0 * s)]
  refine linS_congr fun w _ => ?_
  show atSp s k (-1 * (-1 * w.s)) (tnI (tnI w.r.f (0 + 0 * w.s)) (0 + 0 * (-1 * w.s))) = atSp s k w.s w.r.f
  rw [show (-1 : Int) * (-1 * w.s) = w.s by omega, show 0 + 0 * w.s = 0 by omega, show 0 + 0 * (-1 * w.s) = 0 by omega]
  rfl
theorem law_back_at {L : List Wh} {k : Nat} (hk : k < 8) (h1 : eachOk (-1) 0 0 false L = true) : dAt (eachL (-1) 0 0 false L) 5 k = dAt L 19 k := by
  refine (each_lin (by omega) h1 (atT_lin 5 k) (atT_loc 5 hk)).trans (linS_congr fun w _ => ?_)
  show tnI (tnI w.r.f (0 + 0 * w.s)) (5 * (-1 * w.s)) k = tnI w.r.f (19 * w.s) k
  rw [show 0 + 0 * w.s = 0 by omega, tnI_zero, tnI_mod w.r.f (m := 5 * (-1 * w.s)) (n := 19 * w.s) (by omega)]
/-- A mirrored point turned. -/
theorem mir_step (f : Nat → Int) : ∀ k, k < 8 → stZ (mirZ (stZ f)) k = mirZ f k := by
  refine forall8 ?_ ?_ ?_ ?_ ?_ ?_ ?_ ?_ <;> simp only [stZ, mirZ] <;> omega
theorem mir_tn (f : Nat → Int) : ∀ (n k : Nat), k < 8 → tnZ (mirZ (tnZ f n)) n k = mirZ f k
  | 0, _, _ => rfl
  | n + 1, k, hk => by
    have e : tnZ (mirZ (stZ (tnZ f n))) (n + 1) k = tnZ (stZ (mirZ (stZ (tnZ f n)))) n k := by
      rw [show n + 1 = 1 + n by omega, ← tnZ_tnZ]
      rfl
    show tnZ (mirZ (stZ (tnZ f n))) (n + 1) k = mirZ f k
    rw [e, tnZ_congr (mir_step (tnZ f n)) n k hk]
    exact mir_tn f n k hk
theorem mir_tnI (f : Nat → Int) (n : Int) (k : Nat) (hk : k < 8) : mirZ (tnI f n) k = tnI (mirZ f) (-n) k := by
  have h := tnI_congr (mir_tn f (n % 24).toNat) (-n) k hk
  rw [← h]
  show _ = tnI (tnZ (mirZ (tnI f n)) (n % 24).toNat) (-n) k
  have e : tnZ (mirZ (tnI f n)) (n % 24).toNat = tnI (mirZ (tnI f n)) n := rfl
  rw [e, tnI_tnI _ _ _ k hk, tnI_24 _ (by omega) k hk]
theorem linS_mir {φ : Nat → Int → (Nat → Int) → Int} : ∀ (L : List Wh) (k : Nat), mirZ (fun k => linS (φ k) L) k = linS (fun s f => mirZ (fun k => φ k s f) k) L
  | [], k => by
    show mirZ (fun _ => 0) k = 0
    unfold mirZ
    split <;> rfl
  | w :: l, k => by
    show mirZ (fun k => φ k w.s w.r.f + linS (φ k) l) k = _
    rw [mir_add]
    show mirZ (fun k => φ k w.s w.r.f) k + mirZ (fun k => linS (φ k) l) k = _
    rw [linS_mir l k]
    rfl
theorem law_mirror {L : List Wh} {k : Nat} (hk : k < 8) (h1 : eachOk (-1) 0 0 true L = true) : dAt (eachL (-1) 0 0 true L) 5 k = mirZ (dAt L 5) k := by
  refine (each_linM (by omega) h1 (atT_lin 5 k) (atT_loc 5 hk)).trans ?_
  refine Eq.trans (linS_congr fun w _ => ?_) (linS_mir (φ := atT 5) L k).symm
  show tnI (tnI (mirZ w.r.f) (0 + 0 * w.s)) (5 * (-1 * w.s)) k = mirZ (tnI w.r.f (5 * w.s)) k
  rw [mir_tnI _ _ k hk, show 0 + 0 * w.s = 0 by omega, tnI_zero, show 5 * (-1 * w.s) = -(5 * w.s) by omega]
theorem vMi_exact {a : Nat → Int} (h : okMi a = true) : ∀ k, k < 8 → vMi a k = mirZ a k := fun k hk => by
  rw [vMi, h, cond_true]
  rw [okMi, Bool.and_eq_true] at h
  have hb : bd8 1000000 a := fun k hk => by
    have := cyOk_bd h.1 k hk
    rwa [cyOf_f8 _ k hk] at this
  exact W8 (mir_bd hb) (by omega) k hk
/-- Faster. -/
theorem law_faster {L : List Wh} {n : Int} {k : Nat} (hk : k < 8) (h1 : yF n L = true) : dAt (tF n L) 1 k = dAt L (n % 24) k := by
  rw [yF, Bool.and_eq_true] at h1
  have hn := inR_iff.1 h1.1
  have e : tF n L = eachL n 0 0 false L := by rw [tF, h1.1]; rfl
  rw [e]
  refine (each_lin (by omega) h1.2 (atT_lin 1 k) (atT_loc 1 hk)).trans (linS_congr fun w _ => ?_)
  show tnI (tnI w.r.f (0 + 0 * w.s)) (1 * (n * w.s)) k = tnI w.r.f (n % 24 * w.s) k
  rw [tnI_mulmod, show 0 + 0 * w.s = 0 by omega, tnI_zero, Int.one_mul]

end Go.Proofs.Ytmdcafhnjihckaa

/- l1Gcd, the reference's: its word. Conditions: numbers of 64 bits. -/
namespace Go.Proofs.Ytmdcafhnjihckaa
open Go.RowKit
set_option maxRecDepth 100000

abbrev lvGc : Ex → List Nat := lv3 [0, 1] [0] [4]
theorem rndGc (a b : Int) : execC Try.prog g0 100 noLam (loopAt 0 Try.f154) (mkT 0 17 ((lvGc .normal).zip [.v (i64 a), .v (i64 b)])) [] (leafV 17 lvGc 0)
    = bif b != (0 : Int) then needs [!decide (b = (0 : Int))] (Res.out Ex.normal [AV.v (Value.int IntKind.i64 b), AV.v (Value.int IntKind.i64 (Int.tmod a b))] []) else Res.out (Ex.exit (0 : Nat)) [AV.v (Value.int IntKind.i64 a)] [] := by kernel_rfl

noncomputable abbrev lamGc (a b c : Int) : Nat → Option Sum := oneL 0 (atS 17 (lvGc .normal) 0 [.v (i64 a), .v (i64 b)] [] (fun K => K .normal (mkT 0 17 [(0, .v (i64 c))]) []))
theorem treeGc (a b c : Int) : execF Try.prog g0 (lamGc a b c) 100 Try.f154 [.v (i64 a), .v (i64 b)] [] (packK 0)
    = needs [chk ([AV.v (Value.int IntKind.i64 a), AV.v (Value.int IntKind.i64 b)] = [AV.v (Value.int IntKind.i64 a), AV.v (Value.int IntKind.i64 b)] ∧ Hsim [] [])] (Res.out Ex.ret [AV.v (Value.int IntKind.i64 (if IntKind.wrap IntKind.i64 ((0 : Int) - c) > c then IntKind.wrap IntKind.i64 ((0 : Int) - c) else c))] []) := by kernel_rfl

def gcdE : Nat → Int → Int → Int
  | 0, a, _ => a
  | n + 1, a, b => if b = 0 then a else gcdE n b (a.tmod b)

theorem sumGc (a b : Int) : SumOk Try.prog 0 (.block 0 (.loop (loopAt 0 Try.f154))) (atS 17 (lvGc .normal) 0 [.v (i64 a), .v (i64 b)] [] (fun K => K .normal (mkT 0 17 [(0, .v (i64 (gcdE (b.natAbs + 1) a b)))]) [])) := by
  refine loop_at g0_ok (n := 100) (m := 0) (lv := lvGc) (σ := Nat × Int × Int) (fun s => [.v (i64 s.2.1), .v (i64 s.2.2)]) (fun _ => []) (fun s => s.2.2.natAbs < s.1 ∧ gcdE s.1 s.2.1 s.2.2 = gcdE (b.natAbs + 1) a b) (fun s => s.1) (b.natAbs + 1, a, b) (fun _ => noLam) (lv3_ris rfl rfl rfl) (Nat.le_refl _) ⟨Nat.lt_succ_self _, rfl⟩ fun K Q hk s hs => ⟨noLam_ok _ _ _, ?_⟩
  obtain ⟨n, x, y⟩ := s
  obtain ⟨h1, h2⟩ := hs
  rw [rndGc]
  cases n with
  | zero => exact absurd h1 (Nat.not_lt_zero _)
  | succ n =>
    refine good_cond (fun c => ?_) fun c => ?_
    · have c : y ≠ 0 := by simpa using c
      have h2 : gcdE n y (x.tmod y) = gcdE (b.natAbs + 1) a b := by
        rw [← h2]
        show _ = if y = 0 then x else gcdE n y (x.tmod y)
        rw [if_neg c]
      have h1 : y.natAbs < n + 1 := h1
      have h3 : (x.tmod y).natAbs < y.natAbs := by
        rw [Int.natAbs_tmod]
        exact Nat.mod_lt _ (by omega)
      exact good_needs (by simp [obls, c]) (good_out ⟨(n, y, x.tmod y), ⟨⟨by show (x.tmod y).natAbs < n; omega, h2⟩, Nat.lt_succ_self _⟩, rfl, .nil⟩)
    · have c : y = 0 := by simpa using c
      have h2 : x = gcdE (b.natAbs + 1) a b := by
        rw [← h2]
        show _ = if y = 0 then x else gcdE n y (x.tmod y)
        rw [if_pos c]
      refine good_out ⟨_, .nil, ?_⟩
      rw [if_pos rfl]
      rw [← h2] at hk
      exact hk

def gcdF (a b : Int) : Int := if IntKind.wrap IntKind.i64 (0 - gcdE (b.natAbs + 1) a b) > gcdE (b.natAbs + 1) a b then IntKind.wrap IntKind.i64 (0 - gcdE (b.natAbs + 1) a b) else gcdE (b.natAbs + 1) a b
def F_gcd : List SA → Option FR
  | [.v (.int .i64 a), .v (.int .i64 b)] => some { val := .v (i64 (gcdF a b)) }
  | _ => none
theorem ok_gcd : SpecOk Try.prog 154 (specR [.val, .val] F_gcd) := by
  refine specR_hr g0_ok Try.func154 rfl fun sas fr hF ho => ?_
  unfold F_gcd at hF
  split at hF
  · rename_i a b
    cases hF
    refine ⟨[], lamGc a b (gcdE (b.natAbs + 1) a b), 100, .nil, lam1 (by kernel_rfl) (sumGc a b), ?_⟩
    show GoodQ (execF Try.prog g0 (lamGc a b (gcdE (b.natAbs + 1) a b)) 100 Try.f154 [.v (i64 a), .v (i64 b)] [] (packK 0)) _
    rw [treeGc]
    exact good_needs (by rw [ob_cons]; exact ⟨chk_of ⟨rfl, .nil⟩, rfl⟩) (good_out ⟨_, rfl, rfl, .nil⟩)
  · cases hF

end Go.Proofs.Ytmdcafhnjihckaa

/- The reference's RingDesign: trees; greatest common divisors. Conditions: numbers of 64 bits. -/
namespace Go.Proofs.Ytmdcafhnjihckaa
open Go.RowKit
set_option maxRecDepth 100000

theorem gcdE_abs : ∀ (n : Nat) (a b : Int), b.natAbs < n → (gcdE n a b).natAbs = Nat.gcd a.natAbs b.natAbs
  | 0, _, _, h => absurd h (Nat.not_lt_zero _)
  | n + 1, a, b, h => by
    unfold gcdE
    split
    · rename_i hb
      subst hb
      simp
    · rename_i hb
      have e : (a.tmod b).natAbs = a.natAbs % b.natAbs := Int.natAbs_tmod _ _
      have hlt : a.natAbs % b.natAbs < b.natAbs := Nat.mod_lt _ (by omega)
      rw [gcdE_abs n b (a.tmod b) (by omega), e, Nat.gcd_comm a.natAbs, Nat.gcd_rec b.natAbs a.natAbs, Nat.gcd_comm]
/-- The greatest common divisor. -/
theorem gcdF_eq {a b : Int} (ha : -1000000000000 ≤ a ∧ a ≤ 1000000000000) (hb : -1000000000000 ≤ b ∧ b ≤ 1000000000000) : gcdF a b = (Nat.gcd a.natAbs b.natAbs : Int) := by
  have h := gcdE_abs (b.natAbs + 1) a b (Nat.lt_succ_self _)
  have hle : Nat.gcd a.natAbs b.natAbs ≤ 1000000000000 := by
    by_cases h0 : a.natAbs = 0
    · rw [h0, Nat.gcd_zero_left]
      omega
    · exact Nat.le_trans (Nat.gcd_le_left _ (by omega)) (by omega)
  unfold gcdF
  rw [wr_in (by omega)]
  split <;> omega

theorem treeNu (s r : Int) : execF Try.prog g0 noLam 100 Try.f155 [.v (i64 s), .v (i64 r)] [] (packK 0)
    = Res.out Ex.ret [AV.agg [AV.v (Value.int IntKind.i64 s), AV.v (Value.int IntKind.i64 r), AV.v (Value.int IntKind.i64 (0 : Int)), AV.v (Value.int IntKind.i64 (0 : Int)), AV.v (Value.int IntKind.i64 (0 : Int)), AV.v (Value.int IntKind.i64 (0 : Int)), AV.v (Value.int IntKind.i64 (0 : Int)), AV.v (Value.int IntKind.i64 (0 : Int)), AV.v (Value.int IntKind.i64 (0 : Int))]] [] := by kernel_rfl

/-- A wheel with a whole radius. -/
def FnuO : List SA → Option FR
  | [.v (.int .i64 s), .v (.int .i64 r)] => some { val := .agg [.v (i64 s), .v (i64 r), .v (i64 0), .v (i64 0), .v (i64 0), .v (i64 0), .v (i64 0), .v (i64 0), .v (i64 0)] }
  | _ => none
theorem ok_num : SpecOk Try.prog 155 (specR [.val, .val] FnuO) := by
  refine specR_hr g0_ok Try.func155 rfl fun sas fr hF ho => ?_
  unfold FnuO at hF
  split at hF
  · rename_i s r
    cases hF
    refine ⟨[], noLam, 100, .nil, noLam' _, ?_⟩
    show GoodQ (execF Try.prog g0 noLam 100 Try.f155 [.v (i64 s), .v (i64 r)] [] (packK 0)) _
    rw [treeNu]
    exact good_out ⟨_, rfl, rfl, .nil⟩
  · cases hF
def FgcO (gf : Int → Int → Int) : List SA → Option FR
  | [.v (.int .i64 a), .v (.int .i64 b)] => some { val := .v (i64 (gf a b)) }
  | _ => none
theorem specR_sub' {P : Program} {f : FuncId} {mds : List Md} {F F' : List SA → Option FR} (h : ∀ sas fr', F' sas = some fr' → ∃ fr, F sas = some fr ∧ fr.val = fr'.val ∧ fr.new = fr'.new ∧ fr.put = fr'.put ∧ (obls fr'.obl = true → obls fr.obl = true)) (hs : SpecOk P f (specR mds F)) : SpecOk P f (specR mds F') := by
  refine ⟨hs.1, fun avs H base δ ν vals w hS ho hv hr hlt hf hsep => ?_⟩
  unfold specR at hS
  split at hS
  case h_2 => cases hS
  rename_i xs hxs
  split at hS
  case h_2 => cases hS
  rename_i fr' hF
  obtain ⟨fr, e, e1, e2, e3, e4⟩ := h _ _ hF
  split at hS
  case h_2 => cases hS
  rename_i av hav
  cases hc : ((!hasWr mds || nodupB ((ixC mds xs).filterMap id)) && fr'.new.all isRowT && Nat.beq (abP mds (xs.map (·.sa)) fr'.put).length (abC mds (xs.map (·.sa))).length) with
  | false => rw [hc] at hS; cases hS
  | true =>
  rw [hc] at hS
  simp only [cond_true, Option.some.injEq] at hS
  subst hS
  have ho' : obls (xs.flatMap (·.ob)) = true ∧ obls fr'.obl = true := by simpa [obls, List.all_append] using ho
  have hS2 : specR mds F avs H base = some { val := av, rd := (ixC mds xs).filterMap id, put := putC (ixC mds xs) (abP mds (xs.map (·.sa)) fr'.put), new := fr'.new, obl := xs.flatMap (·.ob) ++ fr.obl } := by
    unfold specR
    rw [hxs]
    simp only [e]
    rw [e1, e2, e3, hav]
    simp only [hc]
    rfl
  refine (hs.2 avs H base _ ν vals w hS2 (by simpa [obls, List.all_append] using And.intro ho'.1 (e4 ho'.2)) hv hr hlt hf hsep).mono ?_
  rintro e w' ⟨v, ν', rfl, d⟩
  exact ⟨v, ν', rfl, d.le, d.dom, d.val, d.put, d.new, d.os, d.tape, d.output, d.size, d.block, d.fresh, d.apart⟩
/-- l5Tidy of two wheels. -/
def Fti2 (ti : List Wh → List Wh) (okt : List Wh → Bool) : List SA → Option FR
  | [.row 2 g] => match g 0, g 1 with
    | [.int .i64 a0, .int .i64 a1, .int .i64 a2, .int .i64 a3, .int .i64 a4, .int .i64 a5, .int .i64 a6, .int .i64 a7, .int .i64 a8], [.int .i64 b0, .int .i64 b1, .int .i64 b2, .int .i64 b3, .int .i64 b4, .int .i64 b5, .int .i64 b6, .int .i64 b7, .int .i64 b8] => some { val := .tup [.own 0 (ti [⟨a0, ⟨a1, a2, a3, a4, a5, a6, a7, a8⟩⟩, ⟨b0, ⟨b1, b2, b3, b4, b5, b6, b7, b8⟩⟩]).length, .v (.bool (okt [⟨a0, ⟨a1, a2, a3, a4, a5, a6, a7, a8⟩⟩, ⟨b0, ⟨b1, b2, b3, b4, b5, b6, b7, b8⟩⟩]))], new := [.row true (ti [⟨a0, ⟨a1, a2, a3, a4, a5, a6, a7, a8⟩⟩, ⟨b0, ⟨b1, b2, b3, b4, b5, b6, b7, b8⟩⟩]).length 9 (row9 (wfun (ti [⟨a0, ⟨a1, a2, a3, a4, a5, a6, a7, a8⟩⟩, ⟨b0, ⟨b1, b2, b3, b4, b5, b6, b7, b8⟩⟩]))) 46] }
    | _, _ => none
  | _ => none
theorem ok_ti2 : SpecOk Try.prog 62 (specR md_ws (Fti2 tidyL okT)) := by
  have h := ok_tidyS
  rw [← FtidyO_eq] at h
  refine specR_sub' (fun sas fr hF => ?_) h
  unfold Fti2 at hF
  split at hF
  · rename_i g
    split at hF
    · rename_i a0 a1 a2 a3 a4 a5 a6 a7 a8 b0 b1 b2 b3 b4 b5 b6 b7 b8 e0 e1
      cases hF
      have hL : listW (itW g) 2 = [⟨a0, ⟨a1, a2, a3, a4, a5, a6, a7, a8⟩⟩, ⟨b0, ⟨b1, b2, b3, b4, b5, b6, b7, b8⟩⟩] := by
        show [whOf (itW g 0), whOf (itW g 1)] = _
        unfold whOf itW
        rw [e0, e1]
        rfl
      refine ⟨_, rfl, by simp only [hL], by simp only [hL], rfl, ?_⟩
      · have ha : allW 2 g = true := List.all_eq_true.2 fun j hj => by
          have hj : j < 2 := by simpa using hj
          rcases (by omega : j = 0 ∨ j = 1) with rfl | rfl
          · rw [e0]; rfl
          · rw [e1]; rfl
        intro _
        simp only [ob_cons, ob_nil, and_true]
        exact ⟨ha, by decide⟩
    · cases hF
  · cases hF
def gmRd (gf : Int → Int → Int) (ti : List Wh → List Wh) (okt : List Wh → Bool) : Gam := ext (ext (ext gm_l6In 154 (specR [.val, .val] (FgcO gf))) 155 (specR [.val, .val] FnuO)) 62 (specR md_ws (Fti2 ti okt))
theorem treeRd (gf : Int → Int → Int) (ti : List Wh → List Wh) (okt : List Wh → Bool) (a b : Int) (c : Bool) (d : Int) : execF Try.prog (gmRd gf ti okt) noLam 100 Try.f125 [.v (i64 a), .v (i64 b), .v (.bool c), .v (i64 d)] [] (packK 0)
    = bif !inR a (6 : Int) (240 : Int) then Res.out Ex.ret [AV.tup [AV.own (0 : Nat) (0 : Nat), AV.v (Value.bool false)]] [AB.row true (0 : Nat) (9 : Nat) (fun _ ↦ []) (46 : Nat)] else bif !inR b (6 : Int) (240 : Int) then Res.out Ex.ret [AV.tup [AV.own (0 : Nat) (0 : Nat), AV.v (Value.bool false)]] [AB.row true (0 : Nat) (9 : Nat) (fun _ ↦ []) (46 : Nat)] else bif c then bif decide (b ≥ a) then Res.out Ex.ret [AV.tup [AV.own (0 : Nat) (0 : Nat), AV.v (Value.bool false)]] [AB.row true (0 : Nat) (9 : Nat) (fun _ ↦ []) (46 : Nat)] else needs [!decide (gf a b = (0 : Int))] (bif !inR d (-300 : Int) (300 : Int) then Res.out Ex.ret [AV.tup [AV.own (0 : Nat) (0 : Nat), AV.v (Value.bool false)]] [AB.row true (0 : Nat) (9 : Nat) (fun _ ↦ []) (46 : Nat)] else bif c then needs [!decide (gf a b = (0 : Int)), !decide (gf a b = (0 : Int))] (Res.out Ex.ret [AV.tup [AV.own (0 : Nat) (List.length (ti [Wh.mk (IntKind.wrap IntKind.i64 (Int.tdiv b (gf a b))) (Cy.mk (IntKind.wrap IntKind.i64 (a - b)) (0 : Int) (0 : Int) (0 : Int) (0 : Int) (0 : Int) (0 : Int) (0 : Int)), Wh.mk (IntKind.wrap IntKind.i64 (Int.tdiv (IntKind.wrap IntKind.i64 (b - a)) (gf a b))) (Cy.mk d (0 : Int) (0 : Int) (0 : Int) (0 : Int) (0 : Int) (0 : Int) (0 : Int))])), AV.v (Value.bool (okt [Wh.mk (IntKind.wrap IntKind.i64 (Int.tdiv b (gf a b))) (Cy.mk (IntKind.wrap IntKind.i64 (a - b)) (0 : Int) (0 : Int) (0 : Int) (0 : Int) (0 : Int) (0 : Int) (0 : Int)), Wh.mk (IntKind.wrap IntKind.i64 (Int.tdiv (IntKind.wrap IntKind.i64 (b - a)) (gf a b))) (Cy.mk d (0 : Int) (0 : Int) (0 : Int) (0 : Int) (0 : Int) (0 : Int) (0 : Int))]))]] [AB.row true (List.length (ti [Wh.mk (IntKind.wrap IntKind.i64 (Int.tdiv b (gf a b))) (Cy.mk (IntKind.wrap IntKind.i64 (a - b)) (0 : Int) (0 : Int) (0 : Int) (0 : Int) (0 : Int) (0 : Int) (0 : Int)), Wh.mk (IntKind.wrap IntKind.i64 (Int.tdiv (IntKind.wrap IntKind.i64 (b - a)) (gf a b))) (Cy.mk d (0 : Int) (0 : Int) (0 : Int) (0 : Int) (0 : Int) (0 : Int) (0 : Int))])) (9 : Nat) (row9 (wfun (ti [Wh.mk (IntKind.wrap IntKind.i64 (Int.tdiv b (gf a b))) (Cy.mk (IntKind.wrap IntKind.i64 (a - b)) (0 : Int) (0 : Int) (0 : Int) (0 : Int) (0 : Int) (0 : Int) (0 : Int)), Wh.mk (IntKind.wrap IntKind.i64 (Int.tdiv (IntKind.wrap IntKind.i64 (b - a)) (gf a b))) (Cy.mk d (0 : Int) (0 : Int) (0 : Int) (0 : Int) (0 : Int) (0 : Int) (0 : Int))]))) (46 : TypeId)]) else needs [!decide (gf a b = (0 : Int)), !decide (gf a b = (0 : Int))] (Res.out Ex.ret [AV.tup [AV.own (0 : Nat) (List.length (ti [Wh.mk (IntKind.wrap IntKind.i64 (Int.tdiv b (gf a b))) (Cy.mk (IntKind.wrap IntKind.i64 (a + b)) (0 : Int) (0 : Int) (0 : Int) (0 : Int) (0 : Int) (0 : Int) (0 : Int)), Wh.mk (IntKind.wrap IntKind.i64 (Int.tdiv (IntKind.wrap IntKind.i64 (a + b)) (gf a b))) (Cy.mk (IntKind.wrap IntKind.i64 ((0 : Int) - d)) (0 : Int) (0 : Int) (0 : Int) (0 : Int) (0 : Int) (0 : Int) (0 : Int))])), AV.v (Value.bool (okt [Wh.mk (IntKind.wrap IntKind.i64 (Int.tdiv b (gf a b))) (Cy.mk (IntKind.wrap IntKind.i64 (a + b)) (0 : Int) (0 : Int) (0 : Int) (0 : Int) (0 : Int) (0 : Int) (0 : Int)), Wh.mk (IntKind.wrap IntKind.i64 (Int.tdiv (IntKind.wrap IntKind.i64 (a + b)) (gf a b))) (Cy.mk (IntKind.wrap IntKind.i64 ((0 : Int) - d)) (0 : Int) (0 : Int) (0 : Int) (0 : Int) (0 : Int) (0 : Int) (0 : Int))]))]] [AB.row true (List.length (ti [Wh.mk (IntKind.wrap IntKind.i64 (Int.tdiv b (gf a b))) (Cy.mk (IntKind.wrap IntKind.i64 (a + b)) (0 : Int) (0 : Int) (0 : Int) (0 : Int) (0 : Int) (0 : Int) (0 : Int)), Wh.mk (IntKind.wrap IntKind.i64 (Int.tdiv (IntKind.wrap IntKind.i64 (a + b)) (gf a b))) (Cy.mk (IntKind.wrap IntKind.i64 ((0 : Int) - d)) (0 : Int) (0 : Int) (0 : Int) (0 : Int) (0 : Int) (0 : Int) (0 : Int))])) (9 : Nat) (row9 (wfun (ti [Wh.mk (IntKind.wrap IntKind.i64 (Int.tdiv b (gf a b))) (Cy.mk (IntKind.wrap IntKind.i64 (a + b)) (0 : Int) (0 : Int) (0 : Int) (0 : Int) (0 : Int) (0 : Int) (0 : Int)), Wh.mk (IntKind.wrap IntKind.i64 (Int.tdiv (IntKind.wrap IntKind.i64 (a + b)) (gf a b))) (Cy.mk (IntKind.wrap IntKind.i64 ((0 : Int) - d)) (0 : Int) (0 : Int) (0 : Int) (0 : Int) (0 : Int) (0 : Int) (0 : Int))]))) (46 : TypeId)])) else needs [!decide (gf a b = (0 : Int))] (bif !inR d (-300 : Int) (300 : Int) then Res.out Ex.ret [AV.tup [AV.own (0 : Nat) (0 : Nat), AV.v (Value.bool false)]] [AB.row true (0 : Nat) (9 : Nat) (fun _ ↦ []) (46 : Nat)] else bif c then needs [!decide (gf a b = (0 : Int)), !decide (gf a b = (0 : Int))] (Res.out Ex.ret [AV.tup [AV.own (0 : Nat) (List.length (ti [Wh.mk (IntKind.wrap IntKind.i64 (Int.tdiv b (gf a b))) (Cy.mk (IntKind.wrap IntKind.i64 (a - b)) (0 : Int) (0 : Int) (0 : Int) (0 : Int) (0 : Int) (0 : Int) (0 : Int)), Wh.mk (IntKind.wrap IntKind.i64 (Int.tdiv (IntKind.wrap IntKind.i64 (b - a)) (gf a b))) (Cy.mk d (0 : Int) (0 : Int) (0 : Int) (0 : Int) (0 : Int) (0 : Int) (0 : Int))])), AV.v (Value.bool (okt [Wh.mk (IntKind.wrap IntKind.i64 (Int.tdiv b (gf a b))) (Cy.mk (IntKind.wrap IntKind.i64 (a - b)) (0 : Int) (0 : Int) (0 : Int) (0 : Int) (0 : Int) (0 : Int) (0 : Int)), Wh.mk (IntKind.wrap IntKind.i64 (Int.tdiv (IntKind.wrap IntKind.i64 (b - a)) (gf a b))) (Cy.mk d (0 : Int) (0 : Int) (0 : Int) (0 : Int) (0 : Int) (0 : Int) (0 : Int))]))]] [AB.row true (List.length (ti [Wh.mk (IntKind.wrap IntKind.i64 (Int.tdiv b (gf a b))) (Cy.mk (IntKind.wrap IntKind.i64 (a - b)) (0 : Int) (0 : Int) (0 : Int) (0 : Int) (0 : Int) (0 : Int) (0 : Int)), Wh.mk (IntKind.wrap IntKind.i64 (Int.tdiv (IntKind.wrap IntKind.i64 (b - a)) (gf a b))) (Cy.mk d (0 : Int) (0 : Int) (0 : Int) (0 : Int) (0 : Int) (0 : Int) (0 : Int))])) (9 : Nat) (row9 (wfun (ti [Wh.mk (IntKind.wrap IntKind.i64 (Int.tdiv b (gf a b))) (Cy.mk (IntKind.wrap IntKind.i64 (a - b)) (0 : Int) (0 : Int) (0 : Int) (0 : Int) (0 : Int) (0 : Int) (0 : Int)), Wh.mk (IntKind.wrap IntKind.i64 (Int.tdiv (IntKind.wrap IntKind.i64 (b - a)) (gf a b))) (Cy.mk d (0 : Int) (0 : Int) (0 : Int) (0 : Int) (0 : Int) (0 : Int) (0 : Int))]))) (46 : TypeId)]) else needs [!decide (gf a b = (0 : Int)), !decide (gf a b = (0 : Int))] (Res.out Ex.ret [AV.tup [AV.own (0 : Nat) (List.length (ti [Wh.mk (IntKind.wrap IntKind.i64 (Int.tdiv b (gf a b))) (Cy.mk (IntKind.wrap IntKind.i64 (a + b)) (0 : Int) (0 : Int) (0 : Int) (0 : Int) (0 : Int) (0 : Int) (0 : Int)), Wh.mk (IntKind.wrap IntKind.i64 (Int.tdiv (IntKind.wrap IntKind.i64 (a + b)) (gf a b))) (Cy.mk (IntKind.wrap IntKind.i64 ((0 : Int) - d)) (0 : Int) (0 : Int) (0 : Int) (0 : Int) (0 : Int) (0 : Int) (0 : Int))])), AV.v (Value.bool (okt [Wh.mk (IntKind.wrap IntKind.i64 (Int.tdiv b (gf a b))) (Cy.mk (IntKind.wrap IntKind.i64 (a + b)) (0 : Int) (0 : Int) (0 : Int) (0 : Int) (0 : Int) (0 : Int) (0 : Int)), Wh.mk (IntKind.wrap IntKind.i64 (Int.tdiv (IntKind.wrap IntKind.i64 (a + b)) (gf a b))) (Cy.mk (IntKind.wrap IntKind.i64 ((0 : Int) - d)) (0 : Int) (0 : Int) (0 : Int) (0 : Int) (0 : Int) (0 : Int) (0 : Int))]))]] [AB.row true (List.length (ti [Wh.mk (IntKind.wrap IntKind.i64 (Int.tdiv b (gf a b))) (Cy.mk (IntKind.wrap IntKind.i64 (a + b)) (0 : Int) (0 : Int) (0 : Int) (0 : Int) (0 : Int) (0 : Int) (0 : Int)), Wh.mk (IntKind.wrap IntKind.i64 (Int.tdiv (IntKind.wrap IntKind.i64 (a + b)) (gf a b))) (Cy.mk (IntKind.wrap IntKind.i64 ((0 : Int) - d)) (0 : Int) (0 : Int) (0 : Int) (0 : Int) (0 : Int) (0 : Int) (0 : Int))])) (9 : Nat) (row9 (wfun (ti [Wh.mk (IntKind.wrap IntKind.i64 (Int.tdiv b (gf a b))) (Cy.mk (IntKind.wrap IntKind.i64 (a + b)) (0 : Int) (0 : Int) (0 : Int) (0 : Int) (0 : Int) (0 : Int) (0 : Int)), Wh.mk (IntKind.wrap IntKind.i64 (Int.tdiv (IntKind.wrap IntKind.i64 (a + b)) (gf a b))) (Cy.mk (IntKind.wrap IntKind.i64 ((0 : Int) - d)) (0 : Int) (0 : Int) (0 : Int) (0 : Int) (0 : Int) (0 : Int) (0 : Int))]))) (46 : TypeId)])) := by kernel_rfl

/-- The ring design that is drawn. -/
def FrdO (rd : Int → Int → Bool → Int → List Wh) (ro : Int → Int → Bool → Int → Bool) : List SA → Option FR
  | [.v (.int .i64 a), .v (.int .i64 b), .v (.bool c), .v (.int .i64 d)] => some { val := .tup [.own 0 (rd a b c d).length, .v (.bool (ro a b c d))], new := [.row true (rd a b c d).length 9 (row9 (wfun (rd a b c d))) 46] }
  | _ => none
def rnP (a b : Int) (c : Bool) (d : Int) : Bool := inR a 6 240 && (inR b 6 240 && (!(c && decide (b ≥ a)) && inR d (-300) 300))
def rnW (a b : Int) (c : Bool) (d : Int) : List Wh := bif c then [⟨IntKind.wrap IntKind.i64 (Int.tdiv b (gcdF a b)), ⟨IntKind.wrap IntKind.i64 (a - b), 0, 0, 0, 0, 0, 0, 0⟩⟩, ⟨IntKind.wrap IntKind.i64 (Int.tdiv (IntKind.wrap IntKind.i64 (b - a)) (gcdF a b)), ⟨d, 0, 0, 0, 0, 0, 0, 0⟩⟩] else [⟨IntKind.wrap IntKind.i64 (Int.tdiv b (gcdF a b)), ⟨IntKind.wrap IntKind.i64 (a + b), 0, 0, 0, 0, 0, 0, 0⟩⟩, ⟨IntKind.wrap IntKind.i64 (Int.tdiv (IntKind.wrap IntKind.i64 (a + b)) (gcdF a b)), ⟨IntKind.wrap IntKind.i64 (0 - d), 0, 0, 0, 0, 0, 0, 0⟩⟩]
def rnL (a b : Int) (c : Bool) (d : Int) : List Wh := bif rnP a b c d then tidyL (rnW a b c d) else []
def rnO (a b : Int) (c : Bool) (d : Int) : Bool := rnP a b c d && okT (rnW a b c d)
theorem gmRd_ok : GamOk Try.prog (gmRd gcdF tidyL okT) := by
  refine ext_ok (ext_ok (ext_ok gm_l6In_ok ?_) ok_num) ok_ti2
  have e : FgcO gcdF = F_gcd := by funext l; rfl
  rw [e]
  exact ok_gcd
theorem gcd_nz {a b : Int} (ha : inR a 6 240 = true) (hb : inR b 6 240 = true) : gcdF a b ≠ 0 := by
  have ha := inR_iff.1 ha
  have hb := inR_iff.1 hb
  rw [gcdF_eq (by omega) (by omega)]
  have : 0 < Nat.gcd a.natAbs b.natAbs := Nat.gcd_pos_of_pos_left _ (by omega)
  omega
theorem rnL_no {a b : Int} {c : Bool} {d : Int} (h : rnP a b c d = false) : rnL a b c d = [] ∧ rnO a b c d = false := ⟨by rw [rnL, h]; rfl, by rw [rnO, h]; rfl⟩
theorem rnL_yes {a b : Int} {c : Bool} {d : Int} (h : rnP a b c d = true) : rnL a b c d = tidyL (rnW a b c d) ∧ rnO a b c d = okT (rnW a b c d) := ⟨by rw [rnL, h]; rfl, by rw [rnO, h, Bool.true_and]⟩
theorem rnL_len (a b : Int) (c : Bool) (d : Int) : (rnL a b c d).length ≤ 12 := by
  cases h : rnP a b c d with
  | false => rw [(rnL_no h).1]; exact Nat.zero_le _
  | true =>
    rw [(rnL_yes h).1]
    cases ht : okT (rnW a b c d) with
    | true => exact tidyL_len ht
    | false => rw [tidyL_no ht]; exact Nat.zero_le _
theorem ok_rd : SpecOk Try.prog 125 (specR [.val, .val, .val, .val] (FrdO rnL rnO)) := by
  refine specR_hr gmRd_ok Try.func125 rfl fun sas fr hF ho => ?_
  unfold FrdO at hF
  split at hF
  · rename_i a b c d
    cases hF
    refine ⟨[], noLam, 100, .nil, noLam' _, ?_⟩
    show GoodQ (execF Try.prog (gmRd gcdF tidyL okT) noLam 100 Try.f125 [.v (i64 a), .v (i64 b), .v (.bool c), .v (i64 d)] [] (packK 0)) _
    rw [treeRd]
    have bad : rnP a b c d = false → GoodQ (.out .ret [.tup [.own 0 0, .v (.bool false)]] [.row true 0 9 (fun _ => []) 46]) (GivR (abP [.val, .val, .val, .val] [.v (.int .i64 a), .v (.int .i64 b), .v (.bool c), .v (.int .i64 d)] []) { val := .tup [.own 0 (rnL a b c d).length, .v (.bool (rnO a b c d))], new := [.row true (rnL a b c d).length 9 (row9 (wfun (rnL a b c d))) 46] }) := by
      intro h
      rw [(rnL_no h).1, (rnL_no h).2]
      exact good_out ⟨_, rfl, rfl, .cons (ABeq.row fun j hj => absurd hj (Nat.not_lt_zero _)) .nil⟩
    have yes : ∀ M : List Wh, rnP a b c d = true → rnW a b c d = M → GoodQ (.out .ret [.tup [.own 0 (tidyL M).length, .v (.bool (okT M))]] [.row true (tidyL M).length 9 (row9 (wfun (tidyL M))) 46]) (GivR (abP [.val, .val, .val, .val] [.v (.int .i64 a), .v (.int .i64 b), .v (.bool c), .v (.int .i64 d)] []) { val := .tup [.own 0 (rnL a b c d).length, .v (.bool (rnO a b c d))], new := [.row true (rnL a b c d).length 9 (row9 (wfun (rnL a b c d))) 46] }) := by
      rintro M h rfl
      rw [(rnL_yes h).1, (rnL_yes h).2]
      exact good_out ⟨_, rfl, rfl, Hsim.refl _⟩
    cases h1 : inR a 6 240 with
    | false => exact good_true rfl (bad (by rw [rnP, h1]; rfl))
    | true =>
    refine good_false rfl ?_
    cases h2 : inR b 6 240 with
    | false => exact good_true rfl (bad (by rw [rnP, h1, h2]; rfl))
    | true =>
    refine good_false rfl ?_
    have hz : decide (gcdF a b = 0) = false := decide_eq_false (gcd_nz h1 h2)
    rw [hz]
    cases c with
    | true =>
      refine good_true rfl ?_
      cases h3 : decide (b ≥ a) with
      | true => exact good_true rfl (bad (by rw [rnP, h1, h2, h3]; rfl))
      | false =>
      refine good_false rfl (good_needs rfl ?_)
      cases h4 : inR d (-300) 300 with
      | false => exact good_true rfl (bad (by rw [rnP, h1, h2, h3, h4]; rfl))
      | true => exact good_false rfl (good_true rfl (good_needs rfl (yes _ (by rw [rnP, h1, h2, h3, h4]; rfl) rfl)))
    | false =>
      refine good_false rfl (good_needs rfl ?_)
      cases h4 : inR d (-300) 300 with
      | false => exact good_true rfl (bad (by rw [rnP, h1, h2, h4]; rfl))
      | true => exact good_false rfl (good_false rfl (good_needs rfl (yes _ (by rw [rnP, h1, h2, h4]; rfl) rfl)))
  · cases hF

end Go.Proofs.Ytmdcafhnjihckaa

/- The greatest common divisor, of both. Conditions: numbers up to 10^12. -/
namespace Go.Proofs.Ytmdcafhnjihckaa
open Go.RowKit
set_option maxRecDepth 100000

def gcdI (a b : Int) : Int := (Nat.gcd a.natAbs b.natAbs : Int)
def FgdO (gf : Int → Int → Int) : List SA → Option FR
  | [.v (.int .i64 a), .v (.int .i64 b)] => some { val := .v (i64 (gf a b)), obl := [inR a (-1000000000000) 1000000000000, inR b (-1000000000000) 1000000000000] }
  | _ => none
theorem ok_gdS : SpecOk Try.prog 154 (specR [.val, .val] (FgdO gcdI)) := by
  refine ⟨ok_gcd.1, fun avs H base δ ν vals w hS ho hv hr hlt hf hsep => ?_⟩
  unfold specR at hS
  split at hS
  case h_2 => cases hS
  rename_i xs hxs
  split at hS
  case h_2 => cases hS
  rename_i fr' hF
  unfold FgdO at hF
  split at hF
  case h_2 => cases hF
  rename_i a b hx
  cases hF
  have hS' := hS
  simp only [shA] at hS
  cases hc : ((!hasWr [Md.val, Md.val] || nodupB ((ixC [Md.val, Md.val] xs).filterMap id)) && ([] : List AB).all isRowT && Nat.beq (abP [Md.val, Md.val] (xs.map (·.sa)) []).length (abC [Md.val, Md.val] (xs.map (·.sa))).length) with
  | false => rw [hc] at hS; cases hS
  | true =>
  rw [hc] at hS
  simp only [cond_true, Option.some.injEq] at hS
  subst hS
  have ho' : obls (xs.flatMap (·.ob)) = true ∧ obls [inR a (-1000000000000) 1000000000000, inR b (-1000000000000) 1000000000000] = true := by simpa [obls, List.all_append] using ho
  have h2 := ho'.2
  simp only [ob_cons] at h2
  have ha := inR_iff.1 h2.1
  have hb := inR_iff.1 h2.2.1
  have hS2 : specR [.val, .val] F_gcd avs H base = some { val := .v (i64 (gcdI a b)), rd := (ixC [Md.val, Md.val] xs).filterMap id, put := putC (ixC [Md.val, Md.val] xs) (abP [Md.val, Md.val] (xs.map (·.sa)) []), new := [], obl := xs.flatMap (·.ob) ++ [] } := by
    unfold specR
    rw [hxs]
    simp only [hx, F_gcd, shA, gcdF_eq ha hb]
    rw [hx] at hc
    simp only [hc]
    rfl
  refine (ok_gcd.2 avs H base _ ν vals w hS2 (by simpa [obls, List.all_append] using ho'.1) hv hr hlt hf hsep).mono ?_
  rintro e w' ⟨v, ν', rfl, d⟩
  exact ⟨v, ν', rfl, d.le, d.dom, d.val, d.put, d.new, d.os, d.tape, d.output, d.size, d.block, d.fresh, d.apart⟩

abbrev lvGd : Ex → List Nat := lv3 [0, 1] [0] [4]
theorem rndGd (a b : Int) : execC Try.prog g0 100 noLam (loopAt 0 Try.f78) (mkT 0 15 ((lvGd .normal).zip [.v (i64 a), .v (i64 b)])) [] (leafV 15 lvGd 0)
    = bif b != (0 : Int) then needs [!decide (b = (0 : Int))] (Res.out Ex.normal [AV.v (Value.int IntKind.i64 b), AV.v (Value.int IntKind.i64 (Int.tmod a b))] []) else Res.out (Ex.exit (0 : Nat)) [AV.v (Value.int IntKind.i64 a)] [] := by kernel_rfl

noncomputable abbrev lamGd (a b c : Int) : Nat → Option Sum := oneL 0 (atS 15 (lvGd .normal) 0 [.v (i64 a), .v (i64 b)] [] (fun K => K .normal (mkT 0 15 [(0, .v (i64 c))]) []))
theorem treeGd (a b c : Int) : execF Try.prog g0 (lamGd a b c) 100 Try.f78 [.v (i64 a), .v (i64 b)] [] (packK 0)
    = needs [chk ([AV.v (Value.int IntKind.i64 a), AV.v (Value.int IntKind.i64 b)] = [AV.v (Value.int IntKind.i64 a), AV.v (Value.int IntKind.i64 b)] ∧ Hsim [] [])] (Res.out Ex.ret [AV.v (Value.int IntKind.i64 (if IntKind.wrap IntKind.i64 ((0 : Int) - c) > c then IntKind.wrap IntKind.i64 ((0 : Int) - c) else c))] []) := by kernel_rfl

theorem sumGd (a b : Int) : SumOk Try.prog 0 (.block 0 (.loop (loopAt 0 Try.f78))) (atS 15 (lvGd .normal) 0 [.v (i64 a), .v (i64 b)] [] (fun K => K .normal (mkT 0 15 [(0, .v (i64 (gcdE (b.natAbs + 1) a b)))]) [])) := by
  refine loop_at g0_ok (n := 100) (m := 0) (lv := lvGd) (σ := Nat × Int × Int) (fun s => [.v (i64 s.2.1), .v (i64 s.2.2)]) (fun _ => []) (fun s => s.2.2.natAbs < s.1 ∧ gcdE s.1 s.2.1 s.2.2 = gcdE (b.natAbs + 1) a b) (fun s => s.1) (b.natAbs + 1, a, b) (fun _ => noLam) (lv3_ris rfl rfl rfl) (Nat.le_refl _) ⟨Nat.lt_succ_self _, rfl⟩ fun K Q hk s hs => ⟨noLam_ok _ _ _, ?_⟩
  obtain ⟨n, x, y⟩ := s
  obtain ⟨h1, h2⟩ := hs
  rw [rndGd]
  cases n with
  | zero => exact absurd h1 (Nat.not_lt_zero _)
  | succ n =>
    refine good_cond (fun c => ?_) fun c => ?_
    · have c : y ≠ 0 := by simpa using c
      have h2 : gcdE n y (x.tmod y) = gcdE (b.natAbs + 1) a b := by
        rw [← h2]
        show _ = if y = 0 then x else gcdE n y (x.tmod y)
        rw [if_neg c]
      have h1 : y.natAbs < n + 1 := h1
      have h3 : (x.tmod y).natAbs < y.natAbs := by
        rw [Int.natAbs_tmod]
        exact Nat.mod_lt _ (by omega)
      exact good_needs (by simp [obls, c]) (good_out ⟨(n, y, x.tmod y), ⟨⟨by show (x.tmod y).natAbs < n; omega, h2⟩, Nat.lt_succ_self _⟩, rfl, .nil⟩)
    · have c : y = 0 := by simpa using c
      have h2 : x = gcdE (b.natAbs + 1) a b := by
        rw [← h2]
        show _ = if y = 0 then x else gcdE n y (x.tmod y)
        rw [if_pos c]
      refine good_out ⟨_, .nil, ?_⟩
      rw [if_pos rfl]
      rw [← h2] at hk
      exact hk


theorem ok_gdI : SpecOk Try.prog 78 (specR [.val, .val] (FgdO gcdI)) := by
  refine specR_hr g0_ok Try.func78 rfl fun sas fr hF ho => ?_
  unfold FgdO at hF
  split at hF
  · rename_i a b
    cases hF
    simp only [ob_cons] at ho
    obtain ⟨ha, hb, _⟩ := ho
    have e := gcdF_eq (inR_iff.1 ha) (inR_iff.1 hb)
    refine ⟨[], lamGd a b (gcdE (b.natAbs + 1) a b), 100, .nil, lam1 (by kernel_rfl) (sumGd a b), ?_⟩
    show GoodQ (execF Try.prog g0 (lamGd a b (gcdE (b.natAbs + 1) a b)) 100 Try.f78 [.v (i64 a), .v (i64 b)] [] (packK 0)) _
    rw [treeGd]
    refine good_needs (by rw [ob_cons]; exact ⟨chk_of ⟨rfl, .nil⟩, rfl⟩) (good_out ⟨_, rfl, ?_, .nil⟩)
    show [AV.v (i64 (gcdF a b))] = [AV.v (i64 (gcdI a b))]
    rw [e]
    rfl
  · cases hF

end Go.Proofs.Ytmdcafhnjihckaa

/- DesignPeriod and DesignFold of both: trees. Conditions: a list of wheels. -/
namespace Go.Proofs.Ytmdcafhnjihckaa
open Go.RowKit
set_option maxRecDepth 100000

def gmPr (gf : Int → Int → Int) : Gam := ext (ext g0 78 (specR [.val, .val] (FgdO gf))) 154 (specR [.val, .val] (FgdO gf))
def gmPt (yI : List Wh → Bool) (tI : List Wh → List Wh) : Gam := ext (ext g0 37 (specU md_ws (UO0 yI tI))) 73 (specR md_ws (FOw yI tI))
abbrev hpPI (m : Nat) (f : Nat → Nat → Int) (k : Nat) (g : Nat → Nat → Int) : List AB := [.row false m 9 (row9 f) 46, .row false k 9 (row9 g) 46]
abbrev hpPS (m : Nat) (f : Nat → Nat → Int) (k : Nat) (g : Nat → Nat → Int) : List AB := [.row false m 9 (row9 f) 46, .row true k 9 (row9 g) 46]
abbrev hpP1 (m : Nat) (f : Nat → Nat → Int) : List AB := [.row false m 9 (row9 f) 46]
abbrev lvPI : Ex → List Nat := lv3 [5, 15, 16, 17] [5] [2]
abbrev stPI (k : Nat) (x : Int) (i : Nat) : List AV := [.v (i64 x), .sl 1 9 0 0 k (some k), .v (i64 k), .v (i64 i)]
noncomputable abbrev lamPI (m : Nat) (f : Nat → Nat → Int) (k : Nat) (g : Nat → Nat → Int) (x : Int) : Nat → Option Sum := oneL 0 (atS 27 (lvPI .normal) 1 (stPI k 0 0) (hpPI m f k g) (fun K => K .normal (mkT 0 27 [(5, .v (i64 x))]) (hpP1 m f)))
abbrev lvPS : Ex → List Nat := lv3 [3, 5, 6] [5] [2]
abbrev stPS (k : Nat) (x : Int) (i : Nat) : List AV := [.own 1 k, .v (i64 x), .v (i64 i)]
noncomputable abbrev lamPS (m : Nat) (f : Nat → Nat → Int) (k : Nat) (g : Nat → Nat → Int) (x : Int) : Nat → Option Sum := oneL 0 (atS 28 (lvPS .normal) 1 (stPS k 0 0) (hpPS m f k g) (fun K => K .normal (mkT 0 28 [(5, .v (i64 x))]) (hpP1 m f)))
noncomputable abbrev fQI : Func := Try.f23
abbrev lvQI : Ex → List Nat := lv3 [3, 5, 15, 16, 17] [5] [2]
abbrev stQI (k : Nat) (x : Int) (i : Nat) : List AV := [.sl 1 9 0 0 k (some k), .v (i64 x), .sl 1 9 0 0 k (some k), .v (i64 k), .v (i64 i)]
theorem rndQI (gf : Int → Int → Int) (m : Nat) (f : Nat → Nat → Int) (k : Nat) (g : Nat → Nat → Int) (x : Int) (i : Nat) : execC Try.prog (gmPr gf) 100 noLam (loopAt 0 fQI) (mkT 0 32 ((lvQI .normal).zip (stQI k x i))) (hpPI m f k g) (leafV 32 lvQI 1)
    = bif decide ((↑i : Int) < (↑k : Int)) then needs [decide ((↑i : Int) < (↑k : Int)), decide ((0 : Nat) + Int.toNat (↑i : Int) < k), decide ((0 : Int) < (↑k : Int)), decide ((0 : Nat) < k), inR x (-1000000000000 : Int) (1000000000000 : Int), inR (IntKind.wrap IntKind.i64 (g ((0 : Nat) + Int.toNat (↑i : Int)) (0 : Nat) - g (0 : Nat) (0 : Nat))) (-1000000000000 : Int) (1000000000000 : Int)] (Res.out Ex.normal [AV.sl (1 : Nat) (9 : Nat) (0 : Nat) (0 : Nat) k (some k), AV.v (Value.int IntKind.i64 (gf x (IntKind.wrap IntKind.i64 (g ((0 : Nat) + Int.toNat (↑i : Int)) (0 : Nat) - g (0 : Nat) (0 : Nat))))), AV.sl (1 : Nat) (9 : Nat) (0 : Nat) (0 : Nat) k (some k), AV.v (Value.int IntKind.i64 (↑k : Int)), AV.v (Value.int IntKind.i64 (IntKind.wrap IntKind.i64 ((↑i : Int) + (1 : Int))))] [AB.row false m (9 : Nat) (row9 f) (46 : TypeId), AB.row false k (9 : Nat) (row9 g) (46 : TypeId)]) else Res.out (Ex.exit (0 : Nat)) [AV.v (Value.int IntKind.i64 x)] [AB.row false m (9 : Nat) (row9 f) (46 : TypeId)] := by kernel_rfl

noncomputable abbrev lamQI (m : Nat) (f : Nat → Nat → Int) (k : Nat) (g : Nat → Nat → Int) (x : Int) : Nat → Option Sum := oneL 0 (atS 32 (lvQI .normal) 1 (stQI k 0 0) (hpPI m f k g) (fun K => K .normal (mkT 0 32 [(5, .v (i64 x))]) (hpP1 m f)))
theorem treeQI (yI : List Wh → Bool) (tI : List Wh → List Wh) (m : Nat) (f : Nat → Nat → Int) (k : Nat) (g : Nat → Nat → Int) (x : Int) : execF Try.prog (gmPt yI tI) (lamQI m f k g x) 100 fQI [.sl 0 9 0 0 m none] (hpP1 m f) (packK 1)
    = needs [Nat.ble ((0 : Nat) + m) m, allW m fun q ↦ row9 f ((0 : Nat) + q), decide (m ≤ (274877906944 : Nat))] (bif !yI (listW (itW fun q ↦ row9 f ((0 : Nat) + q)) m) then Res.out Ex.ret [AV.v (Value.int IntKind.i64 (-1 : Int))] [AB.row false m (9 : Nat) (row9 f) (46 : TypeId)] else needs [chk ([AV.sl (1 : Nat) (9 : Nat) (0 : Nat) (0 : Nat) (List.length (tI (listW (itW fun q ↦ row9 f ((0 : Nat) + q)) m))) (some (List.length (tI (listW (itW fun q ↦ row9 f ((0 : Nat) + q)) m)))), AV.v (Value.int IntKind.i64 (0 : Int)), AV.sl (1 : Nat) (9 : Nat) (0 : Nat) (0 : Nat) (List.length (tI (listW (itW fun q ↦ row9 f ((0 : Nat) + q)) m))) (some (List.length (tI (listW (itW fun q ↦ row9 f ((0 : Nat) + q)) m)))), AV.v (Value.int IntKind.i64 (↑(List.length (tI (listW (itW fun q ↦ row9 f ((0 : Nat) + q)) m))) : Int)), AV.v (Value.int IntKind.i64 (0 : Int))] = stQI k (0 : Int) (0 : Nat) ∧ Hsim [AB.row false m (9 : Nat) (row9 f) (46 : TypeId), AB.row false (List.length (tI (listW (itW fun q ↦ row9 f ((0 : Nat) + q)) m))) (9 : Nat) (row9 (wfun (tI (listW (itW fun q ↦ row9 f ((0 : Nat) + q)) m)))) (46 : TypeId)] (hpPI m f k g))] (Res.out Ex.ret [AV.v (Value.int IntKind.i64 x)] [AB.row false m (9 : Nat) (row9 f) (46 : TypeId)])) := by kernel_rfl

abbrev lvQS : Ex → List Nat := lv3 [3, 5, 6] [5] [2]
abbrev stQS (k : Nat) (x : Int) (i : Nat) : List AV := [.own 1 k, .v (i64 x), .v (i64 ((i : Int) + 1))]
noncomputable abbrev lamQS (m : Nat) (f : Nat → Nat → Int) (k : Nat) (g : Nat → Nat → Int) (x : Int) : Nat → Option Sum := oneL 0 (atS 33 (lvQS .normal) 1 (stQS k 0 0) (hpPS m f k g) (fun K => K .normal (mkT 0 33 [(5, .v (i64 x))]) (hpP1 m f)))
end Go.Proofs.Ytmdcafhnjihckaa

/- DesignPeriod and DesignFold of both: their words. Conditions: a list of wheels. -/
namespace Go.Proofs.Ytmdcafhnjihckaa
open Go.RowKit
set_option maxRecDepth 100000

/-- The greatest common divisor of the first numbers. -/
def pgF (h : Nat → Int) : Nat → Int
  | 0 => 0
  | i + 1 => gcdI (pgF h i) (h i)
theorem gcdI_zero (a : Int) : gcdI 0 a = a.natAbs := by
  unfold gcdI
  rw [show (0 : Int).natAbs = 0 from rfl, Nat.gcd_zero_left]
theorem pgF_in {h : Nat → Int} {k : Nat} (hh : ∀ i, i < k → -2000 ≤ h i ∧ h i ≤ 2000) : ∀ i, i ≤ k → 0 ≤ pgF h i ∧ pgF h i ≤ 2000
  | 0, _ => by show 0 ≤ (0 : Int) ∧ (0 : Int) ≤ 2000; omega
  | i + 1, hi => by
    have ih := pgF_in hh i (by omega)
    have hb := hh i (by omega)
    show 0 ≤ (Nat.gcd (pgF h i).natAbs (h i).natAbs : Int) ∧ (Nat.gcd (pgF h i).natAbs (h i).natAbs : Int) ≤ 2000
    refine ⟨by omega, ?_⟩
    by_cases h0 : (pgF h i).natAbs = 0
    · rw [h0, Nat.gcd_zero_left]
      omega
    · have := Nat.gcd_le_left (h i).natAbs (show 0 < (pgF h i).natAbs by omega)
      omega
theorem gmPr_ok : GamOk Try.prog (gmPr gcdI) := ext_ok (ext_ok g0_ok ok_gdI) ok_gdS
theorem gmPt_ok : GamOk Try.prog (gmPt yI tI) := ext_ok (ext_ok g0_ok ok_UTi) ok_tiS
def spH (T : List Wh) : Nat → Int := fun i => wfun T i 0
def dfH (T : List Wh) : Nat → Int := fun i => IntKind.wrap IntKind.i64 (wfun T i 0 - wfun T 0 0)
theorem spH_at {T : List Wh} {i : Nat} (hi : i < T.length) : spH T i = T[i].s := by
  unfold spH
  rw [wfun_get hi]
  rfl
theorem tidy_sp {T : List Wh} (h : isTidy T) {i : Nat} (hi : i < T.length) : -1000 ≤ wfun T i 0 ∧ wfun T i 0 ≤ 1000 := by
  have e : wfun T i 0 = T[i].s := spH_at hi
  rw [e]
  exact (okD_all (tidy_okD h) (List.getElem_mem hi)).1
theorem dfH_in {T : List Wh} (hT : isTidy T) {i : Nat} (hi : i < T.length) : -2000 ≤ dfH T i ∧ dfH T i ≤ 2000 := by
  have h1 := tidy_sp hT hi
  have h0 := tidy_sp hT (i := 0) (by omega)
  unfold dfH
  rw [wr_in (by omega)]
  omega
theorem sumQI (m : Nat) (f : Nat → Nat → Int) (T : List Wh) (hT : isTidy T) :
    SumOk Try.prog 1 (.block 0 (.loop (loopAt 0 fQI))) (atS 32 (lvQI .normal) 1 (stQI T.length 0 0) (hpPI m f T.length (wfun T)) (fun K => K .normal (mkT 0 32 [(5, .v (i64 (pgF (dfH T) T.length)))]) (hpP1 m f))) := by
  refine for_at gmPr_ok (n := 100) (m := 1) (lv := lvQI) (fun i => stQI T.length (pgF (dfH T) i) i) (fun _ => hpPI m f T.length (wfun T)) (fun _ => True) T.length (fun _ => noLam) (lv3_ris rfl rfl rfl) (Nat.le_refl _) trivial fun K Q hk i _ hi => ⟨noLam_ok _ _ _, ?_⟩
  have hlen := okD_len (tidy_okD hT)
  rw [rndQI]
  refine good_cond (fun c1 => ?_) fun c1 => ?_
  · have c1 := of_decide_eq_true c1
    have c1' : i < T.length := by omega
    rw [show 0 + Int.toNat (i : Int) = i by omega, wr_in (x := (i : Int) + 1) (by omega)]
    have h1 := pgF_in (h := dfH T) (k := T.length) (fun j hj => dfH_in hT hj) i (by omega)
    have h2 : -2000 ≤ IntKind.wrap IntKind.i64 (wfun T i 0 - wfun T 0 0) ∧ IntKind.wrap IntKind.i64 (wfun T i 0 - wfun T 0 0) ≤ 2000 := dfH_in hT c1'
    refine good_needs (by simp only [ob_cons, ob_nil, and_true, decide_eq_true_eq]; exact ⟨by omega, by omega, by omega, by omega, inR_iff.2 (by omega), inR_iff.2 (by omega)⟩) (good_out ⟨i + 1, ⟨rfl, c1', trivial⟩, rfl, Hsim.refl _⟩)
  · have c1 := of_decide_eq_false c1
    have : i = T.length := by omega
    subst this
    refine good_out ⟨_, Hsim.refl _, ?_⟩
    rw [if_pos rfl]
    exact hk
theorem dfH_first {T : List Wh} : pgF (dfH T) 1 = 0 := by
  show gcdI 0 (dfH T 0) = 0
  rw [gcdI_zero]
  unfold dfH
  rw [Int.sub_self]
  rfl
def perV (L : List Wh) : Int := bif yI L then pgF (spH (tI L)) (tI L).length else -1
def fldV (L : List Wh) : Int := bif yI L then pgF (dfH (tI L)) (tI L).length else -1
/-- A number of a list of wheels. -/
def FnmO (v : List Wh → Int) : List SA → Option FR
  | [.row m g] => some { val := .v (.int .i64 (v (listW (itW g) m))), obl := [allW m g, decide (m ≤ 2 ^ 38)] }
  | _ => none
theorem nm_fin {m : Nat} {g : Nat → List Value} {v : List Wh → Int} {x : Int} {ob : List Bool} {fn : Func} {Λ : Nat → Option Sum} (h1 : allW m g = true) (hm : m ≤ 2 ^ 38) {P : Prop} (c : P) (hob : P → obls ob = true) (h0 : yI (listW (itW g) m) = false → v (listW (itW g) m) = -1) (hx : yI (listW (itW g) m) = true → v (listW (itW g) m) = x)
    (ht : execF Try.prog (gmPt yI tI) Λ 100 fn [.sl 0 9 0 0 m none] (hpP1 m (itW g)) (packK 1) = needs [Nat.ble (0 + m) m, allW m fun q => row9 (itW g) (0 + q), decide (m ≤ 274877906944)] (bif !yI (listW (itW fun q => row9 (itW g) (0 + q)) m) then .out .ret [.v (i64 (-1))] [.row false m 9 (row9 (itW g)) 46] else needs ob (.out .ret [.v (i64 x)] [.row false m 9 (row9 (itW g)) 46]))) :
    GoodQ (execF Try.prog (gmPt yI tI) Λ 100 fn [.sl 0 9 0 0 m none] (hpP1 m (itW g)) (packK 1)) (GivR (abP md_ws [.row m g] []) { val := .v (.int .i64 (v (listW (itW g) m))), obl := [allW m g, decide (m ≤ 2 ^ 38)] }) := by
  rw [ht]
  simp only [row0, listW_itW]
  refine good_needs (by simp only [ob_cons, ob_nil, and_true, decide_eq_true_eq, Nat.ble_eq, allW_row, true_and]; omega) (good_cond (fun q => ?_) fun q => ?_)
  · have q2 : yI (listW (itW g) m) = false := by simpa using q
    exact good_out ⟨_, rfl, by rw [h0 q2], .cons (ABeq.row fun j hj => (allW_get h1 j hj).symm) .nil⟩
  · have q2 : yI (listW (itW g) m) = true := by simpa using q
    exact good_needs (hob c) (good_out ⟨_, rfl, by rw [hx q2], .cons (ABeq.row fun j hj => (allW_get h1 j hj).symm) .nil⟩)
theorem ok_foI : SpecOk Try.prog 23 (specR md_ws (FnmO fldV)) := by
  refine specR_hr gmPt_ok Try.func23 rfl fun sas fr hF ho => ?_
  unfold FnmO at hF
  split at hF
  · rename_i m g
    cases hF
    simp only [ob_cons] at ho
    obtain ⟨h1, h2, _⟩ := ho
    have hm := of_decide_eq_true h2
    refine ⟨hpP1 m (itW g), _, 100, .cons (ABeq.row fun j hj => allW_get h1 j hj) .nil, lam1 (by kernel_rfl) (sumQI m (itW g) (tI (listW (itW g) m)) (tI_tidy _)), ?_⟩
    refine nm_fin h1 hm trivial (fun _ => ?_) (fun q => by rw [fldV, q]; rfl) (fun q => by rw [fldV, q]; rfl) (treeQI yI tI m (itW g) _ _ _)
    simp only [row0, listW_itW, ob_cons, ob_nil, and_true]
    exact chk_of ⟨rfl, Hsim.refl _⟩
  · cases hF
end Go.Proofs.Ytmdcafhnjihckaa

/- Plain laws of designs: periods and folds. No program, no conditions. -/
namespace Go.Proofs.Ytmdcafhnjihckaa
open Go.RowKit

theorem pgF_dvd (h : Nat → Int) : ∀ (k i : Nat), i < k → pgF h k ∣ h i
  | 0, i, hi => absurd hi (Nat.not_lt_zero _)
  | k + 1, i, hi => by
    show ((Nat.gcd (pgF h k).natAbs (h k).natAbs : Nat) : Int) ∣ h i
    by_cases e : i = k
    · subst e
      exact Int.ofNat_dvd_left.2 (Nat.gcd_dvd_right _ _)
    · exact Int.dvd_trans (Int.ofNat_dvd_left.2 (Nat.gcd_dvd_left _ _)) (pgF_dvd h k i (by omega))
theorem spH_mem {T : List Wh} {w : Wh} (hw : w ∈ T) : ∃ i, i < T.length ∧ spH T i = w.s := by
  obtain ⟨i, hi, e⟩ := List.mem_iff_getElem.1 hw
  exact ⟨i, hi, by rw [spH_at hi, e]⟩
theorem tidy_sub0 {A B : List Wh} (hA : rising A) (hz : ∀ w ∈ A, w.r ≠ cyZ) (hB : rising B) (h : ∀ s k, k < 8 → linS (atSp s k) A = linS (atSp s k) B) : ∀ w ∈ A, w ∈ B := fun w hw => by
  have hne : ∃ k, k < 8 ∧ w.r.f k ≠ 0 := by
    refine Classical.byContradiction fun hn => hz w hw (cy_ext fun k hk => ?_)
    have : w.r.f k = 0 := Classical.byContradiction fun h0 => hn ⟨k, hk, h0⟩
    rw [this]
    rcases (by omega : k = 0 ∨ k = 1 ∨ k = 2 ∨ k = 3 ∨ k = 4 ∨ k = 5 ∨ k = 6 ∨ k = 7) with rfl | rfl | rfl | rfl | rfl | rfl | rfl | rfl <;> rfl
  obtain ⟨k, hk, h0⟩ := hne
  have hex : ∃ x ∈ B, x.s = w.s := by
    refine Classical.byContradiction fun hn => h0 ?_
    rw [← atSp_of hA hw, h w.s k hk]
    exact atSp_none fun x hx e => hn ⟨x, hx, e⟩
  obtain ⟨x, hx, e⟩ := hex
  have hr : x.r = w.r := cy_ext fun j hj => by
    rw [← atSp_of hA hw, h w.s j hj, ← e]
    exact (atSp_of hB hx).symm
  have : x = w := by
    cases x
    cases w
    simp_all
  rw [← this]
  exact hx
theorem tidy_unique0 {A B : List Wh} (hA : rising A) (zA : ∀ w ∈ A, w.r ≠ cyZ) (hB : rising B) (zB : ∀ w ∈ B, w.r ≠ cyZ) (h : ∀ s k, k < 8 → linS (atSp s k) A = linS (atSp s k) B) : A = B :=
  rising_ext hA hB fun w => ⟨tidy_sub0 hA zA hB h w, tidy_sub0 hB zB hA (fun s k hk => (h s k hk).symm) w⟩

/-- Later by a part of a whole turn that the period has: nothing changes. -/
theorem law_period {L : List Wh} {n q : Int} (hq : q * n % 24 = 0) (hn : n ∣ pgF (spH (tI L)) (tI L).length) (hy : yI L = true) (hL : eachOk 1 0 q false L = true) : eachL 1 0 q false L = tI L := by
  obtain ⟨_, hT, hl⟩ := tI_spec hy
  refine tidy_unique (each_tidy (by omega) hL) hT fun s k hk => ?_
  rw [each_lin (by omega) hL (atSp_lin s k) (atSp_loc s hk), ← hl _ (lin_tn (atSp_lin s k) (fun s => 1 * s) fun s => 0 + q * s)]
  refine linS_congr fun w hw => ?_
  obtain ⟨i, hi, e⟩ := spH_mem hw
  have hd := Int.dvd_trans hn (pgF_dvd (spH (tI L)) _ i hi)
  rw [e] at hd
  obtain ⟨c, hc⟩ := hd
  show atSp s k (1 * w.s) (tnI w.r.f (0 + q * w.s)) = atSp s k w.s w.r.f
  rw [Int.one_mul]
  refine atSp_loc s hk _ _ _ fun j hj => tnI_24 _ ?_ j hj
  rw [Int.zero_add, hc, ← Int.mul_assoc, Int.mul_emod, hq, Int.zero_mul]
  rfl
/-- Twice as fast. -/
def dbl (w : Wh) : Wh := ⟨2 * w.s, w.r⟩
theorem dbl_all {L : List Wh} (hy : yI L = true) (hF : yF 2 L = true) : tF 2 L = (tI L).map dbl := by
  rw [yF, Bool.and_eq_true] at hF
  obtain ⟨_, hT, hl⟩ := tI_spec hy
  have e : tF 2 L = eachL 2 0 0 false L := rfl
  have hM := each_tidy (by omega) hF.2
  rw [e]
  refine tidy_unique0 hM.1 hM.2.1 ?_ ?_ fun s k hk => ?_
  · refine List.pairwise_map.2 (List.Pairwise.imp (fun {a c} h => ?_) hT.1)
    show 2 * a.s < 2 * c.s
    omega
  · intro w hw
    obtain ⟨x, hx, rfl⟩ := List.mem_map.1 hw
    exact hT.2.1 x hx
  · rw [each_lin (by omega) hF.2 (atSp_lin s k) (atSp_loc s hk), ← hl _ (lin_tn (atSp_lin s k) (fun s => 2 * s) fun s => 0 + 0 * s)]
    refine (linS_map (ψ := fun s' f => atSp s k (2 * s') (tnI f (0 + 0 * s'))) fun w hw => ?_).symm
    show atSp s k (2 * w.s) w.r.f = atSp s k (2 * w.s) (tnI w.r.f (0 + 0 * w.s))
    rw [show 0 + 0 * w.s = 0 by omega]
    rfl
theorem gcdI_two (a b : Int) : gcdI (2 * a) (2 * b) = 2 * gcdI a b := by
  unfold gcdI
  rw [Int.natAbs_mul, Int.natAbs_mul, show (2 : Int).natAbs = 2 from rfl, Nat.gcd_mul_left]
  omega
theorem pgF_dbl (T : List Wh) : ∀ i, i ≤ T.length → pgF (spH (T.map dbl)) i = 2 * pgF (spH T) i
  | 0, _ => rfl
  | i + 1, hi => by
    show gcdI (pgF (spH (T.map dbl)) i) (spH (T.map dbl) i) = 2 * gcdI (pgF (spH T) i) (spH T i)
    have e : spH (T.map dbl) i = 2 * spH T i := by
      rw [spH_at (T := T) (by omega), spH_at (T := T.map dbl) (by rw [List.length_map]; omega), List.getElem_map]
      rfl
    rw [pgF_dbl T i (by omega), e, gcdI_two]
theorem law_period2 {L : List Wh} (hy : yI L = true) (hF : yF 2 L = true) : perV (tF 2 L) = 2 * perV L := by
  have hM : isTidy (tF 2 L) := by
    rw [yF, Bool.and_eq_true] at hF
    exact each_tidy (by omega) hF.2
  rw [perV, perV, yI_self hM, hy, cond_true, cond_true, tI_self hM, dbl_all hy hF, List.length_map]
  exact pgF_dbl _ _ (Nat.le_refl _)

end Go.Proofs.Ytmdcafhnjihckaa

/- Products of designs: CycTimes of both, DesignTimes of both: trees. Conditions: two lists of wheels. -/
namespace Go.Proofs.Ytmdcafhnjihckaa
open Go.RowKit
set_option maxRecDepth 100000

def gmCT (ok : (Nat → Int) → Bool) (mul : (Nat → Int) → (Nat → Int) → Nat → Int) : Gam := ext (ext g0 66 (specV (fOkc ok))) 127 (specV (fAdd2 mul))
/-- The product of two points, if they and it are valid. -/
def FctO (pr : (Nat → Int) → (Nat → Int) → Nat → Int) (ok : (Nat → Int) → (Nat → Int) → Bool) : List SA → Option FR
  | [.v (.agg ⟨[.int .i64 a0, .int .i64 a1, .int .i64 a2, .int .i64 a3, .int .i64 a4, .int .i64 a5, .int .i64 a6, .int .i64 a7]⟩), .v (.agg ⟨[.int .i64 b0, .int .i64 b1, .int .i64 b2, .int .i64 b3, .int .i64 b4, .int .i64 b5, .int .i64 b6, .int .i64 b7]⟩)] => some { val := .tup [.agg (cyC (pr (v8 a0 a1 a2 a3 a4 a5 a6 a7) (v8 b0 b1 b2 b3 b4 b5 b6 b7))), .v (.bool (ok (v8 a0 a1 a2 a3 a4 a5 a6 a7) (v8 b0 b1 b2 b3 b4 b5 b6 b7)))] }
  | _ => none
abbrev lvT2 : Ex → List Nat := lv3 [1, 6, 8, 22, 23, 24, 28, 29, 30] [1, 6, 22, 23, 24] [4, 5]
abbrev stT2 (m n k i j : Nat) : List AV := [.sl 1 9 0 0 n none, .own 2 k, .ptr 3 0 0 0, .sl 0 9 0 0 m none, .v (i64 m), .v (i64 i), .sl 1 9 0 0 n none, .v (i64 n), .v (i64 j)]
abbrev hpT0 (m : Nat) (f : Nat → Nat → Int) (n : Nat) (g : Nat → Nat → Int) (k : Nat) (h : Nat → Nat → Int) : List AB := [.row false m 9 (row9 f) 46, .row false n 9 (row9 g) 46, .row true k 9 (row9 h) 46]
abbrev hpT2 (m : Nat) (f : Nat → Nat → Int) (n : Nat) (g : Nat → Nat → Int) (k : Nat) (h : Nat → Nat → Int) (x : Nat → Int) : List AB := [.row false m 9 (row9 f) 46, .row false n 9 (row9 g) 46, .row true k 9 (row9 h) 46, .cells [.v (i64 (x 0)), .v (i64 (x 1)), .v (i64 (x 2)), .v (i64 (x 3)), .v (i64 (x 4)), .v (i64 (x 5)), .v (i64 (x 6)), .v (i64 (x 7)), .v (i64 (x 8))] 46]
abbrev hpTr (m : Nat) (f : Nat → Nat → Int) (n : Nat) (g : Nat → Nat → Int) : List AB := [.row false m 9 (row9 f) 46, .row false n 9 (row9 g) 46]
abbrev lvT0 : Ex → List Nat := lv3 [1, 6, 22, 23, 24] [6] [4, 5]
abbrev stT0 (m n k i : Nat) : List AV := [.sl 1 9 0 0 n none, .own 2 k, .sl 0 9 0 0 m none, .v (i64 m), .v (i64 i)]
noncomputable abbrev lamT2 (m : Nat) (f : Nat → Nat → Int) (n : Nat) (g : Nat → Nat → Int) (k : Nat) (h : Nat → Nat → Int) (x : Nat → Int) (i : Nat) (c : Bool) (k2 : Nat) (h2 : Nat → Nat → Int) : Nat → Option Sum := oneL 2 (atS 60 (lvT2 .normal) 2 (stT2 m n k i 0) (hpT2 m f n g k h x) (fun K => cond c (K .normal (mkT 0 60 ([1, 6, 22, 23, 24].zip (stT0 m n k2 i))) (hpT0 m f n g k2 h2)) (K .ret (mkT 0 60 [(4, .v (.slice none 0 0)), (5, .v (.bool false))]) (hpTr m f n g))))
noncomputable abbrev lamT0 (m : Nat) (f : Nat → Nat → Int) (n : Nat) (g : Nat → Nat → Int) (c : Bool) (k : Nat) (h : Nat → Nat → Int) : Nat → Option Sum := oneL 0 (atS 60 (lvT0 .normal) 2 (stT0 m n 0 0) (hpT0 m f n g 0 (wfun [])) (fun K => cond c (K .normal (mkT 0 60 [(6, .own 2 k)]) (hpT0 m f n g k h)) (K .ret (mkT 0 60 [(4, .v (.slice none 0 0)), (5, .v (.bool false))]) (hpTr m f n g))))
abbrev lvS2 : Ex → List Nat := lv3 [0, 1, 6, 7, 8] [0, 1, 6, 7] [4, 5]
abbrev stS2 (m n k i j : Nat) : List AV := [.sl 0 9 0 0 m none, .sl 1 9 0 0 n none, .own 2 k, .v (i64 i), .v (i64 j)]
abbrev lvS0 : Ex → List Nat := lv3 [0, 1, 6, 7] [6] [4, 5]
abbrev stS0 (m n k i : Nat) : List AV := [.sl 0 9 0 0 m none, .sl 1 9 0 0 n none, .own 2 k, .v (i64 i)]
abbrev hpSr (m : Nat) (f : Nat → Nat → Int) (n : Nat) (g : Nat → Nat → Int) : List AB := hpT0 m f n g 0 (wfun [])
noncomputable abbrev lamS2 (m : Nat) (f : Nat → Nat → Int) (n : Nat) (g : Nat → Nat → Int) (k : Nat) (h : Nat → Nat → Int) (i : Nat) (c : Bool) (k2 : Nat) (h2 : Nat → Nat → Int) : Nat → Option Sum := oneL 2 (atS 70 (lvS2 .normal) 2 (stS2 m n k i 0) (hpT0 m f n g k h) (fun K => cond c (K .normal (mkT 0 70 ([0, 1, 6, 7].zip (stS0 m n k2 i))) (hpT0 m f n g k2 h2)) (K .ret (mkT 0 70 [(4, .own 2 0), (5, .v (.bool false))]) (hpSr m f n g))))
noncomputable abbrev lamS0 (m : Nat) (f : Nat → Nat → Int) (n : Nat) (g : Nat → Nat → Int) (c : Bool) (k : Nat) (h : Nat → Nat → Int) : Nat → Option Sum := oneL 0 (atS 70 (lvS0 .normal) 2 (stS0 m n 0 0) (hpT0 m f n g 0 (wfun [])) (fun K => cond c (K .normal (mkT 0 70 [(6, .own 2 k)]) (hpT0 m f n g k h)) (K .ret (mkT 0 70 [(4, .own 2 0), (5, .v (.bool false))]) (hpSr m f n g))))
def gmS2 (okd : List Wh → Bool) (ti : List Wh → List Wh) (okt : List Wh → Bool) : Gam := ext (ext g0 61 (specR md_ws (FdvO okd))) 62 (specR md_ws (FtidyO ti okt))
end Go.Proofs.Ytmdcafhnjihckaa

/- Products of designs: CycTimes of both, DesignTimes of both. Conditions: two lists of wheels. -/
namespace Go.Proofs.Ytmdcafhnjihckaa
open Go.RowKit
set_option maxRecDepth 100000

def okM (a b : Nat → Int) : Bool := (cyOk (cyOf a) && cyOk (cyOf b)) && cyOk (cyOf (mulF a b))
def prF (a b : Nat → Int) : Nat → Int := bif okM a b then mulF a b else fun _ => 0
theorem gmCT_ok : GamOk Try.prog (gmCT (fun v => cyOk (cyOf v)) mulF) := by
  have e3 : fAdd2 mulF = f_times := by funext l; rfl
  unfold gmCT
  rw [fOkc_eq, e3]
  exact ext_ok (ext_ok g0_ok ok_cvI) ok_times
/-- The product of two wheels. -/
def prodW (x y : Wh) : Wh := ⟨IntKind.wrap IntKind.i64 (x.s + y.s), cyOf (prF x.r.f y.r.f)⟩
def okW2 (x y : Wh) : Bool := okM x.r.f y.r.f
def prodL (A B : List Wh) : List Wh := A.flatMap fun x => B.map (prodW x)
def okAll (A B : List Wh) : Bool := A.all fun x => B.all (okW2 x)
theorem prodL_snoc (A B : List Wh) (x : Wh) : prodL (A ++ [x]) B = prodL A B ++ B.map (prodW x) := by simp [prodL]
theorem okAll_snoc (A B : List Wh) (x : Wh) : okAll (A ++ [x]) B = (okAll A B && B.all (okW2 x)) := by simp [okAll]
theorem prodL_length (A B : List Wh) : (prodL A B).length = A.length * B.length := by
  induction A with
  | nil => simp [prodL]
  | cons x A ih =>
    have : prodL (x :: A) B = B.map (prodW x) ++ prodL A B := rfl
    rw [this, List.length_append, List.length_map, ih, List.length_cons, Nat.add_mul, Nat.one_mul, Nat.add_comm]
theorem prodL_in (A B : List Wh) : inW (prodL A B) := by
  intro w hw
  simp only [prodL, List.mem_flatMap, List.mem_map] at hw
  obtain ⟨x, _, y, _, rfl⟩ := hw
  refine cyOf_in fun k _ => ?_
  unfold prF
  cases okM x.r.f y.r.f with
  | true => exact w64_range _
  | false => show (-9223372036854775808 : Int) ≤ 0 ∧ (0 : Int) ≤ 9223372036854775807; omega
theorem okAll_no {A B : List Wh} {i : Nat} {f : Nat → Nat → Int} {m : Nat} (hA : A = listW f m) (hi : i < m) (h : B.all (okW2 (whOf (f i))) = false) : okAll A B = false := by
  subst hA
  cases e : okAll (listW f m) B with
  | false => rfl
  | true =>
    have := List.all_eq_true.1 e (whOf (f i)) (List.mem_of_getElem? (listW_get f hi))
    rw [h] at this
    cases this
theorem all_no {g : Nat → Nat → Int} {n j : Nat} {p : Wh → Bool} (hj : j < n) (h : p (whOf (g j)) = false) : (listW g n).all p = false := by
  cases e : (listW g n).all p with
  | false => rfl
  | true =>
    have := List.all_eq_true.1 e (whOf (g j)) (List.mem_of_getElem? (listW_get g hj))
    rw [h] at this
    cases this
end Go.Proofs.Ytmdcafhnjihckaa

/- DesignTimes of both. Conditions: two lists of wheels. -/
namespace Go.Proofs.Ytmdcafhnjihckaa
open Go.RowKit
set_option maxRecDepth 100000

/-- The lists are designs, and their product too. -/
def tmP (A B : List Wh) : Bool := (okD A && okD B) && okAll A B
def yesTm (A B : List Wh) : Bool := tmP A B && okT (prodL A B)
def tmT (A B : List Wh) : List Wh := tidyL (prodL A B)
def tmL (A B : List Wh) : List Wh := bif tmP A B then tidyL (prodL A B) else []
def FtmY (yes : List Wh → List Wh → Bool) (tt : List Wh → List Wh → List Wh) : List SA → Option FR
  | [.row m ga, .row n gb] => some { val := valY (tt (listW (itW ga) m) (listW (itW gb) n)), new := newY (tt (listW (itW ga) m) (listW (itW gb) n)), obl := [allW m ga, allW n gb, decide (m ≤ 2 ^ 38), decide (n ≤ 2 ^ 38), yes (listW (itW ga) m) (listW (itW gb) n)] }
  | _ => none
def FtmN (yes : List Wh → List Wh → Bool) : List SA → Option FR
  | [.row m ga, .row n gb] => some { val := valN, obl := [allW m ga, allW n gb, decide (m ≤ 2 ^ 38), decide (n ≤ 2 ^ 38), !yes (listW (itW ga) m) (listW (itW gb) n)] }
  | _ => none
def FtmS (ok : List Wh → List Wh → Bool) (tl : List Wh → List Wh → List Wh) : List SA → Option FR
  | [.row m ga, .row n gb] => some { val := .tup [.own 0 (tl (listW (itW ga) m) (listW (itW gb) n)).length, .v (.bool (ok (listW (itW ga) m) (listW (itW gb) n)))], new := [.row true (tl (listW (itW ga) m) (listW (itW gb) n)).length 9 (row9 (wfun (tl (listW (itW ga) m) (listW (itW gb) n)))) 46], obl := [allW m ga, allW n gb, decide (m ≤ 2 ^ 38), decide (n ≤ 2 ^ 38)] }
  | _ => none
theorem gmS2_ok : GamOk Try.prog (gmS2 okD tidyL okT) := by
  unfold gmS2
  rw [FtidyO_eq, FdvO_eq]
  exact ext_ok (ext_ok g0_ok ok_dv) ok_tidyS

end Go.Proofs.Ytmdcafhnjihckaa

/- impl.at, and the program's DesignAt: the reference's word. Conditions: a list of wheels. -/
namespace Go.Proofs.Ytmdcafhnjihckaa
open Go.RowKit
set_option maxRecDepth 100000

def gmKI (dv : (Nat → Nat → Int) → Int → Nat → Nat → Int) (dk : (Nat → Nat → Int) → Int → Nat → Bool) (tu : (Nat → Int) → Int → Nat → Int) : Gam := ext (ext g0 72 (specR [.val, .val] (FtuI tu))) 18 (specR md_wv (FDAo dv dk))
abbrev lvKI : Ex → List Nat := lv3 [0, 7, 8, 35] [] [4]
abbrev stKI (m : Nat) (fs sp : Int) (i : Nat) : List AV := [.sl 0 9 0 0 m none, .v (i64 fs), .v (i64 sp), .v (i64 i)]
abbrev hpK (m : Nat) (f : Nat → Nat → Int) : List AB := [.row false m 9 (row9 f) 46]
theorem rndKI (dv : (Nat → Nat → Int) → Int → Nat → Nat → Int) (dk : (Nat → Nat → Int) → Int → Nat → Bool) (tu : (Nat → Int) → Int → Nat → Int) (m : Nat) (f : Nat → Nat → Int) (fs sp : Int) (i : Nat) : execC Try.prog (gmKI dv dk tu) 100 noLam (loopAt 0 Try.f21) (mkT 0 70 ((lvKI .normal).zip (stKI m fs sp i))) (hpK m f) (leafV 70 lvKI 1)
    = bif decide ((↑i : Int) < (24 : Int)) then needs [Nat.ble ((0 : Nat) + m) m, allW m fun q ↦ row9 f ((0 : Nat) + q), decide (m ≤ (274877906944 : Nat)), Nat.ble ((0 : Nat) + m) m, allW m fun q ↦ row9 f ((0 : Nat) + q), decide (m ≤ (274877906944 : Nat))] (bif !dk (itW fun q ↦ row9 f ((0 : Nat) + q)) (↑i : Int) m then Res.out Ex.ret [AV.v (Value.bool false)] [AB.row false m (9 : Nat) (row9 f) (46 : TypeId)] else bif !dk (itW fun q ↦ row9 f ((0 : Nat) + q)) (Int.tmod (IntKind.wrap IntKind.i64 ((↑i : Int) + sp)) (24 : Int)) m then Res.out Ex.ret [AV.v (Value.bool false)] [AB.row false m (9 : Nat) (row9 f) (46 : TypeId)] else needs [inB (w8 (dv (itW fun q ↦ row9 f ((0 : Nat) + q)) (Int.tmod (IntKind.wrap IntKind.i64 ((↑i : Int) + sp)) (24 : Int)) m)), inR (IntKind.wrap IntKind.i64 (IntKind.wrap IntKind.i64 ((0 : Int) - sp) * fs)) (-9223372036854775808 : Int) (9223372036854775807 : Int)] (bif !(tu (w8 (dv (itW fun q ↦ row9 f ((0 : Nat) + q)) (Int.tmod (IntKind.wrap IntKind.i64 ((↑i : Int) + sp)) (24 : Int)) m)) (IntKind.wrap IntKind.i64 (IntKind.wrap IntKind.i64 ((0 : Int) - sp) * fs)) (0 : Nat) == dv (itW fun q ↦ row9 f ((0 : Nat) + q)) (↑i : Int) m (0 : Nat) && (tu (w8 (dv (itW fun q ↦ row9 f ((0 : Nat) + q)) (Int.tmod (IntKind.wrap IntKind.i64 ((↑i : Int) + sp)) (24 : Int)) m)) (IntKind.wrap IntKind.i64 (IntKind.wrap IntKind.i64 ((0 : Int) - sp) * fs)) (1 : Nat) == dv (itW fun q ↦ row9 f ((0 : Nat) + q)) (↑i : Int) m (1 : Nat) && (tu (w8 (dv (itW fun q ↦ row9 f ((0 : Nat) + q)) (Int.tmod (IntKind.wrap IntKind.i64 ((↑i : Int) + sp)) (24 : Int)) m)) (IntKind.wrap IntKind.i64 (IntKind.wrap IntKind.i64 ((0 : Int) - sp) * fs)) (2 : Nat) == dv (itW fun q ↦ row9 f ((0 : Nat) + q)) (↑i : Int) m (2 : Nat) && (tu (w8 (dv (itW fun q ↦ row9 f ((0 : Nat) + q)) (Int.tmod (IntKind.wrap IntKind.i64 ((↑i : Int) + sp)) (24 : Int)) m)) (IntKind.wrap IntKind.i64 (IntKind.wrap IntKind.i64 ((0 : Int) - sp) * fs)) (3 : Nat) == dv (itW fun q ↦ row9 f ((0 : Nat) + q)) (↑i : Int) m (3 : Nat) && (tu (w8 (dv (itW fun q ↦ row9 f ((0 : Nat) + q)) (Int.tmod (IntKind.wrap IntKind.i64 ((↑i : Int) + sp)) (24 : Int)) m)) (IntKind.wrap IntKind.i64 (IntKind.wrap IntKind.i64 ((0 : Int) - sp) * fs)) (4 : Nat) == dv (itW fun q ↦ row9 f ((0 : Nat) + q)) (↑i : Int) m (4 : Nat) && (tu (w8 (dv (itW fun q ↦ row9 f ((0 : Nat) + q)) (Int.tmod (IntKind.wrap IntKind.i64 ((↑i : Int) + sp)) (24 : Int)) m)) (IntKind.wrap IntKind.i64 (IntKind.wrap IntKind.i64 ((0 : Int) - sp) * fs)) (5 : Nat) == dv (itW fun q ↦ row9 f ((0 : Nat) + q)) (↑i : Int) m (5 : Nat) && (tu (w8 (dv (itW fun q ↦ row9 f ((0 : Nat) + q)) (Int.tmod (IntKind.wrap IntKind.i64 ((↑i : Int) + sp)) (24 : Int)) m)) (IntKind.wrap IntKind.i64 (IntKind.wrap IntKind.i64 ((0 : Int) - sp) * fs)) (6 : Nat) == dv (itW fun q ↦ row9 f ((0 : Nat) + q)) (↑i : Int) m (6 : Nat) && (tu (w8 (dv (itW fun q ↦ row9 f ((0 : Nat) + q)) (Int.tmod (IntKind.wrap IntKind.i64 ((↑i : Int) + sp)) (24 : Int)) m)) (IntKind.wrap IntKind.i64 (IntKind.wrap IntKind.i64 ((0 : Int) - sp) * fs)) (7 : Nat) == dv (itW fun q ↦ row9 f ((0 : Nat) + q)) (↑i : Int) m (7 : Nat) && true))))))) && true) then Res.out Ex.ret [AV.v (Value.bool false)] [AB.row false m (9 : Nat) (row9 f) (46 : TypeId)] else Res.out Ex.normal [AV.sl (0 : Nat) (9 : Nat) (0 : Nat) (0 : Nat) m none, AV.v (Value.int IntKind.i64 fs), AV.v (Value.int IntKind.i64 sp), AV.v (Value.int IntKind.i64 (IntKind.wrap IntKind.i64 ((↑i : Int) + (1 : Int))))] [AB.row false m (9 : Nat) (row9 f) (46 : TypeId)])) else Res.out (Ex.exit (0 : Nat)) [] [AB.row false m (9 : Nat) (row9 f) (46 : TypeId)] := by kernel_rfl

noncomputable abbrev lamKI (m : Nat) (f : Nat → Nat → Int) (fs sp : Int) (c : Bool) : Nat → Option Sum := oneL 0 (atS 70 (lvKI .normal) 1 (stKI m fs sp 0) (hpK m f) (fun K => cond c (K .normal (mkT 0 70 []) (hpK m f)) (K .ret (mkT 0 70 [(4, .v (.bool false))]) (hpK m f))))
theorem treeKY (yes : List Wh → Bool) (ti mp : List Wh → List Wh) (m : Nat) (f : Nat → Nat → Int) (n : Int) (fs sp : Int) (c : Bool) : execF Try.prog (ext g0 37 (specR md_ws (FdeYTi yes ti mp))) (lamKI m f fs sp c) 100 Try.f21 [.sl 0 9 0 0 m none, .v (i64 n)] (hpK m f) (packK 1)
    = needs [Nat.ble ((0 : Nat) + m) m, allW m fun q ↦ row9 f ((0 : Nat) + q), decide (m ≤ (274877906944 : Nat)), yes (listW (itW fun q ↦ row9 f ((0 : Nat) + q)) m)] (bif decide (n ≥ (1 : Int)) then needs [!decide (n = (0 : Int))] (bif !Int.tmod (24 : Int) n == (0 : Int) then Res.out Ex.ret [AV.v (Value.bool false)] [AB.row false m (9 : Nat) (row9 f) (46 : TypeId)] else bif decide ((↑(List.length (ti (mp (listW (itW fun q ↦ row9 f ((0 : Nat) + q)) m)))) : Int) > (0 : Int)) then needs [decide ((0 : Int) < (↑(List.length (ti (mp (listW (itW fun q ↦ row9 f ((0 : Nat) + q)) m)))) : Int)), decide ((0 : Nat) < List.length (ti (mp (listW (itW fun q ↦ row9 f ((0 : Nat) + q)) m)))), !decide (n = (0 : Int)), chk ([AV.sl (0 : Nat) (9 : Nat) (0 : Nat) (0 : Nat) m none, AV.v (Value.int IntKind.i64 (wfun (ti (mp (listW (itW fun q ↦ row9 f ((0 : Nat) + q)) m))) (0 : Nat) (0 : Nat))), AV.v (Value.int IntKind.i64 (IntKind.wrap IntKind.i64 (Int.tdiv (24 : Int) n))), AV.v (Value.int IntKind.i64 (0 : Int))] = stKI m fs sp (0 : Nat) ∧ Hsim [AB.row false m (9 : Nat) (row9 f) (46 : TypeId)] (hpK m f))] (bif c then Res.out Ex.ret [AV.v (Value.bool true)] [AB.row false m (9 : Nat) (row9 f) (46 : TypeId)] else Res.out Ex.ret [AV.v (Value.bool false)] [AB.row false m (9 : Nat) (row9 f) (46 : TypeId)]) else needs [!decide (n = (0 : Int)), chk ([AV.sl (0 : Nat) (9 : Nat) (0 : Nat) (0 : Nat) m none, AV.v (Value.int IntKind.i64 (0 : Int)), AV.v (Value.int IntKind.i64 (IntKind.wrap IntKind.i64 (Int.tdiv (24 : Int) n))), AV.v (Value.int IntKind.i64 (0 : Int))] = stKI m fs sp (0 : Nat) ∧ Hsim [AB.row false m (9 : Nat) (row9 f) (46 : TypeId)] (hpK m f))] (bif c then Res.out Ex.ret [AV.v (Value.bool true)] [AB.row false m (9 : Nat) (row9 f) (46 : TypeId)] else Res.out Ex.ret [AV.v (Value.bool false)] [AB.row false m (9 : Nat) (row9 f) (46 : TypeId)])) else Res.out Ex.ret [AV.v (Value.bool false)] [AB.row false m (9 : Nat) (row9 f) (46 : TypeId)]) := by kernel_rfl

theorem treeKN (yes : List Wh → Bool) (m : Nat) (f : Nat → Nat → Int) (n : Int) : execF Try.prog (ext g0 37 (specR md_ws (FdeNTi yes))) (oneL 0 errS) 100 Try.f21 [.sl 0 9 0 0 m none, .v (i64 n)] (hpK m f) (packK 1)
    = needs [Nat.ble ((0 : Nat) + m) m, allW m fun q ↦ row9 f ((0 : Nat) + q), decide (m ≤ (274877906944 : Nat)), !yes (listW (itW fun q ↦ row9 f ((0 : Nat) + q)) m)] (Res.out Ex.ret [AV.v (Value.bool false)] [AB.row false m (9 : Nat) (row9 f) (46 : TypeId)]) := by kernel_rfl

def gmKS (dv : (Nat → Nat → Int) → Int → Nat → Nat → Int) (dk : (Nat → Nat → Int) → Int → Nat → Bool) (md : Int → Int) (tu : (Nat → Int) → Int → Nat → Int) : Gam := ext (ext (ext g0 76 (specV (fMd md))) 77 (specR [.val, .val] (FtuO tu))) 75 (specR md_wv (FDAo dv dk))
abbrev lvKS : Ex → List Nat := lv3 [0, 7, 8, 9] [] [4]
theorem rndKS (dv : (Nat → Nat → Int) → Int → Nat → Nat → Int) (dk : (Nat → Nat → Int) → Int → Nat → Bool) (md : Int → Int) (tu : (Nat → Int) → Int → Nat → Int) (m : Nat) (f : Nat → Nat → Int) (fs sp : Int) (i : Nat) : execC Try.prog (gmKS dv dk md tu) 100 noLam (loopAt 0 Try.f22) (mkT 0 71 ((lvKS .normal).zip (stKI m fs sp i))) (hpK m f) (leafV 71 lvKS 1)
    = bif decide ((↑i : Int) < (24 : Int)) then needs [Nat.ble ((0 : Nat) + m) m, allW m fun q ↦ row9 f ((0 : Nat) + q), decide (m ≤ (274877906944 : Nat)), Nat.ble ((0 : Nat) + m) m, allW m fun q ↦ row9 f ((0 : Nat) + q), decide (m ≤ (274877906944 : Nat))] (bif !dk (itW fun q ↦ row9 f ((0 : Nat) + q)) (↑i : Int) m then Res.out Ex.ret [AV.v (Value.bool false)] [AB.row false m (9 : Nat) (row9 f) (46 : TypeId)] else bif !dk (itW fun q ↦ row9 f ((0 : Nat) + q)) (md (IntKind.wrap IntKind.i64 ((↑i : Int) + sp))) m then Res.out Ex.ret [AV.v (Value.bool false)] [AB.row false m (9 : Nat) (row9 f) (46 : TypeId)] else needs [decide (md (IntKind.wrap IntKind.i64 ((0 : Int) - IntKind.wrap IntKind.i64 (sp * fs))) ≤ (1099511627776 : Int))] (bif !(tu (w8 (dv (itW fun q ↦ row9 f ((0 : Nat) + q)) (md (IntKind.wrap IntKind.i64 ((↑i : Int) + sp))) m)) (md (IntKind.wrap IntKind.i64 ((0 : Int) - IntKind.wrap IntKind.i64 (sp * fs)))) (0 : Nat) == dv (itW fun q ↦ row9 f ((0 : Nat) + q)) (↑i : Int) m (0 : Nat) && (tu (w8 (dv (itW fun q ↦ row9 f ((0 : Nat) + q)) (md (IntKind.wrap IntKind.i64 ((↑i : Int) + sp))) m)) (md (IntKind.wrap IntKind.i64 ((0 : Int) - IntKind.wrap IntKind.i64 (sp * fs)))) (1 : Nat) == dv (itW fun q ↦ row9 f ((0 : Nat) + q)) (↑i : Int) m (1 : Nat) && (tu (w8 (dv (itW fun q ↦ row9 f ((0 : Nat) + q)) (md (IntKind.wrap IntKind.i64 ((↑i : Int) + sp))) m)) (md (IntKind.wrap IntKind.i64 ((0 : Int) - IntKind.wrap IntKind.i64 (sp * fs)))) (2 : Nat) == dv (itW fun q ↦ row9 f ((0 : Nat) + q)) (↑i : Int) m (2 : Nat) && (tu (w8 (dv (itW fun q ↦ row9 f ((0 : Nat) + q)) (md (IntKind.wrap IntKind.i64 ((↑i : Int) + sp))) m)) (md (IntKind.wrap IntKind.i64 ((0 : Int) - IntKind.wrap IntKind.i64 (sp * fs)))) (3 : Nat) == dv (itW fun q ↦ row9 f ((0 : Nat) + q)) (↑i : Int) m (3 : Nat) && (tu (w8 (dv (itW fun q ↦ row9 f ((0 : Nat) + q)) (md (IntKind.wrap IntKind.i64 ((↑i : Int) + sp))) m)) (md (IntKind.wrap IntKind.i64 ((0 : Int) - IntKind.wrap IntKind.i64 (sp * fs)))) (4 : Nat) == dv (itW fun q ↦ row9 f ((0 : Nat) + q)) (↑i : Int) m (4 : Nat) && (tu (w8 (dv (itW fun q ↦ row9 f ((0 : Nat) + q)) (md (IntKind.wrap IntKind.i64 ((↑i : Int) + sp))) m)) (md (IntKind.wrap IntKind.i64 ((0 : Int) - IntKind.wrap IntKind.i64 (sp * fs)))) (5 : Nat) == dv (itW fun q ↦ row9 f ((0 : Nat) + q)) (↑i : Int) m (5 : Nat) && (tu (w8 (dv (itW fun q ↦ row9 f ((0 : Nat) + q)) (md (IntKind.wrap IntKind.i64 ((↑i : Int) + sp))) m)) (md (IntKind.wrap IntKind.i64 ((0 : Int) - IntKind.wrap IntKind.i64 (sp * fs)))) (6 : Nat) == dv (itW fun q ↦ row9 f ((0 : Nat) + q)) (↑i : Int) m (6 : Nat) && (tu (w8 (dv (itW fun q ↦ row9 f ((0 : Nat) + q)) (md (IntKind.wrap IntKind.i64 ((↑i : Int) + sp))) m)) (md (IntKind.wrap IntKind.i64 ((0 : Int) - IntKind.wrap IntKind.i64 (sp * fs)))) (7 : Nat) == dv (itW fun q ↦ row9 f ((0 : Nat) + q)) (↑i : Int) m (7 : Nat) && true))))))) && true) then Res.out Ex.ret [AV.v (Value.bool false)] [AB.row false m (9 : Nat) (row9 f) (46 : TypeId)] else Res.out Ex.normal [AV.sl (0 : Nat) (9 : Nat) (0 : Nat) (0 : Nat) m none, AV.v (Value.int IntKind.i64 fs), AV.v (Value.int IntKind.i64 sp), AV.v (Value.int IntKind.i64 (IntKind.wrap IntKind.i64 ((↑i : Int) + (1 : Int))))] [AB.row false m (9 : Nat) (row9 f) (46 : TypeId)])) else Res.out (Ex.exit (0 : Nat)) [] [AB.row false m (9 : Nat) (row9 f) (46 : TypeId)] := by kernel_rfl

noncomputable abbrev lamKS (m : Nat) (f : Nat → Nat → Int) (fs sp : Int) (c : Bool) : Nat → Option Sum := oneL 0 (atS 71 (lvKS .normal) 1 (stKI m fs sp 0) (hpK m f) (fun K => cond c (K .normal (mkT 0 71 []) (hpK m f)) (K .ret (mkT 0 71 [(4, .v (.bool false))]) (hpK m f))))
theorem treeKS (okd : List Wh → Bool) (ti : List Wh → List Wh) (okt : List Wh → Bool) (m : Nat) (f : Nat → Nat → Int) (n : Int) (fs sp : Int) (c : Bool) : execF Try.prog (gmS2 okd ti okt) (lamKS m f fs sp c) 100 Try.f22 [.sl 0 9 0 0 m none, .v (i64 n)] (hpK m f) (packK 1)
    = needs [Nat.ble ((0 : Nat) + m) m, allW m fun q ↦ row9 f ((0 : Nat) + q), decide (m ≤ (549755813888 : Nat))] (bif !okd (listW (itW fun q ↦ row9 f ((0 : Nat) + q)) m) then Res.out Ex.ret [AV.v (Value.bool false)] [AB.row false m (9 : Nat) (row9 f) (46 : TypeId)] else needs [Nat.ble ((0 : Nat) + m) m, allW m fun q ↦ row9 f ((0 : Nat) + q), decide (m ≤ (274877906944 : Nat))] (bif !okt (listW (itW fun q ↦ row9 f ((0 : Nat) + q)) m) then Res.out Ex.ret [AV.v (Value.bool false)] [AB.row false m (9 : Nat) (row9 f) (46 : TypeId)] else bif decide (n ≥ (1 : Int)) then bif decide (n ≤ (24 : Int)) then needs [!decide (n = (0 : Int))] (bif !Int.tmod (24 : Int) n == (0 : Int) then Res.out Ex.ret [AV.v (Value.bool false)] [AB.row false m (9 : Nat) (row9 f) (46 : TypeId)] else bif decide ((↑(List.length (ti (listW (itW fun q ↦ row9 f ((0 : Nat) + q)) m))) : Int) > (0 : Int)) then needs [decide ((0 : Int) < (↑(List.length (ti (listW (itW fun q ↦ row9 f ((0 : Nat) + q)) m))) : Int)), decide ((0 : Nat) < List.length (ti (listW (itW fun q ↦ row9 f ((0 : Nat) + q)) m))), !decide (n = (0 : Int)), chk ([AV.sl (0 : Nat) (9 : Nat) (0 : Nat) (0 : Nat) m none, AV.v (Value.int IntKind.i64 (wfun (ti (listW (itW fun q ↦ row9 f ((0 : Nat) + q)) m)) (0 : Nat) (0 : Nat))), AV.v (Value.int IntKind.i64 (IntKind.wrap IntKind.i64 (Int.tdiv (24 : Int) n))), AV.v (Value.int IntKind.i64 (0 : Int))] = stKI m fs sp (0 : Nat) ∧ Hsim [AB.row false m (9 : Nat) (row9 f) (46 : TypeId)] (hpK m f))] (bif c then Res.out Ex.ret [AV.v (Value.bool true)] [AB.row false m (9 : Nat) (row9 f) (46 : TypeId)] else Res.out Ex.ret [AV.v (Value.bool false)] [AB.row false m (9 : Nat) (row9 f) (46 : TypeId)]) else needs [!decide (n = (0 : Int)), chk ([AV.sl (0 : Nat) (9 : Nat) (0 : Nat) (0 : Nat) m none, AV.v (Value.int IntKind.i64 (0 : Int)), AV.v (Value.int IntKind.i64 (IntKind.wrap IntKind.i64 (Int.tdiv (24 : Int) n))), AV.v (Value.int IntKind.i64 (0 : Int))] = stKI m fs sp (0 : Nat) ∧ Hsim [AB.row false m (9 : Nat) (row9 f) (46 : TypeId)] (hpK m f))] (bif c then Res.out Ex.ret [AV.v (Value.bool true)] [AB.row false m (9 : Nat) (row9 f) (46 : TypeId)] else Res.out Ex.ret [AV.v (Value.bool false)] [AB.row false m (9 : Nat) (row9 f) (46 : TypeId)])) else Res.out Ex.ret [AV.v (Value.bool false)] [AB.row false m (9 : Nat) (row9 f) (46 : TypeId)] else Res.out Ex.ret [AV.v (Value.bool false)] [AB.row false m (9 : Nat) (row9 f) (46 : TypeId)])) := by kernel_rfl

end Go.Proofs.Ytmdcafhnjihckaa

/- DesignAt of the program; DesignClosed of both: the whole. Conditions: a list of wheels. -/
namespace Go.Proofs.Ytmdcafhnjihckaa
open Go.RowKit
set_option maxRecDepth 100000

/-- The same eight numbers. -/
def eq8 (a b : Nat → Int) : Bool := (a 0 == b 0 && (a 1 == b 1 && (a 2 == b 2 && (a 3 == b 3 && (a 4 == b 4 && (a 5 == b 5 && (a 6 == b 6 && (a 7 == b 7 && true)))))))) && true
def clK (fs sp : Int) : Int := IntKind.wrap IntKind.i64 (0 - sp * fs)
/-- At this turn the point is not turned onto the next one. -/
def badK (f : Nat → Nat → Int) (m : Nat) (fs sp : Int) (i : Nat) : Bool := bif !daOk f i m then true else bif !daOk f (((i : Int) + sp) % 24) m then true else !(eq8 (turnedF (w8 (daV f (((i : Int) + sp) % 24) m)) (clK fs sp % 24).toNat) (daV f i m))
theorem clK_I (fs sp : Int) : IntKind.wrap IntKind.i64 (IntKind.wrap IntKind.i64 (0 - sp) * fs) = clK fs sp := by
  show W (W (0 - sp) * fs) = W (0 - sp * fs)
  rw [w64_mul_l, Int.sub_mul, Int.zero_mul]
theorem clK_S (fs sp : Int) : IntKind.wrap IntKind.i64 (0 - IntKind.wrap IntKind.i64 (sp * fs)) = clK fs sp := w64_sub_r _ _
theorem gmKI_ok : GamOk Try.prog (gmKI daV daOk tuF) := ext_ok (ext_ok g0_ok ok_tuI) ok_DAI
theorem gmKS_ok : GamOk Try.prog (gmKS daV daOk (fun n => n % 24) (fun a n => turnedF a n.toNat)) := by
  unfold gmKS
  rw [fMd_eq, FtuO_eq, FDAo_eq]
  exact ext_ok (ext_ok (ext_ok g0_ok ok_l1Mod) ok_turnedS) ok_DA
theorem sumKI (m : Nat) (f : Nat → Nat → Int) (fs sp : Int) (hm : m ≤ 2 ^ 38) (hsp : 0 ≤ sp ∧ sp ≤ 24) :
    SumOk Try.prog 1 (.block 0 (.loop (loopAt 0 Try.f21))) (atS 70 (lvKI .normal) 1 (stKI m fs sp 0) (hpK m f) (fun K => cond (noneTo (badK f m fs sp) 24) (K .normal (mkT 0 70 []) (hpK m f)) (K .ret (mkT 0 70 [(4, .v (.bool false))]) (hpK m f)))) := by
  refine for_at gmKI_ok (n := 100) (m := 1) (lv := lvKI) (fun i => stKI m fs sp i) (fun _ => hpK m f) (fun i => noneTo (badK f m fs sp) i = true) 24 (fun _ => noLam) (lv3_ris rfl rfl rfl) (Nat.le_refl _) rfl fun K Q hk i hi him => ⟨noLam_ok _ _ _, ?_⟩
  rw [rndKI]
  refine good_cond (fun c1 => ?_) fun c1 => ?_
  · have c1 := of_decide_eq_true c1
    have c1' : i < 24 := by omega
    have bad : badK f m fs sp i = true → GoodQ (.out .ret [.v (.bool false)] [.row false m 9 (row9 f) 46]) (RoundV 70 0 lvKI (fun i => stKI m fs sp i) (fun _ => hpK m f) (fun s' => s' = i + 1 ∧ i < 24 ∧ noneTo (badK f m fs sp) (i + 1) = true) K Q) := fun hb => by
      refine good_out ⟨_, Hsim.refl _, ?_⟩
      rw [noneTo_no c1' hb] at hk
      exact hk
    have e1 : Int.tmod (IntKind.wrap IntKind.i64 ((i : Int) + sp)) 24 = ((i : Int) + sp) % 24 := by
      rw [wr_in (by omega), Int.tmod_eq_emod_of_nonneg (by omega)]
    simp only [row0, daOk_row, daV_row, e1, clK_I]
    rw [wr_in (x := (i : Int) + 1) (by omega)]
    refine good_needs (by simp only [ob_cons, ob_nil, and_true, decide_eq_true_eq, Nat.ble_eq, allW_row, true_and]; omega) (good_cond (fun q => ?_) fun q => ?_)
    · exact bad (by unfold badK; rw [q]; rfl)
    · refine good_cond (fun q2 => ?_) fun q2 => ?_
      · exact bad (by unfold badK; rw [q, q2]; rfl)
      · refine good_needs (by simp only [ob_cons, ob_nil, and_true]; exact ⟨daV_in _ _ _, inR_iff.2 (w64_range _)⟩) (good_cond (fun q3 => ?_) fun q3 => ?_)
        · exact bad (by unfold badK; rw [q, q2]; exact q3)
        · exact good_out ⟨i + 1, ⟨rfl, c1', noneTo_succ hi (by unfold badK; rw [q, q2]; exact q3)⟩, rfl, Hsim.refl _⟩
  · have c1 := of_decide_eq_false c1
    have : i = 24 := by omega
    subst this
    refine good_out ⟨_, Hsim.refl _, ?_⟩
    rw [if_pos rfl]
    rw [hi] at hk
    exact hk

theorem sumKS (m : Nat) (f : Nat → Nat → Int) (fs sp : Int) (hm : m ≤ 2 ^ 38) (hsp : 0 ≤ sp ∧ sp ≤ 24) :
    SumOk Try.prog 1 (.block 0 (.loop (loopAt 0 Try.f22))) (atS 71 (lvKS .normal) 1 (stKI m fs sp 0) (hpK m f) (fun K => cond (noneTo (badK f m fs sp) 24) (K .normal (mkT 0 71 []) (hpK m f)) (K .ret (mkT 0 71 [(4, .v (.bool false))]) (hpK m f)))) := by
  refine for_at gmKS_ok (n := 100) (m := 1) (lv := lvKS) (fun i => stKI m fs sp i) (fun _ => hpK m f) (fun i => noneTo (badK f m fs sp) i = true) 24 (fun _ => noLam) (lv3_ris rfl rfl rfl) (Nat.le_refl _) rfl fun K Q hk i hi him => ⟨noLam_ok _ _ _, ?_⟩
  rw [rndKS]
  refine good_cond (fun c1 => ?_) fun c1 => ?_
  · have c1 := of_decide_eq_true c1
    have c1' : i < 24 := by omega
    have bad : badK f m fs sp i = true → GoodQ (.out .ret [.v (.bool false)] [.row false m 9 (row9 f) 46]) (RoundV 71 0 lvKS (fun i => stKI m fs sp i) (fun _ => hpK m f) (fun s' => s' = i + 1 ∧ i < 24 ∧ noneTo (badK f m fs sp) (i + 1) = true) K Q) := fun hb => by
      refine good_out ⟨_, Hsim.refl _, ?_⟩
      rw [noneTo_no c1' hb] at hk
      exact hk
    have e1 : IntKind.wrap IntKind.i64 ((i : Int) + sp) = (i : Int) + sp := wr_in (by omega)
    simp only [row0, daOk_row, daV_row, e1, clK_S]
    rw [wr_in (x := (i : Int) + 1) (by omega)]
    refine good_needs (by simp only [ob_cons, ob_nil, and_true, decide_eq_true_eq, Nat.ble_eq, allW_row, true_and]; omega) (good_cond (fun q => ?_) fun q => ?_)
    · exact bad (by unfold badK; rw [q]; rfl)
    · refine good_cond (fun q2 => ?_) fun q2 => ?_
      · exact bad (by unfold badK; rw [q, q2]; rfl)
      · refine good_needs (by simp only [ob_cons, ob_nil, and_true]; exact decide_eq_true (by omega)) (good_cond (fun q3 => ?_) fun q3 => ?_)
        · exact bad (by unfold badK; rw [q, q2]; exact q3)
        · exact good_out ⟨i + 1, ⟨rfl, c1', noneTo_succ hi (by unfold badK; rw [q, q2]; exact q3)⟩, rfl, Hsim.refl _⟩
  · have c1 := of_decide_eq_false c1
    have : i = 24 := by omega
    subst this
    refine good_out ⟨_, Hsim.refl _, ?_⟩
    rw [if_pos rfl]
    rw [hi] at hk
    exact hk

/-- The first speed. -/
def fsT (T : List Wh) : Int := bif decide ((T.length : Int) > 0) then wfun T 0 0 else 0
def spN (n : Int) : Int := IntKind.wrap IntKind.i64 (Int.tdiv 24 n)
def closV (f : Nat → Nat → Int) (m : Nat) (n : Int) (T : List Wh) : Bool := (decide (n ≥ 1) && (decide (n ≤ 24) && (Int.tmod 24 n == 0))) && noneTo (badK f m (fsT T) (spN n)) 24
theorem sp_in : ∀ k : Nat, k < 25 → 0 ≤ spN k ∧ spN k ≤ 24 := by decide +kernel
theorem spN_in {n : Int} (h1 : n ≥ 1) (h2 : n ≤ 24) : 0 ≤ spN n ∧ spN n ≤ 24 := by
  obtain ⟨k, rfl⟩ := Int.eq_ofNat_of_zero_le (show 0 ≤ n by omega)
  exact sp_in k (by omega)
theorem map_Ti (L : List Wh) : mpTi L = L := by
  show L.map chTi = L
  exact List.map_id'' (fun _ => rfl) L
theorem yesTi_eq (L : List Wh) : yesTi L = (okD L && okT L) := by
  have := map_Ti L
  unfold yesTi
  rw [show L.map chTi = L from this]
def FclY (yes : List Wh → Bool) (cl : (Nat → Nat → Int) → Nat → Int → Bool) : List SA → Option FR
  | [.row m g, .v (.int .i64 n)] => some { val := .v (.bool (cl (itW g) m n)), obl := [allW m g, decide (m ≤ 2 ^ 38), yes (listW (itW g) m)] }
  | _ => none
def FclN (yes : List Wh → Bool) : List SA → Option FR
  | [.row m g, .v (.int .i64 _)] => some { val := .v (.bool false), obl := [allW m g, decide (m ≤ 2 ^ 38), !yes (listW (itW g) m)] }
  | _ => none
def FclS (yes : List Wh → Bool) (cl : (Nat → Nat → Int) → Nat → Int → Bool) : List SA → Option FR
  | [.row m g, .v (.int .i64 n)] => some { val := .v (.bool (yes (listW (itW g) m) && cl (itW g) m n)), obl := [allW m g, decide (m ≤ 2 ^ 38)] }
  | _ => none
def clT (f : Nat → Nat → Int) (m : Nat) (n : Int) : Bool := closV f m n (tidyL (listW f m))
theorem ok_clY : SpecOk Try.prog 21 (specR md_wv (FclY yesTi clT)) := by
  refine specR_hr (ext_ok g0_ok ok_deYTi) Try.func21 rfl fun sas fr hF ho => ?_
  unfold FclY at hF
  split at hF
  · rename_i m g n
    cases hF
    simp only [ob_cons] at ho
    obtain ⟨h1, h2, h3, _⟩ := ho
    have hm := of_decide_eq_true h2
    have fin : ∀ b, clT (itW g) m n = b → GoodQ (.out .ret [.v (.bool b)] [.row false m 9 (row9 (itW g)) 46]) (GivR (abP md_wv [.row m g, .v (.int .i64 n)] []) { val := .v (.bool (clT (itW g) m n)), obl := [allW m g, decide (m ≤ 2 ^ 38), yesTi (listW (itW g) m)] }) := fun b hb =>
      good_out ⟨_, rfl, by rw [hb], .cons (ABeq.row fun j hj => (allW_get h1 j hj).symm) .nil⟩
    have ob : obls [Nat.ble (0 + m) m, allW m (row9 (itW g)), decide (m ≤ 274877906944), yesTi (listW (itW g) m)] = true := by simp only [ob_cons, ob_nil, and_true, decide_eq_true_eq, Nat.ble_eq, allW_row, true_and]; exact ⟨by omega, by omega, h3⟩
    by_cases hn : (n ≥ 1 ∧ n ≤ 24) ∧ (Int.tmod 24 n == 0) = true
    · obtain ⟨⟨n1, n2⟩, n3⟩ := hn
      refine ⟨hpK m (itW g), lamKI m (itW g) (fsT (tidyL (listW (itW g) m))) (spN n) (noneTo (badK (itW g) m (fsT (tidyL (listW (itW g) m))) (spN n)) 24), 100, .cons (ABeq.row fun j hj => allW_get h1 j hj) .nil, lam1 (by kernel_rfl) (sumKI m (itW g) _ _ hm (spN_in n1 n2)), ?_⟩
      show GoodQ (execF Try.prog (ext g0 37 (specR md_ws (FdeYTi yesTi tidyL mpTi))) (lamKI m (itW g) (fsT (tidyL (listW (itW g) m))) (spN n) (noneTo (badK (itW g) m (fsT (tidyL (listW (itW g) m))) (spN n)) 24)) 100 Try.f21 [.sl 0 9 0 0 m none, .v (i64 n)] (hpK m (itW g)) (packK 1)) _
      rw [treeKY, row0, listW_itW, map_Ti]
      have en : (!decide (n = 0)) = true := by
        rw [decide_eq_false (by omega)]
        rfl
      have ec : clT (itW g) m n = noneTo (badK (itW g) m (fsT (tidyL (listW (itW g) m))) (spN n)) 24 := by
        unfold clT closV
        rw [decide_eq_true n1, decide_eq_true n2, n3]
        rfl
      refine good_needs ob (good_true (decide_eq_true n1) (good_needs (by rw [ob_cons]; exact ⟨en, rfl⟩) (good_false (by rw [n3]; rfl) (good_cond (fun q => ?_) fun q => ?_))))
      · have q' := of_decide_eq_true q
        have ef : fsT (tidyL (listW (itW g) m)) = wfun (tidyL (listW (itW g) m)) 0 0 := by unfold fsT; rw [q]; rfl
        refine good_needs ?_ (good_cond (fun q2 => fin true (ec.trans q2)) fun q2 => fin false (ec.trans q2))
        simp only [ob_cons, ob_nil, and_true]
        exact ⟨decide_eq_true (by omega), decide_eq_true (by omega), en, chk_of ⟨by rw [ef]; rfl, Hsim.refl _⟩⟩
      · have ef : fsT (tidyL (listW (itW g) m)) = 0 := by unfold fsT; rw [q]; rfl
        refine good_needs ?_ (good_cond (fun q2 => fin true (ec.trans q2)) fun q2 => fin false (ec.trans q2))
        simp only [ob_cons, ob_nil, and_true]
        exact ⟨en, chk_of ⟨by rw [ef]; rfl, Hsim.refl _⟩⟩
    · have ec : clT (itW g) m n = false := by
        unfold clT closV
        cases d1 : decide (n ≥ 1) with
        | false => rfl
        | true =>
          cases d2 : decide (n ≤ 24) with
          | false => rfl
          | true =>
            cases d3 : (Int.tmod 24 n == 0) with
            | false => rfl
            | true => exact (hn ⟨⟨of_decide_eq_true d1, of_decide_eq_true d2⟩, d3⟩).elim
      refine ⟨hpK m (itW g), lamKI m (itW g) 0 0 (noneTo (badK (itW g) m 0 0) 24), 100, .cons (ABeq.row fun j hj => allW_get h1 j hj) .nil, lam1 (by kernel_rfl) (sumKI m (itW g) 0 0 hm ⟨by omega, by omega⟩), ?_⟩
      show GoodQ (execF Try.prog (ext g0 37 (specR md_ws (FdeYTi yesTi tidyL mpTi))) (lamKI m (itW g) 0 0 (noneTo (badK (itW g) m 0 0) 24)) 100 Try.f21 [.sl 0 9 0 0 m none, .v (i64 n)] (hpK m (itW g)) (packK 1)) _
      rw [treeKY, row0, listW_itW, map_Ti]
      refine good_needs ob (good_cond (fun q => ?_) fun q => fin false ec)
      have n1 := of_decide_eq_true q
      have en : (!decide (n = 0)) = true := by
        rw [decide_eq_false (by omega)]
        rfl
      refine good_needs (by rw [ob_cons]; exact ⟨en, rfl⟩) (good_true ?_ (fin false ec))
      cases d3 : (Int.tmod 24 n == 0) with
      | false => rfl
      | true =>
        exfalso
        refine hn ⟨⟨n1, ?_⟩, d3⟩
        rcases Int.lt_or_le 24 n with h | h
        · have e := beq_iff_eq.1 d3
          rw [Int.tmod_eq_emod_of_nonneg (by omega), Int.emod_eq_of_lt (by omega) h] at e
          omega
        · exact h
  · cases hF
theorem ok_clN : SpecOk Try.prog 21 (specR md_wv (FclN yesTi)) := by
  refine specR_hr (ext_ok g0_ok ok_deNTi) Try.func21 rfl fun sas fr hF ho => ?_
  unfold FclN at hF
  split at hF
  · rename_i m g n
    cases hF
    simp only [ob_cons] at ho
    obtain ⟨h1, h2, h3, _⟩ := ho
    have hm := of_decide_eq_true h2
    refine ⟨hpK m (itW g), oneL 0 errS, 100, .cons (ABeq.row fun j hj => allW_get h1 j hj) .nil, lam1 (c := loopAt 0 Try.f21) (by kernel_rfl) errS_ok, ?_⟩
    show GoodQ (execF Try.prog (ext g0 37 (specR md_ws (FdeNTi yesTi))) (oneL 0 errS) 100 Try.f21 [.sl 0 9 0 0 m none, .v (i64 n)] (hpK m (itW g)) (packK 1)) _
    rw [treeKN, row0, listW_itW]
    exact good_needs (by simp only [ob_cons, ob_nil, and_true, decide_eq_true_eq, Nat.ble_eq, allW_row, true_and]; exact ⟨by omega, by omega, h3⟩) (good_out ⟨_, rfl, rfl, .cons (ABeq.row fun j hj => (allW_get h1 j hj).symm) .nil⟩)
  · cases hF
theorem ok_clS : SpecOk Try.prog 22 (specR md_wv (FclS yesTi clT)) := by
  refine specR_hr gmS2_ok Try.func22 rfl fun sas fr hF ho => ?_
  unfold FclS at hF
  split at hF
  · rename_i m g n
    cases hF
    simp only [ob_cons] at ho
    obtain ⟨h1, h2, _⟩ := ho
    have hm := of_decide_eq_true h2
    have fin : ∀ b, (yesTi (listW (itW g) m) && clT (itW g) m n) = b → GoodQ (.out .ret [.v (.bool b)] [.row false m 9 (row9 (itW g)) 46]) (GivR (abP md_wv [.row m g, .v (.int .i64 n)] []) { val := .v (.bool (yesTi (listW (itW g) m) && clT (itW g) m n)), obl := [allW m g, decide (m ≤ 2 ^ 38)] }) := fun b hb =>
      good_out ⟨_, rfl, by rw [hb], .cons (ABeq.row fun j hj => (allW_get h1 j hj).symm) .nil⟩
    have ey : yesTi (listW (itW g) m) = (okD (listW (itW g) m) && okT (listW (itW g) m)) := by
      have := map_Ti (listW (itW g) m)
      unfold yesTi
      rw [show (listW (itW g) m).map chTi = listW (itW g) m from this]
    have ob : ∀ k : Nat, m ≤ k → obls [Nat.ble (0 + m) m, allW m (row9 (itW g)), decide (m ≤ k)] = true := fun k hk => by
      simp only [ob_cons, ob_nil, and_true, decide_eq_true_eq, Nat.ble_eq, allW_row, true_and]
      omega
    have run : ∀ fs sp, 0 ≤ sp ∧ sp ≤ 24 → ((n ≥ 1 ∧ n ≤ 24) ∧ (Int.tmod 24 n == 0) = true → fs = fsT (tidyL (listW (itW g) m)) ∧ sp = spN n) → GoodQ (execF Try.prog (gmS2 okD tidyL okT) (lamKS m (itW g) fs sp (noneTo (badK (itW g) m fs sp) 24)) 100 Try.f22 [.sl 0 9 0 0 m none, .v (i64 n)] (hpK m (itW g)) (packK 1)) (GivR (abP md_wv [.row m g, .v (.int .i64 n)] []) { val := .v (.bool (yesTi (listW (itW g) m) && clT (itW g) m n)), obl := [allW m g, decide (m ≤ 2 ^ 38)] }) := by
      intro fs sp _ hfs
      rw [treeKS, row0, listW_itW]
      refine good_needs (ob _ (by omega)) (good_cond (fun q => ?_) fun q => ?_)
      · have q' : (!okD (listW (itW g) m)) = true := q
        exact fin false (by rw [ey, show okD (listW (itW g) m) = false by simpa using q']; rfl)
      · have q' : (!okD (listW (itW g) m)) = false := q
        have qd : okD (listW (itW g) m) = true := by simpa using q'
        refine good_needs (ob _ (by omega)) (good_cond (fun q => ?_) fun q => ?_)
        · have q' : (!okT (listW (itW g) m)) = true := q
          exact fin false (by rw [ey, qd, show okT (listW (itW g) m) = false by simpa using q']; rfl)
        · have q' : (!okT (listW (itW g) m)) = false := q
          have qt : okT (listW (itW g) m) = true := by simpa using q'
          have ey2 : yesTi (listW (itW g) m) = true := by rw [ey, qd, qt]; rfl
          have e0 : (yesTi (listW (itW g) m) && clT (itW g) m n) = clT (itW g) m n := by rw [ey2, Bool.true_and]
          refine good_cond (fun d1 => ?_) fun d1 => fin false (by rw [e0, clT, closV, d1]; rfl)
          refine good_cond (fun d2 => ?_) fun d2 => fin false (by rw [e0, clT, closV, d1, d2]; rfl)
          have n1 := of_decide_eq_true d1
          have n2 := of_decide_eq_true d2
          have en : (!decide (n = 0)) = true := by
            rw [decide_eq_false (by omega)]
            rfl
          refine good_needs (by rw [ob_cons]; exact ⟨en, rfl⟩) (good_cond (fun d3 => ?_) fun d3 => ?_)
          · have d3' : (!(Int.tmod 24 n == 0)) = true := d3
            exact fin false (by rw [e0, clT, closV, d1, d2, show (Int.tmod 24 n == 0) = false by simpa using d3']; rfl)
          · have d3' : (!(Int.tmod 24 n == 0)) = false := d3
            have n3 : (Int.tmod 24 n == 0) = true := by
              cases h : (Int.tmod 24 n == 0) with
              | true => rfl
              | false => rw [h] at d3'; cases d3'
            obtain ⟨rfl, rfl⟩ := hfs ⟨⟨n1, n2⟩, n3⟩
            have ec : (yesTi (listW (itW g) m) && clT (itW g) m n) = noneTo (badK (itW g) m (fsT (tidyL (listW (itW g) m))) (spN n)) 24 := by
              rw [e0, clT, closV, d1, d2, n3]
              rfl
            refine good_cond (fun q => ?_) fun q => ?_
            · have q' := of_decide_eq_true q
              have ef : fsT (tidyL (listW (itW g) m)) = wfun (tidyL (listW (itW g) m)) 0 0 := by unfold fsT; rw [q]; rfl
              refine good_needs ?_ (good_cond (fun q2 => fin true (ec.trans q2)) fun q2 => fin false (ec.trans q2))
              simp only [ob_cons, ob_nil, and_true]
              exact ⟨decide_eq_true (by omega), decide_eq_true (by omega), en, chk_of ⟨by rw [ef]; rfl, Hsim.refl _⟩⟩
            · have ef : fsT (tidyL (listW (itW g) m)) = 0 := by unfold fsT; rw [q]; rfl
              refine good_needs ?_ (good_cond (fun q2 => fin true (ec.trans q2)) fun q2 => fin false (ec.trans q2))
              simp only [ob_cons, ob_nil, and_true]
              exact ⟨en, chk_of ⟨by rw [ef]; rfl, Hsim.refl _⟩⟩
    by_cases hn : n ≥ 1 ∧ n ≤ 24
    · exact ⟨hpK m (itW g), _, 100, .cons (ABeq.row fun j hj => allW_get h1 j hj) .nil, lam1 (by kernel_rfl) (sumKS m (itW g) (fsT (tidyL (listW (itW g) m))) (spN n) hm (spN_in hn.1 hn.2)), run _ _ (spN_in hn.1 hn.2) fun _ => ⟨rfl, rfl⟩⟩
    · exact ⟨hpK m (itW g), _, 100, .cons (ABeq.row fun j hj => allW_get h1 j hj) .nil, lam1 (by kernel_rfl) (sumKS m (itW g) 0 0 hm ⟨by omega, by omega⟩), run _ _ ⟨by omega, by omega⟩ fun h => (hn h.1).elim⟩
  · cases hF

end Go.Proofs.Ytmdcafhnjihckaa

/- Plain laws of designs: a tidy list turned is turned wheel by wheel; akin designs. No program, no conditions. -/
namespace Go.Proofs.Ytmdcafhnjihckaa
open Go.RowKit

theorem linS_one {φ : Int → (Nat → Int) → Int} {s0 : Int} (hφ : ∀ s f, s ≠ s0 → φ s f = 0) : ∀ {L : List Wh}, rising L → ∀ {w : Wh}, w ∈ L → w.s = s0 → linS φ L = φ w.s w.r.f
  | [], _, w, hw, _ => by simp at hw
  | x :: l, hr, w, hw, hs => by
    have h' := List.pairwise_cons.1 hr
    have none : ∀ {L : List Wh}, (∀ y ∈ L, y.s ≠ s0) → linS φ L = 0 := fun {L} => by
      induction L with
      | nil => intro _; rfl
      | cons y t ih =>
        intro h
        show φ y.s y.r.f + linS φ t = 0
        rw [ih fun z hz => h z (by simp [hz]), hφ _ _ (h y (by simp))]
        rfl
    show φ x.s x.r.f + linS φ l = φ w.s w.r.f
    rcases List.mem_cons.1 hw with rfl | hw
    · rw [none fun y hy => by have := h'.1 y hy; omega, Int.add_zero]
    · have := h'.1 w hw
      rw [linS_one hφ h'.2 hw hs, hφ x.s _ (by omega), Int.zero_add]
/-- A turn leaves nothing out. -/
theorem tn_ne {f : Nat → Int} {c : Int} (h : ∀ k, k < 8 → tnI f c k = 0) : ∀ k, k < 8 → f k = 0 := fun k hk => by
  have e := tnI_tnI f c (-c) k hk
  rw [show c + -c = 0 by omega, tnI_zero] at e
  rw [← e, tnI_congr (g := fun _ => 0) h (-c) k hk]
  have : ∀ n, tnZ (fun _ => 0) n = fun _ => 0 := fun n => by
    induction n with
    | zero => rfl
    | succ n ih =>
      show stZ (tnZ (fun _ => 0) n) = _
      rw [ih]
      funext k
      unfold stZ
      split <;> rfl
  show tnZ (fun _ => 0) _ k = 0
  rw [this]
theorem chE_ne {tn la : Int} {w : Wh} (hs : -1000 ≤ w.s ∧ w.s ≤ 1000) (hb : bd8 1000000 w.r.f) (h2 : 0 ≤ tn ∧ tn ≤ 23) (h3 : 0 ≤ la ∧ la ≤ 23) (hz : w.r ≠ cyZ) : (chE 1 tn la false w).r ≠ cyZ := fun e => by
  refine hz (cy_ext fun k hk => ?_)
  have h0 : ∀ k, k < 8 → cyZ.f k = 0 := forall8 rfl rfl rfl rfl rfl rfl rfl rfl
  rw [h0 k hk]
  refine tn_ne (c := tn + la * w.s) (fun j hj => ?_) k hk
  rw [← (chE_f hs hb (sp := 1) (by omega) h2 h3).2 j hj, e, h0 j hj]
theorem map_rising {T : List Wh} {c : Wh → Wh} (h : rising T) (hc : ∀ w ∈ T, (c w).s = w.s) : rising (T.map c) := by
  refine List.pairwise_map.2 (List.Pairwise.imp_of_mem (fun {a b} ha hb h => ?_) h)
  show (c a).s < (c b).s
  rw [hc a ha, hc b hb]
  exact h
theorem ch_sum {tn la : Int} {T : List Wh} (hd : okD T = true) (h2 : 0 ≤ tn ∧ tn ≤ 23) (h3 : 0 ≤ la ∧ la ≤ 23) {φ : Int → (Nat → Int) → Int} (hc : Loc φ) : linS φ (T.map (chE 1 tn la false)) = linS (fun s f => φ (1 * s) (tnI f (tn + la * s))) T :=
  linS_map fun w hw => by
    obtain ⟨a1, a2, _⟩ := okD_all hd hw
    obtain ⟨e1, e2⟩ := chE_f a1 a2 (sp := 1) (by omega) h2 h3
    rw [e1]
    exact hc _ _ _ e2
/-- A tidy list turned, wheel by wheel. -/
theorem each_map {tn la : Int} {T : List Wh} (hT : isTidy T) (h : eachOk 1 tn la false T = true) : eachL 1 tn la false T = T.map (chE 1 tn la false) := by
  obtain ⟨hd, i1, i2, hM, _⟩ := each_spec (by omega) h
  refine tidy_unique0 hM.1 hM.2.1 (map_rising hT.1 fun w hw => ?_) (fun w hw => ?_) fun s k hk => ?_
  · rw [(chE_f (okD_all hd hw).1 (okD_all hd hw).2.1 (sp := 1) (by omega) i1 i2).1]
    omega
  · obtain ⟨x, hx, rfl⟩ := List.mem_map.1 hw
    exact chE_ne (okD_all hd hx).1 (okD_all hd hx).2.1 i1 i2 (hT.2.1 x hx)
  · rw [each_lin (by omega) h (atSp_lin s k) (atSp_loc s hk), ch_sum hd i1 i2 (atSp_loc s hk)]
theorem cyOk_of {a : Cy} (h : bd8 1000000 a.f) : cyOk a = true := smallF_iff.2 fun k hk => by
  have := h k hk
  omega
/-- Where radii are small there is always such a list. -/
theorem each_small {tn la : Int} {T : List Wh} (hT : isTidy T) (hb : bdW 500000 T) (h2 : 0 ≤ tn ∧ tn ≤ 23) (h3 : 0 ≤ la ∧ la ≤ 23) : eachOk 1 tn la false T = true := by
  have hd := tidy_okD hT
  have sp : ∀ w ∈ T, (chE 1 tn la false w).s = w.s := fun w hw => by
    rw [(chE_f (okD_all hd hw).1 (okD_all hd hw).2.1 (sp := 1) (by omega) h2 h3).1]
    omega
  have hM : isTidy (T.map (chE 1 tn la false)) := by
    refine ⟨map_rising hT.1 sp, fun w hw => ?_, ?_⟩
    · obtain ⟨x, hx, rfl⟩ := List.mem_map.1 hw
      exact chE_ne (okD_all hd hx).1 (okD_all hd hx).2.1 h2 h3 (hT.2.1 x hx)
    · rw [dValid, Bool.and_eq_true, List.all_eq_true]
      refine ⟨decide_eq_true (by rw [List.length_map]; exact okD_len hd), fun w hw => ?_⟩
      obtain ⟨x, hx, rfl⟩ := List.mem_map.1 hw
      rw [Bool.and_eq_true]
      refine ⟨inR_iff.2 (by rw [sp x hx]; exact (okD_all hd hx).1), cyOk_of fun k hk => ?_⟩
      rw [(chE_f (okD_all hd hx).1 (okD_all hd hx).2.1 (sp := 1) (by omega) h2 h3).2 k hk]
      have := tnI_bd (hb x hx) (tn + la * x.s) k hk
      omega
  rw [eachOk, eachP, hd, inR_iff.2 h2, inR_iff.2 h3, okT_self hM]
  rfl
theorem map_eq_of {T : List Wh} {c d : Wh → Wh} (h : ∀ w ∈ T, (c w).s = (d w).s ∧ ∀ k, k < 8 → (c w).r.f k = (d w).r.f k) : T.map c = T.map d := List.map_congr_left fun w hw => by
  obtain ⟨e1, e2⟩ := h w hw
  have e3 := cy_ext e2
  cases hc : c w
  cases hd : d w
  rw [hc, hd] at e1 e3
  simp only at e1 e3
  rw [e1, e3]
/-- Later and then turned, the second list. -/
def akB (A B : List Wh) (x y : Int) : Bool := (eachOk 1 0 x false A && eachOk 1 y 0 false (eachL 1 0 x false A)) && eqL (eachL 1 y 0 false (eachL 1 0 x false A)) B
theorem akB_speeds {A B : List Wh} (hA : isTidy A) {x y : Int} (h : akB A B x y = true) : A.map Wh.s = B.map Wh.s := by
  rw [akB, Bool.and_eq_true, Bool.and_eq_true] at h
  obtain ⟨⟨h1, h2⟩, h3⟩ := h
  have e : eachL 1 y 0 false (eachL 1 0 x false A) = B := of_decide_eq_true h3
  have hM := each_tidy (by omega) h1
  have sp : ∀ {tn la : Int} {T : List Wh}, isTidy T → eachOk 1 tn la false T = true → (eachL 1 tn la false T).map Wh.s = T.map Wh.s := fun {tn la T} hT h => by
    obtain ⟨hd, i1, i2, _, _⟩ := each_spec (by omega) h
    rw [each_map hT h, List.map_map]
    refine List.map_congr_left fun w hw => ?_
    show (chE 1 tn la false w).s = w.s
    rw [(chE_f (okD_all hd hw).1 (okD_all hd hw).2.1 (sp := 1) (by omega) i1 i2).1]
    omega
  rw [← e, sp hM h2, sp hA h1]
theorem wfun_sp {A : List Wh} (i : Nat) : i < A.length → wfun A i 0 = (A.map Wh.s)[i]?.getD 0 := fun hi => by
  have e : wfun A i 0 = A[i].s := spH_at hi
  rw [e, List.getElem?_map, List.getElem?_eq_getElem hi]
  rfl
theorem pgF_congr {f g : Nat → Int} : ∀ {k : Nat}, (∀ i, i < k → f i = g i) → pgF f k = pgF g k
  | 0, _ => rfl
  | k + 1, h => by
    show gcdI (pgF f k) (f k) = gcdI (pgF g k) (g k)
    rw [pgF_congr fun i hi => h i (by omega), h k (by omega)]
theorem fld_speeds {A B : List Wh} (h : A.map Wh.s = B.map Wh.s) : pgF (dfH A) A.length = pgF (dfH B) B.length := by
  have hl : A.length = B.length := by
    have := congrArg List.length h
    rwa [List.length_map, List.length_map] at this
  rw [← hl]
  refine pgF_congr fun i hi => ?_
  unfold dfH
  rw [wfun_sp i hi, wfun_sp 0 (by omega), wfun_sp (A := B) i (by omega), wfun_sp (A := B) 0 (by omega), h]

end Go.Proofs.Ytmdcafhnjihckaa

/- Lists of wheels compared: slices.Equal, l5Equal. Conditions: two lists of wheels. -/
namespace Go.Proofs.Ytmdcafhnjihckaa
open Go.RowKit
set_option maxRecDepth 100000

noncomputable abbrev fSE : Func := Try.f79
abbrev lvSE : Ex → List Nat := lv3 [0, 1, 12, 13] [] [4]
theorem rndSE (m : Nat) (f h : Nat → Nat → Int) (i : Nat) : execC Try.prog g0 100 noLam (loopAt 0 fSE) (mkT 0 26 ((lvSE .normal).zip [.sl 0 9 0 0 m none, .sl 1 9 0 0 m none, .v (i64 m), .v (i64 i)])) (hpQW m f h) (leafV 26 lvSE 2)
    = bif decide ((↑i : Int) < (↑m : Int)) then needs [decide ((↑i : Int) < (↑m : Int)), decide ((0 : Nat) + Int.toNat (↑i : Int) < m), decide ((↑i : Int) < (↑m : Int)), decide ((0 : Nat) + Int.toNat (↑i : Int) < m)] (bif !(f ((0 : Nat) + Int.toNat (↑i : Int)) (0 : Nat) == h ((0 : Nat) + Int.toNat (↑i : Int)) (0 : Nat) && (f ((0 : Nat) + Int.toNat (↑i : Int)) (1 : Nat) == h ((0 : Nat) + Int.toNat (↑i : Int)) (1 : Nat) && (f ((0 : Nat) + Int.toNat (↑i : Int)) (2 : Nat) == h ((0 : Nat) + Int.toNat (↑i : Int)) (2 : Nat) && (f ((0 : Nat) + Int.toNat (↑i : Int)) (3 : Nat) == h ((0 : Nat) + Int.toNat (↑i : Int)) (3 : Nat) && (f ((0 : Nat) + Int.toNat (↑i : Int)) (4 : Nat) == h ((0 : Nat) + Int.toNat (↑i : Int)) (4 : Nat) && (f ((0 : Nat) + Int.toNat (↑i : Int)) (5 : Nat) == h ((0 : Nat) + Int.toNat (↑i : Int)) (5 : Nat) && (f ((0 : Nat) + Int.toNat (↑i : Int)) (6 : Nat) == h ((0 : Nat) + Int.toNat (↑i : Int)) (6 : Nat) && (f ((0 : Nat) + Int.toNat (↑i : Int)) (7 : Nat) == h ((0 : Nat) + Int.toNat (↑i : Int)) (7 : Nat) && (f ((0 : Nat) + Int.toNat (↑i : Int)) (8 : Nat) == h ((0 : Nat) + Int.toNat (↑i : Int)) (8 : Nat) && true))))))) && true && true)) then Res.out Ex.ret [AV.v (Value.bool false)] [AB.row false m (9 : Nat) (row9 f) (46 : TypeId), AB.row false m (9 : Nat) (row9 h) (46 : TypeId)] else Res.out Ex.normal [AV.sl (0 : Nat) (9 : Nat) (0 : Nat) (0 : Nat) m none, AV.sl (1 : Nat) (9 : Nat) (0 : Nat) (0 : Nat) m none, AV.v (Value.int IntKind.i64 (↑m : Int)), AV.v (Value.int IntKind.i64 (IntKind.wrap IntKind.i64 ((↑i : Int) + (1 : Int))))] [AB.row false m (9 : Nat) (row9 f) (46 : TypeId), AB.row false m (9 : Nat) (row9 h) (46 : TypeId)]) else Res.out (Ex.exit (0 : Nat)) [] [AB.row false m (9 : Nat) (row9 f) (46 : TypeId), AB.row false m (9 : Nat) (row9 h) (46 : TypeId)] := by kernel_rfl

noncomputable abbrev lamSE (m : Nat) (f h : Nat → Nat → Int) (c : Bool) : Nat → Option Sum := oneL 0 (atS 26 (lvSE .normal) 2 [.sl 0 9 0 0 m none, .sl 1 9 0 0 m none, .v (i64 m), .v (i64 (0 : Nat))] (hpQW m f h) (fun K => cond c (K .normal (mkT 0 26 []) (hpQW m f h)) (K .ret (mkT 0 26 [(4, .v (.bool false))]) (hpQW m f h))))
theorem treeSE (m n : Nat) (f h : Nat → Nat → Int) (c : Bool) : execF Try.prog g0 (lamSE m f h c) 100 fSE [.sl 0 9 0 0 m none, .sl 1 9 0 0 n none] [.row false m 9 (row9 f) 46, .row false n 9 (row9 h) 46] (packK 2)
    = bif (↑m : Int) != (↑n : Int) then Res.out Ex.ret [AV.v (Value.bool false)] [AB.row false m (9 : Nat) (row9 f) (46 : TypeId), AB.row false n (9 : Nat) (row9 h) (46 : TypeId)] else needs [chk ([AV.sl (0 : Nat) (9 : Nat) (0 : Nat) (0 : Nat) m none, AV.sl (1 : Nat) (9 : Nat) (0 : Nat) (0 : Nat) n none, AV.v (Value.int IntKind.i64 (↑m : Int)), AV.v (Value.int IntKind.i64 (0 : Int))] = [AV.sl (0 : Nat) (9 : Nat) (0 : Nat) (0 : Nat) m none, AV.sl (1 : Nat) (9 : Nat) (0 : Nat) (0 : Nat) m none, AV.v (Value.int IntKind.i64 (↑m : Int)), AV.v (Value.int IntKind.i64 (0 : Int))] ∧ Hsim [AB.row false m (9 : Nat) (row9 f) (46 : TypeId), AB.row false n (9 : Nat) (row9 h) (46 : TypeId)] (hpQW m f h))] (bif c then Res.out Ex.ret [AV.v (Value.bool true)] [AB.row false m (9 : Nat) (row9 f) (46 : TypeId), AB.row false m (9 : Nat) (row9 h) (46 : TypeId)] else Res.out Ex.ret [AV.v (Value.bool false)] [AB.row false m (9 : Nat) (row9 f) (46 : TypeId), AB.row false m (9 : Nat) (row9 h) (46 : TypeId)]) := by kernel_rfl

abbrev lvLE : Ex → List Nat := lv3 [0, 1, 5] [] [4]
theorem rndLE (m : Nat) (f h : Nat → Nat → Int) (i : Nat) : execC Try.prog g0 100 noLam (loopAt 0 Try.f83) (mkT 0 26 ((lvLE .normal).zip [.sl 0 9 0 0 m none, .sl 1 9 0 0 m none, .v (i64 i)])) (hpQW m f h) (leafV 26 lvLE 2)
    = bif decide ((↑i : Int) < (↑m : Int)) then needs [decide ((↑i : Int) < (↑m : Int)), decide ((0 : Nat) + Int.toNat (↑i : Int) < m), decide ((↑i : Int) < (↑m : Int)), decide ((0 : Nat) + Int.toNat (↑i : Int) < m)] (bif !(f ((0 : Nat) + Int.toNat (↑i : Int)) (0 : Nat) == h ((0 : Nat) + Int.toNat (↑i : Int)) (0 : Nat) && (f ((0 : Nat) + Int.toNat (↑i : Int)) (1 : Nat) == h ((0 : Nat) + Int.toNat (↑i : Int)) (1 : Nat) && (f ((0 : Nat) + Int.toNat (↑i : Int)) (2 : Nat) == h ((0 : Nat) + Int.toNat (↑i : Int)) (2 : Nat) && (f ((0 : Nat) + Int.toNat (↑i : Int)) (3 : Nat) == h ((0 : Nat) + Int.toNat (↑i : Int)) (3 : Nat) && (f ((0 : Nat) + Int.toNat (↑i : Int)) (4 : Nat) == h ((0 : Nat) + Int.toNat (↑i : Int)) (4 : Nat) && (f ((0 : Nat) + Int.toNat (↑i : Int)) (5 : Nat) == h ((0 : Nat) + Int.toNat (↑i : Int)) (5 : Nat) && (f ((0 : Nat) + Int.toNat (↑i : Int)) (6 : Nat) == h ((0 : Nat) + Int.toNat (↑i : Int)) (6 : Nat) && (f ((0 : Nat) + Int.toNat (↑i : Int)) (7 : Nat) == h ((0 : Nat) + Int.toNat (↑i : Int)) (7 : Nat) && (f ((0 : Nat) + Int.toNat (↑i : Int)) (8 : Nat) == h ((0 : Nat) + Int.toNat (↑i : Int)) (8 : Nat) && true))))))) && true && true)) then Res.out Ex.ret [AV.v (Value.bool false)] [AB.row false m (9 : Nat) (row9 f) (46 : TypeId), AB.row false m (9 : Nat) (row9 h) (46 : TypeId)] else Res.out Ex.normal [AV.sl (0 : Nat) (9 : Nat) (0 : Nat) (0 : Nat) m none, AV.sl (1 : Nat) (9 : Nat) (0 : Nat) (0 : Nat) m none, AV.v (Value.int IntKind.i64 (IntKind.wrap IntKind.i64 ((↑i : Int) + (1 : Int))))] [AB.row false m (9 : Nat) (row9 f) (46 : TypeId), AB.row false m (9 : Nat) (row9 h) (46 : TypeId)]) else Res.out (Ex.exit (0 : Nat)) [] [AB.row false m (9 : Nat) (row9 f) (46 : TypeId), AB.row false m (9 : Nat) (row9 h) (46 : TypeId)] := by kernel_rfl

noncomputable abbrev lamLE (m : Nat) (f h : Nat → Nat → Int) (c : Bool) : Nat → Option Sum := oneL 0 (atS 26 (lvLE .normal) 2 [.sl 0 9 0 0 m none, .sl 1 9 0 0 m none, .v (i64 (0 : Nat))] (hpQW m f h) (fun K => cond c (K .normal (mkT 0 26 []) (hpQW m f h)) (K .ret (mkT 0 26 [(4, .v (.bool false))]) (hpQW m f h))))
theorem treeLE (m n : Nat) (f h : Nat → Nat → Int) (c : Bool) : execF Try.prog g0 (lamLE m f h c) 100 Try.f83 [.sl 0 9 0 0 m none, .sl 1 9 0 0 n none] [.row false m 9 (row9 f) 46, .row false n 9 (row9 h) 46] (packK 2)
    = bif (↑m : Int) != (↑n : Int) then Res.out Ex.ret [AV.v (Value.bool false)] [AB.row false m (9 : Nat) (row9 f) (46 : TypeId), AB.row false n (9 : Nat) (row9 h) (46 : TypeId)] else needs [chk ([AV.sl (0 : Nat) (9 : Nat) (0 : Nat) (0 : Nat) m none, AV.sl (1 : Nat) (9 : Nat) (0 : Nat) (0 : Nat) n none, AV.v (Value.int IntKind.i64 (0 : Int))] = [AV.sl (0 : Nat) (9 : Nat) (0 : Nat) (0 : Nat) m none, AV.sl (1 : Nat) (9 : Nat) (0 : Nat) (0 : Nat) m none, AV.v (Value.int IntKind.i64 (0 : Int))] ∧ Hsim [AB.row false m (9 : Nat) (row9 f) (46 : TypeId), AB.row false n (9 : Nat) (row9 h) (46 : TypeId)] (hpQW m f h))] (bif c then Res.out Ex.ret [AV.v (Value.bool true)] [AB.row false m (9 : Nat) (row9 f) (46 : TypeId), AB.row false m (9 : Nat) (row9 h) (46 : TypeId)] else Res.out Ex.ret [AV.v (Value.bool false)] [AB.row false m (9 : Nat) (row9 f) (46 : TypeId), AB.row false m (9 : Nat) (row9 h) (46 : TypeId)]) := by kernel_rfl

def gmS3 (yT yL : Int → List Wh → Bool) (tT tL : Int → List Wh → List Wh) (eq : List Wh → List Wh → Bool) : Gam := ext (ext (ext g0 79 (specR md_eqWS (FeqB eq))) 41 (specU md_wv (UO1 yL tL))) 42 (specU md_wv (UO1 yT tT))
abbrev lvS4 : Ex → List Nat := lv3 [4, 6, 7, 8, 9, 10, 21] [4, 6, 21] [2, 3]
abbrev stS4 (q k : Nat) (b : Nat) (r : Nat) (fine : Bool) (a : Nat) : List AV := [.sl 1 9 0 0 q (some q), .own 2 k, .v (i64 b), .sl 3 9 0 0 r (some r), .v (.bool fine), .v (i64 a), .v (i64 b)]
abbrev hpS4 (m : Nat) (f : Nat → Nat → Int) (q : Nat) (h : Nat → Nat → Int) (k : Nat) (o : Nat → Int) (r : Nat) (u : Nat → Nat → Int) : List AB := [.row false m 9 (row9 f) 46, .row true q 9 (row9 h) 46, .row true k 1 (rowI o) 3, .row false r 9 (row9 u) 46]
abbrev hpS5 (m : Nat) (f : Nat → Nat → Int) (q : Nat) (h : Nat → Nat → Int) (k : Nat) (o : Nat → Int) : List AB := [.row false m 9 (row9 f) 46, .row true q 9 (row9 h) 46, .row true k 1 (rowI o) 3]
theorem rndS4 (yT yL : Int → List Wh → Bool) (tT tL : Int → List Wh → List Wh) (eq : List Wh → List Wh → Bool) (m : Nat) (f : Nat → Nat → Int) (q : Nat) (h : Nat → Nat → Int) (k : Nat) (o : Nat → Int) (b r : Nat) (u : Nat → Nat → Int) (fine : Bool) (a : Nat) : execC Try.prog (gmS3 yT yL tT tL eq) 100 noLam (loopAt 2 Try.f25) (mkT 0 56 ((lvS4 .normal).zip (stS4 q k b r fine a))) (hpS4 m f q h k o r u) (leafV 56 lvS4 1)
    = bif fine then bif decide ((↑a : Int) < (24 : Int)) then needs [Nat.ble ((0 : Nat) + q) q, allW q fun q ↦ row9 h ((0 : Nat) + q), decide (q ≤ (274877906944 : Nat))] (bif yL (↑a : Int) (listW (itW fun q ↦ row9 h ((0 : Nat) + q)) q) then needs [Nat.ble ((0 : Nat) + r) r, Nat.ble ((0 : Nat) + List.length (tL (↑a : Int) (listW (itW fun q ↦ row9 h ((0 : Nat) + q)) q))) (List.length (tL (↑a : Int) (listW (itW fun q ↦ row9 h ((0 : Nat) + q)) q))), allW r fun q ↦ row9 u ((0 : Nat) + q), allW (List.length (tL (↑a : Int) (listW (itW fun q ↦ row9 h ((0 : Nat) + q)) q))) fun q_1 ↦ row9 (wfun (tL (↑a : Int) (listW (itW fun q ↦ row9 h ((0 : Nat) + q)) q))) ((0 : Nat) + q_1), decide (r ≤ (274877906944 : Nat))] (bif eq (listW (itW fun q ↦ row9 u ((0 : Nat) + q)) r) (listW (itW fun q_1 ↦ row9 (wfun (tL (↑a : Int) (listW (itW fun q ↦ row9 h ((0 : Nat) + q)) q))) ((0 : Nat) + q_1)) (List.length (tL (↑a : Int) (listW (itW fun q ↦ row9 h ((0 : Nat) + q)) q)))) then needs [Nat.ble k k, Nat.ble (k + (1 : Nat)) (549755813888 : Nat)] (Res.out (Ex.exit (2 : Nat)) [AV.sl (1 : Nat) (9 : Nat) (0 : Nat) (0 : Nat) q (some q), AV.own (2 : Nat) (k + (1 : Nat)), AV.v (Value.int IntKind.i64 (↑b : Int))] [AB.row false m (9 : Nat) (row9 f) (46 : TypeId), AB.row true q (9 : Nat) (row9 h) (46 : TypeId), AB.row true (k + (1 : Nat)) (1 : Nat) (fun q ↦ [Value.int IntKind.i64 (bif Nat.blt q k then o q else (↑b : Int))]) (3 : Nat)]) else Res.out Ex.normal [AV.sl (1 : Nat) (9 : Nat) (0 : Nat) (0 : Nat) q (some q), AV.own (2 : Nat) k, AV.v (Value.int IntKind.i64 (↑b : Int)), AV.sl (3 : Nat) (9 : Nat) (0 : Nat) (0 : Nat) r (some r), AV.v (Value.bool fine), AV.v (Value.int IntKind.i64 (IntKind.wrap IntKind.i64 ((↑a : Int) + (1 : Int)))), AV.v (Value.int IntKind.i64 (↑b : Int))] [AB.row false m (9 : Nat) (row9 f) (46 : TypeId), AB.row true q (9 : Nat) (row9 h) (46 : TypeId), AB.row true k (1 : Nat) (rowI o) (3 : TypeId), AB.row false r (9 : Nat) (row9 u) (46 : TypeId)]) else Res.out Ex.normal [AV.sl (1 : Nat) (9 : Nat) (0 : Nat) (0 : Nat) q (some q), AV.own (2 : Nat) k, AV.v (Value.int IntKind.i64 (↑b : Int)), AV.sl (3 : Nat) (9 : Nat) (0 : Nat) (0 : Nat) r (some r), AV.v (Value.bool fine), AV.v (Value.int IntKind.i64 (IntKind.wrap IntKind.i64 ((↑a : Int) + (1 : Int)))), AV.v (Value.int IntKind.i64 (↑b : Int))] [AB.row false m (9 : Nat) (row9 f) (46 : TypeId), AB.row true q (9 : Nat) (row9 h) (46 : TypeId), AB.row true k (1 : Nat) (rowI o) (3 : TypeId), AB.row false r (9 : Nat) (row9 u) (46 : TypeId)]) else Res.out (Ex.exit (2 : Nat)) [AV.sl (1 : Nat) (9 : Nat) (0 : Nat) (0 : Nat) q (some q), AV.own (2 : Nat) k, AV.v (Value.int IntKind.i64 (↑b : Int))] [AB.row false m (9 : Nat) (row9 f) (46 : TypeId), AB.row true q (9 : Nat) (row9 h) (46 : TypeId), AB.row true k (1 : Nat) (rowI o) (3 : TypeId)] else Res.out (Ex.exit (2 : Nat)) [AV.sl (1 : Nat) (9 : Nat) (0 : Nat) (0 : Nat) q (some q), AV.own (2 : Nat) k, AV.v (Value.int IntKind.i64 (↑b : Int))] [AB.row false m (9 : Nat) (row9 f) (46 : TypeId), AB.row true q (9 : Nat) (row9 h) (46 : TypeId), AB.row true k (1 : Nat) (rowI o) (3 : TypeId)] := by kernel_rfl

end Go.Proofs.Ytmdcafhnjihckaa

/- DesignStill of both: trees. Conditions: a list of wheels. -/
namespace Go.Proofs.Ytmdcafhnjihckaa
open Go.RowKit
set_option maxRecDepth 100000

abbrev lvS5 : Ex → List Nat := lv3 [4, 6, 21] [6] [2, 3]
abbrev stS5 (q k i : Nat) : List AV := [.sl 1 9 0 0 q (some q), .own 2 k, .v (i64 i)]
noncomputable abbrev lamS4 (m : Nat) (f : Nat → Nat → Int) (q : Nat) (h : Nat → Nat → Int) (k : Nat) (o : Nat → Int) (i r : Nat) (u : Nat → Nat → Int) (fine c : Bool) (o2 : Nat → Int) : Nat → Option Sum := oneL 2 (atS 56 (lvS4 .normal) 1 (stS4 q k i r fine 0) (hpS4 m f q h k o r u) (fun K => cond c (K .normal (mkT 0 56 ([4, 6, 21].zip (stS5 q (k + 1) i))) (hpS5 m f q h (k + 1) o2)) (K .normal (mkT 0 56 ([4, 6, 21].zip (stS5 q k i))) (hpS5 m f q h k o))))
theorem rndS5 (yT yL : Int → List Wh → Bool) (tT tL : Int → List Wh → List Wh) (eq : List Wh → List Wh → Bool) (m : Nat) (f : Nat → Nat → Int) (q : Nat) (h : Nat → Nat → Int) (k : Nat) (o : Nat → Int) (i r : Nat) (u : Nat → Nat → Int) (fine c : Bool) (o2 : Nat → Int) : execC Try.prog (gmS3 yT yL tT tL eq) 100 (lamS4 m f q h k o i r u fine c o2) (loopAt 0 Try.f25) (mkT 0 56 ((lvS5 .normal).zip (stS5 q k i))) (hpS5 m f q h k o) (leafV 56 lvS5 1)
    = bif decide ((↑i : Int) < (24 : Int)) then needs [Nat.ble ((0 : Nat) + q) q, allW q fun q ↦ row9 h ((0 : Nat) + q), decide (q ≤ (274877906944 : Nat)), chk ([AV.sl (1 : Nat) (9 : Nat) (0 : Nat) (0 : Nat) q (some q), AV.own (2 : Nat) k, AV.v (Value.int IntKind.i64 (↑i : Int)), AV.sl (3 : Nat) (9 : Nat) (0 : Nat) (0 : Nat) (List.length (tT (↑i : Int) (listW (itW fun q ↦ row9 h ((0 : Nat) + q)) q))) (some (List.length (tT (↑i : Int) (listW (itW fun q ↦ row9 h ((0 : Nat) + q)) q)))), AV.v (Value.bool (yT (↑i : Int) (listW (itW fun q ↦ row9 h ((0 : Nat) + q)) q))), AV.v (Value.int IntKind.i64 (0 : Int)), AV.v (Value.int IntKind.i64 (↑i : Int))] = stS4 q k i r fine (0 : Nat) ∧ Hsim [AB.row false m (9 : Nat) (row9 f) (46 : TypeId), AB.row true q (9 : Nat) (row9 h) (46 : TypeId), AB.row true k (1 : Nat) (rowI o) (3 : TypeId), AB.row false (List.length (tT (↑i : Int) (listW (itW fun q ↦ row9 h ((0 : Nat) + q)) q))) (9 : Nat) (row9 (wfun (tT (↑i : Int) (listW (itW fun q ↦ row9 h ((0 : Nat) + q)) q)))) (46 : TypeId)] (hpS4 m f q h k o r u))] (bif c then Res.out Ex.normal [AV.sl (1 : Nat) (9 : Nat) (0 : Nat) (0 : Nat) q (some q), AV.own (2 : Nat) (k + (1 : Nat)), AV.v (Value.int IntKind.i64 (IntKind.wrap IntKind.i64 ((↑i : Int) + (1 : Int))))] [AB.row false m (9 : Nat) (row9 f) (46 : TypeId), AB.row true q (9 : Nat) (row9 h) (46 : TypeId), AB.row true (k + (1 : Nat)) (1 : Nat) (rowI o2) (3 : TypeId)] else Res.out Ex.normal [AV.sl (1 : Nat) (9 : Nat) (0 : Nat) (0 : Nat) q (some q), AV.own (2 : Nat) k, AV.v (Value.int IntKind.i64 (IntKind.wrap IntKind.i64 ((↑i : Int) + (1 : Int))))] [AB.row false m (9 : Nat) (row9 f) (46 : TypeId), AB.row true q (9 : Nat) (row9 h) (46 : TypeId), AB.row true k (1 : Nat) (rowI o) (3 : TypeId)]) else Res.out (Ex.exit (0 : Nat)) [AV.own (1 : Nat) k] [AB.row false m (9 : Nat) (row9 f) (46 : TypeId), AB.row true k (1 : Nat) (rowI o) (3 : TypeId)] := by kernel_rfl

theorem rndS5n (yT yL : Int → List Wh → Bool) (tT tL : Int → List Wh → List Wh) (eq : List Wh → List Wh → Bool) (m : Nat) (f : Nat → Nat → Int) (q : Nat) (h : Nat → Nat → Int) (k : Nat) (o : Nat → Int) (i : Nat) : execC Try.prog (gmS3 yT yL tT tL eq) 100 (oneL 2 errS) (loopAt 0 Try.f25) (mkT 0 56 ((lvS5 .normal).zip (stS5 q k i))) (hpS5 m f q h k o) (leafV 56 lvS5 1)
    = bif decide ((↑i : Int) < (24 : Int)) then needs [Nat.ble ((0 : Nat) + q) q, allW q fun q ↦ row9 h ((0 : Nat) + q), decide (q ≤ (274877906944 : Nat))] Res.err else Res.out (Ex.exit (0 : Nat)) [AV.own (1 : Nat) k] [AB.row false m (9 : Nat) (row9 f) (46 : TypeId), AB.row true k (1 : Nat) (rowI o) (3 : TypeId)] := by kernel_rfl

abbrev hpS6 (m : Nat) (f : Nat → Nat → Int) (k : Nat) (o : Nat → Int) : List AB := [.row false m 9 (row9 f) 46, .row true k 1 (rowI o) 3]
noncomputable abbrev lamS5 (m : Nat) (f : Nat → Nat → Int) (q : Nat) (h : Nat → Nat → Int) (k : Nat) (o : Nat → Int) : Nat → Option Sum := oneL 0 (atS 56 (lvS5 .normal) 1 (stS5 q 0 0) (hpS5 m f q h 0 (fun _ => 0)) (fun K => K .normal (mkT 0 56 [(6, .own 1 k)]) (hpS6 m f k o)))
theorem treeStY (yes : List Wh → Bool) (ti mp : List Wh → List Wh) (m : Nat) (f : Nat → Nat → Int) (q : Nat) (h : Nat → Nat → Int) (k : Nat) (o : Nat → Int) : execF Try.prog (ext g0 37 (specR md_ws (FdeYTi yes ti mp))) (lamS5 m f q h k o) 100 Try.f25 [.sl 0 9 0 0 m none] (hpK m f) (packK 1)
    = needs [Nat.ble ((0 : Nat) + m) m, allW m fun q ↦ row9 f ((0 : Nat) + q), decide (m ≤ (274877906944 : Nat)), yes (listW (itW fun q ↦ row9 f ((0 : Nat) + q)) m), chk ([AV.sl (1 : Nat) (9 : Nat) (0 : Nat) (0 : Nat) (List.length (ti (mp (listW (itW fun q ↦ row9 f ((0 : Nat) + q)) m)))) (some (List.length (ti (mp (listW (itW fun q ↦ row9 f ((0 : Nat) + q)) m))))), AV.own (2 : Nat) (0 : Nat), AV.v (Value.int IntKind.i64 (0 : Int))] = stS5 q (0 : Nat) (0 : Nat) ∧ Hsim [AB.row false m (9 : Nat) (row9 f) (46 : TypeId), AB.row true (List.length (ti (mp (listW (itW fun q ↦ row9 f ((0 : Nat) + q)) m)))) (9 : Nat) (row9 (wfun (ti (mp (listW (itW fun q ↦ row9 f ((0 : Nat) + q)) m))))) (46 : TypeId), AB.row true (0 : Nat) (1 : Nat) (fun _ ↦ []) (3 : Nat)] (hpS5 m f q h (0 : Nat) fun _ ↦ (0 : Int))), decide ((↑k : Int) ≤ (↑k : Int)), decide ((↑k : Int) ≤ (↑k : Int)), Nat.ble k k] (Res.out Ex.ret [AV.tup [AV.sl (1 : Nat) (1 : Nat) (0 : Nat) (0 : Nat) (Int.toNat ((↑k : Int) - (0 : Int))) (some (Int.toNat ((↑k : Int) - (0 : Int)))), AV.v (Value.bool true)]] [AB.row false m (9 : Nat) (row9 f) (46 : TypeId), AB.row true k (1 : Nat) (rowI o) (3 : TypeId)]) := by kernel_rfl

theorem treeStN (yes : List Wh → Bool) (m : Nat) (f : Nat → Nat → Int) : execF Try.prog (ext g0 37 (specR md_ws (FdeNTi yes))) (oneL 0 errS) 100 Try.f25 [.sl 0 9 0 0 m none] (hpK m f) (packK 1)
    = needs [Nat.ble ((0 : Nat) + m) m, allW m fun q ↦ row9 f ((0 : Nat) + q), decide (m ≤ (274877906944 : Nat)), !yes (listW (itW fun q ↦ row9 f ((0 : Nat) + q)) m)] (Res.out Ex.ret [AV.tup [AV.v (Value.slice none (0 : Nat) (0 : Nat)), AV.v (Value.bool false)]] [AB.row false m (9 : Nat) (row9 f) (46 : TypeId)]) := by kernel_rfl

def gmR3 (ok : Int → Int → Int → Bool → List Wh → Bool) (el : Int → Int → Int → Bool → List Wh → List Wh) (eq : List Wh → List Wh → Bool) : Gam := ext (ext g0 83 (specR md_eqWS (FeqB eq))) 134 (specR md_ea (FeaO ok el))
abbrev lvR4 : Ex → List Nat := lv3 [4, 6, 7, 8, 9, 10, 11] [4, 6, 7, 10] [2, 3]
abbrev stR4 (q k i r : Nat) (p fd : Bool) (a : Nat) : List AV := [.own 1 q, .own 2 k, .v (i64 i), .own 3 r, .v (.bool p), .v (.bool fd), .v (i64 a)]
abbrev hpR4 (m : Nat) (f : Nat → Nat → Int) (q : Nat) (h : Nat → Nat → Int) (k : Nat) (o : Nat → Int) (r : Nat) (u : Nat → Nat → Int) : List AB := [.row false m 9 (row9 f) 46, .row true q 9 (row9 h) 46, .row true k 1 (rowI o) 3, .row true r 9 (row9 u) 46]
theorem rndR4 (ok : Int → Int → Int → Bool → List Wh → Bool) (el : Int → Int → Int → Bool → List Wh → List Wh) (eq : List Wh → List Wh → Bool) (m : Nat) (f : Nat → Nat → Int) (q : Nat) (h : Nat → Nat → Int) (k : Nat) (o : Nat → Int) (i r : Nat) (u : Nat → Nat → Int) (p fd : Bool) (a : Nat) : execC Try.prog (gmR3 ok el eq) 100 noLam (loopAt 2 Try.f26) (mkT 0 62 ((lvR4 .normal).zip (stR4 q k i r p fd a))) (hpR4 m f q h k o r u) (leafV 62 lvR4 1)
    = bif decide ((↑a : Int) < (24 : Int)) then bif p then bif !fd then needs [Nat.ble q q, allW q (row9 h), decide (q ≤ (274877906944 : Nat))] (bif ok (1 : Int) (0 : Int) (↑a : Int) false (listW (itW (row9 h)) q) then needs [Nat.ble (List.length (el (1 : Int) (0 : Int) (↑a : Int) false (listW (itW (row9 h)) q))) (List.length (el (1 : Int) (0 : Int) (↑a : Int) false (listW (itW (row9 h)) q))), Nat.ble r r, allW (List.length (el (1 : Int) (0 : Int) (↑a : Int) false (listW (itW (row9 h)) q))) (row9 (wfun (el (1 : Int) (0 : Int) (↑a : Int) false (listW (itW (row9 h)) q)))), allW r (row9 u), decide (List.length (el (1 : Int) (0 : Int) (↑a : Int) false (listW (itW (row9 h)) q)) ≤ (274877906944 : Nat))] (Res.out Ex.normal [AV.own (1 : Nat) q, AV.own (2 : Nat) k, AV.v (Value.int IntKind.i64 (↑i : Int)), AV.own (3 : Nat) r, AV.v (Value.bool p), AV.v (Value.bool (eq (listW (itW (row9 (wfun (el (1 : Int) (0 : Int) (↑a : Int) false (listW (itW (row9 h)) q))))) (List.length (el (1 : Int) (0 : Int) (↑a : Int) false (listW (itW (row9 h)) q)))) (listW (itW (row9 u)) r))), AV.v (Value.int IntKind.i64 (IntKind.wrap IntKind.i64 ((↑a : Int) + (1 : Int))))] [AB.row false m (9 : Nat) (row9 f) (46 : TypeId), AB.row true q (9 : Nat) (row9 h) (46 : TypeId), AB.row true k (1 : Nat) (rowI o) (3 : TypeId), AB.row true r (9 : Nat) (row9 u) (46 : TypeId)]) else Res.out Ex.normal [AV.own (1 : Nat) q, AV.own (2 : Nat) k, AV.v (Value.int IntKind.i64 (↑i : Int)), AV.own (3 : Nat) r, AV.v (Value.bool p), AV.v (Value.bool false), AV.v (Value.int IntKind.i64 (IntKind.wrap IntKind.i64 ((↑a : Int) + (1 : Int))))] [AB.row false m (9 : Nat) (row9 f) (46 : TypeId), AB.row true q (9 : Nat) (row9 h) (46 : TypeId), AB.row true k (1 : Nat) (rowI o) (3 : TypeId), AB.row true r (9 : Nat) (row9 u) (46 : TypeId)]) else Res.out (Ex.exit (2 : Nat)) [AV.own (1 : Nat) q, AV.own (2 : Nat) k, AV.v (Value.int IntKind.i64 (↑i : Int)), AV.v (Value.bool fd)] [AB.row false m (9 : Nat) (row9 f) (46 : TypeId), AB.row true q (9 : Nat) (row9 h) (46 : TypeId), AB.row true k (1 : Nat) (rowI o) (3 : TypeId)] else Res.out (Ex.exit (2 : Nat)) [AV.own (1 : Nat) q, AV.own (2 : Nat) k, AV.v (Value.int IntKind.i64 (↑i : Int)), AV.v (Value.bool fd)] [AB.row false m (9 : Nat) (row9 f) (46 : TypeId), AB.row true q (9 : Nat) (row9 h) (46 : TypeId), AB.row true k (1 : Nat) (rowI o) (3 : TypeId)] else Res.out (Ex.exit (2 : Nat)) [AV.own (1 : Nat) q, AV.own (2 : Nat) k, AV.v (Value.int IntKind.i64 (↑i : Int)), AV.v (Value.bool fd)] [AB.row false m (9 : Nat) (row9 f) (46 : TypeId), AB.row true q (9 : Nat) (row9 h) (46 : TypeId), AB.row true k (1 : Nat) (rowI o) (3 : TypeId)] := by kernel_rfl

abbrev lvR5 : Ex → List Nat := lv3 [4, 6, 7] [6] [2, 3]
abbrev stR5 (q k i : Nat) : List AV := [.own 1 q, .own 2 k, .v (i64 i)]
noncomputable abbrev lamR4 (m : Nat) (f : Nat → Nat → Int) (q : Nat) (h : Nat → Nat → Int) (k : Nat) (o : Nat → Int) (i r : Nat) (u : Nat → Nat → Int) (p c : Bool) : Nat → Option Sum := oneL 2 (atS 62 (lvR4 .normal) 1 (stR4 q k i r p false 0) (hpR4 m f q h k o r u) (fun K => K .normal (mkT 0 62 ([4, 6, 7, 10].zip [.own 1 q, .own 2 k, .v (i64 i), .v (.bool c)])) (hpS5 m f q h k o)))
theorem rndR5 (ok : Int → Int → Int → Bool → List Wh → Bool) (el : Int → Int → Int → Bool → List Wh → List Wh) (eq : List Wh → List Wh → Bool) (m : Nat) (f : Nat → Nat → Int) (q : Nat) (h : Nat → Nat → Int) (k : Nat) (o : Nat → Int) (i r : Nat) (u : Nat → Nat → Int) (p c : Bool) : execC Try.prog (gmR3 ok el eq) 100 (lamR4 m f q h k o i r u p c) (loopAt 0 Try.f26) (mkT 0 62 ((lvR5 .normal).zip (stR5 q k i))) (hpS5 m f q h k o) (leafV 62 lvR5 1)
    = bif decide ((↑i : Int) < (24 : Int)) then needs [Nat.ble q q, allW q (row9 h), decide (q ≤ (274877906944 : Nat)), chk ([AV.own (1 : Nat) q, AV.own (2 : Nat) k, AV.v (Value.int IntKind.i64 (↑i : Int)), AV.own (3 : Nat) (List.length (el (1 : Int) (↑i : Int) (0 : Int) false (listW (itW (row9 h)) q))), AV.v (Value.bool (ok (1 : Int) (↑i : Int) (0 : Int) false (listW (itW (row9 h)) q))), AV.v (Value.bool false), AV.v (Value.int IntKind.i64 (0 : Int))] = stR4 q k i r p false (0 : Nat) ∧ Hsim [AB.row false m (9 : Nat) (row9 f) (46 : TypeId), AB.row true q (9 : Nat) (row9 h) (46 : TypeId), AB.row true k (1 : Nat) (rowI o) (3 : TypeId), AB.row true (List.length (el (1 : Int) (↑i : Int) (0 : Int) false (listW (itW (row9 h)) q))) (9 : Nat) (row9 (wfun (el (1 : Int) (↑i : Int) (0 : Int) false (listW (itW (row9 h)) q)))) (46 : TypeId)] (hpR4 m f q h k o r u))] (bif c then needs [Nat.ble k k, Nat.ble (k + (1 : Nat)) (549755813888 : Nat)] (Res.out Ex.normal [AV.own (1 : Nat) q, AV.own (2 : Nat) (k + (1 : Nat)), AV.v (Value.int IntKind.i64 (IntKind.wrap IntKind.i64 ((↑i : Int) + (1 : Int))))] [AB.row false m (9 : Nat) (row9 f) (46 : TypeId), AB.row true q (9 : Nat) (row9 h) (46 : TypeId), AB.row true (k + (1 : Nat)) (1 : Nat) (fun q ↦ [Value.int IntKind.i64 (bif Nat.blt q k then o q else (↑i : Int))]) (3 : Nat)]) else Res.out Ex.normal [AV.own (1 : Nat) q, AV.own (2 : Nat) k, AV.v (Value.int IntKind.i64 (IntKind.wrap IntKind.i64 ((↑i : Int) + (1 : Int))))] [AB.row false m (9 : Nat) (row9 f) (46 : TypeId), AB.row true q (9 : Nat) (row9 h) (46 : TypeId), AB.row true k (1 : Nat) (rowI o) (3 : TypeId)]) else Res.out (Ex.exit (0 : Nat)) [AV.own (1 : Nat) k] [AB.row false m (9 : Nat) (row9 f) (46 : TypeId), AB.row true k (1 : Nat) (rowI o) (3 : TypeId)] := by kernel_rfl

theorem rndR5n (ok : Int → Int → Int → Bool → List Wh → Bool) (el : Int → Int → Int → Bool → List Wh → List Wh) (eq : List Wh → List Wh → Bool) (m : Nat) (f : Nat → Nat → Int) (q : Nat) (h : Nat → Nat → Int) (k : Nat) (o : Nat → Int) (i : Nat) : execC Try.prog (gmR3 ok el eq) 100 (oneL 2 errS) (loopAt 0 Try.f26) (mkT 0 62 ((lvR5 .normal).zip (stR5 q k i))) (hpS5 m f q h k o) (leafV 62 lvR5 1)
    = bif decide ((↑i : Int) < (24 : Int)) then needs [Nat.ble q q, allW q (row9 h), decide (q ≤ (274877906944 : Nat))] Res.err else Res.out (Ex.exit (0 : Nat)) [AV.own (1 : Nat) k] [AB.row false m (9 : Nat) (row9 f) (46 : TypeId), AB.row true k (1 : Nat) (rowI o) (3 : TypeId)] := by kernel_rfl

noncomputable abbrev lamR5 (m : Nat) (f : Nat → Nat → Int) (q : Nat) (h : Nat → Nat → Int) (k : Nat) (o : Nat → Int) : Nat → Option Sum := oneL 0 (atS 62 (lvR5 .normal) 1 (stR5 q 0 0) (hpS5 m f q h 0 (fun _ => 0)) (fun K => K .normal (mkT 0 62 [(6, .own 1 k)]) (hpS6 m f k o)))
theorem treeStS (okd : List Wh → Bool) (ti : List Wh → List Wh) (okt : List Wh → Bool) (m : Nat) (f : Nat → Nat → Int) (q : Nat) (h : Nat → Nat → Int) (k : Nat) (o : Nat → Int) : execF Try.prog (gmS2 okd ti okt) (lamR5 m f q h k o) 100 Try.f26 [.sl 0 9 0 0 m none] (hpK m f) (packK 1)
    = needs [Nat.ble ((0 : Nat) + m) m, allW m fun q ↦ row9 f ((0 : Nat) + q), decide (m ≤ (549755813888 : Nat))] (bif !okd (listW (itW fun q ↦ row9 f ((0 : Nat) + q)) m) then Res.out Ex.ret [AV.tup [AV.own (1 : Nat) (0 : Nat), AV.v (Value.bool false)]] [AB.row false m (9 : Nat) (row9 f) (46 : TypeId), AB.row true (0 : Nat) (1 : Nat) (fun _ ↦ []) (3 : Nat)] else needs [Nat.ble ((0 : Nat) + m) m, allW m fun q ↦ row9 f ((0 : Nat) + q), decide (m ≤ (274877906944 : Nat))] (bif !okt (listW (itW fun q ↦ row9 f ((0 : Nat) + q)) m) then Res.out Ex.ret [AV.tup [AV.own (1 : Nat) (0 : Nat), AV.v (Value.bool false)]] [AB.row false m (9 : Nat) (row9 f) (46 : TypeId), AB.row true (0 : Nat) (1 : Nat) (fun _ ↦ []) (3 : Nat)] else needs [chk ([AV.own (1 : Nat) (List.length (ti (listW (itW fun q ↦ row9 f ((0 : Nat) + q)) m))), AV.own (2 : Nat) (0 : Nat), AV.v (Value.int IntKind.i64 (0 : Int))] = stR5 q (0 : Nat) (0 : Nat) ∧ Hsim [AB.row false m (9 : Nat) (row9 f) (46 : TypeId), AB.row true (List.length (ti (listW (itW fun q ↦ row9 f ((0 : Nat) + q)) m))) (9 : Nat) (row9 (wfun (ti (listW (itW fun q ↦ row9 f ((0 : Nat) + q)) m)))) (46 : TypeId), AB.row true (0 : Nat) (1 : Nat) (fun _ ↦ []) (3 : Nat)] (hpS5 m f q h (0 : Nat) fun _ ↦ (0 : Int)))] (Res.out Ex.ret [AV.tup [AV.own (1 : Nat) k, AV.v (Value.bool true)]] [AB.row false m (9 : Nat) (row9 f) (46 : TypeId), AB.row true k (1 : Nat) (rowI o) (3 : TypeId)]))) := by kernel_rfl

end Go.Proofs.Ytmdcafhnjihckaa

/- Lists compared; the program's turned designs read as the reference's. Conditions: lists of wheels. -/
namespace Go.Proofs.Ytmdcafhnjihckaa
open Go.RowKit
set_option maxRecDepth 100000

theorem sumSE (m : Nat) (f h : Nat → Nat → Int) (hm : m ≤ 2 ^ 40) :
    SumOk Try.prog 2 (.block 0 (.loop (loopAt 0 fSE))) (atS 26 (lvSE .normal) 2 [.sl 0 9 0 0 m none, .sl 1 9 0 0 m none, .v (i64 m), .v (i64 (0 : Nat))] (hpQW m f h) (fun K => cond (noneTo (badE f h) m) (K .normal (mkT 0 26 []) (hpQW m f h)) (K .ret (mkT 0 26 [(4, .v (.bool false))]) (hpQW m f h)))) := by
  refine for_at g0_ok (n := 100) (m := 2) (lv := lvSE) (fun i => [.sl 0 9 0 0 m none, .sl 1 9 0 0 m none, .v (i64 m), .v (i64 (i : Nat))]) (fun _ => hpQW m f h) (fun i => noneTo (badE f h) i = true) m (fun _ => noLam) (lv3_ris rfl rfl rfl) (Nat.le_refl _) rfl fun K Q hk i hi him => ⟨noLam_ok _ _ _, ?_⟩
  rw [rndSE]
  refine good_cond (fun c1 => ?_) fun c1 => ?_
  · have c1 := of_decide_eq_true c1
    have c1' : i < m := by omega
    rw [Int.toNat_natCast, Nat.zero_add, wr_in (x := (i : Int) + 1) (by omega)]
    refine good_needs (by simp only [ob_cons, ob_nil, and_true, decide_eq_true_eq]; omega) (good_cond (fun q => ?_) fun q => ?_)
    · have hb : badE f h i = true := by
        unfold badE
        rw [Bool.not_eq_true', decide_eq_false_iff_not]
        intro e
        simp only [whOf, Wh.mk.injEq, Cy.mk.injEq] at e
        obtain ⟨e0, e1, e2, e3, e4, e5, e6, e7, e8⟩ := e
        simp [e0, e1, e2, e3, e4, e5, e6, e7, e8] at q
      refine good_out ⟨_, Hsim.refl _, ?_⟩
      rw [noneTo_no c1' hb] at hk
      exact hk
    · have hb : badE f h i = false := by
        unfold badE
        rw [Bool.not_eq_false', decide_eq_true_eq]
        simp at q
        simp [whOf, q]
      exact good_out ⟨i + 1, ⟨rfl, c1', noneTo_succ hi hb⟩, rfl, Hsim.refl _⟩
  · have c1 := of_decide_eq_false c1
    have : i = m := by omega
    subst this
    refine good_out ⟨_, Hsim.refl _, ?_⟩
    rw [if_pos rfl]
    rw [hi] at hk
    exact hk
theorem ok_SE : SpecOk Try.prog 79 (specR md_eqWS (FeqB eqL)) := by
  refine specR_hr g0_ok Try.func79 rfl fun sas fr hF ho => ?_
  unfold FeqB at hF
  split at hF
  · rename_i m g n g2
    cases hF
    simp only [ob_cons] at ho
    obtain ⟨h1, h2, h3, _⟩ := ho
    have hm := of_decide_eq_true h3
    refine ⟨[.row false m 9 (row9 (itW g)) 46, .row false n 9 (row9 (itW g2)) 46], lamSE m (itW g) (itW g2) (noneTo (badE (itW g) (itW g2)) m), 100, .cons (ABeq.row fun j hj => allW_get h1 j hj) (.cons (ABeq.row fun j hj => allW_get h2 j hj) .nil), lam1 (by kernel_rfl) (sumSE m (itW g) (itW g2) (by omega)), ?_⟩
    show GoodQ (execF Try.prog g0 (lamSE m (itW g) (itW g2) (noneTo (badE (itW g) (itW g2)) m)) 100 fSE [.sl 0 9 0 0 m none, .sl 1 9 0 0 n none] [.row false m 9 (row9 (itW g)) 46, .row false n 9 (row9 (itW g2)) 46] (packK 2)) _
    rw [treeSE]
    refine good_cond (fun q => ?_) fun q => ?_
    · have hne : m ≠ n := fun e => by
        subst e
        simp at q
      exact good_out ⟨_, rfl, by rw [eqL_len (by rw [listW_length, listW_length]; exact hne)], .cons (ABeq.row fun j hj => (allW_get h1 j hj).symm) (.cons (ABeq.row fun j hj => (allW_get h2 j hj).symm) .nil)⟩
    · have e : m = n := by
        have q2 : (m : Int) = n := by simpa using q
        omega
      subst e
      refine good_needs (by rw [ob_cons]; exact ⟨chk_of ⟨rfl, Hsim.refl _⟩, rfl⟩) (good_cond (fun q => ?_) fun q => ?_)
      · exact good_out ⟨_, rfl, by rw [eqL_list, q], .cons (ABeq.row fun j hj => (allW_get h1 j hj).symm) (.cons (ABeq.row fun j hj => (allW_get h2 j hj).symm) .nil)⟩
      · exact good_out ⟨_, rfl, by rw [eqL_list, q], .cons (ABeq.row fun j hj => (allW_get h1 j hj).symm) (.cons (ABeq.row fun j hj => (allW_get h2 j hj).symm) .nil)⟩
  · cases hF

theorem sumLE (m : Nat) (f h : Nat → Nat → Int) (hm : m ≤ 2 ^ 40) :
    SumOk Try.prog 2 (.block 0 (.loop (loopAt 0 Try.f83))) (atS 26 (lvLE .normal) 2 [.sl 0 9 0 0 m none, .sl 1 9 0 0 m none, .v (i64 (0 : Nat))] (hpQW m f h) (fun K => cond (noneTo (badE f h) m) (K .normal (mkT 0 26 []) (hpQW m f h)) (K .ret (mkT 0 26 [(4, .v (.bool false))]) (hpQW m f h)))) := by
  refine for_at g0_ok (n := 100) (m := 2) (lv := lvLE) (fun i => [.sl 0 9 0 0 m none, .sl 1 9 0 0 m none, .v (i64 (i : Nat))]) (fun _ => hpQW m f h) (fun i => noneTo (badE f h) i = true) m (fun _ => noLam) (lv3_ris rfl rfl rfl) (Nat.le_refl _) rfl fun K Q hk i hi him => ⟨noLam_ok _ _ _, ?_⟩
  rw [rndLE]
  refine good_cond (fun c1 => ?_) fun c1 => ?_
  · have c1 := of_decide_eq_true c1
    have c1' : i < m := by omega
    rw [Int.toNat_natCast, Nat.zero_add, wr_in (x := (i : Int) + 1) (by omega)]
    refine good_needs (by simp only [ob_cons, ob_nil, and_true, decide_eq_true_eq]; omega) (good_cond (fun q => ?_) fun q => ?_)
    · have hb : badE f h i = true := by
        unfold badE
        rw [Bool.not_eq_true', decide_eq_false_iff_not]
        intro e
        simp only [whOf, Wh.mk.injEq, Cy.mk.injEq] at e
        obtain ⟨e0, e1, e2, e3, e4, e5, e6, e7, e8⟩ := e
        simp [e0, e1, e2, e3, e4, e5, e6, e7, e8] at q
      refine good_out ⟨_, Hsim.refl _, ?_⟩
      rw [noneTo_no c1' hb] at hk
      exact hk
    · have hb : badE f h i = false := by
        unfold badE
        rw [Bool.not_eq_false', decide_eq_true_eq]
        simp at q
        simp [whOf, q]
      exact good_out ⟨i + 1, ⟨rfl, c1', noneTo_succ hi hb⟩, rfl, Hsim.refl _⟩
  · have c1 := of_decide_eq_false c1
    have : i = m := by omega
    subst this
    refine good_out ⟨_, Hsim.refl _, ?_⟩
    rw [if_pos rfl]
    rw [hi] at hk
    exact hk
theorem ok_LE : SpecOk Try.prog 83 (specR md_eqWS (FeqB eqL)) := by
  refine specR_hr g0_ok Try.func83 rfl fun sas fr hF ho => ?_
  unfold FeqB at hF
  split at hF
  · rename_i m g n g2
    cases hF
    simp only [ob_cons] at ho
    obtain ⟨h1, h2, h3, _⟩ := ho
    have hm := of_decide_eq_true h3
    refine ⟨[.row false m 9 (row9 (itW g)) 46, .row false n 9 (row9 (itW g2)) 46], lamLE m (itW g) (itW g2) (noneTo (badE (itW g) (itW g2)) m), 100, .cons (ABeq.row fun j hj => allW_get h1 j hj) (.cons (ABeq.row fun j hj => allW_get h2 j hj) .nil), lam1 (by kernel_rfl) (sumLE m (itW g) (itW g2) (by omega)), ?_⟩
    show GoodQ (execF Try.prog g0 (lamLE m (itW g) (itW g2) (noneTo (badE (itW g) (itW g2)) m)) 100 Try.f83 [.sl 0 9 0 0 m none, .sl 1 9 0 0 n none] [.row false m 9 (row9 (itW g)) 46, .row false n 9 (row9 (itW g2)) 46] (packK 2)) _
    rw [treeLE]
    refine good_cond (fun q => ?_) fun q => ?_
    · have hne : m ≠ n := fun e => by
        subst e
        simp at q
      exact good_out ⟨_, rfl, by rw [eqL_len (by rw [listW_length, listW_length]; exact hne)], .cons (ABeq.row fun j hj => (allW_get h1 j hj).symm) (.cons (ABeq.row fun j hj => (allW_get h2 j hj).symm) .nil)⟩
    · have e : m = n := by
        have q2 : (m : Int) = n := by simpa using q
        omega
      subst e
      refine good_needs (by rw [ob_cons]; exact ⟨chk_of ⟨rfl, Hsim.refl _⟩, rfl⟩) (good_cond (fun q => ?_) fun q => ?_)
      · exact good_out ⟨_, rfl, by rw [eqL_list, q], .cons (ABeq.row fun j hj => (allW_get h1 j hj).symm) (.cons (ABeq.row fun j hj => (allW_get h2 j hj).symm) .nil)⟩
      · exact good_out ⟨_, rfl, by rw [eqL_list, q], .cons (ABeq.row fun j hj => (allW_get h1 j hj).symm) (.cons (ABeq.row fun j hj => (allW_get h2 j hj).symm) .nil)⟩
  · cases hF

theorem gmS3_ok : GamOk Try.prog (gmS3 yT yL tT tL eqL) := ext_ok (ext_ok (ext_ok g0_ok ok_SE) ok_ULa) ok_UTu
theorem gmR3_ok : GamOk Try.prog (gmR3 eachOk eachL eqL) := ext_ok (ext_ok g0_ok ok_LE) ok_each

end Go.Proofs.Ytmdcafhnjihckaa

/- DesignStill of both. Conditions: a list of wheels. -/
namespace Go.Proofs.Ytmdcafhnjihckaa
open Go.RowKit
set_option maxRecDepth 100000

/-- Turned by b is the same as a turns later. -/
def hitB (T : List Wh) (b a : Nat) : Bool := yL a T && eqL (tT b T) (tL a T)
def fndB (T : List Wh) (b : Nat) : Bool := yT b T && !noneTo (hitB T b) 24
def stL (T : List Wh) (i : Nat) : List Nat := (List.range i).filter (fndB T)
def oF (T : List Wh) (i : Nat) : Nat → Int := fun j => (((stL T i)[j]?.getD 0 : Nat) : Int)
theorem stL_yes {T : List Wh} {i : Nat} (h : fndB T i = true) : stL T (i + 1) = stL T i ++ [i] := by simp [stL, List.range_succ, h]
theorem stL_no {T : List Wh} {i : Nat} (h : fndB T i = false) : stL T (i + 1) = stL T i := by simp [stL, List.range_succ, h]
theorem stL_le (T : List Wh) (i : Nat) : (stL T i).length ≤ i := by
  have := List.length_filter_le (fndB T) (List.range i)
  rwa [List.length_range] at this
theorem oF_yes {T : List Wh} {i : Nat} (h : fndB T i = true) (j : Nat) (hj : j < (stL T i).length + 1) : (bif Nat.blt j (stL T i).length then oF T i j else (i : Int)) = oF T (i + 1) j := by
  unfold oF
  rw [stL_yes h]
  by_cases hlt : j < (stL T i).length
  · rw [blt_yes hlt, cond_true, List.getElem?_append_left hlt]
  · have e : j = (stL T i).length := by omega
    subst e
    rw [blt_no, cond_false, List.getElem?_append_right (Nat.le_refl _), Nat.sub_self]
    rfl

theorem sumS4 (m : Nat) (f : Nat → Nat → Int) (T : List Wh) (k : Nat) (o : Nat → Int) (i : Nat) (hT : T.length ≤ 12) (hU : (tT i T).length ≤ 2 ^ 38) (hk : k ≤ 24) :
    SumOk Try.prog 1 (.block 2 (.loop (loopAt 2 Try.f25))) (atS 56 (lvS4 .normal) 1 (stS4 T.length k i (tT i T).length (yT i T) 0) (hpS4 m f T.length (wfun T) k o (tT i T).length (wfun (tT i T))) (fun K => cond (fndB T i) (K .normal (mkT 0 56 ([4, 6, 21].zip (stS5 T.length (k + 1) i))) (hpS5 m f T.length (wfun T) (k + 1) (fun j => bif Nat.blt j k then o j else (i : Int)))) (K .normal (mkT 0 56 ([4, 6, 21].zip (stS5 T.length k i))) (hpS5 m f T.length (wfun T) k o)))) := by
  refine for_at gmS3_ok (n := 100) (m := 1) (lv := lvS4) (fun a => stS4 T.length k i (tT i T).length (yT i T) a) (fun _ => hpS4 m f T.length (wfun T) k o (tT i T).length (wfun (tT i T))) (fun a => noneTo (hitB T i) a = true) 24 (fun _ => noLam) (lv3_ris rfl rfl rfl) (Nat.le_refl _) rfl fun K Q hq a ha ha24 => ⟨noLam_ok _ _ _, ?_⟩
  rw [rndS4, listW_self0 T _ rfl, listW_self0 (tT i T) _ rfl, listW_self0 (tL a T) _ rfl]
  refine good_cond (fun c1 => ?_) fun c1 => ?_
  · refine good_cond (fun c2 => ?_) fun c2 => ?_
    · have c2 := of_decide_eq_true c2
      have c2' : a < 24 := by omega
      rw [wr_in (x := (a : Int) + 1) (by omega)]
      refine good_needs (by simp only [row0, ob_cons, ob_nil, and_true, decide_eq_true_eq, Nat.ble_eq, allW_row, true_and]; omega) (good_cond (fun c3 => ?_) fun c3 => ?_)
      · refine good_needs (by simp only [row0, ob_cons, ob_nil, and_true, decide_eq_true_eq, Nat.ble_eq, allW_row, true_and]; omega) (good_cond (fun c4 => ?_) fun c4 => ?_)
        · have hh : hitB T i a = true := by unfold hitB; rw [c3, c4]; rfl
          have hc : fndB T i = true := by unfold fndB; rw [c1, noneTo_no c2' hh]; rfl
          rw [hc] at hq
          refine good_needs (by simp only [ob_cons, ob_nil, and_true, Nat.ble_eq]; omega) (good_out ⟨_, Hsim.refl _, ?_⟩)
          rw [if_pos rfl]
          exact hq
        · have hh : hitB T i a = false := by unfold hitB; rw [c3, c4]; rfl
          exact good_out ⟨a + 1, ⟨rfl, c2', noneTo_succ ha hh⟩, rfl, Hsim.refl _⟩
      · have hh : hitB T i a = false := by unfold hitB; rw [c3]; rfl
        exact good_out ⟨a + 1, ⟨rfl, c2', noneTo_succ ha hh⟩, rfl, Hsim.refl _⟩
    · have c2 := of_decide_eq_false c2
      have : a = 24 := by omega
      subst this
      have hc : fndB T i = false := by unfold fndB; rw [ha, Bool.not_true, Bool.and_false]
      rw [hc] at hq
      refine good_out ⟨_, Hsim.refl _, ?_⟩
      rw [if_pos rfl]
      exact hq
  · have hc : fndB T i = false := by unfold fndB; rw [c1]; rfl
    rw [hc] at hq
    refine good_out ⟨_, Hsim.refl _, ?_⟩
    rw [if_pos rfl]
    exact hq
theorem tT_len {x : Int} {T : List Wh} : (tT x T).length ≤ 12 := by
  unfold tT eachL
  cases eachP x 0 T with
  | false => simp
  | true =>
    show (tidyL _).length ≤ 12
    cases h : okT (T.map (chE 1 x 0 false)) with
    | true => exact tidyL_len h
    | false => rw [tidyL_no h]; simp

theorem sumS5 (m : Nat) (f : Nat → Nat → Int) (T : List Wh) (hT : T.length ≤ 12) :
    SumOk Try.prog 1 (.block 0 (.loop (loopAt 0 Try.f25))) (atS 56 (lvS5 .normal) 1 (stS5 T.length 0 0) (hpS5 m f T.length (wfun T) 0 (fun _ => 0)) (fun K => K .normal (mkT 0 56 [(6, .own 1 (stL T 24).length)]) (hpS6 m f (stL T 24).length (oF T 24)))) := by
  refine for_at gmS3_ok (n := 100) (m := 1) (lv := lvS5) (fun i => stS5 T.length (stL T i).length i) (fun i => hpS5 m f T.length (wfun T) (stL T i).length (bif Nat.beq i 0 then (fun _ => 0) else oF T i)) (fun _ => True) 24
    (fun i => bif Nat.blt i 24 then lamS4 m f T.length (wfun T) (stL T i).length (bif Nat.beq i 0 then (fun _ => 0) else oF T i) i (tT i T).length (wfun (tT i T)) (yT i T) (fndB T i) (fun j => bif Nat.blt j (stL T i).length then (bif Nat.beq i 0 then (fun _ => 0) else oF T i) j else (i : Int)) else oneL 2 errS) (lv3_ris rfl rfl rfl) (Nat.le_refl _) trivial fun K Q hk i _ hi24 => ?_
  have ho : ∀ j, j < (stL T i).length → (bif Nat.beq i 0 then (fun _ => (0 : Int)) else oF T i) j = oF T i j := by
    intro j hj
    cases i with
    | zero => exact absurd hj (Nat.not_lt_zero _)
    | succ i => rfl
  have hl := stL_le T i
  by_cases hlt : i < 24
  · rw [blt_yes hlt, cond_true]
    have hU : (tT i T).length ≤ 12 := tT_len
    refine ⟨lamC (c := loopAt 2 Try.f25) (by kernel_rfl) (sumS4 m f T _ _ i hT (by omega) (by omega)), ?_⟩
    rw [rndS5, listW_self0 T _ rfl]
    refine good_true (decide_eq_true (by omega)) ?_
    rw [wr_in (x := (i : Int) + 1) (by omega)]
    refine good_needs (by simp only [row0, ob_cons, ob_nil, and_true, decide_eq_true_eq, Nat.ble_eq, allW_row, true_and]; exact ⟨by omega, by omega, chk_of ⟨rfl, Hsim.refl _⟩⟩) (good_cond (fun q => ?_) fun q => ?_)
    · refine good_out ⟨i + 1, ⟨rfl, hlt, trivial⟩, ?_, ?_⟩
      · show _ = stS5 T.length (stL T (i + 1)).length (i + 1)
        rw [stL_yes q, List.length_append]
        rfl
      · show Hsim _ (hpS5 m f T.length (wfun T) (stL T (i + 1)).length (oF T (i + 1)))
        rw [show (stL T (i + 1)).length = (stL T i).length + 1 by rw [stL_yes q, List.length_append]; rfl]
        refine .cons (ABeq.refl _) (.cons (ABeq.refl _) (.cons (ABeq.row fun j hj => ?_) .nil))
        show [i64 (bif Nat.blt j (stL T i).length then (bif Nat.beq i 0 then (fun _ => (0 : Int)) else oF T i) j else (i : Int))] = [i64 (oF T (i + 1) j)]
        rw [← oF_yes q j hj]
        by_cases hj2 : j < (stL T i).length
        · rw [blt_yes hj2, cond_true, cond_true, ho j hj2]
        · have : j = (stL T i).length := by omega
          subst this
          rw [blt_no, cond_false, cond_false]
    · refine good_out ⟨i + 1, ⟨rfl, hlt, trivial⟩, ?_, ?_⟩
      · show _ = stS5 T.length (stL T (i + 1)).length (i + 1)
        rw [stL_no q]
        rfl
      · show Hsim _ (hpS5 m f T.length (wfun T) (stL T (i + 1)).length (oF T (i + 1)))
        rw [stL_no q]
        refine .cons (ABeq.refl _) (.cons (ABeq.refl _) (.cons (ABeq.row fun j hj => ?_) .nil))
        show [i64 _] = [i64 _]
        rw [ho j hj, oF, oF, stL_no q]
  · have b : Nat.blt i 24 = false := by
      cases hb : Nat.blt i 24 with
      | false => rfl
      | true => rw [Nat.blt_eq] at hb; omega
    rw [b, cond_false]
    have : i = 24 := by omega
    subst this
    refine ⟨lamC (c := loopAt 2 Try.f25) (by kernel_rfl) errS_ok, ?_⟩
    rw [rndS5n]
    refine good_false (decide_eq_false (by omega)) (good_out ⟨_, Hsim.refl _, ?_⟩)
    rw [if_pos rfl]
    exact hk

/-- The turns that change nothing. -/
def FstY (yes : List Wh → Bool) (sl : List Wh → List Nat) (of : List Wh → Nat → Int) : List SA → Option FR
  | [.row m g] => some { val := .tup [.sl 0 1 0 0 (sl (listW (itW g) m)).length (some (sl (listW (itW g) m)).length), .v (.bool true)], new := [.row true (sl (listW (itW g) m)).length 1 (rowI (of (listW (itW g) m))) 3], obl := [allW m g, decide (m ≤ 2 ^ 38), yes (listW (itW g) m)] }
  | _ => none
def FstN (yes : List Wh → Bool) : List SA → Option FR
  | [.row m g] => some { val := valN, obl := [allW m g, decide (m ≤ 2 ^ 38), !yes (listW (itW g) m)] }
  | _ => none
def FstS (yes : List Wh → Bool) (sl : List Wh → List Nat) (of : List Wh → Nat → Int) : List SA → Option FR
  | [.row m g] => some { val := .tup [.own 0 (sl (listW (itW g) m)).length, .v (.bool (yes (listW (itW g) m)))], new := [.row true (sl (listW (itW g) m)).length 1 (rowI (of (listW (itW g) m))) 3], obl := [allW m g, decide (m ≤ 2 ^ 38)] }
  | _ => none
def stT (L : List Wh) : List Nat := bif yesTi L then stL (tidyL L) 24 else []
def stO (L : List Wh) : Nat → Int := oF (tidyL L) 24
theorem ok_stY : SpecOk Try.prog 25 (specR md_ws (FstY yesTi stT stO)) := by
  refine specR_hr (ext_ok g0_ok ok_deYTi) Try.func25 rfl fun sas fr hF ho => ?_
  unfold FstY at hF
  split at hF
  · rename_i m g
    cases hF
    simp only [ob_cons] at ho
    obtain ⟨h1, h2, h3, _⟩ := ho
    have hm := of_decide_eq_true h2
    have hy := h3
    rw [yesTi_eq, Bool.and_eq_true] at hy
    have hT := tidyL_len hy.2
    have es : stT (listW (itW g) m) = stL (tidyL (listW (itW g) m)) 24 := by rw [stT, h3]; rfl
    refine ⟨hpK m (itW g), lamS5 m (itW g) (tidyL (listW (itW g) m)).length (wfun (tidyL (listW (itW g) m))) (stL (tidyL (listW (itW g) m)) 24).length (oF (tidyL (listW (itW g) m)) 24), 100, .cons (ABeq.row fun j hj => allW_get h1 j hj) .nil, lam1 (by kernel_rfl) (sumS5 m (itW g) (tidyL (listW (itW g) m)) hT), ?_⟩
    show GoodQ (execF Try.prog (ext g0 37 (specR md_ws (FdeYTi yesTi tidyL mpTi))) (lamS5 m (itW g) (tidyL (listW (itW g) m)).length (wfun (tidyL (listW (itW g) m))) (stL (tidyL (listW (itW g) m)) 24).length (oF (tidyL (listW (itW g) m)) 24)) 100 Try.f25 [.sl 0 9 0 0 m none] (hpK m (itW g)) (packK 1)) _
    rw [treeStY, row0, listW_itW, map_Ti, es]
    simp only [Int.sub_zero, Int.toNat_natCast]
    refine good_needs ?_ (good_out ⟨_, rfl, rfl, .cons (ABeq.row fun j hj => (allW_get h1 j hj).symm) (Hsim.refl _)⟩)
    simp only [ob_cons, ob_nil, and_true, allW_row]
    exact ⟨by simp, trivial, decide_eq_true hm, h3, chk_of ⟨rfl, .cons (ABeq.refl _) (.cons (ABeq.refl _) (.cons (ABeq.row fun j hj => absurd hj (Nat.not_lt_zero _)) .nil))⟩, by simp, by simp, by simp⟩
  · cases hF
theorem ok_stN : SpecOk Try.prog 25 (specR md_ws (FstN yesTi)) := by
  refine specR_hr (ext_ok g0_ok ok_deNTi) Try.func25 rfl fun sas fr hF ho => ?_
  unfold FstN at hF
  split at hF
  · rename_i m g
    cases hF
    simp only [ob_cons] at ho
    obtain ⟨h1, h2, h3, _⟩ := ho
    have hm := of_decide_eq_true h2
    refine ⟨hpK m (itW g), oneL 0 errS, 100, .cons (ABeq.row fun j hj => allW_get h1 j hj) .nil, lam1 (c := loopAt 0 Try.f25) (by kernel_rfl) errS_ok, ?_⟩
    show GoodQ (execF Try.prog (ext g0 37 (specR md_ws (FdeNTi yesTi))) (oneL 0 errS) 100 Try.f25 [.sl 0 9 0 0 m none] (hpK m (itW g)) (packK 1)) _
    rw [treeStN, row0, listW_itW]
    exact good_needs (by simp only [ob_cons, ob_nil, and_true, decide_eq_true_eq, Nat.ble_eq, allW_row, true_and]; exact ⟨by omega, by omega, h3⟩) (good_out ⟨_, rfl, rfl, .cons (ABeq.row fun j hj => (allW_get h1 j hj).symm) .nil⟩)
  · cases hF

end Go.Proofs.Ytmdcafhnjihckaa

/- Plain laws of designs: turns that change nothing make a group. No program, no conditions. -/
namespace Go.Proofs.Ytmdcafhnjihckaa
open Go.RowKit

/-- What a hit tells of each wheel. -/
theorem hit_iff {T : List Wh} (hT : isTidy T) (hb : bdW 500000 T) {a b : Nat} (ha : a < 24) (hbb : b < 24) : hitB T b a = true ↔ ∀ w ∈ T, ∀ k, k < 8 → tnI w.r.f b k = tnI w.r.f (a * w.s) k := by
  have hd := tidy_okD hT
  have y1 : eachOk 1 (b : Int) 0 false T = true := each_small hT hb (by omega) (by omega)
  have y2 : eachOk 1 0 (a : Int) false T = true := each_small hT hb (by omega) (by omega)
  unfold hitB yL tT tL
  rw [y2, Bool.true_and, each_map hT y1, each_map hT y2]
  have c1 : ∀ w ∈ T, (chE 1 (b : Int) 0 false w).s = w.s ∧ ∀ k, k < 8 → (chE 1 (b : Int) 0 false w).r.f k = tnI w.r.f b k := fun w hw => by
    obtain ⟨e1, e2⟩ := chE_f (okD_all hd hw).1 (okD_all hd hw).2.1 (sp := 1) (tn := b) (la := 0) (by omega) (by omega) (by omega)
    refine ⟨by rw [e1]; omega, fun k hk => ?_⟩
    rw [e2 k hk, Int.zero_mul, Int.add_zero]
  have c2 : ∀ w ∈ T, (chE 1 0 (a : Int) false w).s = w.s ∧ ∀ k, k < 8 → (chE 1 0 (a : Int) false w).r.f k = tnI w.r.f (a * w.s) k := fun w hw => by
    obtain ⟨e1, e2⟩ := chE_f (okD_all hd hw).1 (okD_all hd hw).2.1 (sp := 1) (tn := 0) (la := a) (by omega) (by omega) (by omega)
    refine ⟨by rw [e1]; omega, fun k hk => ?_⟩
    rw [e2 k hk, Int.zero_add]
  constructor
  · intro h w hw k hk
    have e : T.map (chE 1 (b : Int) 0 false) = T.map (chE 1 0 (a : Int) false) := of_decide_eq_true h
    obtain ⟨i, hi, hwi⟩ := List.mem_iff_getElem.1 hw
    have e2 : (T.map (chE 1 (b : Int) 0 false))[i]? = (T.map (chE 1 0 (a : Int) false))[i]? := by rw [e]
    rw [List.getElem?_map, List.getElem?_map, List.getElem?_eq_getElem hi, Option.map_some, Option.map_some, Option.some.injEq, hwi] at e2
    rw [← (c1 w hw).2 k hk, e2, (c2 w hw).2 k hk]
  · intro h
    refine decide_eq_true (map_eq_of fun w hw => ⟨by rw [(c1 w hw).1, (c2 w hw).1], fun k hk => ?_⟩)
    rw [(c1 w hw).2 k hk, (c2 w hw).2 k hk, h w hw k hk]
theorem fnd_iff {T : List Wh} (hT : isTidy T) (hb : bdW 500000 T) {b : Nat} (hbb : b < 24) : fndB T b = true ↔ ∃ a : Nat, a < 24 ∧ ∀ w ∈ T, ∀ k, k < 8 → tnI w.r.f b k = tnI w.r.f (a * w.s) k := by
  have y1 : eachOk 1 (b : Int) 0 false T = true := each_small hT hb (by omega) (by omega)
  unfold fndB yT
  rw [y1, Bool.true_and, Bool.not_eq_true']
  constructor
  · intro h
    refine Classical.byContradiction fun hn => ?_
    have : noneTo (hitB T b) 24 = true := noneTo_iff.2 fun a ha => by
      cases e : hitB T b a with
      | false => rfl
      | true => exact (hn ⟨a, ha, (hit_iff hT hb ha hbb).1 e⟩).elim
    rw [this] at h
    cases h
  · rintro ⟨a, ha, h⟩
    exact noneTo_no ha ((hit_iff hT hb ha hbb).2 h)
/-- Turns that change nothing: turned back too. -/
theorem still_back {T : List Wh} (hT : isTidy T) (hb : bdW 500000 T) {b : Nat} (hbb : b < 24) (h : fndB T b = true) : fndB T ((24 - b) % 24) = true := by
  obtain ⟨a, ha, hw⟩ := (fnd_iff hT hb hbb).1 h
  refine (fnd_iff hT hb (by omega)).2 ⟨(24 - a) % 24, by omega, fun w hm k hk => ?_⟩
  have key := tnI_congr (fun j hj => hw w hm j hj) (-(b : Int) + -(a * w.s)) k hk
  rw [tnI_tnI _ _ _ k hk, tnI_tnI _ _ _ k hk] at key
  have e1 : tnI w.r.f (((24 - a) % 24 : Nat) * w.s) = tnI w.r.f ((b : Int) + (-(b : Int) + -(a * w.s))) := by
    rw [← tnI_mulmod, show (((24 - a) % 24 : Nat) : Int) % 24 = (-(a : Int)) % 24 by omega, tnI_mulmod, Int.neg_mul]
    congr 1
    omega
  have e2 : tnI w.r.f (((24 - b) % 24 : Nat) : Int) = tnI w.r.f ((a : Int) * w.s + (-(b : Int) + -(a * w.s))) := tnI_mod _ (by omega)
  rw [e1, e2, key]
theorem still_eq {T : List Wh} (hT : isTidy T) (hb : bdW 500000 T) {b : Nat} (hbb : b < 24) : fndB T ((24 - b) % 24) = fndB T b := by
  cases h : fndB T b with
  | true => exact still_back hT hb hbb h
  | false =>
    cases h2 : fndB T ((24 - b) % 24) with
    | false => rfl
    | true =>
      have := still_back hT hb (by omega) h2
      rw [show (24 - (24 - b) % 24) % 24 = b by omega, h] at this
      cases this
theorem still_none {T : List Wh} (hT : isTidy T) (hb : bdW 500000 T) : fndB T 0 = true := (fnd_iff hT hb (by omega)).2 ⟨0, by omega, fun w _ k _ => by
  rw [show ((0 : Nat) : Int) * w.s = 0 by omega]
  rfl⟩
/-- Small radii stay small in the tidy list. -/
theorem tI_small {L : List Wh} {B : Int} (hB : 0 ≤ B) (hy : yI L = true) (hb : bdW B L) : bdW (12 * B) (tI L) := fun w hw k hk => by
  obtain ⟨hd, hT, hl⟩ := tI_spec hy
  have e := atSp_of (k := k) hT.1 hw
  rw [hl _ (atSp_lin w.s k)] at e
  rw [← e]
  have key : ∀ l : List Wh, bdW B l → -(B * l.length) ≤ linS (atSp w.s k) l ∧ linS (atSp w.s k) l ≤ B * l.length := fun l => by
    induction l with
    | nil =>
      intro _
      show -(B * ((0 : Nat) : Int)) ≤ 0 ∧ 0 ≤ B * ((0 : Nat) : Int)
      rw [show ((0 : Nat) : Int) = 0 from rfl, Int.mul_zero]
      omega
    | cons x l ih =>
      intro h
      have h1 := ih fun y hy => h y (by simp [hy])
      have h2 := h x (by simp) k hk
      show -(B * ((l.length + 1 : Nat) : Int)) ≤ atSp w.s k x.s x.r.f + linS (atSp w.s k) l ∧ atSp w.s k x.s x.r.f + linS (atSp w.s k) l ≤ B * ((l.length + 1 : Nat) : Int)
      rw [Int.natCast_add, Int.mul_add, show ((1 : Nat) : Int) = 1 from rfl, Int.mul_one]
      unfold atSp at *
      split <;> omega
  have h1 := key L hb
  have hlen := okD_len hd
  have : B * (L.length : Int) ≤ 12 * B := by
    rw [Int.mul_comm 12 B]
    exact Int.mul_le_mul_of_nonneg_left (by omega) hB
  omega

end Go.Proofs.Ytmdcafhnjihckaa

/- l92Design: its trees. Conditions: those of pick. -/
namespace Go.Proofs.Ytmdcafhnjihckaa
open Go.RowKit
set_option maxRecDepth 100000

noncomputable abbrev fD2 : Func := Try.f69
def gmD2 (pk : Nat → (Nat → Int) → Int → Int → Int) (cf : Nat → (Nat → Int) → Int → Nat → Int) (cp : Nat → (Nat → Int) → Int → Int) : Gam := ext (gmPk pk) 126 (specK [] (FcyO cf cp))
abbrev lvD2 : Ex → List Nat := lv3 [0, 5, 6, 7, 8, 9] [7] [2]
abbrev stD2 (st fi : Int) (n : Nat) (i : Nat) : List AV := [.ptr 0 0 0 0, .v (i64 st), .v (i64 fi), .own 2 i, .v (i64 n), .v (i64 i)]
theorem rndD2 (pk : Nat → (Nat → Int) → Int → Int → Int) (cf : Nat → (Nat → Int) → Int → Nat → Int) (cp : Nat → (Nat → Int) → Int → Int) (l : Nat) (c : Option Nat) (p : Int) (m : Nat) (b : Nat → Int) (tr tb : TypeId) (h : Nat → Nat → Int) (st fi : Int) (n : Nat) (i : Nat) : execC Try.prog (gmD2 pk cf cp) 100 noLam (loopAt 1 fD2) (mkT 0 65 ((lvD2 .normal).zip (stD2 st fi n i))) (hpDs l c p m b tr tb i h) (leafV 65 lvD2 2)
    = bif decide ((↑i : Int) < (↑n : Int)) then needs [okB m (rowB b), decide (l ≤ m), decide ((0 : Int) ≤ p), decide (p ≤ (1073741824 : Int)), decide ((0 : Nat) < m), okB m (rowB b), decide (l ≤ m), decide ((0 : Int) ≤ p + (1 : Int)), decide (p + (1 : Int) ≤ (536870912 : Int)), decide ((0 : Nat) < m), decide ((0 : Nat) < m), Nat.ble i i, Nat.ble (i + (1 : Nat)) (549755813888 : Nat)] (Res.out Ex.normal [AV.ptr (0 : Nat) (0 : Nat) (0 : Nat) (0 : Nat), AV.v (Value.int IntKind.i64 st), AV.v (Value.int IntKind.i64 fi), AV.own (2 : Nat) (i + (1 : Nat)), AV.v (Value.int IntKind.i64 (↑n : Int)), AV.v (Value.int IntKind.i64 (IntKind.wrap IntKind.i64 ((↑i : Int) + (1 : Int))))] [AB.cells [AV.sl (1 : Nat) (1 : Nat) (0 : Nat) (0 : Nat) l c, AV.v (Value.int IntKind.i64 (cp l (itB (rowB b)) (p + (1 : Int))))] tr, AB.row false m (1 : Nat) (rowB b) tb, AB.row true (i + (1 : Nat)) (9 : Nat) (fun q ↦ [Value.int IntKind.i64 (bif Nat.blt q i then h q (0 : Nat) else IntKind.wrap IntKind.i64 (fi + IntKind.wrap IntKind.i64 (st * IntKind.wrap IntKind.i64 (pk l (itB (rowB b)) p (5 : Int) - (2 : Int))))), Value.int IntKind.i64 (bif Nat.blt q i then h q (1 : Nat) else cf l (itB (rowB b)) (p + (1 : Int)) (0 : Nat)), Value.int IntKind.i64 (bif Nat.blt q i then h q (2 : Nat) else cf l (itB (rowB b)) (p + (1 : Int)) (1 : Nat)), Value.int IntKind.i64 (bif Nat.blt q i then h q (3 : Nat) else cf l (itB (rowB b)) (p + (1 : Int)) (2 : Nat)), Value.int IntKind.i64 (bif Nat.blt q i then h q (4 : Nat) else cf l (itB (rowB b)) (p + (1 : Int)) (3 : Nat)), Value.int IntKind.i64 (bif Nat.blt q i then h q (5 : Nat) else cf l (itB (rowB b)) (p + (1 : Int)) (4 : Nat)), Value.int IntKind.i64 (bif Nat.blt q i then h q (6 : Nat) else cf l (itB (rowB b)) (p + (1 : Int)) (5 : Nat)), Value.int IntKind.i64 (bif Nat.blt q i then h q (7 : Nat) else cf l (itB (rowB b)) (p + (1 : Int)) (6 : Nat)), Value.int IntKind.i64 (bif Nat.blt q i then h q (8 : Nat) else cf l (itB (rowB b)) (p + (1 : Int)) (7 : Nat))]) (46 : Nat)]) else Res.out (Ex.exit (1 : Nat)) [AV.own (2 : Nat) i] [AB.cells [AV.sl (1 : Nat) (1 : Nat) (0 : Nat) (0 : Nat) l c, AV.v (Value.int IntKind.i64 p)] tr, AB.row false m (1 : Nat) (rowB b) tb, AB.row true i (9 : Nat) (row9 h) (46 : TypeId)] := by kernel_rfl

noncomputable abbrev lamD2 (l : Nat) (c : Option Nat) (m : Nat) (b : Nat → Int) (tr tb : TypeId) (st fi : Int) (n : Nat) (p1 p2 : Int) (h : Nat → Nat → Int) : Nat → Option Sum := oneL 1 (atS 65 (lvD2 .normal) 2 (stD2 st fi n 0) (hpDs l c p1 m b tr tb 0 (wfun [])) (fun K => K .normal (mkT 0 65 [(7, .own 2 n)]) (hpDs l c p2 m b tr tb n h)))
def gmE2D (pk : Nat → (Nat → Int) → Int → Int → Int) (dl : Nat → (Nat → Int) → Int → List Wh) (dp : Nat → (Nat → Int) → Int → Int) (rd : Int → Int → Bool → Int → List Wh) (ro : Int → Int → Bool → Int → Bool) : Gam := ext (ext (gmPk pk) 107 (specK [] (FdgO dl dp))) 125 (specR [.val, .val, .val, .val] (FrdO rd ro))
theorem treeD2 (pk : Nat → (Nat → Int) → Int → Int → Int) (dl : Nat → (Nat → Int) → Int → List Wh) (dp : Nat → (Nat → Int) → Int → Int) (rd : Int → Int → Bool → Int → List Wh) (ro : Int → Int → Bool → Int → Bool) (l : Nat) (c : Option Nat) (p : Int) (m : Nat) (b : Nat → Int) (tr tb : TypeId) (st fi : Int) (n : Nat) (p1 p2 : Int) (h : Nat → Nat → Int) : execF Try.prog (gmE2D pk dl dp rd ro) (lamD2 l c m b tr tb st fi n p1 p2 h) 100 fD2 [.ptr 0 0 0 0] (hpRd l c p m b tr tb) (packK 2)
    = needs [okB m (rowB b), decide (l ≤ m), decide ((0 : Int) ≤ p), decide (p ≤ (1073741824 : Int)), decide ((0 : Nat) < m)] (bif pk l (itB (rowB b)) p (4 : Int) == (0 : Int) then needs [okB m (rowB b), decide (l ≤ m), decide ((0 : Int) ≤ p + (1 : Int)), decide (p + (1 : Int) ≤ (134217728 : Int)), decide ((0 : Nat) < m), decide ((0 : Nat) < m)] (Res.out Ex.ret [AV.own (2 : Nat) (List.length (dl l (itB (rowB b)) (p + (1 : Int))))] [AB.cells [AV.sl (1 : Nat) (1 : Nat) (0 : Nat) (0 : Nat) l c, AV.v (Value.int IntKind.i64 (dp l (itB (rowB b)) (p + (1 : Int))))] tr, AB.row false m (1 : Nat) (rowB b) tb, AB.row true (List.length (dl l (itB (rowB b)) (p + (1 : Int)))) (9 : Nat) (row9 (wfun (dl l (itB (rowB b)) (p + (1 : Int))))) (46 : TypeId)]) else bif pk l (itB (rowB b)) p (4 : Int) == (1 : Int) then needs [okB m (rowB b), decide (l ≤ m), decide ((0 : Int) ≤ p + (1 : Int)), decide (p + (1 : Int) ≤ (1073741824 : Int)), decide ((0 : Nat) < m), okB m (rowB b), decide (l ≤ m), decide ((0 : Int) ≤ p + (1 : Int) + (1 : Int)), decide (p + (1 : Int) + (1 : Int) ≤ (1073741824 : Int)), decide ((0 : Nat) < m), okB m (rowB b), decide (l ≤ m), decide ((0 : Int) ≤ p + (1 : Int) + (1 : Int) + (1 : Int)), decide (p + (1 : Int) + (1 : Int) + (1 : Int) ≤ (1073741824 : Int)), decide ((0 : Nat) < m), okB m (rowB b), decide (l ≤ m), decide ((0 : Int) ≤ p + (1 : Int) + (1 : Int) + (1 : Int) + (1 : Int)), decide (p + (1 : Int) + (1 : Int) + (1 : Int) + (1 : Int) ≤ (1073741824 : Int)), decide ((0 : Nat) < m)] (bif ro (IntKind.wrap IntKind.i64 ((6 : Int) + pk l (itB (rowB b)) (p + (1 : Int)) (30 : Int))) (IntKind.wrap IntKind.i64 ((6 : Int) + pk l (itB (rowB b)) (p + (1 : Int) + (1 : Int)) (12 : Int))) (pk l (itB (rowB b)) (p + (1 : Int) + (1 : Int) + (1 : Int)) (2 : Int) == (0 : Int)) (IntKind.wrap IntKind.i64 (pk l (itB (rowB b)) (p + (1 : Int) + (1 : Int) + (1 : Int) + (1 : Int)) (20 : Int) - (10 : Int))) then Res.out Ex.ret [AV.own (2 : Nat) (List.length (rd (IntKind.wrap IntKind.i64 ((6 : Int) + pk l (itB (rowB b)) (p + (1 : Int)) (30 : Int))) (IntKind.wrap IntKind.i64 ((6 : Int) + pk l (itB (rowB b)) (p + (1 : Int) + (1 : Int)) (12 : Int))) (pk l (itB (rowB b)) (p + (1 : Int) + (1 : Int) + (1 : Int)) (2 : Int) == (0 : Int)) (IntKind.wrap IntKind.i64 (pk l (itB (rowB b)) (p + (1 : Int) + (1 : Int) + (1 : Int) + (1 : Int)) (20 : Int) - (10 : Int)))))] [AB.cells [AV.sl (1 : Nat) (1 : Nat) (0 : Nat) (0 : Nat) l c, AV.v (Value.int IntKind.i64 (p + (1 : Int) + (1 : Int) + (1 : Int) + (1 : Int) + (1 : Int)))] tr, AB.row false m (1 : Nat) (rowB b) tb, AB.row true (List.length (rd (IntKind.wrap IntKind.i64 ((6 : Int) + pk l (itB (rowB b)) (p + (1 : Int)) (30 : Int))) (IntKind.wrap IntKind.i64 ((6 : Int) + pk l (itB (rowB b)) (p + (1 : Int) + (1 : Int)) (12 : Int))) (pk l (itB (rowB b)) (p + (1 : Int) + (1 : Int) + (1 : Int)) (2 : Int) == (0 : Int)) (IntKind.wrap IntKind.i64 (pk l (itB (rowB b)) (p + (1 : Int) + (1 : Int) + (1 : Int) + (1 : Int)) (20 : Int) - (10 : Int))))) (9 : Nat) (row9 (wfun (rd (IntKind.wrap IntKind.i64 ((6 : Int) + pk l (itB (rowB b)) (p + (1 : Int)) (30 : Int))) (IntKind.wrap IntKind.i64 ((6 : Int) + pk l (itB (rowB b)) (p + (1 : Int) + (1 : Int)) (12 : Int))) (pk l (itB (rowB b)) (p + (1 : Int) + (1 : Int) + (1 : Int)) (2 : Int) == (0 : Int)) (IntKind.wrap IntKind.i64 (pk l (itB (rowB b)) (p + (1 : Int) + (1 : Int) + (1 : Int) + (1 : Int)) (20 : Int) - (10 : Int)))))) (46 : TypeId)] else needs [okB m (rowB b), decide (l ≤ m), decide ((0 : Int) ≤ p + (1 : Int) + (1 : Int) + (1 : Int) + (1 : Int) + (1 : Int)), decide (p + (1 : Int) + (1 : Int) + (1 : Int) + (1 : Int) + (1 : Int) ≤ (1073741824 : Int)), decide ((0 : Nat) < m), okB m (rowB b), decide (l ≤ m), decide ((0 : Int) ≤ p + (1 : Int) + (1 : Int) + (1 : Int) + (1 : Int) + (1 : Int) + (1 : Int)), decide (p + (1 : Int) + (1 : Int) + (1 : Int) + (1 : Int) + (1 : Int) + (1 : Int) ≤ (1073741824 : Int)), decide ((0 : Nat) < m), okB m (rowB b), decide (l ≤ m), decide ((0 : Int) ≤ p + (1 : Int) + (1 : Int) + (1 : Int) + (1 : Int) + (1 : Int) + (1 : Int) + (1 : Int)), decide (p + (1 : Int) + (1 : Int) + (1 : Int) + (1 : Int) + (1 : Int) + (1 : Int) + (1 : Int) ≤ (1073741824 : Int)), decide ((0 : Nat) < m), chk ([AV.ptr (0 : Nat) (0 : Nat) (0 : Nat) (0 : Nat), AV.v (Value.int IntKind.i64 (IntKind.wrap IntKind.i64 ((1 : Int) + pk l (itB (rowB b)) (p + (1 : Int) + (1 : Int) + (1 : Int) + (1 : Int) + (1 : Int)) (4 : Int)))), AV.v (Value.int IntKind.i64 (IntKind.wrap IntKind.i64 (pk l (itB (rowB b)) (p + (1 : Int) + (1 : Int) + (1 : Int) + (1 : Int) + (1 : Int) + (1 : Int)) (5 : Int) - (2 : Int)))), AV.own (2 : Nat) (0 : Nat), AV.v (Value.int IntKind.i64 (IntKind.wrap IntKind.i64 ((1 : Int) + pk l (itB (rowB b)) (p + (1 : Int) + (1 : Int) + (1 : Int) + (1 : Int) + (1 : Int) + (1 : Int) + (1 : Int)) (3 : Int)))), AV.v (Value.int IntKind.i64 (0 : Int))] = stD2 st fi n (0 : Nat) ∧ Hsim [AB.cells [AV.sl (1 : Nat) (1 : Nat) (0 : Nat) (0 : Nat) l c, AV.v (Value.int IntKind.i64 (p + (1 : Int) + (1 : Int) + (1 : Int) + (1 : Int) + (1 : Int) + (1 : Int) + (1 : Int) + (1 : Int)))] tr, AB.row false m (1 : Nat) (rowB b) tb, AB.row true (0 : Nat) (9 : Nat) (fun _ ↦ []) (46 : Nat)] (hpDs l c p1 m b tr tb (0 : Nat) (wfun [])))] (Res.out Ex.ret [AV.own (2 : Nat) n] [AB.cells [AV.sl (1 : Nat) (1 : Nat) (0 : Nat) (0 : Nat) l c, AV.v (Value.int IntKind.i64 p2)] tr, AB.row false m (1 : Nat) (rowB b) tb, AB.row true n (9 : Nat) (row9 h) (46 : TypeId)])) else needs [okB m (rowB b), decide (l ≤ m), decide ((0 : Int) ≤ p + (1 : Int)), decide (p + (1 : Int) ≤ (1073741824 : Int)), decide ((0 : Nat) < m), okB m (rowB b), decide (l ≤ m), decide ((0 : Int) ≤ p + (1 : Int) + (1 : Int)), decide (p + (1 : Int) + (1 : Int) ≤ (1073741824 : Int)), decide ((0 : Nat) < m), okB m (rowB b), decide (l ≤ m), decide ((0 : Int) ≤ p + (1 : Int) + (1 : Int) + (1 : Int)), decide (p + (1 : Int) + (1 : Int) + (1 : Int) ≤ (1073741824 : Int)), decide ((0 : Nat) < m), chk ([AV.ptr (0 : Nat) (0 : Nat) (0 : Nat) (0 : Nat), AV.v (Value.int IntKind.i64 (IntKind.wrap IntKind.i64 ((1 : Int) + pk l (itB (rowB b)) (p + (1 : Int)) (4 : Int)))), AV.v (Value.int IntKind.i64 (IntKind.wrap IntKind.i64 (pk l (itB (rowB b)) (p + (1 : Int) + (1 : Int)) (5 : Int) - (2 : Int)))), AV.own (2 : Nat) (0 : Nat), AV.v (Value.int IntKind.i64 (IntKind.wrap IntKind.i64 ((1 : Int) + pk l (itB (rowB b)) (p + (1 : Int) + (1 : Int) + (1 : Int)) (3 : Int)))), AV.v (Value.int IntKind.i64 (0 : Int))] = stD2 st fi n (0 : Nat) ∧ Hsim [AB.cells [AV.sl (1 : Nat) (1 : Nat) (0 : Nat) (0 : Nat) l c, AV.v (Value.int IntKind.i64 (p + (1 : Int) + (1 : Int) + (1 : Int) + (1 : Int)))] tr, AB.row false m (1 : Nat) (rowB b) tb, AB.row true (0 : Nat) (9 : Nat) (fun _ ↦ []) (46 : Nat)] (hpDs l c p1 m b tr tb (0 : Nat) (wfun [])))] (Res.out Ex.ret [AV.own (2 : Nat) n] [AB.cells [AV.sl (1 : Nat) (1 : Nat) (0 : Nat) (0 : Nat) l c, AV.v (Value.int IntKind.i64 p2)] tr, AB.row false m (1 : Nat) (rowB b) tb, AB.row true n (9 : Nat) (row9 h) (46 : TypeId)])) := by kernel_rfl

end Go.Proofs.Ytmdcafhnjihckaa

/- l92Design: a list of wheels, whatever the bytes are. Conditions: those of pick. -/
namespace Go.Proofs.Ytmdcafhnjihckaa
open Go.RowKit
set_option maxRecDepth 100000

/-- Where the reader is after some wheels, and these. -/
noncomputable def d2L (st fi : Int) (l : Nat) (b : Nat → Int) (p : Int) : Nat → List Wh
  | 0 => []
  | i + 1 => d2L st fi l b p i ++ [⟨W (fi + W (st * W (pkV l b (dsP l b p i) 5 - 2))), cyOf (cyF l b (dsP l b p i + 1))⟩]
theorem d2L_len (st fi : Int) (l : Nat) (b : Nat → Int) (p : Int) : ∀ i : Nat, (d2L st fi l b p i).length = i
  | 0 => rfl
  | i + 1 => by
    show (d2L st fi l b p i ++ [_]).length = i + 1
    rw [List.length_append, d2L_len st fi l b p i]
    rfl
theorem gmD2_ok : GamOk Try.prog (gmD2 pkV cyF cyP) := ext_ok (ext_ok g0_ok ok_pick) ok_cyc
theorem gmE2D_ok : GamOk Try.prog (gmE2D pkV dgL dgP rnL rnO) := ext_ok (ext_ok (ext_ok g0_ok ok_pick) ok_design) ok_rd
theorem sumD2 (l : Nat) (c : Option Nat) (p : Int) (m : Nat) (b : Nat → Int) (tr tb : TypeId) (st fi : Int) (N : Nat) (hN : N ≤ 3) (hb : okB m (rowB b) = true) (hl : l ≤ m) (h0 : 0 ≤ p) (h1 : p ≤ 2 ^ 28) (hm : 0 < m) :
    SumOk Try.prog 2 (.block 1 (.loop (loopAt 1 fD2))) (atS 65 (lvD2 .normal) 2 (stD2 st fi N 0) (hpDs l c p m b tr tb 0 (wfun [])) (fun K => K .normal (mkT 0 65 [(7, .own 2 N)]) (hpDs l c (dsP l b p N) m b tr tb N (wfun (d2L st fi l b p N))))) := by
  refine for_at gmD2_ok (n := 100) (m := 2) (lv := lvD2) (fun i => stD2 st fi N i) (fun i => hpDs l c (dsP l b p i) m b tr tb i (wfun (d2L st fi l b p i))) (fun _ => True) N (fun _ => noLam) (lv3_ris rfl rfl rfl) (Nat.le_refl _) trivial fun K Q hk i _ hi => ⟨noLam_ok _ _ _, ?_⟩
  rw [rndD2]
  have hp := dsP_in l b p i
  refine good_cond (fun c1 => ?_) fun c1 => ?_
  · have c1 := of_decide_eq_true c1
    refine good_needs ?_ (good_out ⟨i + 1, ⟨rfl, by omega, trivial⟩, ?_, ?_⟩)
    · simp only [ob_cons, ob_nil, and_true, decide_eq_true_eq, Nat.ble_eq, hb, true_and]
      omega
    · rw [wr_in (x := (i : Int) + 1) (by omega)]
      rfl
    · refine .cons (ABeq.refl _) (.cons (ABeq.refl _) (.cons (ABeq.row fun q hq => ?_) .nil))
      exact ch_row (d2L st fi l b p i) ⟨W (fi + W (st * W (pkV l b (dsP l b p i) 5 - 2))), cyOf (cyF l b (dsP l b p i + 1))⟩ i (d2L_len st fi l b p i) q hq
  · have c1 := of_decide_eq_false c1
    have : i = N := by omega
    subst this
    refine good_out ⟨_, Hsim.refl _, ?_⟩
    rw [if_pos rfl]
    exact hk

theorem d2_ex (l : Nat) (b : Nat → Int) (p : Int) : ∃ (L : List Wh) (p' : Int), (p ≤ p' ∧ p' ≤ p + 70) ∧ L.length ≤ 12 ∧ ∀ (c : Option Nat) (m : Nat) (tr tb : TypeId), okB m (rowB b) = true → l ≤ m → 0 ≤ p → p ≤ 2 ^ 26 → 0 < m → ∃ Λ, (∀ cc, fD2.body = some cc → LamOk Try.prog 2 Λ cc) ∧
    GoodQ (execF Try.prog (gmE2D pkV dgL dgP rnL rnO) Λ 100 fD2 [.ptr 0 0 0 0] (hpRd l c p m b tr tb) (packK 2)) (fun _ vs He => vs = [.own 2 L.length] ∧ Hsim He (hpDs l c p' m b tr tb L.length (wfun L))) := by
  have pn := fun q n => pkV_nn l b q n
  have num : ∀ q : Int, ∃ N : Nat, (N : Int) = 1 + pkV l b q 3 ∧ N ≤ 3 := fun q => by
    have := pn q 3
    have := pkV_lt l b q (n := 3) (by omega)
    exact ⟨(1 + pkV l b q 3).toNat, by omega, by omega⟩
  have lam : ∀ (q : Int) (st fi : Int) (N : Nat), N ≤ 3 → p ≤ q → q ≤ p + 20 → ∀ (c : Option Nat) (m : Nat) (tr tb : TypeId), okB m (rowB b) = true → l ≤ m → 0 ≤ p → p ≤ 2 ^ 26 → 0 < m → (∀ cc, fD2.body = some cc → LamOk Try.prog 2 (lamD2 l c m b tr tb st fi N q (dsP l b q N) (wfun (d2L st fi l b q N))) cc) :=
    fun q st fi N hN h1 h2 c m tr tb hb hl h0 h3 hm => lam1 (by kernel_rfl) (sumD2 l c q m b tr tb st fi N hN hb hl (by omega) (by omega) hm)
  have n0 := pn p 4
  by_cases c0 : pkV l b p 4 = 0
  · have hp := dgP_in l b (p + 1)
    refine ⟨dgL l b (p + 1), dgP l b (p + 1), by omega, dgL_len _ _ _, fun c m tr tb hb hl h0 h1 hm => ⟨_, lam p 0 0 0 (by omega) (by omega) (by omega) c m tr tb hb hl h0 h1 hm, ?_⟩⟩
    rw [treeD2]
    exact good_needs (obP hb hl hm h0 (by omega)) (good_true (beq_iff_eq.2 c0) (good_needs (by simp only [ob_cons, ob_nil, and_true, decide_eq_true_eq, hb, true_and]; omega) (good_out ⟨rfl, Hsim.refl _⟩)))
  · -- the steps, from q on
    have steps : ∀ (q : Int), p + 1 ≤ q → q ≤ p + 5 → ∃ (N : Nat) (L : List Wh) (p' : Int), N ≤ 3 ∧ (N : Int) = 1 + pkV l b (q + 1 + 1) 3 ∧ L = d2L (W (1 + pkV l b q 4)) (W (pkV l b (q + 1) 5 - 2)) l b (q + 1 + 1 + 1) N ∧ p' = dsP l b (q + 1 + 1 + 1) N ∧ (p ≤ p' ∧ p' ≤ p + 70) ∧ L.length = N := fun q h1 h2 => by
      obtain ⟨N, e1, e2⟩ := num (q + 1 + 1)
      have hp := dsP_in l b (q + 1 + 1 + 1) N
      exact ⟨N, _, _, e2, e1, rfl, rfl, by omega, d2L_len _ _ _ _ _ _⟩
    have ob : ∀ (q : Int) (c : Option Nat) (m : Nat) (tr tb : TypeId) (N : Nat), (N : Int) = 1 + pkV l b (q + 1 + 1) 3 → p + 1 ≤ q → q ≤ p + 5 → okB m (rowB b) = true → l ≤ m → 0 ≤ p → p ≤ 2 ^ 26 → 0 < m → obls [okB m (rowB b), decide (l ≤ m), decide (0 ≤ q), decide (q ≤ 1073741824), decide (0 < m), okB m (rowB b), decide (l ≤ m), decide (0 ≤ q + 1), decide (q + 1 ≤ 1073741824), decide (0 < m), okB m (rowB b), decide (l ≤ m), decide (0 ≤ q + 1 + 1), decide (q + 1 + 1 ≤ 1073741824), decide (0 < m), chk ([AV.ptr 0 0 0 0, AV.v (i64 (W (1 + pkV l b q 4))), AV.v (i64 (W (pkV l b (q + 1) 5 - 2))), AV.own 2 0, AV.v (i64 (W (1 + pkV l b (q + 1 + 1) 3))), AV.v (i64 0)] = stD2 (W (1 + pkV l b q 4)) (W (pkV l b (q + 1) 5 - 2)) N 0 ∧ Hsim [AB.cells [AV.sl 1 1 0 0 l c, AV.v (i64 (q + 1 + 1 + 1))] tr, AB.row false m 1 (rowB b) tb, AB.row true 0 9 (fun _ => []) 46] (hpDs l c (q + 1 + 1 + 1) m b tr tb 0 (wfun [])))] = true := fun q c m tr tb N e1 h1 h2 hb hl h0 h3 hm => by
      have := pn (q + 1 + 1) 3
      have := pkV_lt l b (q + 1 + 1) (n := 3) (by omega)
      simp only [ob_cons, ob_nil, and_true, decide_eq_true_eq, hb, true_and]
      refine ⟨by omega, by omega, by omega, by omega, by omega, by omega, by omega, by omega, by omega, by omega, by omega, by omega, chk_of ⟨?_, .cons (ABeq.refl _) (.cons (ABeq.refl _) (.cons (ABeq.row fun j hj => absurd hj (Nat.not_lt_zero _)) .nil))⟩⟩
      rw [w64_in (x := 1 + pkV l b (q + 1 + 1) 3) (by omega) (by omega), ← e1]
      rfl
    by_cases c1 : pkV l b p 4 = 1
    · have a1 := pn (p + 1) 30
      have a1' := pkV_lt l b (p + 1) (n := 30) (by omega)
      have a2 := pn (p + 1 + 1) 12
      have a2' := pkV_lt l b (p + 1 + 1) (n := 12) (by omega)
      have a3 := pn (p + 1 + 1 + 1 + 1) 20
      have a3' := pkV_lt l b (p + 1 + 1 + 1 + 1) (n := 20) (by omega)
      have ob5 : ∀ (m : Nat), okB m (rowB b) = true → l ≤ m → 0 ≤ p → p ≤ 2 ^ 26 → 0 < m → obls [okB m (rowB b), decide (l ≤ m), decide (0 ≤ p + 1), decide (p + 1 ≤ 1073741824), decide (0 < m), okB m (rowB b), decide (l ≤ m), decide (0 ≤ p + 1 + 1), decide (p + 1 + 1 ≤ 1073741824), decide (0 < m), okB m (rowB b), decide (l ≤ m), decide (0 ≤ p + 1 + 1 + 1), decide (p + 1 + 1 + 1 ≤ 1073741824), decide (0 < m), okB m (rowB b), decide (l ≤ m), decide (0 ≤ p + 1 + 1 + 1 + 1), decide (p + 1 + 1 + 1 + 1 ≤ 1073741824), decide (0 < m)] = true := fun m hb hl h0 h1 hm => by
        simp only [ob_cons, ob_nil, and_true, decide_eq_true_eq, hb, true_and]
        omega
      cases hr : rnO (W (6 + pkV l b (p + 1) 30)) (W (6 + pkV l b (p + 1 + 1) 12)) (pkV l b (p + 1 + 1 + 1) 2 == 0) (W (pkV l b (p + 1 + 1 + 1 + 1) 20 - 10)) with
      | true =>
        refine ⟨rnL (W (6 + pkV l b (p + 1) 30)) (W (6 + pkV l b (p + 1 + 1) 12)) (pkV l b (p + 1 + 1 + 1) 2 == 0) (W (pkV l b (p + 1 + 1 + 1 + 1) 20 - 10)), p + 1 + 1 + 1 + 1 + 1, by omega, rnL_len _ _ _ _, fun c m tr tb hb hl h0 h1 hm => ⟨_, lam p 0 0 0 (by omega) (by omega) (by omega) c m tr tb hb hl h0 h1 hm, ?_⟩⟩
        rw [treeD2]
        exact good_needs (obP hb hl hm h0 (by omega)) (good_false (beq_eq_false_iff_ne.2 c0) (good_true (beq_iff_eq.2 c1) (good_needs (ob5 m hb hl h0 h1 hm) (good_true hr (good_out ⟨rfl, Hsim.refl _⟩)))))
      | false =>
        obtain ⟨N, L, p', e2, e1, rfl, rfl, hp, hlen⟩ := steps (p + 1 + 1 + 1 + 1 + 1) (by omega) (by omega)
        refine ⟨d2L (W (1 + pkV l b (p + 1 + 1 + 1 + 1 + 1) 4)) (W (pkV l b (p + 1 + 1 + 1 + 1 + 1 + 1) 5 - 2)) l b (p + 1 + 1 + 1 + 1 + 1 + 1 + 1 + 1) N, _, hp, by omega, fun c m tr tb hb hl h0 h1 hm => ⟨_, lam (p + 1 + 1 + 1 + 1 + 1 + 1 + 1 + 1) (W (1 + pkV l b (p + 1 + 1 + 1 + 1 + 1) 4)) (W (pkV l b (p + 1 + 1 + 1 + 1 + 1 + 1) 5 - 2)) N e2 (by omega) (by omega) c m tr tb hb hl h0 h1 hm, ?_⟩⟩
        rw [treeD2, hlen]
        exact good_needs (obP hb hl hm h0 (by omega)) (good_false (beq_eq_false_iff_ne.2 c0) (good_true (beq_iff_eq.2 c1) (good_needs (ob5 m hb hl h0 h1 hm) (good_false hr (good_needs (ob _ c m tr tb N e1 (by omega) (by omega) hb hl h0 h1 hm) (good_out ⟨rfl, Hsim.refl _⟩))))))
    · obtain ⟨N, L, p', e2, e1, rfl, rfl, hp, hlen⟩ := steps (p + 1) (by omega) (by omega)
      refine ⟨d2L (W (1 + pkV l b (p + 1) 4)) (W (pkV l b (p + 1 + 1) 5 - 2)) l b (p + 1 + 1 + 1 + 1) N, _, hp, by omega, fun c m tr tb hb hl h0 h1 hm => ⟨_, lam (p + 1 + 1 + 1 + 1) (W (1 + pkV l b (p + 1) 4)) (W (pkV l b (p + 1 + 1) 5 - 2)) N e2 (by omega) (by omega) c m tr tb hb hl h0 h1 hm, ?_⟩⟩
      rw [treeD2, hlen]
      exact good_needs (obP hb hl hm h0 (by omega)) (good_false (beq_eq_false_iff_ne.2 c0) (good_false (beq_eq_false_iff_ne.2 c1) (good_needs (ob _ c m tr tb N e1 (by omega) (by omega) hb hl h0 h1 hm) (good_out ⟨rfl, Hsim.refl _⟩))))
noncomputable def ehL (l : Nat) (b : Nat → Int) (p : Int) : List Wh := (d2_ex l b p).choose
noncomputable def ehP (l : Nat) (b : Nat → Int) (p : Int) : Int := (d2_ex l b p).choose_spec.choose
theorem ehP_in (l : Nat) (b : Nat → Int) (p : Int) : p ≤ ehP l b p ∧ ehP l b p ≤ p + 70 := (d2_ex l b p).choose_spec.choose_spec.1
theorem ehL_len (l : Nat) (b : Nat → Int) (p : Int) : (ehL l b p).length ≤ 12 := (d2_ex l b p).choose_spec.choose_spec.2.1
def FehO (dl : Nat → (Nat → Int) → Int → List Wh) (dp : Nat → (Nat → Int) → Int → Int) : List AV → List AB → Option HR
  | [.ptr 0 0 0 0], [.cells [.sl 1 1 0 0 l c, .v (.int .i64 p)] tr, .row false m 1 g tb] => some { val := .own 2 (dl l (itB g) p).length, out := [.cells [.sl 1 1 0 0 l c, .v (.int .i64 (dp l (itB g) p))] tr, .row false m 1 g tb], new := [.row true (dl l (itB g) p).length 9 (row9 (wfun (dl l (itB g) p))) 46], obl := [okB m g, decide (l ≤ m), decide (0 ≤ p), decide (p ≤ 2 ^ 26), decide (0 < m)] }
  | _, _ => none
theorem ok_design2 : SpecOk Try.prog 69 (specK [] (FehO ehL ehP)) := by
  refine specK_ok gmE2D_ok Try.func69 rfl fun avs H hr hF ho => ?_
  unfold FehO at hF
  split at hF
  · rename_i l c p tr m g tb
    cases hF
    simp only [ob_cons, decide_eq_true_eq] at ho
    obtain ⟨h1, h2, h3, h4, h5, _⟩ := ho
    obtain ⟨Λ, e1, e2⟩ := (d2_ex l (itB g) p).choose_spec.choose_spec.2.2 c m tr tb (okB_it h1) h2 h3 h4 h5
    refine ⟨hpRd l c p m (itB g) tr tb, Λ, 100, rd_sim h1, e1, ⟨res_mono (fun e vs He hq => ?_) e2.out⟩⟩
    refine ⟨hq.1, hq.2.trans' (.cons (ABeq.refl _) (.cons (ABeq.row fun j hj => (okB_get h1 hj).1.symm) (Hsim.refl _)))⟩
  · cases hF

end Go.Proofs.Ytmdcafhnjihckaa

/- What is drawn: designs with some symmetry. No conditions. -/
namespace Go.Proofs.Ytmdcafhnjihckaa
open Go.RowKit
set_option maxRecDepth 100000

/-- A design, drawn from bytes. -/
noncomputable def bEx (m : Nat) (b : Nat → Int) : List Wh := if m = 0 then noneL else ehL (lnB m) b 0
theorem bEx_len (m : Nat) (b : Nat → Int) : (bEx m b).length ≤ 12 := by
  unfold bEx
  split
  · show 1 ≤ 12; omega
  · exact ehL_len _ _ _
def gmDrE (dl : Nat → (Nat → Int) → Int → List Wh) (dp : Nat → (Nat → Int) → Int → Int) (pk : Nat → (Nat → Int) → Int → Int → Int) : Gam := ext (gmPk pk) 69 (specK [] (FehO dl dp))
theorem gmDrE_ok : GamOk Try.prog (gmDrE ehL ehP pkV) := ext_ok (ext_ok g0_ok ok_pick) ok_design2

end Go.Proofs.Ytmdcafhnjihckaa

/- DrawDesignStill: a list of wheels. Conditions: bytes, at most 2^21. -/
namespace Go.Proofs.Ytmdcafhnjihckaa
open Go.RowKit
set_option maxRecDepth 100000

theorem treeRSt (dl : Nat → (Nat → Int) → Int → List Wh) (dp : Nat → (Nat → Int) → Int → Int) (pk : Nat → (Nat → Int) → Int → Int → Int) (m : Nat) (b : Nat → Int) : execF Try.prog (gmDrE dl dp pk) noLam 100 Try.f24 [.sl 0 1 0 0 m none] [.row false m 1 (rowB b) 5] (packK 1)
    = bif decide ((↑m : Int) > (2000 : Int)) then needs [decide ((2000 : Int) ≤ (↑m : Int)), decide ((↑m : Int) ≤ (↑m : Int)), okB m (rowB b), decide (Int.toNat ((2000 : Int) - (0 : Int)) ≤ m), decide ((0 : Nat) < m), decide ((0 : Nat) < m)] (Res.out Ex.ret [AV.own (1 : Nat) (List.length (dl (Int.toNat ((2000 : Int) - (0 : Int))) (itB (rowB b)) (0 : Int)))] [AB.row false m (1 : Nat) (rowB b) (5 : TypeId), AB.row true (List.length (dl (Int.toNat ((2000 : Int) - (0 : Int))) (itB (rowB b)) (0 : Int))) (9 : Nat) (row9 (wfun (dl (Int.toNat ((2000 : Int) - (0 : Int))) (itB (rowB b)) (0 : Int)))) (46 : TypeId)]) else needs [okB m (rowB b), decide (m ≤ m), decide ((0 : Nat) < m), decide ((0 : Nat) < m)] (Res.out Ex.ret [AV.own (1 : Nat) (List.length (dl m (itB (rowB b)) (0 : Int)))] [AB.row false m (1 : Nat) (rowB b) (5 : TypeId), AB.row true (List.length (dl m (itB (rowB b)) (0 : Int))) (9 : Nat) (row9 (wfun (dl m (itB (rowB b)) (0 : Int)))) (46 : TypeId)]) := by kernel_rfl

theorem treeRSt0 (q : Option Addr) (c : Nat) (g : Nat → List Value) : execF Try.prog g0 noLam 100 Try.f24 [.v (.slice q 0 c)] [.row false 0 1 g 5] (packK 1)
    = Res.out Ex.ret [AV.own (1 : Nat) (1 : Nat)] [AB.row false (0 : Nat) (1 : Nat) g (5 : TypeId), AB.row true (1 : Nat) (9 : Nat) (fun _ ↦ [Value.int IntKind.i64 (1001 : Int), Value.int IntKind.i64 (0 : Int), Value.int IntKind.i64 (0 : Int), Value.int IntKind.i64 (0 : Int), Value.int IntKind.i64 (0 : Int), Value.int IntKind.i64 (0 : Int), Value.int IntKind.i64 (0 : Int), Value.int IntKind.i64 (0 : Int), Value.int IntKind.i64 (0 : Int)]) (46 : Nat)] := by kernel_rfl

theorem ok_drSt : SpecOk Try.prog 24 (specR md_co (FdrO fun m b => frL (bEx m b))) := by
  refine draw_ok Try.func24 rfl (fun m b h0 hm hb => ⟨_, gmDrE_ok, ?_⟩) fun q c g b => ⟨g0, g0_ok, ?_⟩
  · rw [treeRSt, itB_row]
    have e : bEx m b = ehL (lnB m) b 0 := by unfold bEx; rw [if_neg (by omega)]
    have hp := ehP_in (lnB m) b 0
    have hp2 := ehP_in (lnB m) b (ehP (lnB m) b 0)
    rw [e]
    refine good_ln (fun e1 hc => ?_) fun e1 hc => ?_
    · rw [e1] at hp hp2 ⊢
      rw [show Int.toNat ((2000 : Int) - 0) = 2000 from rfl]
      exact ⟨by simp only [ob_cons, ob_nil, and_true, decide_eq_true_eq, hb, true_and]; omega, good_out ⟨_, rfl, rfl, Hsim.refl _⟩⟩
    · rw [e1] at hp hp2 ⊢
      exact ⟨by simp only [ob_cons, ob_nil, and_true, decide_eq_true_eq, hb, true_and]; omega, good_out ⟨_, rfl, rfl, Hsim.refl _⟩⟩
  · rw [treeRSt0]
    exact good_out ⟨_, rfl, rfl, .cons (ABeq.refl _) (.cons (ABeq.row fun j hj => none_row j hj) .nil)⟩

end Go.Proofs.Ytmdcafhnjihckaa

/- DesignStill, the reference's. Conditions: a list of wheels. -/
namespace Go.Proofs.Ytmdcafhnjihckaa
open Go.RowKit
set_option maxRecDepth 100000

theorem sumR4 (m : Nat) (f : Nat → Nat → Int) (T : List Wh) (k : Nat) (o : Nat → Int) (i : Nat) (hT : T.length ≤ 12) (_ : (tT i T).length ≤ 12) :
    SumOk Try.prog 1 (.block 2 (.loop (loopAt 2 Try.f26))) (atS 62 (lvR4 .normal) 1 (stR4 T.length k i (tT i T).length (yT i T) false 0) (hpR4 m f T.length (wfun T) k o (tT i T).length (wfun (tT i T))) (fun K => K .normal (mkT 0 62 ([4, 6, 7, 10].zip [.own 1 T.length, .own 2 k, .v (i64 i), .v (.bool (fndB T i))])) (hpS5 m f T.length (wfun T) k o))) := by
  refine loop_at gmR3_ok (n := 100) (m := 1) (m0 := 1) (lv := lvR4) (σ := Nat × Bool) (fun s => stR4 T.length k i (tT i T).length (yT i T) s.2 s.1) (fun _ => hpR4 m f T.length (wfun T) k o (tT i T).length (wfun (tT i T))) (fun s => s.1 ≤ 24 ∧ (s.2 = false → noneTo (hitB T i) s.1 = true) ∧ (s.2 = true → fndB T i = true)) (fun s => 24 - s.1) (0, false) (fun _ => noLam) (lv3_ris rfl rfl rfl) (Nat.le_refl _) ⟨Nat.zero_le _, fun _ => rfl, fun h => by cases h⟩ fun K Q hq s hs => ⟨noLam_ok _ _ _, ?_⟩
  obtain ⟨a, fd⟩ := s
  obtain ⟨h1, h2, h3⟩ := hs
  simp only at h1 h2 h3
  have done : fndB T i = fd → GoodQ (.out (.exit 2) [.own 1 T.length, .own 2 k, .v (i64 i), .v (.bool fd)] (hpS5 m f T.length (wfun T) k o)) (RoundV 62 2 lvR4 (fun s : Nat × Bool => stR4 T.length k i (tT i T).length (yT i T) s.2 s.1) (fun _ => hpR4 m f T.length (wfun T) k o (tT i T).length (wfun (tT i T))) (fun s' => (s'.1 ≤ 24 ∧ (s'.2 = false → noneTo (hitB T i) s'.1 = true) ∧ (s'.2 = true → fndB T i = true)) ∧ 24 - s'.1 < 24 - a) K Q) := fun e => by
    refine good_out ⟨_, Hsim.refl _, ?_⟩
    rw [if_pos rfl]
    rw [e] at hq
    exact hq
  show GoodQ (execC Try.prog (gmR3 eachOk eachL eqL) 100 noLam (loopAt 2 Try.f26) (mkT 0 62 ((lvR4 .normal).zip (stR4 T.length k i (tT i T).length (yT i T) fd a))) (hpR4 m f T.length (wfun T) k o (tT i T).length (wfun (tT i T))) (leafV 62 lvR4 1)) _
  rw [rndR4, listW_self T _ rfl, listW_self (tT i T) _ rfl, listW_self (eachL 1 0 a false T) _ rfl]
  have hl : (eachL 1 0 a false T).length ≤ 12 := by
    unfold eachL
    cases eachP 0 a T with
    | false => simp
    | true =>
      show (tidyL _).length ≤ 12
      cases h : okT (T.map (chE 1 0 a false)) with
      | true => exact tidyL_len h
      | false => rw [tidyL_no h]; simp
  have eh : hitB T i a = (eachOk 1 0 a false T && eqL (eachL 1 0 a false T) (tT i T)) := by unfold hitB; rw [eqL_comm]; rfl
  refine good_cond (fun c1 => ?_) fun c1 => ?_
  · have c1 := of_decide_eq_true c1
    have c1' : a < 24 := by omega
    refine good_cond (fun c2 => ?_) fun c2 => ?_
    · cases fd with
      | true => exact good_false rfl (done (h3 rfl))
      | false =>
        have hn := h2 rfl
        refine good_true rfl ?_
        rw [wr_in (x := (a : Int) + 1) (by omega)]
        refine good_needs (by simp only [ob_cons, ob_nil, and_true, decide_eq_true_eq, Nat.ble_eq, allW_row, true_and]; omega) (good_cond (fun c3 => ?_) fun c3 => ?_)
        · refine good_needs (by simp only [ob_cons, ob_nil, and_true, decide_eq_true_eq, Nat.ble_eq, allW_row, true_and]; omega) (good_out ⟨(a + 1, eqL (eachL 1 0 a false T) (tT i T)), ⟨⟨c1', fun e => ?_, fun e => ?_⟩, by simp only; omega⟩, rfl, Hsim.refl _⟩)
          · exact noneTo_succ hn (by rw [eh, c3]; exact e)
          · have hh : hitB T i a = true := by rw [eh, c3]; exact e
            unfold fndB
            rw [c2, noneTo_no c1' hh]
            rfl
        · refine good_out ⟨(a + 1, false), ⟨⟨c1', fun _ => noneTo_succ hn (by rw [eh, c3]; rfl), fun e => by cases e⟩, by simp only; omega⟩, rfl, Hsim.refl _⟩
    · refine done ?_
      have e0 : fndB T i = false := by unfold fndB; rw [c2]; rfl
      cases fd with
      | false => exact e0
      | true => exact h3 rfl
  · have c1 := of_decide_eq_false c1
    have : a = 24 := by omega
    subst this
    refine done ?_
    cases fd with
    | false => unfold fndB; rw [h2 rfl, Bool.not_true, Bool.and_false]
    | true => exact h3 rfl

theorem sumR5 (m : Nat) (f : Nat → Nat → Int) (T : List Wh) (hT : T.length ≤ 12) :
    SumOk Try.prog 1 (.block 0 (.loop (loopAt 0 Try.f26))) (atS 62 (lvR5 .normal) 1 (stR5 T.length 0 0) (hpS5 m f T.length (wfun T) 0 (fun _ => 0)) (fun K => K .normal (mkT 0 62 [(6, .own 1 (stL T 24).length)]) (hpS6 m f (stL T 24).length (oF T 24)))) := by
  refine for_at gmR3_ok (n := 100) (m := 1) (lv := lvR5) (fun i => stR5 T.length (stL T i).length i) (fun i => hpS5 m f T.length (wfun T) (stL T i).length (bif Nat.beq i 0 then (fun _ => 0) else oF T i)) (fun _ => True) 24
    (fun i => bif Nat.blt i 24 then lamR4 m f T.length (wfun T) (stL T i).length (bif Nat.beq i 0 then (fun _ => 0) else oF T i) i (tT i T).length (wfun (tT i T)) (yT i T) (fndB T i) else oneL 2 errS) (lv3_ris rfl rfl rfl) (Nat.le_refl _) trivial fun K Q hk i _ hi24 => ?_
  have ho : ∀ j, j < (stL T i).length → (bif Nat.beq i 0 then (fun _ => (0 : Int)) else oF T i) j = oF T i j := by
    intro j hj
    cases i with
    | zero => exact absurd hj (Nat.not_lt_zero _)
    | succ i => rfl
  have hl := stL_le T i
  by_cases hlt : i < 24
  · rw [blt_yes hlt, cond_true]
    have hU : (tT i T).length ≤ 12 := tT_len
    refine ⟨lamC (c := loopAt 2 Try.f26) (by kernel_rfl) (sumR4 m f T _ _ i hT hU), ?_⟩
    rw [rndR5, listW_self T _ rfl]
    refine good_true (decide_eq_true (by omega)) ?_
    rw [wr_in (x := (i : Int) + 1) (by omega)]
    refine good_needs (by simp only [ob_cons, ob_nil, and_true, decide_eq_true_eq, Nat.ble_eq, allW_row, true_and]; exact ⟨by omega, by omega, chk_of ⟨rfl, Hsim.refl _⟩⟩) (good_cond (fun q => ?_) fun q => ?_)
    · refine good_needs (by simp only [ob_cons, ob_nil, and_true, Nat.ble_eq]; omega) (good_out ⟨i + 1, ⟨rfl, hlt, trivial⟩, ?_, ?_⟩)
      · show _ = stR5 T.length (stL T (i + 1)).length (i + 1)
        rw [stL_yes q, List.length_append]
        rfl
      · show Hsim _ (hpS5 m f T.length (wfun T) (stL T (i + 1)).length (oF T (i + 1)))
        rw [show (stL T (i + 1)).length = (stL T i).length + 1 by rw [stL_yes q, List.length_append]; rfl]
        refine .cons (ABeq.refl _) (.cons (ABeq.refl _) (.cons (ABeq.row fun j hj => ?_) .nil))
        show [i64 (bif Nat.blt j (stL T i).length then (bif Nat.beq i 0 then (fun _ => (0 : Int)) else oF T i) j else (i : Int))] = [i64 (oF T (i + 1) j)]
        rw [← oF_yes q j hj]
        by_cases hj2 : j < (stL T i).length
        · rw [blt_yes hj2, cond_true, cond_true, ho j hj2]
        · have : j = (stL T i).length := by omega
          subst this
          rw [blt_no, cond_false, cond_false]
    · refine good_out ⟨i + 1, ⟨rfl, hlt, trivial⟩, ?_, ?_⟩
      · show _ = stR5 T.length (stL T (i + 1)).length (i + 1)
        rw [stL_no q]
        rfl
      · show Hsim _ (hpS5 m f T.length (wfun T) (stL T (i + 1)).length (oF T (i + 1)))
        rw [stL_no q]
        refine .cons (ABeq.refl _) (.cons (ABeq.refl _) (.cons (ABeq.row fun j hj => ?_) .nil))
        show [i64 _] = [i64 _]
        rw [ho j hj, oF, oF, stL_no q]
  · have b : Nat.blt i 24 = false := by
      cases hb : Nat.blt i 24 with
      | false => rfl
      | true => rw [Nat.blt_eq] at hb; omega
    rw [b, cond_false]
    have : i = 24 := by omega
    subst this
    refine ⟨lamC (c := loopAt 2 Try.f26) (by kernel_rfl) errS_ok, ?_⟩
    rw [rndR5n]
    refine good_false (decide_eq_false (by omega)) (good_out ⟨_, Hsim.refl _, ?_⟩)
    rw [if_pos rfl]
    exact hk

theorem ok_stS : SpecOk Try.prog 26 (specR md_ws (FstS yesTi stT stO)) := by
  refine specR_hr gmS2_ok Try.func26 rfl fun sas fr hF ho => ?_
  unfold FstS at hF
  split at hF
  · rename_i m g
    cases hF
    simp only [ob_cons] at ho
    obtain ⟨h1, h2, _⟩ := ho
    have hm := of_decide_eq_true h2
    have hT : (tidyL (listW (itW g) m)).length ≤ 12 := by
      cases h : okT (listW (itW g) m) with
      | true => exact tidyL_len h
      | false => rw [tidyL_no h]; simp
    refine ⟨hpK m (itW g), lamR5 m (itW g) (tidyL (listW (itW g) m)).length (wfun (tidyL (listW (itW g) m))) (stL (tidyL (listW (itW g) m)) 24).length (oF (tidyL (listW (itW g) m)) 24), 100, .cons (ABeq.row fun j hj => allW_get h1 j hj) .nil, lam1 (by kernel_rfl) (sumR5 m (itW g) (tidyL (listW (itW g) m)) hT), ?_⟩
    show GoodQ (execF Try.prog (gmS2 okD tidyL okT) (lamR5 m (itW g) (tidyL (listW (itW g) m)).length (wfun (tidyL (listW (itW g) m))) (stL (tidyL (listW (itW g) m)) 24).length (oF (tidyL (listW (itW g) m)) 24)) 100 Try.f26 [.sl 0 9 0 0 m none] (hpK m (itW g)) (packK 1)) _
    rw [treeStS, row0, listW_itW]
    have fin : ∀ (k : Nat) (b : Bool) (G : Nat → List Value), yesTi (listW (itW g) m) = b → (stT (listW (itW g) m)).length = k → (∀ j, j < k → G j = rowI (stO (listW (itW g) m)) j) → GoodQ (.out .ret [.tup [.own 1 k, .v (.bool b)]] [.row false m 9 (row9 (itW g)) 46, .row true k 1 G 3])
        (GivR (abP md_ws [.row m g] []) { val := .tup [.own 0 (stT (listW (itW g) m)).length, .v (.bool (yesTi (listW (itW g) m)))], new := [.row true (stT (listW (itW g) m)).length 1 (rowI (stO (listW (itW g) m))) 3], obl := [allW m g, decide (m ≤ 2 ^ 38)] }) := by
      rintro k b G rfl rfl hG
      exact good_out ⟨_, rfl, rfl, .cons (ABeq.row fun j hj => (allW_get h1 j hj).symm) (.cons (ABeq.row hG) .nil)⟩
    have bad : ∀ G, yesTi (listW (itW g) m) = false → GoodQ (.out .ret [.tup [.own 1 0, .v (.bool false)]] [.row false m 9 (row9 (itW g)) 46, .row true 0 1 G 3]) _ := fun G e => fin 0 false G e (by rw [stT, e]; rfl) fun j hj => absurd hj (Nat.not_lt_zero _)
    refine good_needs (by simp only [ob_cons, ob_nil, and_true, decide_eq_true_eq, Nat.ble_eq, allW_row, true_and]; omega) (good_cond (fun q => ?_) fun q => ?_)
    · have q' : (!okD (listW (itW g) m)) = true := q
      exact bad _ (by rw [yesTi_eq, show okD (listW (itW g) m) = false by simpa using q']; rfl)
    · have q' : (!okD (listW (itW g) m)) = false := q
      have qd : okD (listW (itW g) m) = true := by simpa using q'
      refine good_needs (by simp only [ob_cons, ob_nil, and_true, decide_eq_true_eq, Nat.ble_eq, allW_row, true_and]; omega) (good_cond (fun q => ?_) fun q => ?_)
      · have q' : (!okT (listW (itW g) m)) = true := q
        exact bad _ (by rw [yesTi_eq, show okT (listW (itW g) m) = false by simpa using q', Bool.and_false])
      · have q' : (!okT (listW (itW g) m)) = false := q
        have qt : okT (listW (itW g) m) = true := by simpa using q'
        have e : yesTi (listW (itW g) m) = true := by rw [yesTi_eq, qd, qt]; rfl
        refine good_needs ?_ (fin _ _ _ e (by rw [stT, e]; rfl) fun j hj => rfl)
        rw [ob_cons]
        exact ⟨chk_of ⟨rfl, .cons (ABeq.refl _) (.cons (ABeq.refl _) (.cons (ABeq.row fun j hj => absurd hj (Nat.not_lt_zero _)) .nil))⟩, rfl⟩
  · cases hF

end Go.Proofs.Ytmdcafhnjihckaa
