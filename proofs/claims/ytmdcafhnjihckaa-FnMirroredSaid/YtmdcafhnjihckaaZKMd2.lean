/- Mirrored designs are akin to their mirror: FnMirrored returns true, whatever the bytes are, and they read as before. No conditions. -/
import Derived.Test.YtmdcafhnjihckaaZD0
import Derived.Test.YtmdcafhnjihckaaZD1
import Derived.Test.YtmdcafhnjihckaaZD2
import Derived.Test.YtmdcafhnjihckaaZD3
import Derived.Test.YtmdcafhnjihckaaZD4
import Derived.Test.YtmdcafhnjihckaaZD5
import Derived.Test.YtmdcafhnjihckaaZD6
import Derived.Test.YtmdcafhnjihckaaZKMd0
import Derived.Test.YtmdcafhnjihckaaZKMd1
/- The greatest common divisor, of both. Conditions: numbers up to 10^12. -/
namespace Go.Proofs.Ytmdcafhnjihckaa
open Go.RowKit
set_option maxRecDepth 100000

def gcdI (a b : Int) : Int := (Nat.gcd a.natAbs b.natAbs : Int)
def FgdO (gf : Int → Int → Int) : List SA → Option FR
  | [.v (.int .i64 a), .v (.int .i64 b)] => some { val := .v (i64 (gf a b)), obl := [inR a (-1000000000000) 1000000000000, inR b (-1000000000000) 1000000000000] }
  | _ => none
theorem ok_gdS : SpecOk Try.prog 154 (specR [.val, .val] (FgdO gcdI)) := by
  refine ⟨ok_gcd.1, fun avs H base δ ν vals w hS ho hv hr hlt hf hsep => ?_⟩
  unfold specR at hS
  split at hS
  case h_2 => cases hS
  rename_i xs hxs
  split at hS
  case h_2 => cases hS
  rename_i fr' hF
  unfold FgdO at hF
  split at hF
  case h_2 => cases hF
  rename_i a b hx
  cases hF
  have hS' := hS
  simp only [shA] at hS
  cases hc : ((!hasWr [Md.val, Md.val] || nodupB ((ixC [Md.val, Md.val] xs).filterMap id)) && ([] : List AB).all isRowT && Nat.beq (abP [Md.val, Md.val] (xs.map (·.sa)) []).length (abC [Md.val, Md.val] (xs.map (·.sa))).length) with
  | false => rw [hc] at hS; cases hS
  | true =>
  rw [hc] at hS
  simp only [cond_true, Option.some.injEq] at hS
  subst hS
  have ho' : obls (xs.flatMap (·.ob)) = true ∧ obls [inR a (-1000000000000) 1000000000000, inR b (-1000000000000) 1000000000000] = true := by simpa [obls, List.all_append] using ho
  have h2 := ho'.2
  simp only [ob_cons] at h2
  have ha := inR_iff.1 h2.1
  have hb := inR_iff.1 h2.2.1
  have hS2 : specR [.val, .val] F_gcd avs H base = some { val := .v (i64 (gcdI a b)), rd := (ixC [Md.val, Md.val] xs).filterMap id, put := putC (ixC [Md.val, Md.val] xs) (abP [Md.val, Md.val] (xs.map (·.sa)) []), new := [], obl := xs.flatMap (·.ob) ++ [] } := by
    unfold specR
    rw [hxs]
    simp only [hx, F_gcd, shA, gcdF_eq ha hb]
    rw [hx] at hc
    simp only [hc]
    rfl
  refine (ok_gcd.2 avs H base _ ν vals w hS2 (by simpa [obls, List.all_append] using ho'.1) hv hr hlt hf hsep).mono ?_
  rintro e w' ⟨v, ν', rfl, d⟩
  exact ⟨v, ν', rfl, d.le, d.dom, d.val, d.put, d.new, d.os, d.tape, d.output, d.size, d.block, d.fresh, d.apart⟩

abbrev lvGd : Ex → List Nat := lv3 [0, 1] [0] [4]
theorem rndGd (a b : Int) : execC Try.prog g0 100 noLam (loopAt 0 Try.f78) (mkT 0 15 ((lvGd .normal).zip [.v (i64 a), .v (i64 b)])) [] (leafV 15 lvGd 0)
    = bif b != (0 : Int) then needs [!decide (b = (0 : Int))] (Res.out Ex.normal [AV.v (Value.int IntKind.i64 b), AV.v (Value.int IntKind.i64 (Int.tmod a b))] []) else Res.out (Ex.exit (0 : Nat)) [AV.v (Value.int IntKind.i64 a)] [] := by kernel_rfl

noncomputable abbrev lamGd (a b c : Int) : Nat → Option Sum := oneL 0 (atS 15 (lvGd .normal) 0 [.v (i64 a), .v (i64 b)] [] (fun K => K .normal (mkT 0 15 [(0, .v (i64 c))]) []))
theorem treeGd (a b c : Int) : execF Try.prog g0 (lamGd a b c) 100 Try.f78 [.v (i64 a), .v (i64 b)] [] (packK 0)
    = needs [chk ([AV.v (Value.int IntKind.i64 a), AV.v (Value.int IntKind.i64 b)] = [AV.v (Value.int IntKind.i64 a), AV.v (Value.int IntKind.i64 b)] ∧ Hsim [] [])] (Res.out Ex.ret [AV.v (Value.int IntKind.i64 (if IntKind.wrap IntKind.i64 ((0 : Int) - c) > c then IntKind.wrap IntKind.i64 ((0 : Int) - c) else c))] []) := by kernel_rfl

theorem sumGd (a b : Int) : SumOk Try.prog 0 (.block 0 (.loop (loopAt 0 Try.f78))) (atS 15 (lvGd .normal) 0 [.v (i64 a), .v (i64 b)] [] (fun K => K .normal (mkT 0 15 [(0, .v (i64 (gcdE (b.natAbs + 1) a b)))]) [])) := by
  refine loop_at g0_ok (n := 100) (m := 0) (lv := lvGd) (σ := Nat × Int × Int) (fun s => [.v (i64 s.2.1), .v (i64 s.2.2)]) (fun _ => []) (fun s => s.2.2.natAbs < s.1 ∧ gcdE s.1 s.2.1 s.2.2 = gcdE (b.natAbs + 1) a b) (fun s => s.1) (b.natAbs + 1, a, b) (fun _ => noLam) (lv3_ris rfl rfl rfl) (Nat.le_refl _) ⟨Nat.lt_succ_self _, rfl⟩ fun K Q hk s hs => ⟨noLam_ok _ _ _, ?_⟩
  obtain ⟨n, x, y⟩ := s
  obtain ⟨h1, h2⟩ := hs
  rw [rndGd]
  cases n with
  | zero => exact absurd h1 (Nat.not_lt_zero _)
  | succ n =>
    refine good_cond (fun c => ?_) fun c => ?_
    · have c : y ≠ 0 := by simpa using c
      have h2 : gcdE n y (x.tmod y) = gcdE (b.natAbs + 1) a b := by
        rw [← h2]
        show _ = if y = 0 then x else gcdE n y (x.tmod y)
        rw [if_neg c]
      have h1 : y.natAbs < n + 1 := h1
      have h3 : (x.tmod y).natAbs < y.natAbs := by
        rw [Int.natAbs_tmod]
        exact Nat.mod_lt _ (by omega)
      exact good_needs (by simp [obls, c]) (good_out ⟨(n, y, x.tmod y), ⟨⟨by show (x.tmod y).natAbs < n; omega, h2⟩, Nat.lt_succ_self _⟩, rfl, .nil⟩)
    · have c : y = 0 := by simpa using c
      have h2 : x = gcdE (b.natAbs + 1) a b := by
        rw [← h2]
        show _ = if y = 0 then x else gcdE n y (x.tmod y)
        rw [if_pos c]
      refine good_out ⟨_, .nil, ?_⟩
      rw [if_pos rfl]
      rw [← h2] at hk
      exact hk


theorem ok_gdI : SpecOk Try.prog 78 (specR [.val, .val] (FgdO gcdI)) := by
  refine specR_hr g0_ok Try.func78 rfl fun sas fr hF ho => ?_
  unfold FgdO at hF
  split at hF
  · rename_i a b
    cases hF
    simp only [ob_cons] at ho
    obtain ⟨ha, hb, _⟩ := ho
    have e := gcdF_eq (inR_iff.1 ha) (inR_iff.1 hb)
    refine ⟨[], lamGd a b (gcdE (b.natAbs + 1) a b), 100, .nil, lam1 (by kernel_rfl) (sumGd a b), ?_⟩
    show GoodQ (execF Try.prog g0 (lamGd a b (gcdE (b.natAbs + 1) a b)) 100 Try.f78 [.v (i64 a), .v (i64 b)] [] (packK 0)) _
    rw [treeGd]
    refine good_needs (by rw [ob_cons]; exact ⟨chk_of ⟨rfl, .nil⟩, rfl⟩) (good_out ⟨_, rfl, ?_, .nil⟩)
    show [AV.v (i64 (gcdF a b))] = [AV.v (i64 (gcdI a b))]
    rw [e]
    rfl
  · cases hF

end Go.Proofs.Ytmdcafhnjihckaa

/- DesignPeriod and DesignFold of both: trees. Conditions: a list of wheels. -/
namespace Go.Proofs.Ytmdcafhnjihckaa
open Go.RowKit
set_option maxRecDepth 100000

def gmPr (gf : Int → Int → Int) : Gam := ext (ext g0 78 (specR [.val, .val] (FgdO gf))) 154 (specR [.val, .val] (FgdO gf))
def gmPt (yI : List Wh → Bool) (tI : List Wh → List Wh) : Gam := ext (ext g0 37 (specU md_ws (UO0 yI tI))) 73 (specR md_ws (FOw yI tI))
abbrev hpPI (m : Nat) (f : Nat → Nat → Int) (k : Nat) (g : Nat → Nat → Int) : List AB := [.row false m 9 (row9 f) 46, .row false k 9 (row9 g) 46]
abbrev hpPS (m : Nat) (f : Nat → Nat → Int) (k : Nat) (g : Nat → Nat → Int) : List AB := [.row false m 9 (row9 f) 46, .row true k 9 (row9 g) 46]
abbrev hpP1 (m : Nat) (f : Nat → Nat → Int) : List AB := [.row false m 9 (row9 f) 46]
abbrev lvPI : Ex → List Nat := lv3 [5, 15, 16, 17] [5] [2]
abbrev stPI (k : Nat) (x : Int) (i : Nat) : List AV := [.v (i64 x), .sl 1 9 0 0 k (some k), .v (i64 k), .v (i64 i)]
noncomputable abbrev lamPI (m : Nat) (f : Nat → Nat → Int) (k : Nat) (g : Nat → Nat → Int) (x : Int) : Nat → Option Sum := oneL 0 (atS 27 (lvPI .normal) 1 (stPI k 0 0) (hpPI m f k g) (fun K => K .normal (mkT 0 27 [(5, .v (i64 x))]) (hpP1 m f)))
abbrev lvPS : Ex → List Nat := lv3 [3, 5, 6] [5] [2]
abbrev stPS (k : Nat) (x : Int) (i : Nat) : List AV := [.own 1 k, .v (i64 x), .v (i64 i)]
noncomputable abbrev lamPS (m : Nat) (f : Nat → Nat → Int) (k : Nat) (g : Nat → Nat → Int) (x : Int) : Nat → Option Sum := oneL 0 (atS 28 (lvPS .normal) 1 (stPS k 0 0) (hpPS m f k g) (fun K => K .normal (mkT 0 28 [(5, .v (i64 x))]) (hpP1 m f)))
noncomputable abbrev fQI : Func := Try.f23
abbrev lvQI : Ex → List Nat := lv3 [3, 5, 15, 16, 17] [5] [2]
abbrev stQI (k : Nat) (x : Int) (i : Nat) : List AV := [.sl 1 9 0 0 k (some k), .v (i64 x), .sl 1 9 0 0 k (some k), .v (i64 k), .v (i64 i)]
theorem rndQI (gf : Int → Int → Int) (m : Nat) (f : Nat → Nat → Int) (k : Nat) (g : Nat → Nat → Int) (x : Int) (i : Nat) : execC Try.prog (gmPr gf) 100 noLam (loopAt 0 fQI) (mkT 0 32 ((lvQI .normal).zip (stQI k x i))) (hpPI m f k g) (leafV 32 lvQI 1)
    = bif decide ((↑i : Int) < (↑k : Int)) then needs [decide ((↑i : Int) < (↑k : Int)), decide ((0 : Nat) + Int.toNat (↑i : Int) < k), decide ((0 : Int) < (↑k : Int)), decide ((0 : Nat) < k), inR x (-1000000000000 : Int) (1000000000000 : Int), inR (IntKind.wrap IntKind.i64 (g ((0 : Nat) + Int.toNat (↑i : Int)) (0 : Nat) - g (0 : Nat) (0 : Nat))) (-1000000000000 : Int) (1000000000000 : Int)] (Res.out Ex.normal [AV.sl (1 : Nat) (9 : Nat) (0 : Nat) (0 : Nat) k (some k), AV.v (Value.int IntKind.i64 (gf x (IntKind.wrap IntKind.i64 (g ((0 : Nat) + Int.toNat (↑i : Int)) (0 : Nat) - g (0 : Nat) (0 : Nat))))), AV.sl (1 : Nat) (9 : Nat) (0 : Nat) (0 : Nat) k (some k), AV.v (Value.int IntKind.i64 (↑k : Int)), AV.v (Value.int IntKind.i64 (IntKind.wrap IntKind.i64 ((↑i : Int) + (1 : Int))))] [AB.row false m (9 : Nat) (row9 f) (46 : TypeId), AB.row false k (9 : Nat) (row9 g) (46 : TypeId)]) else Res.out (Ex.exit (0 : Nat)) [AV.v (Value.int IntKind.i64 x)] [AB.row false m (9 : Nat) (row9 f) (46 : TypeId)] := by kernel_rfl

noncomputable abbrev lamQI (m : Nat) (f : Nat → Nat → Int) (k : Nat) (g : Nat → Nat → Int) (x : Int) : Nat → Option Sum := oneL 0 (atS 32 (lvQI .normal) 1 (stQI k 0 0) (hpPI m f k g) (fun K => K .normal (mkT 0 32 [(5, .v (i64 x))]) (hpP1 m f)))
theorem treeQI (yI : List Wh → Bool) (tI : List Wh → List Wh) (m : Nat) (f : Nat → Nat → Int) (k : Nat) (g : Nat → Nat → Int) (x : Int) : execF Try.prog (gmPt yI tI) (lamQI m f k g x) 100 fQI [.sl 0 9 0 0 m none] (hpP1 m f) (packK 1)
    = needs [Nat.ble ((0 : Nat) + m) m, allW m fun q ↦ row9 f ((0 : Nat) + q), decide (m ≤ (274877906944 : Nat))] (bif !yI (listW (itW fun q ↦ row9 f ((0 : Nat) + q)) m) then Res.out Ex.ret [AV.v (Value.int IntKind.i64 (-1 : Int))] [AB.row false m (9 : Nat) (row9 f) (46 : TypeId)] else needs [chk ([AV.sl (1 : Nat) (9 : Nat) (0 : Nat) (0 : Nat) (List.length (tI (listW (itW fun q ↦ row9 f ((0 : Nat) + q)) m))) (some (List.length (tI (listW (itW fun q ↦ row9 f ((0 : Nat) + q)) m)))), AV.v (Value.int IntKind.i64 (0 : Int)), AV.sl (1 : Nat) (9 : Nat) (0 : Nat) (0 : Nat) (List.length (tI (listW (itW fun q ↦ row9 f ((0 : Nat) + q)) m))) (some (List.length (tI (listW (itW fun q ↦ row9 f ((0 : Nat) + q)) m)))), AV.v (Value.int IntKind.i64 (↑(List.length (tI (listW (itW fun q ↦ row9 f ((0 : Nat) + q)) m))) : Int)), AV.v (Value.int IntKind.i64 (0 : Int))] = stQI k (0 : Int) (0 : Nat) ∧ Hsim [AB.row false m (9 : Nat) (row9 f) (46 : TypeId), AB.row false (List.length (tI (listW (itW fun q ↦ row9 f ((0 : Nat) + q)) m))) (9 : Nat) (row9 (wfun (tI (listW (itW fun q ↦ row9 f ((0 : Nat) + q)) m)))) (46 : TypeId)] (hpPI m f k g))] (Res.out Ex.ret [AV.v (Value.int IntKind.i64 x)] [AB.row false m (9 : Nat) (row9 f) (46 : TypeId)])) := by kernel_rfl

abbrev lvQS : Ex → List Nat := lv3 [3, 5, 6] [5] [2]
abbrev stQS (k : Nat) (x : Int) (i : Nat) : List AV := [.own 1 k, .v (i64 x), .v (i64 ((i : Int) + 1))]
noncomputable abbrev lamQS (m : Nat) (f : Nat → Nat → Int) (k : Nat) (g : Nat → Nat → Int) (x : Int) : Nat → Option Sum := oneL 0 (atS 33 (lvQS .normal) 1 (stQS k 0 0) (hpPS m f k g) (fun K => K .normal (mkT 0 33 [(5, .v (i64 x))]) (hpP1 m f)))
end Go.Proofs.Ytmdcafhnjihckaa

/- DesignPeriod and DesignFold of both: their words. Conditions: a list of wheels. -/
namespace Go.Proofs.Ytmdcafhnjihckaa
open Go.RowKit
set_option maxRecDepth 100000

/-- The greatest common divisor of the first numbers. -/
def pgF (h : Nat → Int) : Nat → Int
  | 0 => 0
  | i + 1 => gcdI (pgF h i) (h i)
theorem gcdI_zero (a : Int) : gcdI 0 a = a.natAbs := by
  unfold gcdI
  rw [show (0 : Int).natAbs = 0 from rfl, Nat.gcd_zero_left]
theorem pgF_in {h : Nat → Int} {k : Nat} (hh : ∀ i, i < k → -2000 ≤ h i ∧ h i ≤ 2000) : ∀ i, i ≤ k → 0 ≤ pgF h i ∧ pgF h i ≤ 2000
  | 0, _ => by show 0 ≤ (0 : Int) ∧ (0 : Int) ≤ 2000; omega
  | i + 1, hi => by
    have ih := pgF_in hh i (by omega)
    have hb := hh i (by omega)
    show 0 ≤ (Nat.gcd (pgF h i).natAbs (h i).natAbs : Int) ∧ (Nat.gcd (pgF h i).natAbs (h i).natAbs : Int) ≤ 2000
    refine ⟨by omega, ?_⟩
    by_cases h0 : (pgF h i).natAbs = 0
    · rw [h0, Nat.gcd_zero_left]
      omega
    · have := Nat.gcd_le_left (h i).natAbs (show 0 < (pgF h i).natAbs by omega)
      omega
theorem gmPr_ok : GamOk Try.prog (gmPr gcdI) := ext_ok (ext_ok g0_ok ok_gdI) ok_gdS
theorem gmPt_ok : GamOk Try.prog (gmPt yI tI) := ext_ok (ext_ok g0_ok ok_UTi) ok_tiS
def spH (T : List Wh) : Nat → Int := fun i => wfun T i 0
def dfH (T : List Wh) : Nat → Int := fun i => IntKind.wrap IntKind.i64 (wfun T i 0 - wfun T 0 0)
theorem spH_at {T : List Wh} {i : Nat} (hi : i < T.length) : spH T i = T[i].s := by
  unfold spH
  rw [wfun_get hi]
  rfl
theorem tidy_sp {T : List Wh} (h : isTidy T) {i : Nat} (hi : i < T.length) : -1000 ≤ wfun T i 0 ∧ wfun T i 0 ≤ 1000 := by
  have e : wfun T i 0 = T[i].s := spH_at hi
  rw [e]
  exact (okD_all (tidy_okD h) (List.getElem_mem hi)).1
theorem dfH_in {T : List Wh} (hT : isTidy T) {i : Nat} (hi : i < T.length) : -2000 ≤ dfH T i ∧ dfH T i ≤ 2000 := by
  have h1 := tidy_sp hT hi
  have h0 := tidy_sp hT (i := 0) (by omega)
  unfold dfH
  rw [wr_in (by omega)]
  omega
theorem sumQI (m : Nat) (f : Nat → Nat → Int) (T : List Wh) (hT : isTidy T) :
    SumOk Try.prog 1 (.block 0 (.loop (loopAt 0 fQI))) (atS 32 (lvQI .normal) 1 (stQI T.length 0 0) (hpPI m f T.length (wfun T)) (fun K => K .normal (mkT 0 32 [(5, .v (i64 (pgF (dfH T) T.length)))]) (hpP1 m f))) := by
  refine for_at gmPr_ok (n := 100) (m := 1) (lv := lvQI) (fun i => stQI T.length (pgF (dfH T) i) i) (fun _ => hpPI m f T.length (wfun T)) (fun _ => True) T.length (fun _ => noLam) (lv3_ris rfl rfl rfl) (Nat.le_refl _) trivial fun K Q hk i _ hi => ⟨noLam_ok _ _ _, ?_⟩
  have hlen := okD_len (tidy_okD hT)
  rw [rndQI]
  refine good_cond (fun c1 => ?_) fun c1 => ?_
  · have c1 := of_decide_eq_true c1
    have c1' : i < T.length := by omega
    rw [show 0 + Int.toNat (i : Int) = i by omega, wr_in (x := (i : Int) + 1) (by omega)]
    have h1 := pgF_in (h := dfH T) (k := T.length) (fun j hj => dfH_in hT hj) i (by omega)
    have h2 : -2000 ≤ IntKind.wrap IntKind.i64 (wfun T i 0 - wfun T 0 0) ∧ IntKind.wrap IntKind.i64 (wfun T i 0 - wfun T 0 0) ≤ 2000 := dfH_in hT c1'
    refine good_needs (by simp only [ob_cons, ob_nil, and_true, decide_eq_true_eq]; exact ⟨by omega, by omega, by omega, by omega, inR_iff.2 (by omega), inR_iff.2 (by omega)⟩) (good_out ⟨i + 1, ⟨rfl, c1', trivial⟩, rfl, Hsim.refl _⟩)
  · have c1 := of_decide_eq_false c1
    have : i = T.length := by omega
    subst this
    refine good_out ⟨_, Hsim.refl _, ?_⟩
    rw [if_pos rfl]
    exact hk
theorem dfH_first {T : List Wh} : pgF (dfH T) 1 = 0 := by
  show gcdI 0 (dfH T 0) = 0
  rw [gcdI_zero]
  unfold dfH
  rw [Int.sub_self]
  rfl
def perV (L : List Wh) : Int := bif yI L then pgF (spH (tI L)) (tI L).length else -1
def fldV (L : List Wh) : Int := bif yI L then pgF (dfH (tI L)) (tI L).length else -1
/-- A number of a list of wheels. -/
def FnmO (v : List Wh → Int) : List SA → Option FR
  | [.row m g] => some { val := .v (.int .i64 (v (listW (itW g) m))), obl := [allW m g, decide (m ≤ 2 ^ 38)] }
  | _ => none
theorem nm_fin {m : Nat} {g : Nat → List Value} {v : List Wh → Int} {x : Int} {ob : List Bool} {fn : Func} {Λ : Nat → Option Sum} (h1 : allW m g = true) (hm : m ≤ 2 ^ 38) {P : Prop} (c : P) (hob : P → obls ob = true) (h0 : yI (listW (itW g) m) = false → v (listW (itW g) m) = -1) (hx : yI (listW (itW g) m) = true → v (listW (itW g) m) = x)
    (ht : execF Try.prog (gmPt yI tI) Λ 100 fn [.sl 0 9 0 0 m none] (hpP1 m (itW g)) (packK 1) = needs [Nat.ble (0 + m) m, allW m fun q => row9 (itW g) (0 + q), decide (m ≤ 274877906944)] (bif !yI (listW (itW fun q => row9 (itW g) (0 + q)) m) then .out .ret [.v (i64 (-1))] [.row false m 9 (row9 (itW g)) 46] else needs ob (.out .ret [.v (i64 x)] [.row false m 9 (row9 (itW g)) 46]))) :
    GoodQ (execF Try.prog (gmPt yI tI) Λ 100 fn [.sl 0 9 0 0 m none] (hpP1 m (itW g)) (packK 1)) (GivR (abP md_ws [.row m g] []) { val := .v (.int .i64 (v (listW (itW g) m))), obl := [allW m g, decide (m ≤ 2 ^ 38)] }) := by
  rw [ht]
  simp only [row0, listW_itW]
  refine good_needs (by simp only [ob_cons, ob_nil, and_true, decide_eq_true_eq, Nat.ble_eq, allW_row, true_and]; omega) (good_cond (fun q => ?_) fun q => ?_)
  · have q2 : yI (listW (itW g) m) = false := by simpa using q
    exact good_out ⟨_, rfl, by rw [h0 q2], .cons (ABeq.row fun j hj => (allW_get h1 j hj).symm) .nil⟩
  · have q2 : yI (listW (itW g) m) = true := by simpa using q
    exact good_needs (hob c) (good_out ⟨_, rfl, by rw [hx q2], .cons (ABeq.row fun j hj => (allW_get h1 j hj).symm) .nil⟩)
theorem ok_foI : SpecOk Try.prog 23 (specR md_ws (FnmO fldV)) := by
  refine specR_hr gmPt_ok Try.func23 rfl fun sas fr hF ho => ?_
  unfold FnmO at hF
  split at hF
  · rename_i m g
    cases hF
    simp only [ob_cons] at ho
    obtain ⟨h1, h2, _⟩ := ho
    have hm := of_decide_eq_true h2
    refine ⟨hpP1 m (itW g), _, 100, .cons (ABeq.row fun j hj => allW_get h1 j hj) .nil, lam1 (by kernel_rfl) (sumQI m (itW g) (tI (listW (itW g) m)) (tI_tidy _)), ?_⟩
    refine nm_fin h1 hm trivial (fun _ => ?_) (fun q => by rw [fldV, q]; rfl) (fun q => by rw [fldV, q]; rfl) (treeQI yI tI m (itW g) _ _ _)
    simp only [row0, listW_itW, ob_cons, ob_nil, and_true]
    exact chk_of ⟨rfl, Hsim.refl _⟩
  · cases hF
end Go.Proofs.Ytmdcafhnjihckaa

/- Plain laws of designs: periods and folds. No program, no conditions. -/
namespace Go.Proofs.Ytmdcafhnjihckaa
open Go.RowKit

theorem pgF_dvd (h : Nat → Int) : ∀ (k i : Nat), i < k → pgF h k ∣ h i
  | 0, i, hi => absurd hi (Nat.not_lt_zero _)
  | k + 1, i, hi => by
    show ((Nat.gcd (pgF h k).natAbs (h k).natAbs : Nat) : Int) ∣ h i
    by_cases e : i = k
    · subst e
      exact Int.ofNat_dvd_left.2 (Nat.gcd_dvd_right _ _)
    · exact Int.dvd_trans (Int.ofNat_dvd_left.2 (Nat.gcd_dvd_left _ _)) (pgF_dvd h k i (by omega))
theorem spH_mem {T : List Wh} {w : Wh} (hw : w ∈ T) : ∃ i, i < T.length ∧ spH T i = w.s := by
  obtain ⟨i, hi, e⟩ := List.mem_iff_getElem.1 hw
  exact ⟨i, hi, by rw [spH_at hi, e]⟩
theorem tidy_sub0 {A B : List Wh} (hA : rising A) (hz : ∀ w ∈ A, w.r ≠ cyZ) (hB : rising B) (h : ∀ s k, k < 8 → linS (atSp s k) A = linS (atSp s k) B) : ∀ w ∈ A, w ∈ B := fun w hw => by
  have hne : ∃ k, k < 8 ∧ w.r.f k ≠ 0 := by
    refine Classical.byContradiction fun hn => hz w hw (cy_ext fun k hk => ?_)
    have : w.r.f k = 0 := Classical.byContradiction fun h0 => hn ⟨k, hk, h0⟩
    rw [this]
    rcases (by omega : k = 0 ∨ k = 1 ∨ k = 2 ∨ k = 3 ∨ k = 4 ∨ k = 5 ∨ k = 6 ∨ k = 7) with rfl | rfl | rfl | rfl | rfl | rfl | rfl | rfl <;> rfl
  obtain ⟨k, hk, h0⟩ := hne
  have hex : ∃ x ∈ B, x.s = w.s := by
    refine Classical.byContradiction fun hn => h0 ?_
    rw [← atSp_of hA hw, h w.s k hk]
    exact atSp_none fun x hx e => hn ⟨x, hx, e⟩
  obtain ⟨x, hx, e⟩ := hex
  have hr : x.r = w.r := cy_ext fun j hj => by
    rw [← atSp_of hA hw, h w.s j hj, ← e]
    exact (atSp_of hB hx).symm
  have : x = w := by
    cases x
    cases w
    simp_all
  rw [← this]
  exact hx
theorem tidy_unique0 {A B : List Wh} (hA : rising A) (zA : ∀ w ∈ A, w.r ≠ cyZ) (hB : rising B) (zB : ∀ w ∈ B, w.r ≠ cyZ) (h : ∀ s k, k < 8 → linS (atSp s k) A = linS (atSp s k) B) : A = B :=
  rising_ext hA hB fun w => ⟨tidy_sub0 hA zA hB h w, tidy_sub0 hB zB hA (fun s k hk => (h s k hk).symm) w⟩

/-- Later by a part of a whole turn that the period has: nothing changes. -/
theorem law_period {L : List Wh} {n q : Int} (hq : q * n % 24 = 0) (hn : n ∣ pgF (spH (tI L)) (tI L).length) (hy : yI L = true) (hL : eachOk 1 0 q false L = true) : eachL 1 0 q false L = tI L := by
  obtain ⟨_, hT, hl⟩ := tI_spec hy
  refine tidy_unique (each_tidy (by omega) hL) hT fun s k hk => ?_
  rw [each_lin (by omega) hL (atSp_lin s k) (atSp_loc s hk), ← hl _ (lin_tn (atSp_lin s k) (fun s => 1 * s) fun s => 0 + q * s)]
  refine linS_congr fun w hw => ?_
  obtain ⟨i, hi, e⟩ := spH_mem hw
  have hd := Int.dvd_trans hn (pgF_dvd (spH (tI L)) _ i hi)
  rw [e] at hd
  obtain ⟨c, hc⟩ := hd
  show atSp s k (1 * w.s) (tnI w.r.f (0 + q * w.s)) = atSp s k w.s w.r.f
  rw [Int.one_mul]
  refine atSp_loc s hk _ _ _ fun j hj => tnI_24 _ ?_ j hj
  rw [Int.zero_add, hc, ← Int.mul_assoc, Int.mul_emod, hq, Int.zero_mul]
  rfl
/-- Twice as fast. -/
def dbl (w : Wh) : Wh := ⟨2 * w.s, w.r⟩
theorem dbl_all {L : List Wh} (hy : yI L = true) (hF : yF 2 L = true) : tF 2 L = (tI L).map dbl := by
  rw [yF, Bool.and_eq_true] at hF
  obtain ⟨_, hT, hl⟩ := tI_spec hy
  have e : tF 2 L = eachL 2 0 0 false L := rfl
  have hM := each_tidy (by omega) hF.2
  rw [e]
  refine tidy_unique0 hM.1 hM.2.1 ?_ ?_ fun s k hk => ?_
  · refine List.pairwise_map.2 (List.Pairwise.imp (fun {a c} h => ?_) hT.1)
    show 2 * a.s < 2 * c.s
    omega
  · intro w hw
    obtain ⟨x, hx, rfl⟩ := List.mem_map.1 hw
    exact hT.2.1 x hx
  · rw [each_lin (by omega) hF.2 (atSp_lin s k) (atSp_loc s hk), ← hl _ (lin_tn (atSp_lin s k) (fun s => 2 * s) fun s => 0 + 0 * s)]
    refine (linS_map (ψ := fun s' f => atSp s k (2 * s') (tnI f (0 + 0 * s'))) fun w hw => ?_).symm
    show atSp s k (2 * w.s) w.r.f = atSp s k (2 * w.s) (tnI w.r.f (0 + 0 * w.s))
    rw [show 0 + 0 * w.s = 0 by omega]
    rfl
theorem gcdI_two (a b : Int) : gcdI (2 * a) (2 * b) = 2 * gcdI a b := by
  unfold gcdI
  rw [Int.natAbs_mul, Int.natAbs_mul, show (2 : Int).natAbs = 2 from rfl, Nat.gcd_mul_left]
  omega
theorem pgF_dbl (T : List Wh) : ∀ i, i ≤ T.length → pgF (spH (T.map dbl)) i = 2 * pgF (spH T) i
  | 0, _ => rfl
  | i + 1, hi => by
    show gcdI (pgF (spH (T.map dbl)) i) (spH (T.map dbl) i) = 2 * gcdI (pgF (spH T) i) (spH T i)
    have e : spH (T.map dbl) i = 2 * spH T i := by
      rw [spH_at (T := T) (by omega), spH_at (T := T.map dbl) (by rw [List.length_map]; omega), List.getElem_map]
      rfl
    rw [pgF_dbl T i (by omega), e, gcdI_two]
theorem law_period2 {L : List Wh} (hy : yI L = true) (hF : yF 2 L = true) : perV (tF 2 L) = 2 * perV L := by
  have hM : isTidy (tF 2 L) := by
    rw [yF, Bool.and_eq_true] at hF
    exact each_tidy (by omega) hF.2
  rw [perV, perV, yI_self hM, hy, cond_true, cond_true, tI_self hM, dbl_all hy hF, List.length_map]
  exact pgF_dbl _ _ (Nat.le_refl _)

end Go.Proofs.Ytmdcafhnjihckaa

/- Plain laws of designs: a tidy list turned is turned wheel by wheel; akin designs. No program, no conditions. -/
namespace Go.Proofs.Ytmdcafhnjihckaa
open Go.RowKit

theorem linS_one {φ : Int → (Nat → Int) → Int} {s0 : Int} (hφ : ∀ s f, s ≠ s0 → φ s f = 0) : ∀ {L : List Wh}, rising L → ∀ {w : Wh}, w ∈ L → w.s = s0 → linS φ L = φ w.s w.r.f
  | [], _, w, hw, _ => by simp at hw
  | x :: l, hr, w, hw, hs => by
    have h' := List.pairwise_cons.1 hr
    have none : ∀ {L : List Wh}, (∀ y ∈ L, y.s ≠ s0) → linS φ L = 0 := fun {L} => by
      induction L with
      | nil => intro _; rfl
      | cons y t ih =>
        intro h
        show φ y.s y.r.f + linS φ t = 0
        rw [ih fun z hz => h z (by simp [hz]), hφ _ _ (h y (by simp))]
        rfl
    show φ x.s x.r.f + linS φ l = φ w.s w.r.f
    rcases List.mem_cons.1 hw with rfl | hw
    · rw [none fun y hy => by have := h'.1 y hy; omega, Int.add_zero]
    · have := h'.1 w hw
      rw [linS_one hφ h'.2 hw hs, hφ x.s _ (by omega), Int.zero_add]
/-- A turn leaves nothing out. -/
theorem tn_ne {f : Nat → Int} {c : Int} (h : ∀ k, k < 8 → tnI f c k = 0) : ∀ k, k < 8 → f k = 0 := fun k hk => by
  have e := tnI_tnI f c (-c) k hk
  rw [show c + -c = 0 by omega, tnI_zero] at e
  rw [← e, tnI_congr (g := fun _ => 0) h (-c) k hk]
  have : ∀ n, tnZ (fun _ => 0) n = fun _ => 0 := fun n => by
    induction n with
    | zero => rfl
    | succ n ih =>
      show stZ (tnZ (fun _ => 0) n) = _
      rw [ih]
      funext k
      unfold stZ
      split <;> rfl
  show tnZ (fun _ => 0) _ k = 0
  rw [this]
theorem chE_ne {tn la : Int} {w : Wh} (hs : -1000 ≤ w.s ∧ w.s ≤ 1000) (hb : bd8 1000000 w.r.f) (h2 : 0 ≤ tn ∧ tn ≤ 23) (h3 : 0 ≤ la ∧ la ≤ 23) (hz : w.r ≠ cyZ) : (chE 1 tn la false w).r ≠ cyZ := fun e => by
  refine hz (cy_ext fun k hk => ?_)
  have h0 : ∀ k, k < 8 → cyZ.f k = 0 := forall8 rfl rfl rfl rfl rfl rfl rfl rfl
  rw [h0 k hk]
  refine tn_ne (c := tn + la * w.s) (fun j hj => ?_) k hk
  rw [← (chE_f hs hb (sp := 1) (by omega) h2 h3).2 j hj, e, h0 j hj]
theorem map_rising {T : List Wh} {c : Wh → Wh} (h : rising T) (hc : ∀ w ∈ T, (c w).s = w.s) : rising (T.map c) := by
  refine List.pairwise_map.2 (List.Pairwise.imp_of_mem (fun {a b} ha hb h => ?_) h)
  show (c a).s < (c b).s
  rw [hc a ha, hc b hb]
  exact h
theorem ch_sum {tn la : Int} {T : List Wh} (hd : okD T = true) (h2 : 0 ≤ tn ∧ tn ≤ 23) (h3 : 0 ≤ la ∧ la ≤ 23) {φ : Int → (Nat → Int) → Int} (hc : Loc φ) : linS φ (T.map (chE 1 tn la false)) = linS (fun s f => φ (1 * s) (tnI f (tn + la * s))) T :=
  linS_map fun w hw => by
    obtain ⟨a1, a2, _⟩ := okD_all hd hw
    obtain ⟨e1, e2⟩ := chE_f a1 a2 (sp := 1) (by omega) h2 h3
    rw [e1]
    exact hc _ _ _ e2
/-- A tidy list turned, wheel by wheel. -/
theorem each_map {tn la : Int} {T : List Wh} (hT : isTidy T) (h : eachOk 1 tn la false T = true) : eachL 1 tn la false T = T.map (chE 1 tn la false) := by
  obtain ⟨hd, i1, i2, hM, _⟩ := each_spec (by omega) h
  refine tidy_unique0 hM.1 hM.2.1 (map_rising hT.1 fun w hw => ?_) (fun w hw => ?_) fun s k hk => ?_
  · rw [(chE_f (okD_all hd hw).1 (okD_all hd hw).2.1 (sp := 1) (by omega) i1 i2).1]
    omega
  · obtain ⟨x, hx, rfl⟩ := List.mem_map.1 hw
    exact chE_ne (okD_all hd hx).1 (okD_all hd hx).2.1 i1 i2 (hT.2.1 x hx)
  · rw [each_lin (by omega) h (atSp_lin s k) (atSp_loc s hk), ch_sum hd i1 i2 (atSp_loc s hk)]
theorem cyOk_of {a : Cy} (h : bd8 1000000 a.f) : cyOk a = true := smallF_iff.2 fun k hk => by
  have := h k hk
  omega
/-- Where radii are small there is always such a list. -/
theorem each_small {tn la : Int} {T : List Wh} (hT : isTidy T) (hb : bdW 500000 T) (h2 : 0 ≤ tn ∧ tn ≤ 23) (h3 : 0 ≤ la ∧ la ≤ 23) : eachOk 1 tn la false T = true := by
  have hd := tidy_okD hT
  have sp : ∀ w ∈ T, (chE 1 tn la false w).s = w.s := fun w hw => by
    rw [(chE_f (okD_all hd hw).1 (okD_all hd hw).2.1 (sp := 1) (by omega) h2 h3).1]
    omega
  have hM : isTidy (T.map (chE 1 tn la false)) := by
    refine ⟨map_rising hT.1 sp, fun w hw => ?_, ?_⟩
    · obtain ⟨x, hx, rfl⟩ := List.mem_map.1 hw
      exact chE_ne (okD_all hd hx).1 (okD_all hd hx).2.1 h2 h3 (hT.2.1 x hx)
    · rw [dValid, Bool.and_eq_true, List.all_eq_true]
      refine ⟨decide_eq_true (by rw [List.length_map]; exact okD_len hd), fun w hw => ?_⟩
      obtain ⟨x, hx, rfl⟩ := List.mem_map.1 hw
      rw [Bool.and_eq_true]
      refine ⟨inR_iff.2 (by rw [sp x hx]; exact (okD_all hd hx).1), cyOk_of fun k hk => ?_⟩
      rw [(chE_f (okD_all hd hx).1 (okD_all hd hx).2.1 (sp := 1) (by omega) h2 h3).2 k hk]
      have := tnI_bd (hb x hx) (tn + la * x.s) k hk
      omega
  rw [eachOk, eachP, hd, inR_iff.2 h2, inR_iff.2 h3, okT_self hM]
  rfl
theorem map_eq_of {T : List Wh} {c d : Wh → Wh} (h : ∀ w ∈ T, (c w).s = (d w).s ∧ ∀ k, k < 8 → (c w).r.f k = (d w).r.f k) : T.map c = T.map d := List.map_congr_left fun w hw => by
  obtain ⟨e1, e2⟩ := h w hw
  have e3 := cy_ext e2
  cases hc : c w
  cases hd : d w
  rw [hc, hd] at e1 e3
  simp only at e1 e3
  rw [e1, e3]
/-- Later and then turned, the second list. -/
def akB (A B : List Wh) (x y : Int) : Bool := (eachOk 1 0 x false A && eachOk 1 y 0 false (eachL 1 0 x false A)) && eqL (eachL 1 y 0 false (eachL 1 0 x false A)) B
theorem akB_speeds {A B : List Wh} (hA : isTidy A) {x y : Int} (h : akB A B x y = true) : A.map Wh.s = B.map Wh.s := by
  rw [akB, Bool.and_eq_true, Bool.and_eq_true] at h
  obtain ⟨⟨h1, h2⟩, h3⟩ := h
  have e : eachL 1 y 0 false (eachL 1 0 x false A) = B := of_decide_eq_true h3
  have hM := each_tidy (by omega) h1
  have sp : ∀ {tn la : Int} {T : List Wh}, isTidy T → eachOk 1 tn la false T = true → (eachL 1 tn la false T).map Wh.s = T.map Wh.s := fun {tn la T} hT h => by
    obtain ⟨hd, i1, i2, _, _⟩ := each_spec (by omega) h
    rw [each_map hT h, List.map_map]
    refine List.map_congr_left fun w hw => ?_
    show (chE 1 tn la false w).s = w.s
    rw [(chE_f (okD_all hd hw).1 (okD_all hd hw).2.1 (sp := 1) (by omega) i1 i2).1]
    omega
  rw [← e, sp hM h2, sp hA h1]
theorem wfun_sp {A : List Wh} (i : Nat) : i < A.length → wfun A i 0 = (A.map Wh.s)[i]?.getD 0 := fun hi => by
  have e : wfun A i 0 = A[i].s := spH_at hi
  rw [e, List.getElem?_map, List.getElem?_eq_getElem hi]
  rfl
theorem pgF_congr {f g : Nat → Int} : ∀ {k : Nat}, (∀ i, i < k → f i = g i) → pgF f k = pgF g k
  | 0, _ => rfl
  | k + 1, h => by
    show gcdI (pgF f k) (f k) = gcdI (pgF g k) (g k)
    rw [pgF_congr fun i hi => h i (by omega), h k (by omega)]
theorem fld_speeds {A B : List Wh} (h : A.map Wh.s = B.map Wh.s) : pgF (dfH A) A.length = pgF (dfH B) B.length := by
  have hl : A.length = B.length := by
    have := congrArg List.length h
    rwa [List.length_map, List.length_map] at this
  rw [← hl]
  refine pgF_congr fun i hi => ?_
  unfold dfH
  rw [wfun_sp i hi, wfun_sp 0 (by omega), wfun_sp (A := B) i (by omega), wfun_sp (A := B) 0 (by omega), h]

end Go.Proofs.Ytmdcafhnjihckaa

/- The abstract machine, 22: one case of a word. No conditions. -/
namespace Go.Proofs.Ytmdcafhnjihckaa
open Go.RowKit

theorem specR_case {P : Program} {f : FuncId} {mds : List Md} {F F' : List SA → Option FR} (h : SpecOk P f (specR mds F))
    (hF : ∀ sas fr, F' sas = some fr → obls fr.obl = true → ∃ ob, F sas = some { fr with obl := ob } ∧ obls ob = true) : SpecOk P f (specR mds F') := by
  refine ⟨h.1, fun avs H base δ ν vals w hS ho hv hr hlt hfree hsep => ?_⟩
  unfold specR at hS
  split at hS
  · rename_i xs hxs
    split at hS
    · rename_i fr hFr
      split at hS
      · rename_i av hav
        cases hc : ((!hasWr mds || nodupB ((ixC mds xs).filterMap id)) && fr.new.all isRowT && Nat.beq (abP mds (xs.map (·.sa)) fr.put).length (abC mds (xs.map (·.sa))).length) with
        | false => rw [hc] at hS; cases hS
        | true =>
          rw [hc] at hS
          simp only [cond_true, Option.some.injEq] at hS
          subst hS
          have ho' : obls (xs.flatMap (·.ob)) = true ∧ obls fr.obl = true := by simpa [obls, List.all_append] using ho
          obtain ⟨ob, e1, e2⟩ := hF _ _ hFr ho'.2
          have hS2 : specR mds F avs H base = some { val := av, rd := (ixC mds xs).filterMap id, put := putC (ixC mds xs) (abP mds (xs.map (·.sa)) fr.put), new := fr.new, obl := xs.flatMap (·.ob) ++ ob } := by
            unfold specR
            rw [hxs]
            simp only [e1, hav]
            rw [hc]
            rfl
          refine (h.2 avs H base _ ν vals w hS2 (by simpa [obls, List.all_append] using And.intro ho'.1 e2) hv hr hlt hfree hsep).mono ?_
          rintro e w' ⟨v, ν', rfl, d⟩
          exact ⟨v, ν', rfl, d.le, d.dom, d.val, d.put, d.new, d.os, d.tape, d.output, d.size, d.block, d.fresh, d.apart⟩
      · cases hS
    · cases hS
  · cases hS

end Go.Proofs.Ytmdcafhnjihckaa

/- Two cases of a word, read as one; the program's DesignClosed. Conditions: a list of wheels. -/
namespace Go.Proofs.Ytmdcafhnjihckaa
open Go.RowKit
set_option maxRecDepth 100000

theorem specR_two {P : Program} {f : FuncId} {mds : List Md} {FY FN F : List SA → Option FR} (hY : SpecOk P f (specR mds FY)) (hN : SpecOk P f (specR mds FN))
    (hF : ∀ sas fr, F sas = some fr → obls fr.obl = true → (∃ ob, FY sas = some { fr with obl := ob } ∧ obls ob = true) ∨ ∃ ob, FN sas = some { fr with obl := ob } ∧ obls ob = true) : SpecOk P f (specR mds F) := by
  classical
  refine ⟨hY.1, fun avs H base δ ν vals w hS ho hv hr hlt hfree hsep => ?_⟩
  have hS' := hS
  unfold specR at hS'
  split at hS'
  · rename_i xs hxs
    split at hS'
    · rename_i fr hFr
      split at hS'
      · cases hc : ((!hasWr mds || nodupB ((ixC mds xs).filterMap id)) && fr.new.all isRowT && Nat.beq (abP mds (xs.map (·.sa)) fr.put).length (abC mds (xs.map (·.sa))).length) with
        | false => rw [hc] at hS'; cases hS'
        | true =>
          rw [hc] at hS'
          simp only [cond_true, Option.some.injEq] at hS'
          have ho' : obls fr.obl = true := by
            rw [← hS'] at ho
            have : obls (xs.flatMap (·.ob)) = true ∧ obls fr.obl = true := by simpa [obls, List.all_append] using ho
            exact this.2
          have one : ∀ {G : List SA → Option FR}, SpecOk P f (specR mds G) → (∃ ob, G (xs.map (·.sa)) = some { fr with obl := ob } ∧ obls ob = true) → SpecOk P f (specR mds fun sas => if sas = xs.map (·.sa) then some fr else none) := fun {G} hG hob =>
            specR_case hG fun sas fr' h' _ => by
              split at h'
              · rename_i e
                cases h'
                rw [e]
                exact hob
              · cases h'
          have key : SpecOk P f (specR mds fun sas => if sas = xs.map (·.sa) then some fr else none) := by
            rcases hF _ _ hFr ho' with h | h
            · exact one hY h
            · exact one hN h
          refine key.2 avs H base δ ν vals w ?_ ho hv hr hlt hfree hsep
          rw [← hS]
          unfold specR
          rw [hxs]
          simp only [hFr, if_true]
      · cases hS'
    · cases hS'
  · cases hS'
theorem ok_clI : SpecOk Try.prog 21 (specR md_wv (FclS yesTi clT)) := by
  refine specR_two ok_clY ok_clN fun sas fr hF ho => ?_
  unfold FclS at hF
  split at hF
  · rename_i m g n
    cases hF
    simp only [ob_cons] at ho
    obtain ⟨h1, h2, _⟩ := ho
    cases hv : yesTi (listW (itW g) m) with
    | true =>
      refine .inl ⟨[allW m g, decide (m ≤ 2 ^ 38), yesTi (listW (itW g) m)], rfl, ?_⟩
      simp only [ob_cons, ob_nil, and_true]
      exact ⟨h1, h2, hv⟩
    | false =>
      refine .inr ⟨[allW m g, decide (m ≤ 2 ^ 38), !yesTi (listW (itW g) m)], rfl, ?_⟩
      simp only [ob_cons, ob_nil, and_true]
      exact ⟨h1, h2, by rw [hv]; rfl⟩
  · cases hF

end Go.Proofs.Ytmdcafhnjihckaa

/- DesignAkin of both: their words. Conditions: two lists of wheels. -/
namespace Go.Proofs.Ytmdcafhnjihckaa
open Go.RowKit
set_option maxRecDepth 100000

def akHit (A B : List Wh) (i : Nat) : Bool := akB A B ((i / 24 : Nat) : Int) ((i % 24 : Nat) : Int)
def cdA (x : Nat) : Int := IntKind.wrap IntKind.i64 (IntKind.wrap IntKind.i64 (24 * ((x / 24 : Nat) : Int)) + ((x % 24 : Nat) : Int))
theorem cdA_eq {x : Nat} (h : x < 576) : cdA x = x := by
  unfold cdA
  rw [wr_in (x := 24 * ((x / 24 : Nat) : Int)) (by omega), wr_in (by omega)]
  omega
/-- The first that hits, or -1. -/
def fh (p : Nat → Bool) (l : List Nat) : Int := match l.find? p with
  | some x => cdA x
  | none => -1
def hasH (p : Nat → Bool) (l : List Nat) : Bool := (l.find? p).isSome
theorem hasH_snoc (p : Nat → Bool) (l : List Nat) (x : Nat) : hasH p (l ++ [x]) = (hasH p l || p x) := by
  unfold hasH
  rw [List.find?_append]
  cases l.find? p with
  | some y => rfl
  | none => cases h : p x <;> simp [h]
theorem fh_yes {p : Nat → Bool} {l : List Nat} (x : List Nat) (h : hasH p l = true) : fh p (l ++ x) = fh p l := by
  unfold hasH at h
  unfold fh
  rw [List.find?_append]
  cases e : l.find? p with
  | some y => rfl
  | none => rw [e] at h; cases h
theorem fh_new {p : Nat → Bool} {l : List Nat} {x : Nat} (h : hasH p l = false) (hx : p x = true) : fh p (l ++ [x]) = cdA x := by
  unfold hasH at h
  unfold fh
  rw [List.find?_append]
  cases e : l.find? p with
  | some y => rw [e] at h; cases h
  | none => simp [hx]
theorem fh_not {p : Nat → Bool} {l : List Nat} (h : hasH p l = false) : fh p l = -1 := by
  unfold hasH at h
  unfold fh
  cases e : l.find? p with
  | some y => rw [e] at h; cases h
  | none => rfl
theorem fh_nn {p : Nat → Bool} {l : List Nat} (hl : ∀ x ∈ l, x < 576) (h : hasH p l = true) : 0 ≤ fh p l := by
  unfold hasH at h
  unfold fh
  cases e : l.find? p with
  | some y =>
    show 0 ≤ cdA y
    rw [cdA_eq (hl y (List.mem_of_find?_eq_some e))]
    omega
  | none => rw [e] at h; cases h
theorem hasH_no {p : Nat → Bool} {k : Nat} (h : noneTo p k = true) : hasH p (List.range k) = false := by
  unfold hasH
  have : (List.range k).find? p = none := List.find?_eq_none.2 fun x hx => by
    rw [noneTo_get h (List.mem_range.1 hx)]
    simp
  rw [this]
  rfl
theorem fh_range {p : Nat → Bool} {k : Nat} (hk : k ≤ 576) (h : hasH p (List.range k) = true) : fh p (List.range 576) = fh p (List.range k) := by
  rw [show 576 = k + (576 - k) by omega, List.range_add]
  exact fh_yes _ h
theorem fh_hit {p : Nat → Bool} {i : Nat} (h : noneTo p i = true) (hp : p i = true) (hi : i < 576) : fh p (List.range 576) = i := by
  have e : hasH p (List.range (i + 1)) = true := by rw [List.range_succ, hasH_snoc, hp, Bool.or_true]
  rw [fh_range (k := i + 1) hi e, List.range_succ, fh_new (hasH_no h) hp, cdA_eq hi]
/-- How the first list becomes the second, or -1. -/
def akF (A B : List Wh) : Int := fh (akHit A B) (List.range 576)
def aY (A B : List Wh) : Bool := (yI A && yI B) && decide (0 ≤ akF (tI A) (tI B))
def aN (A B : List Wh) : Int := bif aY A B then akF (tI A) (tI B) else 0
theorem aN_no {A B : List Wh} (h : aY A B = false) : aN A B = 0 := by rw [aN, h]; rfl
/-- How, and whether. -/
def FakV (nn : List Wh → List Wh → Int) (yes : List Wh → List Wh → Bool) : List SA → Option FR
  | [.row m ga, .row n gb] => some { val := .tup [.v (i64 (nn (listW (itW ga) m) (listW (itW gb) n))), .v (.bool (yes (listW (itW ga) m) (listW (itW gb) n)))], obl := [allW m ga, allW n gb, decide (m ≤ 2 ^ 38), decide (n ≤ 2 ^ 38)] }
  | _ => none

theorem ok_l7 : SpecOk Try.prog 95 (specR md_ak (FakO akB)) := by
  refine specR_hr gmR3_ok Try.func95 rfl fun sas fr hF ho => ?_
  unfold FakO at hF
  split at hF
  · rename_i m ga n gb x y
    cases hF
    simp only [ob_cons] at ho
    obtain ⟨h1, h2, h3, h4, _⟩ := ho
    have hm := of_decide_eq_true h3
    have hn := of_decide_eq_true h4
    refine ⟨hpTr m (itW ga) n (itW gb), noLam, 100, .cons (ABeq.row fun j hj => allW_get h1 j hj) (.cons (ABeq.row fun j hj => allW_get h2 j hj) .nil), noLam' _, ?_⟩
    show GoodQ (execF Try.prog (gmR3 eachOk eachL eqL) noLam 100 Try.f95 [.sl 0 9 0 0 m none, .sl 1 9 0 0 n none, .v (i64 x), .v (i64 y)] (hpTr m (itW ga) n (itW gb)) (packK 2)) _
    have fin : ∀ b, akB (listW (itW ga) m) (listW (itW gb) n) x y = b → GoodQ (.out .ret [.v (.bool b)] [.row false m 9 (row9 (itW ga)) 46, .row false n 9 (row9 (itW gb)) 46]) (GivR (abP md_ak [.row m ga, .row n gb, .v (.int .i64 x), .v (.int .i64 y)] []) { val := .v (.bool (akB (listW (itW ga) m) (listW (itW gb) n) x y)), obl := [allW m ga, allW n gb, decide (m ≤ 2 ^ 38), decide (n ≤ 2 ^ 38)] }) := fun b hb =>
      good_out ⟨_, rfl, by rw [hb], .cons (ABeq.row fun j hj => (allW_get h1 j hj).symm) (.cons (ABeq.row fun j hj => (allW_get h2 j hj).symm) .nil)⟩
    rw [treeAk]
    simp only [row0, listW_itW]
    have l1 : (eachL 1 0 x false (listW (itW ga) m)).length ≤ 12 := eachL_len _ _ _ _ _
    rw [show listW (wfun (eachL 1 0 x false (listW (itW ga) m))) (eachL 1 0 x false (listW (itW ga) m)).length = eachL 1 0 x false (listW (itW ga) m) from listW_fun _]
    have l2 : (eachL 1 y 0 false (eachL 1 0 x false (listW (itW ga) m))).length ≤ 12 := eachL_len _ _ _ _ _
    rw [show listW (wfun (eachL 1 y 0 false (eachL 1 0 x false (listW (itW ga) m)))) (eachL 1 y 0 false (eachL 1 0 x false (listW (itW ga) m))).length = eachL 1 y 0 false (eachL 1 0 x false (listW (itW ga) m)) from listW_fun _]
    refine good_needs (by simp only [ob_cons, ob_nil, and_true, decide_eq_true_eq, Nat.ble_eq, allW_row, true_and]; omega) (good_cond (fun q => ?_) fun q => good_needs (by simp only [ob_cons, ob_nil, and_true, decide_eq_true_eq, Nat.ble_eq, allW_row, true_and]; omega) (good_cond (fun q2 => good_needs (by simp only [ob_cons, ob_nil, and_true, decide_eq_true_eq, Nat.ble_eq, allW_row, true_and]; omega) ?_) fun q2 => ?_))
    · rw [Bool.not_eq_true'] at q
      exact fin _ (by rw [akB, q]; rfl)
    · rw [Bool.not_eq_false'] at q
      exact fin _ (by rw [akB, q, q2]; rfl)
    · rw [Bool.not_eq_false'] at q
      exact fin _ (by rw [akB, q, q2]; rfl)
  · cases hF

theorem sumAk (m : Nat) (f : Nat → Nat → Int) (n : Nat) (g : Nat → Nat → Int) (A B : List Wh) (hA : A.length ≤ 12) (hB : B.length ≤ 12) :
    SumOk Try.prog 2 (.block 0 (.loop (loopAt 0 Try.f40))) (atS 39 (lvAk .normal) 2 (stAk A.length B.length 0) (hpAk m f n g A.length (wfun A) B.length (wfun B)) (fun K => cond (noneTo (akHit A B) 576) (K .normal (mkT 0 39 []) (hpTr m f n g)) (K .ret (mkT 0 39 [(4, .v (i64 (akF A B))), (5, .v (.bool true))]) (hpTr m f n g)))) := by
  refine for_at (Γ := gmAk akB) (ext_ok g0_ok ok_l7) (n := 100) (m := 2) (lv := lvAk) (fun i => stAk A.length B.length i) (fun _ => hpAk m f n g A.length (wfun A) B.length (wfun B)) (fun i => noneTo (akHit A B) i = true) 576 (fun _ => noLam) (lv3_ris rfl rfl rfl) (Nat.le_refl _) rfl fun K Q hk i hi h576 => ⟨noLam_ok _ _ _, ?_⟩
  rw [rndAk, listW_self A _ rfl, listW_self B _ rfl]
  have e1 : Int.tdiv (i : Int) 24 = ((i / 24 : Nat) : Int) := (Int.ofNat_tdiv i 24).symm
  have e2 : Int.tmod (i : Int) 24 = ((i % 24 : Nat) : Int) := (Int.ofNat_tmod i 24).symm
  rw [e1, e2, wr_in (x := ((i / 24 : Nat) : Int)) (by omega)]
  refine good_cond (fun c1 => ?_) fun c1 => ?_
  · have c1 := of_decide_eq_true c1
    have c1' : i < 576 := by omega
    refine good_needs (by simp only [ob_cons, ob_nil, and_true, decide_eq_true_eq, Nat.ble_eq, allW_row, true_and]; omega) (good_cond (fun q => ?_) fun q => ?_)
    · have q' : akHit A B i = true := q
      rw [noneTo_no c1' q'] at hk
      refine good_out ⟨_, Hsim.refl _, ?_⟩
      rw [show akF A B = (i : Int) from fh_hit hi q' c1'] at hk
      exact hk
    · rw [wr_in (x := (i : Int) + 1) (by omega)]
      exact good_out ⟨i + 1, ⟨rfl, c1', noneTo_succ hi q⟩, rfl, Hsim.refl _⟩
  · have c1 := of_decide_eq_false c1
    have : i = 576 := by omega
    subst this
    rw [hi] at hk
    refine good_out ⟨_, Hsim.refl _, ?_⟩
    rw [if_pos rfl]
    exact hk
theorem akF_pos {A B : List Wh} (h : noneTo (akHit A B) 576 = false) : 0 ≤ akF A B := by
  refine fh_nn (fun x hx => List.mem_range.1 hx) ?_
  cases e : hasH (akHit A B) (List.range 576) with
  | true => rfl
  | false =>
    have : noneTo (akHit A B) 576 = true := noneTo_iff.2 fun i hi => by
      cases e2 : akHit A B i with
      | false => rfl
      | true =>
        unfold hasH at e
        have : (List.range 576).find? (akHit A B) = none := by
          cases e3 : (List.range 576).find? (akHit A B) with
          | none => rfl
          | some y => rw [e3] at e; cases e
        have := List.find?_eq_none.1 this i (List.mem_range.2 hi)
        exact absurd e2 this
    rw [this] at h
    cases h
theorem tidyL_len12 (L : List Wh) : (tidyL L).length ≤ 12 := by
  cases h : okT L with
  | true => exact tidyL_len h
  | false => rw [tidyL_no h]; exact Nat.zero_le _
theorem ok_akS : SpecOk Try.prog 40 (specR md_eqWS (FakV aN aY)) := by
  refine specR_hr gmS2_ok Try.func40 rfl fun sas fr hF ho => ?_
  unfold FakV at hF
  split at hF
  · rename_i m ga n gb
    cases hF
    simp only [ob_cons] at ho
    obtain ⟨h1, h2, h3, h4, _⟩ := ho
    have hm := of_decide_eq_true h3
    have hn := of_decide_eq_true h4
    have fin : ∀ v b, aN (listW (itW ga) m) (listW (itW gb) n) = v → aY (listW (itW ga) m) (listW (itW gb) n) = b → GoodQ (.out .ret [.tup [.v (i64 v), .v (.bool b)]] (hpTr m (itW ga) n (itW gb))) (GivR (abP md_eqWS [.row m ga, .row n gb] []) { val := .tup [.v (i64 (aN (listW (itW ga) m) (listW (itW gb) n))), .v (.bool (aY (listW (itW ga) m) (listW (itW gb) n)))], obl := [allW m ga, allW n gb, decide (m ≤ 2 ^ 38), decide (n ≤ 2 ^ 38)] }) := fun v b hv hb =>
      good_out ⟨_, rfl, by rw [hv, hb], .cons (ABeq.row fun j hj => (allW_get h1 j hj).symm) (.cons (ABeq.row fun j hj => (allW_get h2 j hj).symm) .nil)⟩
    have bad : aY (listW (itW ga) m) (listW (itW gb) n) = false → GoodQ (.out .ret [.tup [.v (i64 0), .v (.bool false)]] (hpTr m (itW ga) n (itW gb))) _ := fun h => fin 0 false (aN_no h) h
    refine ⟨hpTr m (itW ga) n (itW gb), _, 100, .cons (ABeq.row fun j hj => allW_get h1 j hj) (.cons (ABeq.row fun j hj => allW_get h2 j hj) .nil), lam1 (by kernel_rfl) (sumAk m (itW ga) n (itW gb) (tidyL (listW (itW ga) m)) (tidyL (listW (itW gb) n)) (tidyL_len12 _) (tidyL_len12 _)), ?_⟩
    show GoodQ (execF Try.prog (gmS2 okD tidyL okT) (lamAk m (itW ga) n (itW gb) (tidyL (listW (itW ga) m)).length (wfun (tidyL (listW (itW ga) m))) (tidyL (listW (itW gb) n)).length (wfun (tidyL (listW (itW gb) n))) (noneTo (akHit (tidyL (listW (itW ga) m)) (tidyL (listW (itW gb) n))) 576) (akF (tidyL (listW (itW ga) m)) (tidyL (listW (itW gb) n)))) 100 Try.f40 [.sl 0 9 0 0 m none, .sl 1 9 0 0 n none] (hpTr m (itW ga) n (itW gb)) (packK 2)) _
    rw [treeAkS]
    simp only [row0, listW_itW]
    generalize listW (itW ga) m = A at fin bad ⊢
    generalize listW (itW gb) n = B at fin bad ⊢
    have ob : ∀ {k l : Nat} {a b : Nat → Nat → Int} {K : Nat}, l = k → k ≤ K → obls [Nat.ble (0 + k) l, allW k (row9 a), decide (k ≤ K)] = true := fun {k l a b K} e hK => by
      simp only [ob_cons, ob_nil, and_true, decide_eq_true_eq, Nat.ble_eq, allW_row, true_and]
      omega
    have noA : okD A = false → aY A B = false := fun h => by rw [aY, yI, h]; rfl
    have noA2 : okT A = false → aY A B = false := fun h => by rw [aY, yI, h, Bool.and_false]; rfl
    have noB : okD B = false → aY A B = false := fun h => by rw [aY, yI, yI, h, Bool.false_and, Bool.and_false]; rfl
    have noB2 : okT B = false → aY A B = false := fun h => by rw [aY, yI, yI, h, Bool.and_false (okD B), Bool.and_false]; rfl
    refine good_needs (by simp only [ob_cons, ob_nil, and_true, decide_eq_true_eq, Nat.ble_eq, allW_row, true_and]; omega) (good_cond (fun q => ?_) fun q => ?_)
    · rw [Bool.not_eq_true'] at q
      refine good_needs (by simp only [ob_cons, ob_nil, and_true, decide_eq_true_eq, Nat.ble_eq, allW_row, true_and]; omega) (good_cond (fun _ => bad (noA q)) fun _ => good_needs (by simp only [ob_cons, ob_nil, and_true, decide_eq_true_eq, Nat.ble_eq, allW_row, true_and]; omega) (bad (noA q)))
    · rw [Bool.not_eq_false'] at q
      refine good_needs (by simp only [ob_cons, ob_nil, and_true, decide_eq_true_eq, Nat.ble_eq, allW_row, true_and]; omega) (good_cond (fun q2 => ?_) fun q2 => ?_)
      · rw [Bool.not_eq_true'] at q2
        exact good_cond (fun _ => bad (noB q2)) fun _ => bad (noB q2)
      · rw [Bool.not_eq_false'] at q2
        refine good_needs (by simp only [ob_cons, ob_nil, and_true, decide_eq_true_eq, Nat.ble_eq, allW_row, true_and]; omega) (good_cond (fun q3 => ?_) fun q3 => good_cond (fun q4 => ?_) fun q4 => good_needs (by rw [ob_cons]; exact ⟨chk_of ⟨rfl, Hsim.refl _⟩, rfl⟩) ?_)
        · rw [Bool.not_eq_true'] at q3
          exact bad (noA2 q3)
        · rw [Bool.not_eq_true'] at q4
          exact bad (noB2 q4)
        · rw [Bool.not_eq_false'] at q3 q4
          have yA : yI A = true := by rw [yI, q, q3]; rfl
          have yB : yI B = true := by rw [yI, q2, q4]; rfl
          have tA : tI A = tidyL A := by rw [tI, yA]; rfl
          have tB : tI B = tidyL B := by rw [tI, yB]; rfl
          refine good_cond (fun c => bad ?_) fun c => fin _ _ ?_ ?_
          · rw [aY, tA, tB, show akF (tidyL A) (tidyL B) = -1 from fh_not (hasH_no c)]
            rw [show decide (0 ≤ (-1 : Int)) = false from rfl, Bool.and_false]
          · rw [aN, aY, yA, yB, tA, tB, decide_eq_true (akF_pos c)]
            rfl
          · rw [aY, yA, yB, tA, tB, decide_eq_true (akF_pos c)]
            rfl
  · cases hF

end Go.Proofs.Ytmdcafhnjihckaa

/- The program's DesignAkin: its word. Conditions: two lists of wheels. -/
namespace Go.Proofs.Ytmdcafhnjihckaa
open Go.RowKit
set_option maxRecDepth 100000

theorem gmAkI_ok : GamOk Try.prog (gmAkI yesTi tidyL mpTi yT yL tT tL eqL) := ext_ok gmS3_ok ok_deYTi
theorem pairs_enters : ∀ args w, (callFunc 145 args).run Try.prog w = .ok (.enter 145 args) w := fun args w => enters _ _ Try.func145 rfl args w
theorem yL_none (x : Int) : yL x noneL = false := by
  unfold yL eachOk eachP
  rw [show okD noneL = false by decide +kernel]
  rfl
/-- The lists at the loop: where there was a hit, one that never hits again. -/
def lpA (p : Nat → Bool) (A : List Wh) (pre : List Nat) : List Wh := bif hasH p pre then noneL else A
def hpP (m : Nat) (f : Nat → Nat → Int) (n : Nat) (g : Nat → Nat → Int) (A B : List Wh) (pre : List Nat) : List AB := hpAkI m f n g (lpA (akHit A B) A pre).length (wfun (lpA (akHit A B) A pre)) B.length (wfun B) (fh (akHit A B) pre)
def hxP (m : Nat) (f : Nat → Nat → Int) (n : Nat) (g : Nat → Nat → Int) (A B : List Wh) (_ : Ex) (pre : List Nat) : List AB := hpAkI m f n g A.length (wfun A) B.length (wfun B) (bif hasH (akHit A B) pre then fh (akHit A B) pre else akF A B)
def lvX : Ex → Bool
  | .exit j => Nat.beq j 0
  | _ => false
theorem roundAk (m : Nat) (f : Nat → Nat → Int) (n : Nat) (g : Nat → Nat → Int) (A B : List Wh) (hA : A.length ≤ 12) (_ : B.length ≤ 12) (pre : List Nat) (x : Nat) :
    (execC Try.prog (gmAkI yesTi tidyL mpTi yT yL tT tL eqL) 100 noLam akAs (parT [32, 33] (enP x) TLak) (hpP m f n g A B pre) (andK Try.prog (gmAkI yesTi tidyL mpTi yT yL tT tL eqL) 100 akBd 7)).ok (RoundQ lvX (hpP m f n g A B) (hxP m f n g A B) (pre ++ [x])) := by
  have rnd := rndAkI yesTi tidyL mpTi yT yL tT tL eqL m f n g
  have lens : ∀ {L : List Wh} {k : Nat}, L.length ≤ 12 → 12 ≤ k → obls [Nat.ble (0 + L.length) L.length, allW L.length fun q => row9 (wfun L) (0 + q), decide (L.length ≤ k)] = true := fun {L k} h hk => by
    simp only [row0, ob_cons, ob_nil, and_true, decide_eq_true_eq, Nat.ble_eq, allW_row, true_and]
    omega
  suffices h : GoodQ (execC Try.prog (gmAkI yesTi tidyL mpTi yT yL tT tL eqL) 100 noLam akAs (parT [32, 33] [i64 ((x / 24 : Nat) : Int), i64 ((x % 24 : Nat) : Int)] TLak) (hpAkI m f n g (lpA (akHit A B) A pre).length (wfun (lpA (akHit A B) A pre)) B.length (wfun B) (fh (akHit A B) pre)) (andK Try.prog (gmAkI yesTi tidyL mpTi yT yL tT tL eqL) 100 akBd 7)) (RoundQ lvX (hpP m f n g A B) (hxP m f n g A B) (pre ++ [x])) from h.out
  rw [rnd]
  cases hh : hasH (akHit A B) pre with
  | true =>
    have hl : lpA (akHit A B) A pre = noneL := by rw [lpA, hh]; rfl
    have hl2 : lpA (akHit A B) A (pre ++ [x]) = noneL := by rw [lpA, hasH_snoc, hh]; rfl
    rw [hl]
    simp only [row0]
    rw [show listW (itW (row9 (wfun noneL))) noneL.length = noneL from listW_self noneL _ rfl, yL_none]
    refine good_needs (by have := lens (L := noneL) (k := 274877906944) (by decide) (by omega); simpa only [row0] using this) (good_true rfl (good_out ?_))
    show Hsim _ (hpP m f n g A B (pre ++ [x]))
    unfold hpP
    rw [hl2, fh_yes _ hh]
    exact Hsim.refl _
  | false =>
    have hl : lpA (akHit A B) A pre = A := by rw [lpA, hh]; rfl
    rw [hl]
    simp only [row0]
    rw [show listW (itW (row9 (wfun A))) A.length = A from listW_self A _ rfl, show listW (itW (row9 (wfun B))) B.length = B from listW_self B _ rfl]
    have l1 : (tL ((x / 24 : Nat) : Int) A).length ≤ 12 := eachL_len _ _ _ _ _
    rw [show listW (itW (row9 (wfun (tL ((x / 24 : Nat) : Int) A)))) (tL ((x / 24 : Nat) : Int) A).length = tL ((x / 24 : Nat) : Int) A from listW_self _ _ rfl]
    have l2 : (tT ((x % 24 : Nat) : Int) (tL ((x / 24 : Nat) : Int) A)).length ≤ 12 := eachL_len _ _ _ _ _
    rw [show listW (itW (row9 (wfun (tT ((x % 24 : Nat) : Int) (tL ((x / 24 : Nat) : Int) A))))) (tT ((x % 24 : Nat) : Int) (tL ((x / 24 : Nat) : Int) A)).length = tT ((x % 24 : Nat) : Int) (tL ((x / 24 : Nat) : Int) A) from listW_self _ _ rfl]
    have non : akHit A B x = false → RoundQ lvX (hpP m f n g A B) (hxP m f n g A B) (pre ++ [x]) .normal (mkT 0 54 []) (hpAkI m f n g A.length (wfun A) B.length (wfun B) (fh (akHit A B) pre)) := fun hn => by
      have hs : hasH (akHit A B) (pre ++ [x]) = false := by rw [hasH_snoc, hh, hn]; rfl
      show Hsim _ (hpP m f n g A B (pre ++ [x]))
      unfold hpP
      rw [show lpA (akHit A B) A (pre ++ [x]) = A by rw [lpA, hs]; rfl, fh_not hs, fh_not hh]
      exact Hsim.refl _
    refine good_needs (by have := lens (L := A) (k := 274877906944) hA (by omega); simpa only [row0] using this) (good_cond (fun q => good_out (non ?_)) fun q => good_needs (by have := lens (L := tL ((x / 24 : Nat) : Int) A) (k := 274877906944) l1 (by omega); simpa only [row0] using this) (good_cond (fun q2 => good_needs ?_ (good_cond (fun q3 => good_out ?_) fun q3 => good_out (non ?_))) fun q2 => good_out (non ?_)))
    · rw [Bool.not_eq_true'] at q
      show akB A B _ _ = false
      rw [akB]
      rw [show eachOk 1 0 ((x / 24 : Nat) : Int) false A = false from q]
      rfl
    · simp only [ob_cons, ob_nil, and_true, decide_eq_true_eq, Nat.ble_eq, allW_row, true_and]
      omega
    · rw [Bool.not_eq_false'] at q
      have hn : akHit A B x = true := by
        show akB A B _ _ = true
        rw [akB, show eachOk 1 0 ((x / 24 : Nat) : Int) false A = true from q, show eachOk 1 ((x % 24 : Nat) : Int) 0 false (eachL 1 0 ((x / 24 : Nat) : Int) false A) = true from q2]
        exact q3
      refine ⟨rfl, ?_⟩
      unfold hxP
      have hs : hasH (akHit A B) (pre ++ [x]) = true := by rw [hasH_snoc, hn, Bool.or_true]
      rw [hs, cond_true, fh_new hh hn]
      exact Hsim.refl _
    · rw [Bool.not_eq_false'] at q
      show akB A B _ _ = false
      rw [akB, show eachOk 1 0 ((x / 24 : Nat) : Int) false A = true from q, show eachOk 1 ((x % 24 : Nat) : Int) 0 false (eachL 1 0 ((x / 24 : Nat) : Int) false A) = true from q2]
      exact q3
    · rw [Bool.not_eq_false'] at q
      show akB A B _ _ = false
      rw [akB, show eachOk 1 0 ((x / 24 : Nat) : Int) false A = true from q, show eachOk 1 ((x % 24 : Nat) : Int) 0 false (eachL 1 0 ((x / 24 : Nat) : Int) false A) = false from q2]
      rfl

def FakY (nn : List Wh → List Wh → Int) (yes : List Wh → List Wh → Bool) : List SA → Option FR
  | [.row m ga, .row n gb] => some { val := .tup [.v (i64 (nn (listW (itW ga) m) (listW (itW gb) n))), .v (.bool (yes (listW (itW ga) m) (listW (itW gb) n)))], obl := [allW m ga, allW n gb, decide (m ≤ 2 ^ 38), decide (n ≤ 2 ^ 38), yI (listW (itW ga) m), yI (listW (itW gb) n)] }
  | _ => none
theorem ok_akY : SpecOk Try.prog 39 (specR md_eqWS (FakY aN aY)) := by
  refine specR_calls enters Try.func39 rfl fun sas fr hF ho => ?_
  unfold FakY at hF
  split at hF
  · rename_i m ga n gb
    cases hF
    simp only [ob_cons] at ho
    obtain ⟨h1, h2, h3, h4, yA, yB, _⟩ := ho
    have hm := of_decide_eq_true h3
    have hn := of_decide_eq_true h4
    refine ⟨hpTr m (itW ga) n (itW gb), .cons (ABeq.row fun j hj => allW_get h1 j hj) (.cons (ABeq.row fun j hj => allW_get h2 j hj) .nil), ?_⟩
    have fin : ∀ v b, aN (listW (itW ga) m) (listW (itW gb) n) = v → aY (listW (itW ga) m) (listW (itW gb) n) = b → GoodQ (.out .ret [.tup [.v (i64 v), .v (.bool b)]] (hpTr m (itW ga) n (itW gb))) (GivR (abP md_eqWS [.row m ga, .row n gb] []) { val := .tup [.v (i64 (aN (listW (itW ga) m) (listW (itW gb) n))), .v (.bool (aY (listW (itW ga) m) (listW (itW gb) n)))], obl := [allW m ga, allW n gb, decide (m ≤ 2 ^ 38), decide (n ≤ 2 ^ 38), yI (listW (itW ga) m), yI (listW (itW gb) n)] }) := fun v b hv hb =>
      good_out ⟨_, rfl, by rw [hv, hb], .cons (ABeq.row fun j hj => (allW_get h1 j hj).symm) (.cons (ABeq.row fun j hj => (allW_get h2 j hj).symm) .nil)⟩
    have tA : tI (listW (itW ga) m) = tidyL (listW (itW ga) m) := by rw [tI, yA]; rfl
    have tB : tI (listW (itW gb) n) = tidyL (listW (itW gb) n) := by rw [tI, yB]; rfl
    have lA := tidyL_len12 (listW (itW ga) m)
    have lB := tidyL_len12 (listW (itW gb) n)
    have pre := preAk yesTi tidyL mpTi yT yL tT tL eqL m (itW ga) n (itW gb)
    simp only [row0, listW_itW, map_Ti] at pre
    have eY : aY (listW (itW ga) m) (listW (itW gb) n) = decide (0 ≤ akF (tidyL (listW (itW ga) m)) (tidyL (listW (itW gb) n))) := by rw [aY, yA, yB, tA, tB]; rfl
    have eN : aN (listW (itW ga) m) (listW (itW gb) n) = bif decide (0 ≤ akF (tidyL (listW (itW ga) m)) (tidyL (listW (itW gb) n))) then akF (tidyL (listW (itW ga) m)) (tidyL (listW (itW gb) n)) else 0 := by rw [aN, eY, tA, tB]
    have sA := yesTi_eq (listW (itW ga) m)
    have sB := yesTi_eq (listW (itW gb) n)
    rw [show (okD (listW (itW ga) m) && okT (listW (itW ga) m)) = yI (listW (itW ga) m) from rfl, yA] at sA
    rw [show (okD (listW (itW gb) n) && okT (listW (itW gb) n)) = yI (listW (itW gb) n) from rfl, yB] at sB
    generalize tidyL (listW (itW ga) m) = A at lA eY eN pre
    generalize tidyL (listW (itW gb) n) = B at lB eY eN pre
    -- behind the loop, by the number found
    have stop : ∀ v : Int, v = akF A B → GoodQ (bif decide (v < 0) then Res.out .ret [.tup [.v (i64 0), .v (.bool false)]] (hpTr m (itW ga) n (itW gb)) else Res.out .ret [.tup [.v (i64 v), .v (.bool true)]] (hpTr m (itW ga) n (itW gb))) (GivR (abP md_eqWS [.row m ga, .row n gb] []) { val := .tup [.v (i64 (aN (listW (itW ga) m) (listW (itW gb) n))), .v (.bool (aY (listW (itW ga) m) (listW (itW gb) n)))], obl := [allW m ga, allW n gb, decide (m ≤ 2 ^ 38), decide (n ≤ 2 ^ 38), yI (listW (itW ga) m), yI (listW (itW gb) n)] }) := fun v hv => by
      subst hv
      refine good_cond (fun q => ?_) fun q => ?_
      · have q := of_decide_eq_true q
        have hd : decide (0 ≤ akF A B) = false := decide_eq_false (by omega)
        exact fin 0 false (by rw [eN, hd]; rfl) (by rw [eY, hd])
      · have q := of_decide_eq_false q
        have hd : decide (0 ≤ akF A B) = true := decide_eq_true (by omega)
        exact fin _ true (by rw [eN, hd]; rfl) (by rw [eY, hd])
    refine calls_rangeS (α := Nat) (n := 100) (nn := 0) gmAkI_ok mixed enters Try.func39 bAk_eq (by kernel_rfl) (by kernel_rfl) (by kernel_rfl) (by kernel_rfl) (by kernel_rfl) (by kernel_rfl) (lvp := lv3 [6, 8, 10, 31] [] []) (TT := TTak) (HH := hpAkI m (itW ga) n (itW gb) A.length (wfun A) B.length (wfun B) (-1))
      (encs := enP) (S := fun xs => xs = List.range 576) (Sp := fun xs => ∃ k, k ≤ 576 ∧ xs = List.range k) (N := 576) ?_ (gf := 145) (cs := []) (by kernel_rfl) TLak (by kernel_rfl) (mask_less (live := [6, 8, 10]) (by kernel_rfl)) lvX (hpP m (itW ga) n (itW gb) A B) (hxP m (itW ga) n (itW gb) A B) rfl (fun i => .inl rfl)
      pairs_enters (fun W ν1 a1 lb hS hv => ?_) (fun _ => rfl) (by decide) (fun pre x _ => ?_) (fun xs hxs => ?_) (fun e pre hne hlv hsp => ?_)
    · show (execL Try.prog (gmAkI yesTi tidyL mpTi yT yL tT tL eqL) 100 (akPre0 ++ (akPre ++ [akP2])) ([.sl 0 9 0 0 m none, .sl 1 9 0 0 n none] ++ List.replicate 52 (.v undef)) (hpTr m (itW ga) n (itW gb)) (leafK (lv3 [6, 8, 10, 31] [] []) 2)).ok _
      rw [pre]
      exact (good_needs (Q := fun e T' H' => e = .normal ∧ T' = TTak ∧ H' = hpAkI m (itW ga) n (itW gb) A.length (wfun A) B.length (wfun B) (-1)) (r := .out .normal TTak (hpAkI m (itW ga) n (itW gb) A.length (wfun A) B.length (wfun B) (-1))) (by simp only [ob_cons, ob_nil, decide_eq_true_eq, and_true, allW_row, Nat.ble_eq, true_and, sA, sB]; omega) ⟨⟨rfl, rfl, rfl⟩⟩).out
    · cases lb with
      | nil => exact pairs_stops
      | cons y ys => simp only [VRs] at hv
    · exact roundAk m (itW ga) n (itW gb) A B lA lB pre x
    · subst hxs
      show (behind Try.prog (gmAkI yesTi tidyL mpTi yT yL tT tL eqL) 100 fAk 0 akRest (packK 2) .normal TLak (hpAkI m (itW ga) n (itW gb) (lpA (akHit A B) A (List.range 576)).length (wfun (lpA (akHit A B) A (List.range 576))) B.length (wfun B) (fh (akHit A B) (List.range 576)))).ok _
      rw [endAkN]
      exact (stop _ rfl).out
    · obtain ⟨k, hk, rfl⟩ := hsp
      cases e with
      | normal => exact (hne rfl).elim
      | ret => cases hlv
      | exit j =>
        have hj : j = 0 := Nat.eq_of_beq_eq_true hlv
        subst hj
        show (behind Try.prog (gmAkI yesTi tidyL mpTi yT yL tT tL eqL) 100 fAk 0 akRest (packK 2) (.exit 0) TLak (hpAkI m (itW ga) n (itW gb) A.length (wfun A) B.length (wfun B) (bif hasH (akHit A B) (List.range k) then fh (akHit A B) (List.range k) else akF A B))).ok _
        rw [endAkX]
        refine (stop _ ?_).out
        cases hh : hasH (akHit A B) (List.range k) with
        | true => exact (fh_range hk hh).symm
        | false => rfl
  · cases hF

def FakN (yI : List Wh → Bool) : List SA → Option FR
  | [.row m ga, .row n gb] => some { val := .tup [.v (i64 0), .v (.bool false)], obl := [allW m ga, allW n gb, decide (m ≤ 2 ^ 38), decide (n ≤ 2 ^ 38), !(yI (listW (itW ga) m) && yI (listW (itW gb) n))] }
  | _ => none
def gmTi (yI : List Wh → Bool) (tI : List Wh → List Wh) : Gam := ext g0 37 (specU md_ws (UO0 yI tI))
theorem treeAkN (yI : List Wh → Bool) (tI : List Wh → List Wh) (m : Nat) (f : Nat → Nat → Int) (n : Nat) (g : Nat → Nat → Int) : execF Try.prog (gmTi yI tI) noLam 100 fAk [.sl 0 9 0 0 m none, .sl 1 9 0 0 n none] (hpTr m f n g) (packK 2)
    = needs [Nat.ble ((0 : Nat) + m) m, allW m fun q ↦ row9 f ((0 : Nat) + q), decide (m ≤ (274877906944 : Nat)), Nat.ble ((0 : Nat) + n) n, allW n fun q ↦ row9 g ((0 : Nat) + q), decide (n ≤ (274877906944 : Nat))] (bif !yI (listW (itW fun q ↦ row9 f ((0 : Nat) + q)) m) then Res.out Ex.ret [AV.tup [AV.v (Value.int IntKind.i64 (0 : Int)), AV.v (Value.bool false)]] [AB.row false m (9 : Nat) (row9 f) (46 : TypeId), AB.row false n (9 : Nat) (row9 g) (46 : TypeId)] else needs [!yI (listW (itW fun q ↦ row9 g ((0 : Nat) + q)) n)] (Res.out Ex.ret [AV.tup [AV.v (Value.int IntKind.i64 (0 : Int)), AV.v (Value.bool false)]] [AB.row false m (9 : Nat) (row9 f) (46 : TypeId), AB.row false n (9 : Nat) (row9 g) (46 : TypeId)])) := by kernel_rfl

theorem ok_akN : SpecOk Try.prog 39 (specR md_eqWS (FakN yI)) := by
  refine specR_hr (ext_ok g0_ok ok_UTi) Try.func39 rfl fun sas fr hF ho => ?_
  unfold FakN at hF
  split at hF
  · rename_i m ga n gb
    cases hF
    simp only [ob_cons] at ho
    obtain ⟨h1, h2, h3, h4, h5, _⟩ := ho
    have hm := of_decide_eq_true h3
    have hn := of_decide_eq_true h4
    refine ⟨hpTr m (itW ga) n (itW gb), noLam, 100, .cons (ABeq.row fun j hj => allW_get h1 j hj) (.cons (ABeq.row fun j hj => allW_get h2 j hj) .nil), noLam' _, ?_⟩
    show GoodQ (execF Try.prog (gmTi yI tI) noLam 100 fAk [.sl 0 9 0 0 m none, .sl 1 9 0 0 n none] (hpTr m (itW ga) n (itW gb)) (packK 2)) _
    have fin : GoodQ (.out .ret [.tup [.v (i64 0), .v (.bool false)]] (hpTr m (itW ga) n (itW gb))) (GivR (abP md_eqWS [.row m ga, .row n gb] []) { val := .tup [.v (i64 0), .v (.bool false)], obl := [allW m ga, allW n gb, decide (m ≤ 2 ^ 38), decide (n ≤ 2 ^ 38), !(yI (listW (itW ga) m) && yI (listW (itW gb) n))] }) :=
      good_out ⟨_, rfl, rfl, .cons (ABeq.row fun j hj => (allW_get h1 j hj).symm) (.cons (ABeq.row fun j hj => (allW_get h2 j hj).symm) .nil)⟩
    rw [treeAkN]
    simp only [row0, listW_itW]
    cases yA : yI (listW (itW ga) m) with
    | false =>
      refine good_needs (by simp only [ob_cons, ob_nil, and_true, decide_eq_true_eq, Nat.ble_eq, allW_row, true_and]; omega) ?_
      simp only [Bool.not_false, cond_true]
      exact fin
    | true =>
      rw [yA, Bool.true_and] at h5
      refine good_needs (by simp only [ob_cons, ob_nil, and_true, decide_eq_true_eq, Nat.ble_eq, allW_row, true_and]; omega) ?_
      simp only [Bool.not_true, cond_false, h5]
      exact fin
  · cases hF
theorem ok_akI : SpecOk Try.prog 39 (specR md_eqWS (FakV aN aY)) := by
  refine specR_two ok_akY ok_akN fun sas fr hF ho => ?_
  unfold FakV at hF
  split at hF
  · rename_i m ga n gb
    cases hF
    simp only [ob_cons] at ho
    obtain ⟨h1, h2, h3, h4, _⟩ := ho
    cases hv : (yI (listW (itW ga) m) && yI (listW (itW gb) n)) with
    | true =>
      rw [Bool.and_eq_true] at hv
      refine .inl ⟨[allW m ga, allW n gb, decide (m ≤ 2 ^ 38), decide (n ≤ 2 ^ 38), yI (listW (itW ga) m), yI (listW (itW gb) n)], rfl, ?_⟩
      simp only [ob_cons, ob_nil, and_true]
      exact ⟨h1, h2, h3, h4, hv.1, hv.2⟩
    | false =>
      have eY : aY (listW (itW ga) m) (listW (itW gb) n) = false := by rw [aY, hv]; rfl
      refine .inr ⟨[allW m ga, allW n gb, decide (m ≤ 2 ^ 38), decide (n ≤ 2 ^ 38), !(yI (listW (itW ga) m) && yI (listW (itW gb) n))], ?_, ?_⟩
      · rw [aN_no eY, eY]
        rfl
      · simp only [ob_cons, ob_nil, and_true]
        exact ⟨h1, h2, h3, h4, by rw [hv]; rfl⟩
  · cases hF

end Go.Proofs.Ytmdcafhnjihckaa

/- DesignMirrored of both: their words. Conditions: a list of wheels. -/
namespace Go.Proofs.Ytmdcafhnjihckaa
open Go.RowKit
set_option maxRecDepth 100000

/-- Mirrored and back, the design is akin to itself. -/
def mdV (L : List Wh) : Bool := (eachOk (-1) 0 0 true L && eachOk (-1) 0 0 false (eachL (-1) 0 0 true L)) && aY L (eachL (-1) 0 0 false (eachL (-1) 0 0 true L))
def FblO (v : List Wh → Bool) : List SA → Option FR
  | [.row m g] => some { val := .v (.bool (v (listW (itW g) m))), obl := [allW m g, decide (m ≤ 2 ^ 38)] }
  | _ => none
def gmMdI (ok : Int → Int → Int → Bool → List Wh → Bool) (el : Int → Int → Int → Bool → List Wh → List Wh) (nn : List Wh → List Wh → Int) (yes : List Wh → List Wh → Bool) : Gam := ext (ext (ext g0 46 (specU md_ws (UO0 (fun L => ok (-1) 0 0 true L) fun L => el (-1) 0 0 true L))) 47 (specU md_ws (UO0 (fun L => ok (-1) 0 0 false L) fun L => el (-1) 0 0 false L))) 39 (specR md_eqWS (FakV nn yes))
theorem treeMdI (ok : Int → Int → Int → Bool → List Wh → Bool) (el : Int → Int → Int → Bool → List Wh → List Wh) (nn : List Wh → List Wh → Int) (yes : List Wh → List Wh → Bool) (m : Nat) (f : Nat → Nat → Int) : execF Try.prog (gmMdI ok el nn yes) noLam 100 Try.f44 [.sl 0 9 0 0 m none] (hpK m f) (packK 1)
    = needs [Nat.ble ((0 : Nat) + m) m, allW m fun q ↦ row9 f ((0 : Nat) + q), decide (m ≤ (274877906944 : Nat)), Nat.ble ((0 : Nat) + List.length (el (-1 : Int) (0 : Int) (0 : Int) true (listW (itW fun q ↦ row9 f ((0 : Nat) + q)) m))) (List.length (el (-1 : Int) (0 : Int) (0 : Int) true (listW (itW fun q ↦ row9 f ((0 : Nat) + q)) m))), allW (List.length (el (-1 : Int) (0 : Int) (0 : Int) true (listW (itW fun q ↦ row9 f ((0 : Nat) + q)) m))) fun q ↦ row9 (wfun (el (-1 : Int) (0 : Int) (0 : Int) true (listW (itW fun q ↦ row9 f ((0 : Nat) + q)) m))) ((0 : Nat) + q), decide (List.length (el (-1 : Int) (0 : Int) (0 : Int) true (listW (itW fun q ↦ row9 f ((0 : Nat) + q)) m)) ≤ (274877906944 : Nat))] (bif !ok (-1 : Int) (0 : Int) (0 : Int) true (listW (itW fun q ↦ row9 f ((0 : Nat) + q)) m) then Res.out Ex.ret [AV.v (Value.bool false)] [AB.row false m (9 : Nat) (row9 f) (46 : TypeId)] else bif !ok (-1 : Int) (0 : Int) (0 : Int) false (listW (itW fun q ↦ row9 (wfun (el (-1 : Int) (0 : Int) (0 : Int) true (listW (itW fun q ↦ row9 f ((0 : Nat) + q)) m))) ((0 : Nat) + q)) (List.length (el (-1 : Int) (0 : Int) (0 : Int) true (listW (itW fun q ↦ row9 f ((0 : Nat) + q)) m)))) then Res.out Ex.ret [AV.v (Value.bool false)] [AB.row false m (9 : Nat) (row9 f) (46 : TypeId)] else needs [Nat.ble ((0 : Nat) + m) m, Nat.ble ((0 : Nat) + List.length (el (-1 : Int) (0 : Int) (0 : Int) false (listW (itW fun q ↦ row9 (wfun (el (-1 : Int) (0 : Int) (0 : Int) true (listW (itW fun q ↦ row9 f ((0 : Nat) + q)) m))) ((0 : Nat) + q)) (List.length (el (-1 : Int) (0 : Int) (0 : Int) true (listW (itW fun q ↦ row9 f ((0 : Nat) + q)) m)))))) (List.length (el (-1 : Int) (0 : Int) (0 : Int) false (listW (itW fun q ↦ row9 (wfun (el (-1 : Int) (0 : Int) (0 : Int) true (listW (itW fun q ↦ row9 f ((0 : Nat) + q)) m))) ((0 : Nat) + q)) (List.length (el (-1 : Int) (0 : Int) (0 : Int) true (listW (itW fun q ↦ row9 f ((0 : Nat) + q)) m)))))), allW m fun q ↦ row9 f ((0 : Nat) + q), allW (List.length (el (-1 : Int) (0 : Int) (0 : Int) false (listW (itW fun q ↦ row9 (wfun (el (-1 : Int) (0 : Int) (0 : Int) true (listW (itW fun q ↦ row9 f ((0 : Nat) + q)) m))) ((0 : Nat) + q)) (List.length (el (-1 : Int) (0 : Int) (0 : Int) true (listW (itW fun q ↦ row9 f ((0 : Nat) + q)) m)))))) fun q ↦ row9 (wfun (el (-1 : Int) (0 : Int) (0 : Int) false (listW (itW fun q ↦ row9 (wfun (el (-1 : Int) (0 : Int) (0 : Int) true (listW (itW fun q ↦ row9 f ((0 : Nat) + q)) m))) ((0 : Nat) + q)) (List.length (el (-1 : Int) (0 : Int) (0 : Int) true (listW (itW fun q ↦ row9 f ((0 : Nat) + q)) m)))))) ((0 : Nat) + q), decide (m ≤ (274877906944 : Nat)), decide (List.length (el (-1 : Int) (0 : Int) (0 : Int) false (listW (itW fun q ↦ row9 (wfun (el (-1 : Int) (0 : Int) (0 : Int) true (listW (itW fun q ↦ row9 f ((0 : Nat) + q)) m))) ((0 : Nat) + q)) (List.length (el (-1 : Int) (0 : Int) (0 : Int) true (listW (itW fun q ↦ row9 f ((0 : Nat) + q)) m))))) ≤ (274877906944 : Nat))] (Res.out Ex.ret [AV.v (Value.bool (yes (listW (itW fun q ↦ row9 f ((0 : Nat) + q)) m) (listW (itW fun q ↦ row9 (wfun (el (-1 : Int) (0 : Int) (0 : Int) false (listW (itW fun q ↦ row9 (wfun (el (-1 : Int) (0 : Int) (0 : Int) true (listW (itW fun q ↦ row9 f ((0 : Nat) + q)) m))) ((0 : Nat) + q)) (List.length (el (-1 : Int) (0 : Int) (0 : Int) true (listW (itW fun q ↦ row9 f ((0 : Nat) + q)) m)))))) ((0 : Nat) + q)) (List.length (el (-1 : Int) (0 : Int) (0 : Int) false (listW (itW fun q ↦ row9 (wfun (el (-1 : Int) (0 : Int) (0 : Int) true (listW (itW fun q ↦ row9 f ((0 : Nat) + q)) m))) ((0 : Nat) + q)) (List.length (el (-1 : Int) (0 : Int) (0 : Int) true (listW (itW fun q ↦ row9 f ((0 : Nat) + q)) m)))))))))] [AB.row false m (9 : Nat) (row9 f) (46 : TypeId)])) := by kernel_rfl

def gmMdS (ok : Int → Int → Int → Bool → List Wh → Bool) (el : Int → Int → Int → Bool → List Wh → List Wh) (nn : List Wh → List Wh → Int) (yes : List Wh → List Wh → Bool) : Gam := ext (ext g0 134 (specR md_ea (FeaO ok el))) 40 (specR md_eqWS (FakV nn yes))
theorem treeMdS (ok : Int → Int → Int → Bool → List Wh → Bool) (el : Int → Int → Int → Bool → List Wh → List Wh) (nn : List Wh → List Wh → Int) (yes : List Wh → List Wh → Bool) (m : Nat) (f : Nat → Nat → Int) : execF Try.prog (gmMdS ok el nn yes) noLam 100 Try.f45 [.sl 0 9 0 0 m none] (hpK m f) (packK 1)
    = needs [Nat.ble ((0 : Nat) + m) m, allW m fun q ↦ row9 f ((0 : Nat) + q), decide (m ≤ (274877906944 : Nat)), Nat.ble (List.length (el (-1 : Int) (0 : Int) (0 : Int) true (listW (itW fun q ↦ row9 f ((0 : Nat) + q)) m))) (List.length (el (-1 : Int) (0 : Int) (0 : Int) true (listW (itW fun q ↦ row9 f ((0 : Nat) + q)) m))), allW (List.length (el (-1 : Int) (0 : Int) (0 : Int) true (listW (itW fun q ↦ row9 f ((0 : Nat) + q)) m))) (row9 (wfun (el (-1 : Int) (0 : Int) (0 : Int) true (listW (itW fun q ↦ row9 f ((0 : Nat) + q)) m)))), decide (List.length (el (-1 : Int) (0 : Int) (0 : Int) true (listW (itW fun q ↦ row9 f ((0 : Nat) + q)) m)) ≤ (274877906944 : Nat))] (bif !ok (-1 : Int) (0 : Int) (0 : Int) true (listW (itW fun q ↦ row9 f ((0 : Nat) + q)) m) then Res.out Ex.ret [AV.v (Value.bool false)] [AB.row false m (9 : Nat) (row9 f) (46 : TypeId)] else bif !ok (-1 : Int) (0 : Int) (0 : Int) false (listW (itW (row9 (wfun (el (-1 : Int) (0 : Int) (0 : Int) true (listW (itW fun q ↦ row9 f ((0 : Nat) + q)) m))))) (List.length (el (-1 : Int) (0 : Int) (0 : Int) true (listW (itW fun q ↦ row9 f ((0 : Nat) + q)) m)))) then Res.out Ex.ret [AV.v (Value.bool false)] [AB.row false m (9 : Nat) (row9 f) (46 : TypeId)] else needs [Nat.ble ((0 : Nat) + m) m, Nat.ble (List.length (el (-1 : Int) (0 : Int) (0 : Int) false (listW (itW (row9 (wfun (el (-1 : Int) (0 : Int) (0 : Int) true (listW (itW fun q ↦ row9 f ((0 : Nat) + q)) m))))) (List.length (el (-1 : Int) (0 : Int) (0 : Int) true (listW (itW fun q ↦ row9 f ((0 : Nat) + q)) m)))))) (List.length (el (-1 : Int) (0 : Int) (0 : Int) false (listW (itW (row9 (wfun (el (-1 : Int) (0 : Int) (0 : Int) true (listW (itW fun q ↦ row9 f ((0 : Nat) + q)) m))))) (List.length (el (-1 : Int) (0 : Int) (0 : Int) true (listW (itW fun q ↦ row9 f ((0 : Nat) + q)) m)))))), allW m fun q ↦ row9 f ((0 : Nat) + q), allW (List.length (el (-1 : Int) (0 : Int) (0 : Int) false (listW (itW (row9 (wfun (el (-1 : Int) (0 : Int) (0 : Int) true (listW (itW fun q ↦ row9 f ((0 : Nat) + q)) m))))) (List.length (el (-1 : Int) (0 : Int) (0 : Int) true (listW (itW fun q ↦ row9 f ((0 : Nat) + q)) m)))))) (row9 (wfun (el (-1 : Int) (0 : Int) (0 : Int) false (listW (itW (row9 (wfun (el (-1 : Int) (0 : Int) (0 : Int) true (listW (itW fun q ↦ row9 f ((0 : Nat) + q)) m))))) (List.length (el (-1 : Int) (0 : Int) (0 : Int) true (listW (itW fun q ↦ row9 f ((0 : Nat) + q)) m))))))), decide (m ≤ (274877906944 : Nat)), decide (List.length (el (-1 : Int) (0 : Int) (0 : Int) false (listW (itW (row9 (wfun (el (-1 : Int) (0 : Int) (0 : Int) true (listW (itW fun q ↦ row9 f ((0 : Nat) + q)) m))))) (List.length (el (-1 : Int) (0 : Int) (0 : Int) true (listW (itW fun q ↦ row9 f ((0 : Nat) + q)) m))))) ≤ (274877906944 : Nat))] (Res.out Ex.ret [AV.v (Value.bool (yes (listW (itW fun q ↦ row9 f ((0 : Nat) + q)) m) (listW (itW (row9 (wfun (el (-1 : Int) (0 : Int) (0 : Int) false (listW (itW (row9 (wfun (el (-1 : Int) (0 : Int) (0 : Int) true (listW (itW fun q ↦ row9 f ((0 : Nat) + q)) m))))) (List.length (el (-1 : Int) (0 : Int) (0 : Int) true (listW (itW fun q ↦ row9 f ((0 : Nat) + q)) m)))))))) (List.length (el (-1 : Int) (0 : Int) (0 : Int) false (listW (itW (row9 (wfun (el (-1 : Int) (0 : Int) (0 : Int) true (listW (itW fun q ↦ row9 f ((0 : Nat) + q)) m))))) (List.length (el (-1 : Int) (0 : Int) (0 : Int) true (listW (itW fun q ↦ row9 f ((0 : Nat) + q)) m)))))))))] [AB.row false m (9 : Nat) (row9 f) (46 : TypeId)])) := by kernel_rfl

theorem ok_mdI : SpecOk Try.prog 44 (specR md_ws (FblO mdV)) := by
  refine specR_hr (Γ := gmMdI eachOk eachL aN aY) (ext_ok (ext_ok (ext_ok g0_ok ok_UMi) ok_UBa) ok_akI) Try.func44 rfl fun sas fr hF ho => ?_
  unfold FblO at hF
  split at hF
  · rename_i m g
    cases hF
    simp only [ob_cons] at ho
    obtain ⟨h1, h2, _⟩ := ho
    have hm := of_decide_eq_true h2
    refine ⟨hpK m (itW g), noLam, 100, .cons (ABeq.row fun j hj => allW_get h1 j hj) .nil, noLam' _, ?_⟩
    show GoodQ (execF Try.prog (gmMdI eachOk eachL aN aY) noLam 100 Try.f44 [.sl 0 9 0 0 m none] (hpK m (itW g)) (packK 1)) _
    have fin : ∀ b, mdV (listW (itW g) m) = b → GoodQ (.out .ret [.v (.bool b)] (hpK m (itW g))) (GivR (abP md_ws [.row m g] []) { val := .v (.bool (mdV (listW (itW g) m))), obl := [allW m g, decide (m ≤ 2 ^ 38)] }) := fun b hb =>
      good_out ⟨_, rfl, by rw [hb], .cons (ABeq.row fun j hj => (allW_get h1 j hj).symm) .nil⟩
    rw [treeMdI]
    simp only [row0, listW_itW]
    generalize listW (itW g) m = L at fin ⊢
    have l1 := eachL_len (-1) 0 0 true L
    rw [show listW (wfun (eachL (-1) 0 0 true L)) (eachL (-1) 0 0 true L).length = eachL (-1) 0 0 true L from listW_fun _]
    have l2 := eachL_len (-1) 0 0 false (eachL (-1) 0 0 true L)
    rw [show listW (wfun (eachL (-1) 0 0 false (eachL (-1) 0 0 true L))) (eachL (-1) 0 0 false (eachL (-1) 0 0 true L)).length = eachL (-1) 0 0 false (eachL (-1) 0 0 true L) from listW_fun _]
    refine good_needs (by simp only [ob_cons, ob_nil, and_true, decide_eq_true_eq, Nat.ble_eq, allW_row, true_and]; omega) (good_cond (fun q => ?_) fun q => good_cond (fun q2 => ?_) fun q2 => good_needs (by simp only [ob_cons, ob_nil, and_true, decide_eq_true_eq, Nat.ble_eq, allW_row, true_and]; omega) ?_)
    · rw [Bool.not_eq_true'] at q
      exact fin _ (by rw [mdV, q]; rfl)
    · rw [Bool.not_eq_true'] at q2
      exact fin _ (by rw [mdV, q2, Bool.and_false]; rfl)
    · rw [Bool.not_eq_false'] at q q2
      exact fin _ (by rw [mdV, q, q2]; rfl)
  · cases hF
theorem ok_mdS : SpecOk Try.prog 45 (specR md_ws (FblO mdV)) := by
  refine specR_hr (Γ := gmMdS eachOk eachL aN aY) (ext_ok (ext_ok g0_ok ok_each) ok_akS) Try.func45 rfl fun sas fr hF ho => ?_
  unfold FblO at hF
  split at hF
  · rename_i m g
    cases hF
    simp only [ob_cons] at ho
    obtain ⟨h1, h2, _⟩ := ho
    have hm := of_decide_eq_true h2
    refine ⟨hpK m (itW g), noLam, 100, .cons (ABeq.row fun j hj => allW_get h1 j hj) .nil, noLam' _, ?_⟩
    show GoodQ (execF Try.prog (gmMdS eachOk eachL aN aY) noLam 100 Try.f45 [.sl 0 9 0 0 m none] (hpK m (itW g)) (packK 1)) _
    have fin : ∀ b, mdV (listW (itW g) m) = b → GoodQ (.out .ret [.v (.bool b)] (hpK m (itW g))) (GivR (abP md_ws [.row m g] []) { val := .v (.bool (mdV (listW (itW g) m))), obl := [allW m g, decide (m ≤ 2 ^ 38)] }) := fun b hb =>
      good_out ⟨_, rfl, by rw [hb], .cons (ABeq.row fun j hj => (allW_get h1 j hj).symm) .nil⟩
    rw [treeMdS]
    simp only [row0, listW_itW]
    generalize listW (itW g) m = L at fin ⊢
    have l1 := eachL_len (-1) 0 0 true L
    rw [show listW (wfun (eachL (-1) 0 0 true L)) (eachL (-1) 0 0 true L).length = eachL (-1) 0 0 true L from listW_fun _]
    have l2 := eachL_len (-1) 0 0 false (eachL (-1) 0 0 true L)
    rw [show listW (wfun (eachL (-1) 0 0 false (eachL (-1) 0 0 true L))) (eachL (-1) 0 0 false (eachL (-1) 0 0 true L)).length = eachL (-1) 0 0 false (eachL (-1) 0 0 true L) from listW_fun _]
    refine good_needs (by simp only [ob_cons, ob_nil, and_true, decide_eq_true_eq, Nat.ble_eq, allW_row, true_and]; omega) (good_cond (fun q => ?_) fun q => good_cond (fun q2 => ?_) fun q2 => good_needs (by simp only [ob_cons, ob_nil, and_true, decide_eq_true_eq, Nat.ble_eq, allW_row, true_and]; omega) ?_)
    · rw [Bool.not_eq_true'] at q
      exact fin _ (by rw [mdV, q]; rfl)
    · rw [Bool.not_eq_true'] at q2
      exact fin _ (by rw [mdV, q2, Bool.and_false]; rfl)
    · rw [Bool.not_eq_false'] at q q2
      exact fin _ (by rw [mdV, q, q2]; rfl)
  · cases hF

end Go.Proofs.Ytmdcafhnjihckaa

/- FnMirrored: its tree. Conditions: bytes. -/
namespace Go.Proofs.Ytmdcafhnjihckaa
open Go.RowKit
set_option maxRecDepth 100000

def gmLMd (dl : Nat → (Nat → Int) → List Wh) (v : List Wh → Bool) (ok : Int → Int → Int → Bool → List Wh → Bool) (el : Int → Int → Int → Bool → List Wh → List Wh) (nn : List Wh → List Wh → Int) (yes : List Wh → List Wh → Bool) (fv : List Wh → Int) : Gam := ext (ext (ext (ext (gmMdI ok el nn yes) 43 (specR md_co (FdrO fun m b => frL (dl m b)))) 44 (specR md_ws (FblO v))) 45 (specR md_ws (FblO v))) 23 (specR md_ws (FnmO fv))
theorem lawMd (dl : Nat → (Nat → Int) → List Wh) (v : List Wh → Bool) (ok : Int → Int → Int → Bool → List Wh → Bool) (el : Int → Int → Int → Bool → List Wh → List Wh) (nn : List Wh → List Wh → Int) (yes : List Wh → List Wh → Bool) (fv : List Wh → Int) (m : Nat) (b : Nat → Int) : execF Try.prog (gmLMd dl v ok el nn yes fv) noLam 100 Try.f9 [.sl 0 1 0 0 m none] [.row false m 1 (rowB b) 5] (packK 1)
    = bif decide ((↑m : Int) > (1048576 : Int)) then Res.out Ex.ret [AV.v (Value.bool true)] [AB.row false m (1 : Nat) (rowB b) (5 : TypeId)] else needs [Nat.ble ((0 : Nat) + m) m, okB m fun q ↦ rowB b ((0 : Nat) + q), decide (m ≤ (2097152 : Nat)), Nat.ble (List.length (dl m (itB fun q ↦ rowB b ((0 : Nat) + q)))) (List.length (dl m (itB fun q ↦ rowB b ((0 : Nat) + q)))), allW (List.length (dl m (itB fun q ↦ rowB b ((0 : Nat) + q)))) (row9 (wfun (dl m (itB fun q ↦ rowB b ((0 : Nat) + q))))), decide (List.length (dl m (itB fun q ↦ rowB b ((0 : Nat) + q))) ≤ (274877906944 : Nat)), Nat.ble (List.length (dl m (itB fun q ↦ rowB b ((0 : Nat) + q)))) (List.length (dl m (itB fun q ↦ rowB b ((0 : Nat) + q)))), allW (List.length (dl m (itB fun q ↦ rowB b ((0 : Nat) + q)))) (row9 (wfun (dl m (itB fun q ↦ rowB b ((0 : Nat) + q))))), decide (List.length (dl m (itB fun q ↦ rowB b ((0 : Nat) + q))) ≤ (274877906944 : Nat))] (bif !v (listW (itW (row9 (wfun (dl m (itB fun q ↦ rowB b ((0 : Nat) + q)))))) (List.length (dl m (itB fun q ↦ rowB b ((0 : Nat) + q))))) == v (listW (itW (row9 (wfun (dl m (itB fun q ↦ rowB b ((0 : Nat) + q)))))) (List.length (dl m (itB fun q ↦ rowB b ((0 : Nat) + q))))) then Res.out Ex.ret [AV.v (Value.bool (v (listW (itW (row9 (wfun (dl m (itB fun q ↦ rowB b ((0 : Nat) + q)))))) (List.length (dl m (itB fun q ↦ rowB b ((0 : Nat) + q))))) == v (listW (itW (row9 (wfun (dl m (itB fun q ↦ rowB b ((0 : Nat) + q)))))) (List.length (dl m (itB fun q ↦ rowB b ((0 : Nat) + q)))))))] [AB.row false m (1 : Nat) (rowB b) (5 : TypeId)] else bif !v (listW (itW (row9 (wfun (dl m (itB fun q ↦ rowB b ((0 : Nat) + q)))))) (List.length (dl m (itB fun q ↦ rowB b ((0 : Nat) + q))))) then Res.out Ex.ret [AV.v (Value.bool (v (listW (itW (row9 (wfun (dl m (itB fun q ↦ rowB b ((0 : Nat) + q)))))) (List.length (dl m (itB fun q ↦ rowB b ((0 : Nat) + q))))) == v (listW (itW (row9 (wfun (dl m (itB fun q ↦ rowB b ((0 : Nat) + q)))))) (List.length (dl m (itB fun q ↦ rowB b ((0 : Nat) + q)))))))] [AB.row false m (1 : Nat) (rowB b) (5 : TypeId)] else needs [Nat.ble (List.length (dl m (itB fun q ↦ rowB b ((0 : Nat) + q)))) (List.length (dl m (itB fun q ↦ rowB b ((0 : Nat) + q)))), allW (List.length (dl m (itB fun q ↦ rowB b ((0 : Nat) + q)))) (row9 (wfun (dl m (itB fun q ↦ rowB b ((0 : Nat) + q))))), decide (List.length (dl m (itB fun q ↦ rowB b ((0 : Nat) + q))) ≤ (274877906944 : Nat)), Nat.ble ((0 : Nat) + List.length (el (-1 : Int) (0 : Int) (0 : Int) true (listW (itW (row9 (wfun (dl m (itB fun q ↦ rowB b ((0 : Nat) + q)))))) (List.length (dl m (itB fun q ↦ rowB b ((0 : Nat) + q))))))) (List.length (el (-1 : Int) (0 : Int) (0 : Int) true (listW (itW (row9 (wfun (dl m (itB fun q ↦ rowB b ((0 : Nat) + q)))))) (List.length (dl m (itB fun q ↦ rowB b ((0 : Nat) + q))))))), allW (List.length (el (-1 : Int) (0 : Int) (0 : Int) true (listW (itW (row9 (wfun (dl m (itB fun q ↦ rowB b ((0 : Nat) + q)))))) (List.length (dl m (itB fun q ↦ rowB b ((0 : Nat) + q))))))) fun q ↦ row9 (wfun (el (-1 : Int) (0 : Int) (0 : Int) true (listW (itW (row9 (wfun (dl m (itB fun q ↦ rowB b ((0 : Nat) + q)))))) (List.length (dl m (itB fun q ↦ rowB b ((0 : Nat) + q))))))) ((0 : Nat) + q), decide (List.length (el (-1 : Int) (0 : Int) (0 : Int) true (listW (itW (row9 (wfun (dl m (itB fun q ↦ rowB b ((0 : Nat) + q)))))) (List.length (dl m (itB fun q ↦ rowB b ((0 : Nat) + q)))))) ≤ (274877906944 : Nat)), Nat.ble (List.length (dl m (itB fun q ↦ rowB b ((0 : Nat) + q)))) (List.length (dl m (itB fun q ↦ rowB b ((0 : Nat) + q)))), Nat.ble ((0 : Nat) + List.length (el (-1 : Int) (0 : Int) (0 : Int) false (listW (itW fun q ↦ row9 (wfun (el (-1 : Int) (0 : Int) (0 : Int) true (listW (itW (row9 (wfun (dl m (itB fun q ↦ rowB b ((0 : Nat) + q)))))) (List.length (dl m (itB fun q ↦ rowB b ((0 : Nat) + q))))))) ((0 : Nat) + q)) (List.length (el (-1 : Int) (0 : Int) (0 : Int) true (listW (itW (row9 (wfun (dl m (itB fun q ↦ rowB b ((0 : Nat) + q)))))) (List.length (dl m (itB fun q ↦ rowB b ((0 : Nat) + q)))))))))) (List.length (el (-1 : Int) (0 : Int) (0 : Int) false (listW (itW fun q ↦ row9 (wfun (el (-1 : Int) (0 : Int) (0 : Int) true (listW (itW (row9 (wfun (dl m (itB fun q ↦ rowB b ((0 : Nat) + q)))))) (List.length (dl m (itB fun q ↦ rowB b ((0 : Nat) + q))))))) ((0 : Nat) + q)) (List.length (el (-1 : Int) (0 : Int) (0 : Int) true (listW (itW (row9 (wfun (dl m (itB fun q ↦ rowB b ((0 : Nat) + q)))))) (List.length (dl m (itB fun q ↦ rowB b ((0 : Nat) + q)))))))))), allW (List.length (dl m (itB fun q ↦ rowB b ((0 : Nat) + q)))) (row9 (wfun (dl m (itB fun q ↦ rowB b ((0 : Nat) + q))))), allW (List.length (el (-1 : Int) (0 : Int) (0 : Int) false (listW (itW fun q ↦ row9 (wfun (el (-1 : Int) (0 : Int) (0 : Int) true (listW (itW (row9 (wfun (dl m (itB fun q ↦ rowB b ((0 : Nat) + q)))))) (List.length (dl m (itB fun q ↦ rowB b ((0 : Nat) + q))))))) ((0 : Nat) + q)) (List.length (el (-1 : Int) (0 : Int) (0 : Int) true (listW (itW (row9 (wfun (dl m (itB fun q ↦ rowB b ((0 : Nat) + q)))))) (List.length (dl m (itB fun q ↦ rowB b ((0 : Nat) + q)))))))))) fun q ↦ row9 (wfun (el (-1 : Int) (0 : Int) (0 : Int) false (listW (itW fun q ↦ row9 (wfun (el (-1 : Int) (0 : Int) (0 : Int) true (listW (itW (row9 (wfun (dl m (itB fun q ↦ rowB b ((0 : Nat) + q)))))) (List.length (dl m (itB fun q ↦ rowB b ((0 : Nat) + q))))))) ((0 : Nat) + q)) (List.length (el (-1 : Int) (0 : Int) (0 : Int) true (listW (itW (row9 (wfun (dl m (itB fun q ↦ rowB b ((0 : Nat) + q)))))) (List.length (dl m (itB fun q ↦ rowB b ((0 : Nat) + q)))))))))) ((0 : Nat) + q), decide (List.length (dl m (itB fun q ↦ rowB b ((0 : Nat) + q))) ≤ (274877906944 : Nat)), decide (List.length (el (-1 : Int) (0 : Int) (0 : Int) false (listW (itW fun q ↦ row9 (wfun (el (-1 : Int) (0 : Int) (0 : Int) true (listW (itW (row9 (wfun (dl m (itB fun q ↦ rowB b ((0 : Nat) + q)))))) (List.length (dl m (itB fun q ↦ rowB b ((0 : Nat) + q))))))) ((0 : Nat) + q)) (List.length (el (-1 : Int) (0 : Int) (0 : Int) true (listW (itW (row9 (wfun (dl m (itB fun q ↦ rowB b ((0 : Nat) + q)))))) (List.length (dl m (itB fun q ↦ rowB b ((0 : Nat) + q))))))))) ≤ (274877906944 : Nat))] (bif ok (-1 : Int) (0 : Int) (0 : Int) true (listW (itW (row9 (wfun (dl m (itB fun q ↦ rowB b ((0 : Nat) + q)))))) (List.length (dl m (itB fun q ↦ rowB b ((0 : Nat) + q))))) then bif ok (-1 : Int) (0 : Int) (0 : Int) false (listW (itW fun q ↦ row9 (wfun (el (-1 : Int) (0 : Int) (0 : Int) true (listW (itW (row9 (wfun (dl m (itB fun q ↦ rowB b ((0 : Nat) + q)))))) (List.length (dl m (itB fun q ↦ rowB b ((0 : Nat) + q))))))) ((0 : Nat) + q)) (List.length (el (-1 : Int) (0 : Int) (0 : Int) true (listW (itW (row9 (wfun (dl m (itB fun q ↦ rowB b ((0 : Nat) + q)))))) (List.length (dl m (itB fun q ↦ rowB b ((0 : Nat) + q)))))))) then bif yes (listW (itW (row9 (wfun (dl m (itB fun q ↦ rowB b ((0 : Nat) + q)))))) (List.length (dl m (itB fun q ↦ rowB b ((0 : Nat) + q))))) (listW (itW fun q ↦ row9 (wfun (el (-1 : Int) (0 : Int) (0 : Int) false (listW (itW fun q ↦ row9 (wfun (el (-1 : Int) (0 : Int) (0 : Int) true (listW (itW (row9 (wfun (dl m (itB fun q ↦ rowB b ((0 : Nat) + q)))))) (List.length (dl m (itB fun q ↦ rowB b ((0 : Nat) + q))))))) ((0 : Nat) + q)) (List.length (el (-1 : Int) (0 : Int) (0 : Int) true (listW (itW (row9 (wfun (dl m (itB fun q ↦ rowB b ((0 : Nat) + q)))))) (List.length (dl m (itB fun q ↦ rowB b ((0 : Nat) + q)))))))))) ((0 : Nat) + q)) (List.length (el (-1 : Int) (0 : Int) (0 : Int) false (listW (itW fun q ↦ row9 (wfun (el (-1 : Int) (0 : Int) (0 : Int) true (listW (itW (row9 (wfun (dl m (itB fun q ↦ rowB b ((0 : Nat) + q)))))) (List.length (dl m (itB fun q ↦ rowB b ((0 : Nat) + q))))))) ((0 : Nat) + q)) (List.length (el (-1 : Int) (0 : Int) (0 : Int) true (listW (itW (row9 (wfun (dl m (itB fun q ↦ rowB b ((0 : Nat) + q)))))) (List.length (dl m (itB fun q ↦ rowB b ((0 : Nat) + q))))))))))) then needs [Nat.ble (List.length (dl m (itB fun q ↦ rowB b ((0 : Nat) + q)))) (List.length (dl m (itB fun q ↦ rowB b ((0 : Nat) + q)))), allW (List.length (dl m (itB fun q ↦ rowB b ((0 : Nat) + q)))) (row9 (wfun (dl m (itB fun q ↦ rowB b ((0 : Nat) + q))))), decide (List.length (dl m (itB fun q ↦ rowB b ((0 : Nat) + q))) ≤ (274877906944 : Nat)), Nat.ble ((0 : Nat) + List.length (el (-1 : Int) (0 : Int) (0 : Int) false (listW (itW fun q ↦ row9 (wfun (el (-1 : Int) (0 : Int) (0 : Int) true (listW (itW (row9 (wfun (dl m (itB fun q ↦ rowB b ((0 : Nat) + q)))))) (List.length (dl m (itB fun q ↦ rowB b ((0 : Nat) + q))))))) ((0 : Nat) + q)) (List.length (el (-1 : Int) (0 : Int) (0 : Int) true (listW (itW (row9 (wfun (dl m (itB fun q ↦ rowB b ((0 : Nat) + q)))))) (List.length (dl m (itB fun q ↦ rowB b ((0 : Nat) + q)))))))))) (List.length (el (-1 : Int) (0 : Int) (0 : Int) false (listW (itW fun q ↦ row9 (wfun (el (-1 : Int) (0 : Int) (0 : Int) true (listW (itW (row9 (wfun (dl m (itB fun q ↦ rowB b ((0 : Nat) + q)))))) (List.length (dl m (itB fun q ↦ rowB b ((0 : Nat) + q))))))) ((0 : Nat) + q)) (List.length (el (-1 : Int) (0 : Int) (0 : Int) true (listW (itW (row9 (wfun (dl m (itB fun q ↦ rowB b ((0 : Nat) + q)))))) (List.length (dl m (itB fun q ↦ rowB b ((0 : Nat) + q)))))))))), allW (List.length (el (-1 : Int) (0 : Int) (0 : Int) false (listW (itW fun q ↦ row9 (wfun (el (-1 : Int) (0 : Int) (0 : Int) true (listW (itW (row9 (wfun (dl m (itB fun q ↦ rowB b ((0 : Nat) + q)))))) (List.length (dl m (itB fun q ↦ rowB b ((0 : Nat) + q))))))) ((0 : Nat) + q)) (List.length (el (-1 : Int) (0 : Int) (0 : Int) true (listW (itW (row9 (wfun (dl m (itB fun q ↦ rowB b ((0 : Nat) + q)))))) (List.length (dl m (itB fun q ↦ rowB b ((0 : Nat) + q)))))))))) fun q ↦ row9 (wfun (el (-1 : Int) (0 : Int) (0 : Int) false (listW (itW fun q ↦ row9 (wfun (el (-1 : Int) (0 : Int) (0 : Int) true (listW (itW (row9 (wfun (dl m (itB fun q ↦ rowB b ((0 : Nat) + q)))))) (List.length (dl m (itB fun q ↦ rowB b ((0 : Nat) + q))))))) ((0 : Nat) + q)) (List.length (el (-1 : Int) (0 : Int) (0 : Int) true (listW (itW (row9 (wfun (dl m (itB fun q ↦ rowB b ((0 : Nat) + q)))))) (List.length (dl m (itB fun q ↦ rowB b ((0 : Nat) + q)))))))))) ((0 : Nat) + q), decide (List.length (el (-1 : Int) (0 : Int) (0 : Int) false (listW (itW fun q ↦ row9 (wfun (el (-1 : Int) (0 : Int) (0 : Int) true (listW (itW (row9 (wfun (dl m (itB fun q ↦ rowB b ((0 : Nat) + q)))))) (List.length (dl m (itB fun q ↦ rowB b ((0 : Nat) + q))))))) ((0 : Nat) + q)) (List.length (el (-1 : Int) (0 : Int) (0 : Int) true (listW (itW (row9 (wfun (dl m (itB fun q ↦ rowB b ((0 : Nat) + q)))))) (List.length (dl m (itB fun q ↦ rowB b ((0 : Nat) + q))))))))) ≤ (274877906944 : Nat))] (Res.out Ex.ret [AV.v (Value.bool (fv (listW (itW (row9 (wfun (dl m (itB fun q ↦ rowB b ((0 : Nat) + q)))))) (List.length (dl m (itB fun q ↦ rowB b ((0 : Nat) + q))))) == fv (listW (itW fun q ↦ row9 (wfun (el (-1 : Int) (0 : Int) (0 : Int) false (listW (itW fun q ↦ row9 (wfun (el (-1 : Int) (0 : Int) (0 : Int) true (listW (itW (row9 (wfun (dl m (itB fun q ↦ rowB b ((0 : Nat) + q)))))) (List.length (dl m (itB fun q ↦ rowB b ((0 : Nat) + q))))))) ((0 : Nat) + q)) (List.length (el (-1 : Int) (0 : Int) (0 : Int) true (listW (itW (row9 (wfun (dl m (itB fun q ↦ rowB b ((0 : Nat) + q)))))) (List.length (dl m (itB fun q ↦ rowB b ((0 : Nat) + q)))))))))) ((0 : Nat) + q)) (List.length (el (-1 : Int) (0 : Int) (0 : Int) false (listW (itW fun q ↦ row9 (wfun (el (-1 : Int) (0 : Int) (0 : Int) true (listW (itW (row9 (wfun (dl m (itB fun q ↦ rowB b ((0 : Nat) + q)))))) (List.length (dl m (itB fun q ↦ rowB b ((0 : Nat) + q))))))) ((0 : Nat) + q)) (List.length (el (-1 : Int) (0 : Int) (0 : Int) true (listW (itW (row9 (wfun (dl m (itB fun q ↦ rowB b ((0 : Nat) + q)))))) (List.length (dl m (itB fun q ↦ rowB b ((0 : Nat) + q)))))))))))))] [AB.row false m (1 : Nat) (rowB b) (5 : TypeId)]) else Res.out Ex.ret [AV.v (Value.bool false)] [AB.row false m (1 : Nat) (rowB b) (5 : TypeId)] else Res.out Ex.ret [AV.v (Value.bool false)] [AB.row false m (1 : Nat) (rowB b) (5 : TypeId)] else Res.out Ex.ret [AV.v (Value.bool false)] [AB.row false m (1 : Nat) (rowB b) (5 : TypeId)])) := by kernel_rfl

theorem gmLMd_ok : GamOk Try.prog (gmLMd bEx mdV eachOk eachL aN aY fldV) := ext_ok (ext_ok (ext_ok (ext_ok (ext_ok (ext_ok (ext_ok g0_ok ok_UMi) ok_UBa) ok_akI) ok_drMd) ok_mdI) ok_mdS) ok_foI

end Go.Proofs.Ytmdcafhnjihckaa

/- Akin designs have one fold. No conditions. -/
namespace Go.Proofs.Ytmdcafhnjihckaa
open Go.RowKit
set_option maxRecDepth 100000

theorem aY_spec {A B : List Wh} (h : aY A B = true) : yI A = true ∧ yI B = true ∧ ∃ i : Nat, i < 576 ∧ akHit (tI A) (tI B) i = true ∧ aN A B = i := by
  have h0 := h
  rw [aY, Bool.and_eq_true, Bool.and_eq_true] at h
  obtain ⟨⟨h1, h2⟩, h3⟩ := h
  have h3 := of_decide_eq_true h3
  refine ⟨h1, h2, ?_⟩
  have eN : aN A B = akF (tI A) (tI B) := by rw [aN, h0]; rfl
  unfold akF fh at h3
  cases e : (List.range 576).find? (akHit (tI A) (tI B)) with
  | none =>
    rw [e] at h3
    exact absurd h3 (by decide)
  | some i =>
    have hi := List.mem_range.1 (List.mem_of_find?_eq_some e)
    refine ⟨i, hi, List.find?_some e, ?_⟩
    rw [eN, akF, fh, e]
    exact cdA_eq hi
theorem law_akin_fold {A B : List Wh} (h : aY A B = true) : fldV A = fldV B := by
  obtain ⟨h1, h2, i, _, hh, _⟩ := aY_spec h
  rw [fldV, fldV, h1, h2, cond_true, cond_true]
  exact fld_speeds (akB_speeds (tI_tidy A) hh)

end Go.Proofs.Ytmdcafhnjihckaa

/- FnMirrored returns true, whatever the bytes are. Conditions: bytes. -/
namespace Go.Proofs.Ytmdcafhnjihckaa
open Go.RowKit
set_option maxRecDepth 100000

theorem yes_dmd (m : Nat) (b : Nat → Int) (_ : m ≤ 9223372036854775807) (hb : okB m (rowB b) = true) : ∃ Γ n Λ, GamOk Try.prog Γ ∧ (∀ cc, (Try.f9).body = some cc → LamOk Try.prog 1 Λ cc) ∧ GoodQ (execF Try.prog Γ Λ n Try.f9 [.sl 0 1 0 0 m none] [.row false m 1 (rowB b) 5] (packK 1)) SaysYes := by
  refine ⟨_, 100, noLam, gmLMd_ok, noLam' _, ?_⟩
  rw [lawMd]
  refine good_cond (fun _ => good_out rfl) fun c => ?_
  have c := of_decide_eq_false c
  have hl := bEx_len m b
  simp only [Nat.zero_add, itB_row]
  generalize bEx m b = L at hl ⊢
  have l1 := eachL_len (-1) 0 0 true L
  have l2 := eachL_len (-1) 0 0 false (eachL (-1) 0 0 true L)
  have b21 : decide (m ≤ 2097152) = true := decide_eq_true (by omega)
  simp only [hb, b21, ble_me, allW_row, b38 hl, b38 l1, b38 l2, needs_t, needs_nil, beq_self_eq_true, Bool.not_true, cond_false, listW_me]
  refine good_cond (fun _ => good_out rfl) fun h1 => ?_
  rw [Bool.not_eq_false'] at h1
  rw [mdV, Bool.and_eq_true, Bool.and_eq_true] at h1
  obtain ⟨⟨h1, h2⟩, h3⟩ := h1
  rw [h1, h2, h3, law_akin_fold h3]
  exact say (beq_self_eq_true _)

end Go.Proofs.Ytmdcafhnjihckaa

/- Mirrored designs are akin to their mirror: FnMirrored returns true, whatever the bytes are, and they read as before. No conditions. -/
namespace Go.Proofs.Ytmdcafhnjihckaa
open Go.ChangeShapes Go.WideShapes Go.ChangeAt Go.RowKit

set_option maxRecDepth 100000 in
theorem dmd_lifted (os : Os) (started : os.Started) (H : Type) (enc : TypeId × Value → H) :
    ReturnsInHanded {} Try.checked os 9 .any (Rows.fnMirroredSpec.pre6 enc Try.prog Try.f9 Rows.fnMirroredRow.domain false) (Rows.fnMirroredSpec.post enc Try.prog Try.f9 false true false false) := by
  refine returnsInHanded_of_change (C := Try.checked) own started (by kernel_rfl) Try.func9
    (ChangeSpec.witness6 (enc := enc) (C := Try.checked) false ⟨#[], #[.slice none 0 0], []⟩ 8 (by kernel_rfl) (by kernel_rfl) (by kernel_rfl) (by kernel_rfl)) ?_
  intro W base args ds gs before hval hW _ _
  exact contractB (spec := Rows.fnMirroredSpec) Try.func9 rfl rfl rfl (fun _ _ => rfl) (fun m b hm hb => yes_dmd m b hm hb) H enc W base args ds gs before hval hW

set_option maxRecDepth 100000 in
theorem dmd_f1 : Rows.fnMirroredRow.wf (OpenSpec.ofChange Rows.fnMirroredSpec) = true := by kernel_rfl
set_option maxRecDepth 100000 in
theorem dmd_f2 : (Rows.fnMirroredRow.inPlace == Try.prog.inPlace 9) = true := by kernel_rfl
set_option maxRecDepth 100000 in
theorem dmd_f3 : (Rows.fnMirroredRow.unfollowed == Try.prog.unfollowed 9) = true := by kernel_rfl
set_option maxRecDepth 100000 in
theorem dmd_f4 : (Rows.fnMirroredRow.recurses == Try.prog.recurses 9) = true := by kernel_rfl
set_option maxRecDepth 100000 in
theorem dmd_f5 : (Rows.fnMirroredRow.named == Try.prog.varsNamed 9) = true := by kernel_rfl
set_option maxRecDepth 100000 in
theorem dmd_f6 : Try.prog.funcNamed Rows.fnMirroredRow.func = some 9 := by kernel_rfl
theorem dmd_f7 : (Rows.fnMirroredRow.lifted == Try.prog.liftsFinal) = true := jfG
theorem dmd_f8 : (Try.prog.make == some Rows.fnMirroredRow.make) = true := jfH
theorem dmd_f9 : (Rows.fnMirroredRow.plainKeys == Try.prog.plainKeys) = true := jfI
set_option maxRecDepth 100000 in
theorem dmd_joined : joinedFacts Try.prog 9 Try.f9 Rows.fnMirroredSpec Rows.fnMirroredRow = true := by
  unfold joinedFacts
  rw [jfA, jfB, jfC, jfD, jfE, jfF, dmd_f1, dmd_f2, dmd_f3, dmd_f4, dmd_f5, dmd_f7, dmd_f8, dmd_f9]
  kernel_rfl

theorem dmd_holds : Rows.FnMirroredSaid :=
  OpenClaim.holds_of_wide 9 Try.f9 rfl rfl rfl rfl rfl rfl rfl ⟨rfl, rfl, rfl, rfl, rfl⟩ rfl rfl rfl rfl rfl dmd_f6 Try.func9 dmd_joined
    (of_decide_eq_true (by kernel_rfl)) (by unfold Func.isWrapper; first | (rw [if_pos (by decide +kernel)]; kernel_rfl) | (rw [if_neg (by decide +kernel)]; exact ⟨rfl, rfl⟩))
    (fun os started H enc _ => dmd_lifted os started H enc)
#print axioms dmd_holds
end Go.Proofs.Ytmdcafhnjihckaa
