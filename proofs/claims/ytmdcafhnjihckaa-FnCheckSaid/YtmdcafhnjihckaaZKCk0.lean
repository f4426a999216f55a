/- A sum of a design is the reference sum, and that of the tidied design: FnCheck returns true, whatever the bytes are, and they read as before. No conditions. -/
import Derived.Test.YtmdcafhnjihckaaZD0
import Derived.Test.YtmdcafhnjihckaaZD1
import Derived.Test.YtmdcafhnjihckaaZD2
import Derived.Test.YtmdcafhnjihckaaZD3
import Derived.Test.YtmdcafhnjihckaaZD4
import Derived.Test.YtmdcafhnjihckaaZD5
import Derived.Test.YtmdcafhnjihckaaZD6
/- l1Gcd, the reference's: its word. Conditions: numbers of 64 bits. -/
namespace Go.Proofs.Ytmdcafhnjihckaa
open Go.RowKit
set_option maxRecDepth 100000

abbrev lvGc : Ex → List Nat := lv3 [0, 1] [0] [4]
theorem rndGc (a b : Int) : execC Try.prog g0 100 noLam (loopAt 0 Try.f154) (mkT 0 17 ((lvGc .normal).zip [.v (i64 a), .v (i64 b)])) [] (leafV 17 lvGc 0)
    = bif b != (0 : Int) then needs [!decide (b = (0 : Int))] (Res.out Ex.normal [AV.v (Value.int IntKind.i64 b), AV.v (Value.int IntKind.i64 (Int.tmod a b))] []) else Res.out (Ex.exit (0 : Nat)) [AV.v (Value.int IntKind.i64 a)] [] := by kernel_rfl

noncomputable abbrev lamGc (a b c : Int) : Nat → Option Sum := oneL 0 (atS 17 (lvGc .normal) 0 [.v (i64 a), .v (i64 b)] [] (fun K => K .normal (mkT 0 17 [(0, .v (i64 c))]) []))
theorem treeGc (a b c : Int) : execF Try.prog g0 (lamGc a b c) 100 Try.f154 [.v (i64 a), .v (i64 b)] [] (packK 0)
    = needs [chk ([AV.v (Value.int IntKind.i64 a), AV.v (Value.int IntKind.i64 b)] = [AV.v (Value.int IntKind.i64 a), AV.v (Value.int IntKind.i64 b)] ∧ Hsim [] [])] (Res.out Ex.ret [AV.v (Value.int IntKind.i64 (if IntKind.wrap IntKind.i64 ((0 : Int) - c) > c then IntKind.wrap IntKind.i64 ((0 : Int) - c) else c))] []) := by kernel_rfl

def gcdE : Nat → Int → Int → Int
  | 0, a, _ => a
  | n + 1, a, b => if b = 0 then a else gcdE n b (a.tmod b)

theorem sumGc (a b : Int) : SumOk Try.prog 0 (.block 0 (.loop (loopAt 0 Try.f154))) (atS 17 (lvGc .normal) 0 [.v (i64 a), .v (i64 b)] [] (fun K => K .normal (mkT 0 17 [(0, .v (i64 (gcdE (b.natAbs + 1) a b)))]) [])) := by
  refine loop_at g0_ok (n := 100) (m := 0) (lv := lvGc) (σ := Nat × Int × Int) (fun s => [.v (i64 s.2.1), .v (i64 s.2.2)]) (fun _ => []) (fun s => s.2.2.natAbs < s.1 ∧ gcdE s.1 s.2.1 s.2.2 = gcdE (b.natAbs + 1) a b) (fun s => s.1) (b.natAbs + 1, a, b) (fun _ => noLam) (lv3_ris rfl rfl rfl) (Nat.le_refl _) ⟨Nat.lt_succ_self _, rfl⟩ fun K Q hk s hs => ⟨noLam_ok _ _ _, ?_⟩
  obtain ⟨n, x, y⟩ := s
  obtain ⟨h1, h2⟩ := hs
  rw [rndGc]
  cases n with
  | zero => exact absurd h1 (Nat.not_lt_zero _)
  | succ n =>
    refine good_cond (fun c => ?_) fun c => ?_
    · have c : y ≠ 0 := by simpa using c
      have h2 : gcdE n y (x.tmod y) = gcdE (b.natAbs + 1) a b := by
        rw [← h2]
        show _ = if y = 0 then x else gcdE n y (x.tmod y)
        rw [if_neg c]
      have h1 : y.natAbs < n + 1 := h1
      have h3 : (x.tmod y).natAbs < y.natAbs := by
        rw [Int.natAbs_tmod]
        exact Nat.mod_lt _ (by omega)
      exact good_needs (by simp [obls, c]) (good_out ⟨(n, y, x.tmod y), ⟨⟨by show (x.tmod y).natAbs < n; omega, h2⟩, Nat.lt_succ_self _⟩, rfl, .nil⟩)
    · have c : y = 0 := by simpa using c
      have h2 : x = gcdE (b.natAbs + 1) a b := by
        rw [← h2]
        show _ = if y = 0 then x else gcdE n y (x.tmod y)
        rw [if_pos c]
      refine good_out ⟨_, .nil, ?_⟩
      rw [if_pos rfl]
      rw [← h2] at hk
      exact hk

def gcdF (a b : Int) : Int := if IntKind.wrap IntKind.i64 (0 - gcdE (b.natAbs + 1) a b) > gcdE (b.natAbs + 1) a b then IntKind.wrap IntKind.i64 (0 - gcdE (b.natAbs + 1) a b) else gcdE (b.natAbs + 1) a b
def F_gcd : List SA → Option FR
  | [.v (.int .i64 a), .v (.int .i64 b)] => some { val := .v (i64 (gcdF a b)) }
  | _ => none
theorem ok_gcd : SpecOk Try.prog 154 (specR [.val, .val] F_gcd) := by
  refine specR_hr g0_ok Try.func154 rfl fun sas fr hF ho => ?_
  unfold F_gcd at hF
  split at hF
  · rename_i a b
    cases hF
    refine ⟨[], lamGc a b (gcdE (b.natAbs + 1) a b), 100, .nil, lam1 (by kernel_rfl) (sumGc a b), ?_⟩
    show GoodQ (execF Try.prog g0 (lamGc a b (gcdE (b.natAbs + 1) a b)) 100 Try.f154 [.v (i64 a), .v (i64 b)] [] (packK 0)) _
    rw [treeGc]
    exact good_needs (by rw [ob_cons]; exact ⟨chk_of ⟨rfl, .nil⟩, rfl⟩) (good_out ⟨_, rfl, rfl, .nil⟩)
  · cases hF

end Go.Proofs.Ytmdcafhnjihckaa

/- The reference's RingDesign: trees; greatest common divisors. Conditions: numbers of 64 bits. -/
namespace Go.Proofs.Ytmdcafhnjihckaa
open Go.RowKit
set_option maxRecDepth 100000

theorem gcdE_abs : ∀ (n : Nat) (a b : Int), b.natAbs < n → (gcdE n a b).natAbs = Nat.gcd a.natAbs b.natAbs
  | 0, _, _, h => absurd h (Nat.not_lt_zero _)
  | n + 1, a, b, h => by
    unfold gcdE
    split
    · rename_i hb
      subst hb
      simp
    · rename_i hb
      have e : (a.tmod b).natAbs = a.natAbs % b.natAbs := Int.natAbs_tmod _ _
      have hlt : a.natAbs % b.natAbs < b.natAbs := Nat.mod_lt _ (by omega)
      rw [gcdE_abs n b (a.tmod b) (by omega), e, Nat.gcd_comm a.natAbs, Nat.gcd_rec b.natAbs a.natAbs, Nat.gcd_comm]
/-- The greatest common divisor. -/
theorem gcdF_eq {a b : Int} (ha : -1000000000000 ≤ a ∧ a ≤ 1000000000000) (hb : -1000000000000 ≤ b ∧ b ≤ 1000000000000) : gcdF a b = (Nat.gcd a.natAbs b.natAbs : Int) := by
  have h := gcdE_abs (b.natAbs + 1) a b (Nat.lt_succ_self _)
  have hle : Nat.gcd a.natAbs b.natAbs ≤ 1000000000000 := by
    by_cases h0 : a.natAbs = 0
    · rw [h0, Nat.gcd_zero_left]
      omega
    · exact Nat.le_trans (Nat.gcd_le_left _ (by omega)) (by omega)
  unfold gcdF
  rw [wr_in (by omega)]
  split <;> omega

theorem treeNu (s r : Int) : execF Try.prog g0 noLam 100 Try.f155 [.v (i64 s), .v (i64 r)] [] (packK 0)
    = Res.out Ex.ret [AV.agg [AV.v (Value.int IntKind.i64 s), AV.v (Value.int IntKind.i64 r), AV.v (Value.int IntKind.i64 (0 : Int)), AV.v (Value.int IntKind.i64 (0 : Int)), AV.v (Value.int IntKind.i64 (0 : Int)), AV.v (Value.int IntKind.i64 (0 : Int)), AV.v (Value.int IntKind.i64 (0 : Int)), AV.v (Value.int IntKind.i64 (0 : Int)), AV.v (Value.int IntKind.i64 (0 : Int))]] [] := by kernel_rfl

/-- A wheel with a whole radius. -/
def FnuO : List SA → Option FR
  | [.v (.int .i64 s), .v (.int .i64 r)] => some { val := .agg [.v (i64 s), .v (i64 r), .v (i64 0), .v (i64 0), .v (i64 0), .v (i64 0), .v (i64 0), .v (i64 0), .v (i64 0)] }
  | _ => none
theorem ok_num : SpecOk Try.prog 155 (specR [.val, .val] FnuO) := by
  refine specR_hr g0_ok Try.func155 rfl fun sas fr hF ho => ?_
  unfold FnuO at hF
  split at hF
  · rename_i s r
    cases hF
    refine ⟨[], noLam, 100, .nil, noLam' _, ?_⟩
    show GoodQ (execF Try.prog g0 noLam 100 Try.f155 [.v (i64 s), .v (i64 r)] [] (packK 0)) _
    rw [treeNu]
    exact good_out ⟨_, rfl, rfl, .nil⟩
  · cases hF
def FgcO (gf : Int → Int → Int) : List SA → Option FR
  | [.v (.int .i64 a), .v (.int .i64 b)] => some { val := .v (i64 (gf a b)) }
  | _ => none
theorem specR_sub' {P : Program} {f : FuncId} {mds : List Md} {F F' : List SA → Option FR} (h : ∀ sas fr', F' sas = some fr' → ∃ fr, F sas = some fr ∧ fr.val = fr'.val ∧ fr.new = fr'.new ∧ fr.put = fr'.put ∧ (obls fr'.obl = true → obls fr.obl = true)) (hs : SpecOk P f (specR mds F)) : SpecOk P f (specR mds F') := by
  refine ⟨hs.1, fun avs H base δ ν vals w hS ho hv hr hlt hf hsep => ?_⟩
  unfold specR at hS
  split at hS
  case h_2 => cases hS
  rename_i xs hxs
  split at hS
  case h_2 => cases hS
  rename_i fr' hF
  obtain ⟨fr, e, e1, e2, e3, e4⟩ := h _ _ hF
  split at hS
  case h_2 => cases hS
  rename_i av hav
  cases hc : ((!hasWr mds || nodupB ((ixC mds xs).filterMap id)) && fr'.new.all isRowT && Nat.beq (abP mds (xs.map (·.sa)) fr'.put).length (abC mds (xs.map (·.sa))).length) with
  | false => rw [hc] at hS; cases hS
  | true =>
  rw [hc] at hS
  simp only [cond_true, Option.some.injEq] at hS
  subst hS
  have ho' : obls (xs.flatMap (·.ob)) = true ∧ obls fr'.obl = true := by simpa [obls, List.all_append] using ho
  have hS2 : specR mds F avs H base = some { val := av, rd := (ixC mds xs).filterMap id, put := putC (ixC mds xs) (abP mds (xs.map (·.sa)) fr'.put), new := fr'.new, obl := xs.flatMap (·.ob) ++ fr.obl } := by
    unfold specR
    rw [hxs]
    simp only [e]
    rw [e1, e2, e3, hav]
    simp only [hc]
    rfl
  refine (hs.2 avs H base _ ν vals w hS2 (by simpa [obls, List.all_append] using And.intro ho'.1 (e4 ho'.2)) hv hr hlt hf hsep).mono ?_
  rintro e w' ⟨v, ν', rfl, d⟩
  exact ⟨v, ν', rfl, d.le, d.dom, d.val, d.put, d.new, d.os, d.tape, d.output, d.size, d.block, d.fresh, d.apart⟩
/-- l5Tidy of two wheels. -/
def Fti2 (ti : List Wh → List Wh) (okt : List Wh → Bool) : List SA → Option FR
  | [.row 2 g] => match g 0, g 1 with
    | [.int .i64 a0, .int .i64 a1, .int .i64 a2, .int .i64 a3, .int .i64 a4, .int .i64 a5, .int .i64 a6, .int .i64 a7, .int .i64 a8], [.int .i64 b0, .int .i64 b1, .int .i64 b2, .int .i64 b3, .int .i64 b4, .int .i64 b5, .int .i64 b6, .int .i64 b7, .int .i64 b8] => some { val := .tup [.own 0 (ti [⟨a0, ⟨a1, a2, a3, a4, a5, a6, a7, a8⟩⟩, ⟨b0, ⟨b1, b2, b3, b4, b5, b6, b7, b8⟩⟩]).length, .v (.bool (okt [⟨a0, ⟨a1, a2, a3, a4, a5, a6, a7, a8⟩⟩, ⟨b0, ⟨b1, b2, b3, b4, b5, b6, b7, b8⟩⟩]))], new := [.row true (ti [⟨a0, ⟨a1, a2, a3, a4, a5, a6, a7, a8⟩⟩, ⟨b0, ⟨b1, b2, b3, b4, b5, b6, b7, b8⟩⟩]).length 9 (row9 (wfun (ti [⟨a0, ⟨a1, a2, a3, a4, a5, a6, a7, a8⟩⟩, ⟨b0, ⟨b1, b2, b3, b4, b5, b6, b7, b8⟩⟩]))) 46] }
    | _, _ => none
  | _ => none
theorem ok_ti2 : SpecOk Try.prog 62 (specR md_ws (Fti2 tidyL okT)) := by
  have h := ok_tidyS
  rw [← FtidyO_eq] at h
  refine specR_sub' (fun sas fr hF => ?_) h
  unfold Fti2 at hF
  split at hF
  · rename_i g
    split at hF
    · rename_i a0 a1 a2 a3 a4 a5 a6 a7 a8 b0 b1 b2 b3 b4 b5 b6 b7 b8 e0 e1
      cases hF
      have hL : listW (itW g) 2 = [⟨a0, ⟨a1, a2, a3, a4, a5, a6, a7, a8⟩⟩, ⟨b0, ⟨b1, b2, b3, b4, b5, b6, b7, b8⟩⟩] := by
        show [whOf (itW g 0), whOf (itW g 1)] = _
        unfold whOf itW
        rw [e0, e1]
        rfl
      refine ⟨_, rfl, by simp only [hL], by simp only [hL], rfl, ?_⟩
      · have ha : allW 2 g = true := List.all_eq_true.2 fun j hj => by
          have hj : j < 2 := by simpa using hj
          rcases (by omega : j = 0 ∨ j = 1) with rfl | rfl
          · rw [e0]; rfl
          · rw [e1]; rfl
        intro _
        simp only [ob_cons, ob_nil, and_true]
        exact ⟨ha, by decide⟩
    · cases hF
  · cases hF
def gmRd (gf : Int → Int → Int) (ti : List Wh → List Wh) (okt : List Wh → Bool) : Gam := ext (ext (ext gm_l6In 154 (specR [.val, .val] (FgcO gf))) 155 (specR [.val, .val] FnuO)) 62 (specR md_ws (Fti2 ti okt))
theorem treeRd (gf : Int → Int → Int) (ti : List Wh → List Wh) (okt : List Wh → Bool) (a b : Int) (c : Bool) (d : Int) : execF Try.prog (gmRd gf ti okt) noLam 100 Try.f125 [.v (i64 a), .v (i64 b), .v (.bool c), .v (i64 d)] [] (packK 0)
    = bif !inR a (6 : Int) (240 : Int) then Res.out Ex.ret [AV.tup [AV.own (0 : Nat) (0 : Nat), AV.v (Value.bool false)]] [AB.row true (0 : Nat) (9 : Nat) (fun _ ↦ []) (46 : Nat)] else bif !inR b (6 : Int) (240 : Int) then Res.out Ex.ret [AV.tup [AV.own (0 : Nat) (0 : Nat), AV.v (Value.bool false)]] [AB.row true (0 : Nat) (9 : Nat) (fun _ ↦ []) (46 : Nat)] else bif c then bif decide (b ≥ a) then Res.out Ex.ret [AV.tup [AV.own (0 : Nat) (0 : Nat), AV.v (Value.bool false)]] [AB.row true (0 : Nat) (9 : Nat) (fun _ ↦ []) (46 : Nat)] else needs [!decide (gf a b = (0 : Int))] (bif !inR d (-300 : Int) (300 : Int) then Res.out Ex.ret [AV.tup [AV.own (0 : Nat) (0 : Nat), AV.v (Value.bool false)]] [AB.row true (0 : Nat) (9 : Nat) (fun _ ↦ []) (46 : Nat)] else bif c then needs [!decide (gf a b = (0 : Int)), !decide (gf a b = (0 : Int))] (Res.out Ex.ret [AV.tup [AV.own (0 : Nat) (List.length (ti [Wh.mk (IntKind.wrap IntKind.i64 (Int.tdiv b (gf a b))) (Cy.mk (IntKind.wrap IntKind.i64 (a - b)) (0 : Int) (0 : Int) (0 : Int) (0 : Int) (0 : Int) (0 : Int) (0 : Int)), Wh.mk (IntKind.wrap IntKind.i64 (Int.tdiv (IntKind.wrap IntKind.i64 (b - a)) (gf a b))) (Cy.mk d (0 : Int) (0 : Int) (0 : Int) (0 : Int) (0 : Int) (0 : Int) (0 : Int))])), AV.v (Value.bool (okt [Wh.mk (IntKind.wrap IntKind.i64 (Int.tdiv b (gf a b))) (Cy.mk (IntKind.wrap IntKind.i64 (a - b)) (0 : Int) (0 : Int) (0 : Int) (0 : Int) (0 : Int) (0 : Int) (0 : Int)), Wh.mk (IntKind.wrap IntKind.i64 (Int.tdiv (IntKind.wrap IntKind.i64 (b - a)) (gf a b))) (Cy.mk d (0 : Int) (0 : Int) (0 : Int) (0 : Int) (0 : Int) (0 : Int) (0 : Int))]))]] [AB.row true (List.length (ti [Wh.mk (IntKind.wrap IntKind.i64 (Int.tdiv b (gf a b))) (Cy.mk (IntKind.wrap IntKind.i64 (a - b)) (0 : Int) (0 : Int) (0 : Int) (0 : Int) (0 : Int) (0 : Int) (0 : Int)), Wh.mk (IntKind.wrap IntKind.i64 (Int.tdiv (IntKind.wrap IntKind.i64 (b - a)) (gf a b))) (Cy.mk d (0 : Int) (0 : Int) (0 : Int) (0 : Int) (0 : Int) (0 : Int) (0 : Int))])) (9 : Nat) (row9 (wfun (ti [Wh.mk (IntKind.wrap IntKind.i64 (Int.tdiv b (gf a b))) (Cy.mk (IntKind.wrap IntKind.i64 (a - b)) (0 : Int) (0 : Int) (0 : Int) (0 : Int) (0 : Int) (0 : Int) (0 : Int)), Wh.mk (IntKind.wrap IntKind.i64 (Int.tdiv (IntKind.wrap IntKind.i64 (b - a)) (gf a b))) (Cy.mk d (0 : Int) (0 : Int) (0 : Int) (0 : Int) (0 : Int) (0 : Int) (0 : Int))]))) (46 : TypeId)]) else needs [!decide (gf a b = (0 : Int)), !decide (gf a b = (0 : Int))] (Res.out Ex.ret [AV.tup [AV.own (0 : Nat) (List.length (ti [Wh.mk (IntKind.wrap IntKind.i64 (Int.tdiv b (gf a b))) (Cy.mk (IntKind.wrap IntKind.i64 (a + b)) (0 : Int) (0 : Int) (0 : Int) (0 : Int) (0 : Int) (0 : Int) (0 : Int)), Wh.mk (IntKind.wrap IntKind.i64 (Int.tdiv (IntKind.wrap IntKind.i64 (a + b)) (gf a b))) (Cy.mk (IntKind.wrap IntKind.i64 ((0 : Int) - d)) (0 : Int) (0 : Int) (0 : Int) (0 : Int) (0 : Int) (0 : Int) (0 : Int))])), AV.v (Value.bool (okt [Wh.mk (IntKind.wrap IntKind.i64 (Int.tdiv b (gf a b))) (Cy.mk (IntKind.wrap IntKind.i64 (a + b)) (0 : Int) (0 : Int) (0 : Int) (0 : Int) (0 : Int) (0 : Int) (0 : Int)), Wh.mk (IntKind.wrap IntKind.i64 (Int.tdiv (IntKind.wrap IntKind.i64 (a + b)) (gf a b))) (Cy.mk (IntKind.wrap IntKind.i64 ((0 : Int) - d)) (0 : Int) (0 : Int) (0 : Int) (0 : Int) (0 : Int) (0 : Int) (0 : Int))]))]] [AB.row true (List.length (ti [Wh.mk (IntKind.wrap IntKind.i64 (Int.tdiv b (gf a b))) (Cy.mk (IntKind.wrap IntKind.i64 (a + b)) (0 : Int) (0 : Int) (0 : Int) (0 : Int) (0 : Int) (0 : Int) (0 : Int)), Wh.mk (IntKind.wrap IntKind.i64 (Int.tdiv (IntKind.wrap IntKind.i64 (a + b)) (gf a b))) (Cy.mk (IntKind.wrap IntKind.i64 ((0 : Int) - d)) (0 : Int) (0 : Int) (0 : Int) (0 : Int) (0 : Int) (0 : Int) (0 : Int))])) (9 : Nat) (row9 (wfun (ti [Wh.mk (IntKind.wrap IntKind.i64 (Int.tdiv b (gf a b))) (Cy.mk (IntKind.wrap IntKind.i64 (a + b)) (0 : Int) (0 : Int) (0 : Int) (0 : Int) (0 : Int) (0 : Int) (0 : Int)), Wh.mk (IntKind.wrap IntKind.i64 (Int.tdiv (IntKind.wrap IntKind.i64 (a + b)) (gf a b))) (Cy.mk (IntKind.wrap IntKind.i64 ((0 : Int) - d)) (0 : Int) (0 : Int) (0 : Int) (0 : Int) (0 : Int) (0 : Int) (0 : Int))]))) (46 : TypeId)])) else needs [!decide (gf a b = (0 : Int))] (bif !inR d (-300 : Int) (300 : Int) then Res.out Ex.ret [AV.tup [AV.own (0 : Nat) (0 : Nat), AV.v (Value.bool false)]] [AB.row true (0 : Nat) (9 : Nat) (fun _ ↦ []) (46 : Nat)] else bif c then needs [!decide (gf a b = (0 : Int)), !decide (gf a b = (0 : Int))] (Res.out Ex.ret [AV.tup [AV.own (0 : Nat) (List.length (ti [Wh.mk (IntKind.wrap IntKind.i64 (Int.tdiv b (gf a b))) (Cy.mk (IntKind.wrap IntKind.i64 (a - b)) (0 : Int) (0 : Int) (0 : Int) (0 : Int) (0 : Int) (0 : Int) (0 : Int)), Wh.mk (IntKind.wrap IntKind.i64 (Int.tdiv (IntKind.wrap IntKind.i64 (b - a)) (gf a b))) (Cy.mk d (0 : Int) (0 : Int) (0 : Int) (0 : Int) (0 : Int) (0 : Int) (0 : Int))])), AV.v (Value.bool (okt [Wh.mk (IntKind.wrap IntKind.i64 (Int.tdiv b (gf a b))) (Cy.mk (IntKind.wrap IntKind.i64 (a - b)) (0 : Int) (0 : Int) (0 : Int) (0 : Int) (0 : Int) (0 : Int) (0 : Int)), Wh.mk (IntKind.wrap IntKind.i64 (Int.tdiv (IntKind.wrap IntKind.i64 (b - a)) (gf a b))) (Cy.mk d (0 : Int) (0 : Int) (0 : Int) (0 : Int) (0 : Int) (0 : Int) (0 : Int))]))]] [AB.row true (List.length (ti [Wh.mk (IntKind.wrap IntKind.i64 (Int.tdiv b (gf a b))) (Cy.mk (IntKind.wrap IntKind.i64 (a - b)) (0 : Int) (0 : Int) (0 : Int) (0 : Int) (0 : Int) (0 : Int) (0 : Int)), Wh.mk (IntKind.wrap IntKind.i64 (Int.tdiv (IntKind.wrap IntKind.i64 (b - a)) (gf a b))) (Cy.mk d (0 : Int) (0 : Int) (0 : Int) (0 : Int) (0 : Int) (0 : Int) (0 : Int))])) (9 : Nat) (row9 (wfun (ti [Wh.mk (IntKind.wrap IntKind.i64 (Int.tdiv b (gf a b))) (Cy.mk (IntKind.wrap IntKind.i64 (a - b)) (0 : Int) (0 : Int) (0 : Int) (0 : Int) (0 : Int) (0 : Int) (0 : Int)), Wh.mk (IntKind.wrap IntKind.i64 (Int.tdiv (IntKind.wrap IntKind.i64 (b - a)) (gf a b))) (Cy.mk d (0 : Int) (0 : Int) (0 : Int) (0 : Int) (0 : Int) (0 : Int) (0 : Int))]))) (46 : TypeId)]) else needs [!decide (gf a b = (0 : Int)), !decide (gf a b = (0 : Int))] (Res.out Ex.ret [AV.tup [AV.own (0 : Nat) (List.length (ti [Wh.mk (IntKind.wrap IntKind.i64 (Int.tdiv b (gf a b))) (Cy.mk (IntKind.wrap IntKind.i64 (a + b)) (0 : Int) (0 : Int) (0 : Int) (0 : Int) (0 : Int) (0 : Int) (0 : Int)), Wh.mk (IntKind.wrap IntKind.i64 (Int.tdiv (IntKind.wrap IntKind.i64 (a + b)) (gf a b))) (Cy.mk (IntKind.wrap IntKind.i64 ((0 : Int) - d)) (0 : Int) (0 : Int) (0 : Int) (0 : Int) (0 : Int) (0 : Int) (0 : Int))])), AV.v (Value.bool (okt [Wh.mk (IntKind.wrap IntKind.i64 (Int.tdiv b (gf a b))) (Cy.mk (IntKind.wrap IntKind.i64 (a + b)) (0 : Int) (0 : Int) (0 : Int) (0 : Int) (0 : Int) (0 : Int) (0 : Int)), Wh.mk (IntKind.wrap IntKind.i64 (Int.tdiv (IntKind.wrap IntKind.i64 (a + b)) (gf a b))) (Cy.mk (IntKind.wrap IntKind.i64 ((0 : Int) - d)) (0 : Int) (0 : Int) (0 : Int) (0 : Int) (0 : Int) (0 : Int) (0 : Int))]))]] [AB.row true (List.length (ti [Wh.mk (IntKind.wrap IntKind.i64 (Int.tdiv b (gf a b))) (Cy.mk (IntKind.wrap IntKind.i64 (a + b)) (0 : Int) (0 : Int) (0 : Int) (0 : Int) (0 : Int) (0 : Int) (0 : Int)), Wh.mk (IntKind.wrap IntKind.i64 (Int.tdiv (IntKind.wrap IntKind.i64 (a + b)) (gf a b))) (Cy.mk (IntKind.wrap IntKind.i64 ((0 : Int) - d)) (0 : Int) (0 : Int) (0 : Int) (0 : Int) (0 : Int) (0 : Int) (0 : Int))])) (9 : Nat) (row9 (wfun (ti [Wh.mk (IntKind.wrap IntKind.i64 (Int.tdiv b (gf a b))) (Cy.mk (IntKind.wrap IntKind.i64 (a + b)) (0 : Int) (0 : Int) (0 : Int) (0 : Int) (0 : Int) (0 : Int) (0 : Int)), Wh.mk (IntKind.wrap IntKind.i64 (Int.tdiv (IntKind.wrap IntKind.i64 (a + b)) (gf a b))) (Cy.mk (IntKind.wrap IntKind.i64 ((0 : Int) - d)) (0 : Int) (0 : Int) (0 : Int) (0 : Int) (0 : Int) (0 : Int) (0 : Int))]))) (46 : TypeId)])) := by kernel_rfl

/-- The ring design that is drawn. -/
def FrdO (rd : Int → Int → Bool → Int → List Wh) (ro : Int → Int → Bool → Int → Bool) : List SA → Option FR
  | [.v (.int .i64 a), .v (.int .i64 b), .v (.bool c), .v (.int .i64 d)] => some { val := .tup [.own 0 (rd a b c d).length, .v (.bool (ro a b c d))], new := [.row true (rd a b c d).length 9 (row9 (wfun (rd a b c d))) 46] }
  | _ => none
def rnP (a b : Int) (c : Bool) (d : Int) : Bool := inR a 6 240 && (inR b 6 240 && (!(c && decide (b ≥ a)) && inR d (-300) 300))
def rnW (a b : Int) (c : Bool) (d : Int) : List Wh := bif c then [⟨IntKind.wrap IntKind.i64 (Int.tdiv b (gcdF a b)), ⟨IntKind.wrap IntKind.i64 (a - b), 0, 0, 0, 0, 0, 0, 0⟩⟩, ⟨IntKind.wrap IntKind.i64 (Int.tdiv (IntKind.wrap IntKind.i64 (b - a)) (gcdF a b)), ⟨d, 0, 0, 0, 0, 0, 0, 0⟩⟩] else [⟨IntKind.wrap IntKind.i64 (Int.tdiv b (gcdF a b)), ⟨IntKind.wrap IntKind.i64 (a + b), 0, 0, 0, 0, 0, 0, 0⟩⟩, ⟨IntKind.wrap IntKind.i64 (Int.tdiv (IntKind.wrap IntKind.i64 (a + b)) (gcdF a b)), ⟨IntKind.wrap IntKind.i64 (0 - d), 0, 0, 0, 0, 0, 0, 0⟩⟩]
def rnL (a b : Int) (c : Bool) (d : Int) : List Wh := bif rnP a b c d then tidyL (rnW a b c d) else []
def rnO (a b : Int) (c : Bool) (d : Int) : Bool := rnP a b c d && okT (rnW a b c d)
theorem gmRd_ok : GamOk Try.prog (gmRd gcdF tidyL okT) := by
  refine ext_ok (ext_ok (ext_ok gm_l6In_ok ?_) ok_num) ok_ti2
  have e : FgcO gcdF = F_gcd := by funext l; rfl
  rw [e]
  exact ok_gcd
theorem gcd_nz {a b : Int} (ha : inR a 6 240 = true) (hb : inR b 6 240 = true) : gcdF a b ≠ 0 := by
  have ha := inR_iff.1 ha
  have hb := inR_iff.1 hb
  rw [gcdF_eq (by omega) (by omega)]
  have : 0 < Nat.gcd a.natAbs b.natAbs := Nat.gcd_pos_of_pos_left _ (by omega)
  omega
theorem rnL_no {a b : Int} {c : Bool} {d : Int} (h : rnP a b c d = false) : rnL a b c d = [] ∧ rnO a b c d = false := ⟨by rw [rnL, h]; rfl, by rw [rnO, h]; rfl⟩
theorem rnL_yes {a b : Int} {c : Bool} {d : Int} (h : rnP a b c d = true) : rnL a b c d = tidyL (rnW a b c d) ∧ rnO a b c d = okT (rnW a b c d) := ⟨by rw [rnL, h]; rfl, by rw [rnO, h, Bool.true_and]⟩
theorem rnL_len (a b : Int) (c : Bool) (d : Int) : (rnL a b c d).length ≤ 12 := by
  cases h : rnP a b c d with
  | false => rw [(rnL_no h).1]; exact Nat.zero_le _
  | true =>
    rw [(rnL_yes h).1]
    cases ht : okT (rnW a b c d) with
    | true => exact tidyL_len ht
    | false => rw [tidyL_no ht]; exact Nat.zero_le _
theorem ok_rd : SpecOk Try.prog 125 (specR [.val, .val, .val, .val] (FrdO rnL rnO)) := by
  refine specR_hr gmRd_ok Try.func125 rfl fun sas fr hF ho => ?_
  unfold FrdO at hF
  split at hF
  · rename_i a b c d
    cases hF
    refine ⟨[], noLam, 100, .nil, noLam' _, ?_⟩
    show GoodQ (execF Try.prog (gmRd gcdF tidyL okT) noLam 100 Try.f125 [.v (i64 a), .v (i64 b), .v (.bool c), .v (i64 d)] [] (packK 0)) _
    rw [treeRd]
    have bad : rnP a b c d = false → GoodQ (.out .ret [.tup [.own 0 0, .v (.bool false)]] [.row true 0 9 (fun _ => []) 46]) (GivR (abP [.val, .val, .val, .val] [.v (.int .i64 a), .v (.int .i64 b), .v (.bool c), .v (.int .i64 d)] []) { val := .tup [.own 0 (rnL a b c d).length, .v (.bool (rnO a b c d))], new := [.row true (rnL a b c d).length 9 (row9 (wfun (rnL a b c d))) 46] }) := by
      intro h
      rw [(rnL_no h).1, (rnL_no h).2]
      exact good_out ⟨_, rfl, rfl, .cons (ABeq.row fun j hj => absurd hj (Nat.not_lt_zero _)) .nil⟩
    have yes : ∀ M : List Wh, rnP a b c d = true → rnW a b c d = M → GoodQ (.out .ret [.tup [.own 0 (tidyL M).length, .v (.bool (okT M))]] [.row true (tidyL M).length 9 (row9 (wfun (tidyL M))) 46]) (GivR (abP [.val, .val, .val, .val] [.v (.int .i64 a), .v (.int .i64 b), .v (.bool c), .v (.int .i64 d)] []) { val := .tup [.own 0 (rnL a b c d).length, .v (.bool (rnO a b c d))], new := [.row true (rnL a b c d).length 9 (row9 (wfun (rnL a b c d))) 46] }) := by
      rintro M h rfl
      rw [(rnL_yes h).1, (rnL_yes h).2]
      exact good_out ⟨_, rfl, rfl, Hsim.refl _⟩
    cases h1 : inR a 6 240 with
    | false => exact good_true rfl (bad (by rw [rnP, h1]; rfl))
    | true =>
    refine good_false rfl ?_
    cases h2 : inR b 6 240 with
    | false => exact good_true rfl (bad (by rw [rnP, h1, h2]; rfl))
    | true =>
    refine good_false rfl ?_
    have hz : decide (gcdF a b = 0) = false := decide_eq_false (gcd_nz h1 h2)
    rw [hz]
    cases c with
    | true =>
      refine good_true rfl ?_
      cases h3 : decide (b ≥ a) with
      | true => exact good_true rfl (bad (by rw [rnP, h1, h2, h3]; rfl))
      | false =>
      refine good_false rfl (good_needs rfl ?_)
      cases h4 : inR d (-300) 300 with
      | false => exact good_true rfl (bad (by rw [rnP, h1, h2, h3, h4]; rfl))
      | true => exact good_false rfl (good_true rfl (good_needs rfl (yes _ (by rw [rnP, h1, h2, h3, h4]; rfl) rfl)))
    | false =>
      refine good_false rfl (good_needs rfl ?_)
      cases h4 : inR d (-300) 300 with
      | false => exact good_true rfl (bad (by rw [rnP, h1, h2, h4]; rfl))
      | true => exact good_false rfl (good_false rfl (good_needs rfl (yes _ (by rw [rnP, h1, h2, h4]; rfl) rfl)))
  · cases hF

end Go.Proofs.Ytmdcafhnjihckaa

/- l92Design: its trees. Conditions: those of pick. -/
namespace Go.Proofs.Ytmdcafhnjihckaa
open Go.RowKit
set_option maxRecDepth 100000

noncomputable abbrev fD2 : Func := Try.f69
def gmD2 (pk : Nat → (Nat → Int) → Int → Int → Int) (cf : Nat → (Nat → Int) → Int → Nat → Int) (cp : Nat → (Nat → Int) → Int → Int) : Gam := ext (gmPk pk) 126 (specK [] (FcyO cf cp))
abbrev lvD2 : Ex → List Nat := lv3 [0, 5, 6, 7, 8, 9] [7] [2]
abbrev stD2 (st fi : Int) (n : Nat) (i : Nat) : List AV := [.ptr 0 0 0 0, .v (i64 st), .v (i64 fi), .own 2 i, .v (i64 n), .v (i64 i)]
theorem rndD2 (pk : Nat → (Nat → Int) → Int → Int → Int) (cf : Nat → (Nat → Int) → Int → Nat → Int) (cp : Nat → (Nat → Int) → Int → Int) (l : Nat) (c : Option Nat) (p : Int) (m : Nat) (b : Nat → Int) (tr tb : TypeId) (h : Nat → Nat → Int) (st fi : Int) (n : Nat) (i : Nat) : execC Try.prog (gmD2 pk cf cp) 100 noLam (loopAt 1 fD2) (mkT 0 65 ((lvD2 .normal).zip (stD2 st fi n i))) (hpDs l c p m b tr tb i h) (leafV 65 lvD2 2)
    = bif decide ((↑i : Int) < (↑n : Int)) then needs [okB m (rowB b), decide (l ≤ m), decide ((0 : Int) ≤ p), decide (p ≤ (1073741824 : Int)), decide ((0 : Nat) < m), okB m (rowB b), decide (l ≤ m), decide ((0 : Int) ≤ p + (1 : Int)), decide (p + (1 : Int) ≤ (536870912 : Int)), decide ((0 : Nat) < m), decide ((0 : Nat) < m), Nat.ble i i, Nat.ble (i + (1 : Nat)) (549755813888 : Nat)] (Res.out Ex.normal [AV.ptr (0 : Nat) (0 : Nat) (0 : Nat) (0 : Nat), AV.v (Value.int IntKind.i64 st), AV.v (Value.int IntKind.i64 fi), AV.own (2 : Nat) (i + (1 : Nat)), AV.v (Value.int IntKind.i64 (↑n : Int)), AV.v (Value.int IntKind.i64 (IntKind.wrap IntKind.i64 ((↑i : Int) + (1 : Int))))] [AB.cells [AV.sl (1 : Nat) (1 : Nat) (0 : Nat) (0 : Nat) l c, AV.v (Value.int IntKind.i64 (cp l (itB (rowB b)) (p + (1 : Int))))] tr, AB.row false m (1 : Nat) (rowB b) tb, AB.row true (i + (1 : Nat)) (9 : Nat) (fun q ↦ [Value.int IntKind.i64 (bif Nat.blt q i then h q (0 : Nat) else IntKind.wrap IntKind.i64 (fi + IntKind.wrap IntKind.i64 (st * IntKind.wrap IntKind.i64 (pk l (itB (rowB b)) p (5 : Int) - (2 : Int))))), Value.int IntKind.i64 (bif Nat.blt q i then h q (1 : Nat) else cf l (itB (rowB b)) (p + (1 : Int)) (0 : Nat)), Value.int IntKind.i64 (bif Nat.blt q i then h q (2 : Nat) else cf l (itB (rowB b)) (p + (1 : Int)) (1 : Nat)), Value.int IntKind.i64 (bif Nat.blt q i then h q (3 : Nat) else cf l (itB (rowB b)) (p + (1 : Int)) (2 : Nat)), Value.int IntKind.i64 (bif Nat.blt q i then h q (4 : Nat) else cf l (itB (rowB b)) (p + (1 : Int)) (3 : Nat)), Value.int IntKind.i64 (bif Nat.blt q i then h q (5 : Nat) else cf l (itB (rowB b)) (p + (1 : Int)) (4 : Nat)), Value.int IntKind.i64 (bif Nat.blt q i then h q (6 : Nat) else cf l (itB (rowB b)) (p + (1 : Int)) (5 : Nat)), Value.int IntKind.i64 (bif Nat.blt q i then h q (7 : Nat) else cf l (itB (rowB b)) (p + (1 : Int)) (6 : Nat)), Value.int IntKind.i64 (bif Nat.blt q i then h q (8 : Nat) else cf l (itB (rowB b)) (p + (1 : Int)) (7 : Nat))]) (46 : Nat)]) else Res.out (Ex.exit (1 : Nat)) [AV.own (2 : Nat) i] [AB.cells [AV.sl (1 : Nat) (1 : Nat) (0 : Nat) (0 : Nat) l c, AV.v (Value.int IntKind.i64 p)] tr, AB.row false m (1 : Nat) (rowB b) tb, AB.row true i (9 : Nat) (row9 h) (46 : TypeId)] := by kernel_rfl

noncomputable abbrev lamD2 (l : Nat) (c : Option Nat) (m : Nat) (b : Nat → Int) (tr tb : TypeId) (st fi : Int) (n : Nat) (p1 p2 : Int) (h : Nat → Nat → Int) : Nat → Option Sum := oneL 1 (atS 65 (lvD2 .normal) 2 (stD2 st fi n 0) (hpDs l c p1 m b tr tb 0 (wfun [])) (fun K => K .normal (mkT 0 65 [(7, .own 2 n)]) (hpDs l c p2 m b tr tb n h)))
def gmE2D (pk : Nat → (Nat → Int) → Int → Int → Int) (dl : Nat → (Nat → Int) → Int → List Wh) (dp : Nat → (Nat → Int) → Int → Int) (rd : Int → Int → Bool → Int → List Wh) (ro : Int → Int → Bool → Int → Bool) : Gam := ext (ext (gmPk pk) 107 (specK [] (FdgO dl dp))) 125 (specR [.val, .val, .val, .val] (FrdO rd ro))
theorem treeD2 (pk : Nat → (Nat → Int) → Int → Int → Int) (dl : Nat → (Nat → Int) → Int → List Wh) (dp : Nat → (Nat → Int) → Int → Int) (rd : Int → Int → Bool → Int → List Wh) (ro : Int → Int → Bool → Int → Bool) (l : Nat) (c : Option Nat) (p : Int) (m : Nat) (b : Nat → Int) (tr tb : TypeId) (st fi : Int) (n : Nat) (p1 p2 : Int) (h : Nat → Nat → Int) : execF Try.prog (gmE2D pk dl dp rd ro) (lamD2 l c m b tr tb st fi n p1 p2 h) 100 fD2 [.ptr 0 0 0 0] (hpRd l c p m b tr tb) (packK 2)
    = needs [okB m (rowB b), decide (l ≤ m), decide ((0 : Int) ≤ p), decide (p ≤ (1073741824 : Int)), decide ((0 : Nat) < m)] (bif pk l (itB (rowB b)) p (4 : Int) == (0 : Int) then needs [okB m (rowB b), decide (l ≤ m), decide ((0 : Int) ≤ p + (1 : Int)), decide (p + (1 : Int) ≤ (134217728 : Int)), decide ((0 : Nat) < m), decide ((0 : Nat) < m)] (Res.out Ex.ret [AV.own (2 : Nat) (List.length (dl l (itB (rowB b)) (p + (1 : Int))))] [AB.cells [AV.sl (1 : Nat) (1 : Nat) (0 : Nat) (0 : Nat) l c, AV.v (Value.int IntKind.i64 (dp l (itB (rowB b)) (p + (1 : Int))))] tr, AB.row false m (1 : Nat) (rowB b) tb, AB.row true (List.length (dl l (itB (rowB b)) (p + (1 : Int)))) (9 : Nat) (row9 (wfun (dl l (itB (rowB b)) (p + (1 : Int))))) (46 : TypeId)]) else bif pk l (itB (rowB b)) p (4 : Int) == (1 : Int) then needs [okB m (rowB b), decide (l ≤ m), decide ((0 : Int) ≤ p + (1 : Int)), decide (p + (1 : Int) ≤ (1073741824 : Int)), decide ((0 : Nat) < m), okB m (rowB b), decide (l ≤ m), decide ((0 : Int) ≤ p + (1 : Int) + (1 : Int)), decide (p + (1 : Int) + (1 : Int) ≤ (1073741824 : Int)), decide ((0 : Nat) < m), okB m (rowB b), decide (l ≤ m), decide ((0 : Int) ≤ p + (1 : Int) + (1 : Int) + (1 : Int)), decide (p + (1 : Int) + (1 : Int) + (1 : Int) ≤ (1073741824 : Int)), decide ((0 : Nat) < m), okB m (rowB b), decide (l ≤ m), decide ((0 : Int) ≤ p + (1 : Int) + (1 : Int) + (1 : Int) + (1 : Int)), decide (p + (1 : Int) + (1 : Int) + (1 : Int) + (1 : Int) ≤ (1073741824 : Int)), decide ((0 : Nat) < m)] (bif ro (IntKind.wrap IntKind.i64 ((6 : Int) + pk l (itB (rowB b)) (p + (1 : Int)) (30 : Int))) (IntKind.wrap IntKind.i64 ((6 : Int) + pk l (itB (rowB b)) (p + (1 : Int) + (1 : Int)) (12 : Int))) (pk l (itB (rowB b)) (p + (1 : Int) + (1 : Int) + (1 : Int)) (2 : Int) == (0 : Int)) (IntKind.wrap IntKind.i64 (pk l (itB (rowB b)) (p + (1 : Int) + (1 : Int) + (1 : Int) + (1 : Int)) (20 : Int) - (10 : Int))) then Res.out Ex.ret [AV.own (2 : Nat) (List.length (rd (IntKind.wrap IntKind.i64 ((6 : Int) + pk l (itB (rowB b)) (p + (1 : Int)) (30 : Int))) (IntKind.wrap IntKind.i64 ((6 : Int) + pk l (itB (rowB b)) (p + (1 : Int) + (1 : Int)) (12 : Int))) (pk l (itB (rowB b)) (p + (1 : Int) + (1 : Int) + (1 : Int)) (2 : Int) == (0 : Int)) (IntKind.wrap IntKind.i64 (pk l (itB (rowB b)) (p + (1 : Int) + (1 : Int) + (1 : Int) + (1 : Int)) (20 : Int) - (10 : Int)))))] [AB.cells [AV.sl (1 : Nat) (1 : Nat) (0 : Nat) (0 : Nat) l c, AV.v (Value.int IntKind.i64 (p + (1 : Int) + (1 : Int) + (1 : Int) + (1 : Int) + (1 : Int)))] tr, AB.row false m (1 : Nat) (rowB b) tb, AB.row true (List.length (rd (IntKind.wrap IntKind.i64 ((6 : Int) + pk l (itB (rowB b)) (p + (1 : Int)) (30 : Int))) (IntKind.wrap IntKind.i64 ((6 : Int) + pk l (itB (rowB b)) (p + (1 : Int) + (1 : Int)) (12 : Int))) (pk l (itB (rowB b)) (p + (1 : Int) + (1 : Int) + (1 : Int)) (2 : Int) == (0 : Int)) (IntKind.wrap IntKind.i64 (pk l (itB (rowB b)) (p + (1 : Int) + (1 : Int) + (1 : Int) + (1 : Int)) (20 : Int) - (10 : Int))))) (9 : Nat) (row9 (wfun (rd (IntKind.wrap IntKind.i64 ((6 : Int) + pk l (itB (rowB b)) (p + (1 : Int)) (30 : Int))) (IntKind.wrap IntKind.i64 ((6 : Int) + pk l (itB (rowB b)) (p + (1 : Int) + (1 : Int)) (12 : Int))) (pk l (itB (rowB b)) (p + (1 : Int) + (1 : Int) + (1 : Int)) (2 : Int) == (0 : Int)) (IntKind.wrap IntKind.i64 (pk l (itB (rowB b)) (p + (1 : Int) + (1 : Int) + (1 : Int) + (1 : Int)) (20 : Int) - (10 : Int)))))) (46 : TypeId)] else needs [okB m (rowB b), decide (l ≤ m), decide ((0 : Int) ≤ p + (1 : Int) + (1 : Int) + (1 : Int) + (1 : Int) + (1 : Int)), decide (p + (1 : Int) + (1 : Int) + (1 : Int) + (1 : Int) + (1 : Int) ≤ (1073741824 : Int)), decide ((0 : Nat) < m), okB m (rowB b), decide (l ≤ m), decide ((0 : Int) ≤ p + (1 : Int) + (1 : Int) + (1 : Int) + (1 : Int) + (1 : Int) + (1 : Int)), decide (p + (1 : Int) + (1 : Int) + (1 : Int) + (1 : Int) + (1 : Int) + (1 : Int) ≤ (1073741824 : Int)), decide ((0 : Nat) < m), okB m (rowB b), decide (l ≤ m), decide ((0 : Int) ≤ p + (1 : Int) + (1 : Int) + (1 : Int) + (1 : Int) + (1 : Int) + (1 : Int) + (1 : Int)), decide (p + (1 : Int) + (1 : Int) + (1 : Int) + (1 : Int) + (1 : Int) + (1 : Int) + (1 : Int) ≤ (1073741824 : Int)), decide ((0 : Nat) < m), chk ([AV.ptr (0 : Nat) (0 : Nat) (0 : Nat) (0 : Nat), AV.v (Value.int IntKind.i64 (IntKind.wrap IntKind.i64 ((1 : Int) + pk l (itB (rowB b)) (p + (1 : Int) + (1 : Int) + (1 : Int) + (1 : Int) + (1 : Int)) (4 : Int)))), AV.v (Value.int IntKind.i64 (IntKind.wrap IntKind.i64 (pk l (itB (rowB b)) (p + (1 : Int) + (1 : Int) + (1 : Int) + (1 : Int) + (1 : Int) + (1 : Int)) (5 : Int) - (2 : Int)))), AV.own (2 : Nat) (0 : Nat), AV.v (Value.int IntKind.i64 (IntKind.wrap IntKind.i64 ((1 : Int) + pk l (itB (rowB b)) (p + (1 : Int) + (1 : Int) + (1 : Int) + (1 : Int) + (1 : Int) + (1 : Int) + (1 : Int)) (3 : Int)))), AV.v (Value.int IntKind.i64 (0 : Int))] = stD2 st fi n (0 : Nat) ∧ Hsim [AB.cells [AV.sl (1 : Nat) (1 : Nat) (0 : Nat) (0 : Nat) l c, AV.v (Value.int IntKind.i64 (p + (1 : Int) + (1 : Int) + (1 : Int) + (1 : Int) + (1 : Int) + (1 : Int) + (1 : Int) + (1 : Int)))] tr, AB.row false m (1 : Nat) (rowB b) tb, AB.row true (0 : Nat) (9 : Nat) (fun _ ↦ []) (46 : Nat)] (hpDs l c p1 m b tr tb (0 : Nat) (wfun [])))] (Res.out Ex.ret [AV.own (2 : Nat) n] [AB.cells [AV.sl (1 : Nat) (1 : Nat) (0 : Nat) (0 : Nat) l c, AV.v (Value.int IntKind.i64 p2)] tr, AB.row false m (1 : Nat) (rowB b) tb, AB.row true n (9 : Nat) (row9 h) (46 : TypeId)])) else needs [okB m (rowB b), decide (l ≤ m), decide ((0 : Int) ≤ p + (1 : Int)), decide (p + (1 : Int) ≤ (1073741824 : Int)), decide ((0 : Nat) < m), okB m (rowB b), decide (l ≤ m), decide ((0 : Int) ≤ p + (1 : Int) + (1 : Int)), decide (p + (1 : Int) + (1 : Int) ≤ (1073741824 : Int)), decide ((0 : Nat) < m), okB m (rowB b), decide (l ≤ m), decide ((0 : Int) ≤ p + (1 : Int) + (1 : Int) + (1 : Int)), decide (p + (1 : Int) + (1 : Int) + (1 : Int) ≤ (1073741824 : Int)), decide ((0 : Nat) < m), chk ([AV.ptr (0 : Nat) (0 : Nat) (0 : Nat) (0 : Nat), AV.v (Value.int IntKind.i64 (IntKind.wrap IntKind.i64 ((1 : Int) + pk l (itB (rowB b)) (p + (1 : Int)) (4 : Int)))), AV.v (Value.int IntKind.i64 (IntKind.wrap IntKind.i64 (pk l (itB (rowB b)) (p + (1 : Int) + (1 : Int)) (5 : Int) - (2 : Int)))), AV.own (2 : Nat) (0 : Nat), AV.v (Value.int IntKind.i64 (IntKind.wrap IntKind.i64 ((1 : Int) + pk l (itB (rowB b)) (p + (1 : Int) + (1 : Int) + (1 : Int)) (3 : Int)))), AV.v (Value.int IntKind.i64 (0 : Int))] = stD2 st fi n (0 : Nat) ∧ Hsim [AB.cells [AV.sl (1 : Nat) (1 : Nat) (0 : Nat) (0 : Nat) l c, AV.v (Value.int IntKind.i64 (p + (1 : Int) + (1 : Int) + (1 : Int) + (1 : Int)))] tr, AB.row false m (1 : Nat) (rowB b) tb, AB.row true (0 : Nat) (9 : Nat) (fun _ ↦ []) (46 : Nat)] (hpDs l c p1 m b tr tb (0 : Nat) (wfun [])))] (Res.out Ex.ret [AV.own (2 : Nat) n] [AB.cells [AV.sl (1 : Nat) (1 : Nat) (0 : Nat) (0 : Nat) l c, AV.v (Value.int IntKind.i64 p2)] tr, AB.row false m (1 : Nat) (rowB b) tb, AB.row true n (9 : Nat) (row9 h) (46 : TypeId)])) := by kernel_rfl

end Go.Proofs.Ytmdcafhnjihckaa

/- l92Design: a list of wheels, whatever the bytes are. Conditions: those of pick. -/
namespace Go.Proofs.Ytmdcafhnjihckaa
open Go.RowKit
set_option maxRecDepth 100000

/-- Where the reader is after some wheels, and these. -/
noncomputable def d2L (st fi : Int) (l : Nat) (b : Nat → Int) (p : Int) : Nat → List Wh
  | 0 => []
  | i + 1 => d2L st fi l b p i ++ [⟨W (fi + W (st * W (pkV l b (dsP l b p i) 5 - 2))), cyOf (cyF l b (dsP l b p i + 1))⟩]
theorem d2L_len (st fi : Int) (l : Nat) (b : Nat → Int) (p : Int) : ∀ i : Nat, (d2L st fi l b p i).length = i
  | 0 => rfl
  | i + 1 => by
    show (d2L st fi l b p i ++ [_]).length = i + 1
    rw [List.length_append, d2L_len st fi l b p i]
    rfl
theorem gmD2_ok : GamOk Try.prog (gmD2 pkV cyF cyP) := ext_ok (ext_ok g0_ok ok_pick) ok_cyc
theorem gmE2D_ok : GamOk Try.prog (gmE2D pkV dgL dgP rnL rnO) := ext_ok (ext_ok (ext_ok g0_ok ok_pick) ok_design) ok_rd
theorem sumD2 (l : Nat) (c : Option Nat) (p : Int) (m : Nat) (b : Nat → Int) (tr tb : TypeId) (st fi : Int) (N : Nat) (hN : N ≤ 3) (hb : okB m (rowB b) = true) (hl : l ≤ m) (h0 : 0 ≤ p) (h1 : p ≤ 2 ^ 28) (hm : 0 < m) :
    SumOk Try.prog 2 (.block 1 (.loop (loopAt 1 fD2))) (atS 65 (lvD2 .normal) 2 (stD2 st fi N 0) (hpDs l c p m b tr tb 0 (wfun [])) (fun K => K .normal (mkT 0 65 [(7, .own 2 N)]) (hpDs l c (dsP l b p N) m b tr tb N (wfun (d2L st fi l b p N))))) := by
  refine for_at gmD2_ok (n := 100) (m := 2) (lv := lvD2) (fun i => stD2 st fi N i) (fun i => hpDs l c (dsP l b p i) m b tr tb i (wfun (d2L st fi l b p i))) (fun _ => True) N (fun _ => noLam) (lv3_ris rfl rfl rfl) (Nat.le_refl _) trivial fun K Q hk i _ hi => ⟨noLam_ok _ _ _, ?_⟩
  rw [rndD2]
  have hp := dsP_in l b p i
  refine good_cond (fun c1 => ?_) fun c1 => ?_
  · have c1 := of_decide_eq_true c1
    refine good_needs ?_ (good_out ⟨i + 1, ⟨rfl, by omega, trivial⟩, ?_, ?_⟩)
    · simp only [ob_cons, ob_nil, and_true, decide_eq_true_eq, Nat.ble_eq, hb, true_and]
      omega
    · rw [wr_in (x := (i : Int) + 1) (by omega)]
      rfl
    · refine .cons (ABeq.refl _) (.cons (ABeq.refl _) (.cons (ABeq.row fun q hq => ?_) .nil))
      exact ch_row (d2L st fi l b p i) ⟨W (fi + W (st * W (pkV l b (dsP l b p i) 5 - 2))), cyOf (cyF l b (dsP l b p i + 1))⟩ i (d2L_len st fi l b p i) q hq
  · have c1 := of_decide_eq_false c1
    have : i = N := by omega
    subst this
    refine good_out ⟨_, Hsim.refl _, ?_⟩
    rw [if_pos rfl]
    exact hk

theorem d2_ex (l : Nat) (b : Nat → Int) (p : Int) : ∃ (L : List Wh) (p' : Int), (p ≤ p' ∧ p' ≤ p + 70) ∧ L.length ≤ 12 ∧ ∀ (c : Option Nat) (m : Nat) (tr tb : TypeId), okB m (rowB b) = true → l ≤ m → 0 ≤ p → p ≤ 2 ^ 26 → 0 < m → ∃ Λ, (∀ cc, fD2.body = some cc → LamOk Try.prog 2 Λ cc) ∧
    GoodQ (execF Try.prog (gmE2D pkV dgL dgP rnL rnO) Λ 100 fD2 [.ptr 0 0 0 0] (hpRd l c p m b tr tb) (packK 2)) (fun _ vs He => vs = [.own 2 L.length] ∧ Hsim He (hpDs l c p' m b tr tb L.length (wfun L))) := by
  have pn := fun q n => pkV_nn l b q n
  have num : ∀ q : Int, ∃ N : Nat, (N : Int) = 1 + pkV l b q 3 ∧ N ≤ 3 := fun q => by
    have := pn q 3
    have := pkV_lt l b q (n := 3) (by omega)
    exact ⟨(1 + pkV l b q 3).toNat, by omega, by omega⟩
  have lam : ∀ (q : Int) (st fi : Int) (N : Nat), N ≤ 3 → p ≤ q → q ≤ p + 20 → ∀ (c : Option Nat) (m : Nat) (tr tb : TypeId), okB m (rowB b) = true → l ≤ m → 0 ≤ p → p ≤ 2 ^ 26 → 0 < m → (∀ cc, fD2.body = some cc → LamOk Try.prog 2 (lamD2 l c m b tr tb st fi N q (dsP l b q N) (wfun (d2L st fi l b q N))) cc) :=
    fun q st fi N hN h1 h2 c m tr tb hb hl h0 h3 hm => lam1 (by kernel_rfl) (sumD2 l c q m b tr tb st fi N hN hb hl (by omega) (by omega) hm)
  have n0 := pn p 4
  by_cases c0 : pkV l b p 4 = 0
  · have hp := dgP_in l b (p + 1)
    refine ⟨dgL l b (p + 1), dgP l b (p + 1), by omega, dgL_len _ _ _, fun c m tr tb hb hl h0 h1 hm => ⟨_, lam p 0 0 0 (by omega) (by omega) (by omega) c m tr tb hb hl h0 h1 hm, ?_⟩⟩
    rw [treeD2]
    exact good_needs (obP hb hl hm h0 (by omega)) (good_true (beq_iff_eq.2 c0) (good_needs (by simp only [ob_cons, ob_nil, and_true, decide_eq_true_eq, hb, true_and]; omega) (good_out ⟨rfl, Hsim.refl _⟩)))
  · -- the steps, from q on
    have steps : ∀ (q : Int), p + 1 ≤ q → q ≤ p + 5 → ∃ (N : Nat) (L : List Wh) (p' : Int), N ≤ 3 ∧ (N : Int) = 1 + pkV l b (q + 1 + 1) 3 ∧ L = d2L (W (1 + pkV l b q 4)) (W (pkV l b (q + 1) 5 - 2)) l b (q + 1 + 1 + 1) N ∧ p' = dsP l b (q + 1 + 1 + 1) N ∧ (p ≤ p' ∧ p' ≤ p + 70) ∧ L.length = N := fun q h1 h2 => by
      obtain ⟨N, e1, e2⟩ := num (q + 1 + 1)
      have hp := dsP_in l b (q + 1 + 1 + 1) N
      exact ⟨N, _, _, e2, e1, rfl, rfl, by omega, d2L_len _ _ _ _ _ _⟩
    have ob : ∀ (q : Int) (c : Option Nat) (m : Nat) (tr tb : TypeId) (N : Nat), (N : Int) = 1 + pkV l b (q + 1 + 1) 3 → p + 1 ≤ q → q ≤ p + 5 → okB m (rowB b) = true → l ≤ m → 0 ≤ p → p ≤ 2 ^ 26 → 0 < m → obls [okB m (rowB b), decide (l ≤ m), decide (0 ≤ q), decide (q ≤ 1073741824), decide (0 < m), okB m (rowB b), decide (l ≤ m), decide (0 ≤ q + 1), decide (q + 1 ≤ 1073741824), decide (0 < m), okB m (rowB b), decide (l ≤ m), decide (0 ≤ q + 1 + 1), decide (q + 1 + 1 ≤ 1073741824), decide (0 < m), chk ([AV.ptr 0 0 0 0, AV.v (i64 (W (1 + pkV l b q 4))), AV.v (i64 (W (pkV l b (q + 1) 5 - 2))), AV.own 2 0, AV.v (i64 (W (1 + pkV l b (q + 1 + 1) 3))), AV.v (i64 0)] = stD2 (W (1 + pkV l b q 4)) (W (pkV l b (q + 1) 5 - 2)) N 0 ∧ Hsim [AB.cells [AV.sl 1 1 0 0 l c, AV.v (i64 (q + 1 + 1 + 1))] tr, AB.row false m 1 (rowB b) tb, AB.row true 0 9 (fun _ => []) 46] (hpDs l c (q + 1 + 1 + 1) m b tr tb 0 (wfun [])))] = true := fun q c m tr tb N e1 h1 h2 hb hl h0 h3 hm => by
      have := pn (q + 1 + 1) 3
      have := pkV_lt l b (q + 1 + 1) (n := 3) (by omega)
      simp only [ob_cons, ob_nil, and_true, decide_eq_true_eq, hb, true_and]
      refine ⟨by omega, by omega, by omega, by omega, by omega, by omega, by omega, by omega, by omega, by omega, by omega, by omega, chk_of ⟨?_, .cons (ABeq.refl _) (.cons (ABeq.refl _) (.cons (ABeq.row fun j hj => absurd hj (Nat.not_lt_zero _)) .nil))⟩⟩
      rw [w64_in (x := 1 + pkV l b (q + 1 + 1) 3) (by omega) (by omega), ← e1]
      rfl
    by_cases c1 : pkV l b p 4 = 1
    · have a1 := pn (p + 1) 30
      have a1' := pkV_lt l b (p + 1) (n := 30) (by omega)
      have a2 := pn (p + 1 + 1) 12
      have a2' := pkV_lt l b (p + 1 + 1) (n := 12) (by omega)
      have a3 := pn (p + 1 + 1 + 1 + 1) 20
      have a3' := pkV_lt l b (p + 1 + 1 + 1 + 1) (n := 20) (by omega)
      have ob5 : ∀ (m : Nat), okB m (rowB b) = true → l ≤ m → 0 ≤ p → p ≤ 2 ^ 26 → 0 < m → obls [okB m (rowB b), decide (l ≤ m), decide (0 ≤ p + 1), decide (p + 1 ≤ 1073741824), decide (0 < m), okB m (rowB b), decide (l ≤ m), decide (0 ≤ p + 1 + 1), decide (p + 1 + 1 ≤ 1073741824), decide (0 < m), okB m (rowB b), decide (l ≤ m), decide (0 ≤ p + 1 + 1 + 1), decide (p + 1 + 1 + 1 ≤ 1073741824), decide (0 < m), okB m (rowB b), decide (l ≤ m), decide (0 ≤ p + 1 + 1 + 1 + 1), decide (p + 1 + 1 + 1 + 1 ≤ 1073741824), decide (0 < m)] = true := fun m hb hl h0 h1 hm => by
        simp only [ob_cons, ob_nil, and_true, decide_eq_true_eq, hb, true_and]
        omega
      cases hr : rnO (W (6 + pkV l b (p + 1) 30)) (W (6 + pkV l b (p + 1 + 1) 12)) (pkV l b (p + 1 + 1 + 1) 2 == 0) (W (pkV l b (p + 1 + 1 + 1 + 1) 20 - 10)) with
      | true =>
        refine ⟨rnL (W (6 + pkV l b (p + 1) 30)) (W (6 + pkV l b (p + 1 + 1) 12)) (pkV l b (p + 1 + 1 + 1) 2 == 0) (W (pkV l b (p + 1 + 1 + 1 + 1) 20 - 10)), p + 1 + 1 + 1 + 1 + 1, by omega, rnL_len _ _ _ _, fun c m tr tb hb hl h0 h1 hm => ⟨_, lam p 0 0 0 (by omega) (by omega) (by omega) c m tr tb hb hl h0 h1 hm, ?_⟩⟩
        rw [treeD2]
        exact good_needs (obP hb hl hm h0 (by omega)) (good_false (beq_eq_false_iff_ne.2 c0) (good_true (beq_iff_eq.2 c1) (good_needs (ob5 m hb hl h0 h1 hm) (good_true hr (good_out ⟨rfl, Hsim.refl _⟩)))))
      | false =>
        obtain ⟨N, L, p', e2, e1, rfl, rfl, hp, hlen⟩ := steps (p + 1 + 1 + 1 + 1 + 1) (by omega) (by omega)
        refine ⟨d2L (W (1 + pkV l b (p + 1 + 1 + 1 + 1 + 1) 4)) (W (pkV l b (p + 1 + 1 + 1 + 1 + 1 + 1) 5 - 2)) l b (p + 1 + 1 + 1 + 1 + 1 + 1 + 1 + 1) N, _, hp, by omega, fun c m tr tb hb hl h0 h1 hm => ⟨_, lam (p + 1 + 1 + 1 + 1 + 1 + 1 + 1 + 1) (W (1 + pkV l b (p + 1 + 1 + 1 + 1 + 1) 4)) (W (pkV l b (p + 1 + 1 + 1 + 1 + 1 + 1) 5 - 2)) N e2 (by omega) (by omega) c m tr tb hb hl h0 h1 hm, ?_⟩⟩
        rw [treeD2, hlen]
        exact good_needs (obP hb hl hm h0 (by omega)) (good_false (beq_eq_false_iff_ne.2 c0) (good_true (beq_iff_eq.2 c1) (good_needs (ob5 m hb hl h0 h1 hm) (good_false hr (good_needs (ob _ c m tr tb N e1 (by omega) (by omega) hb hl h0 h1 hm) (good_out ⟨rfl, Hsim.refl _⟩))))))
    · obtain ⟨N, L, p', e2, e1, rfl, rfl, hp, hlen⟩ := steps (p + 1) (by omega) (by omega)
      refine ⟨d2L (W (1 + pkV l b (p + 1) 4)) (W (pkV l b (p + 1 + 1) 5 - 2)) l b (p + 1 + 1 + 1 + 1) N, _, hp, by omega, fun c m tr tb hb hl h0 h1 hm => ⟨_, lam (p + 1 + 1 + 1 + 1) (W (1 + pkV l b (p + 1) 4)) (W (pkV l b (p + 1 + 1) 5 - 2)) N e2 (by omega) (by omega) c m tr tb hb hl h0 h1 hm, ?_⟩⟩
      rw [treeD2, hlen]
      exact good_needs (obP hb hl hm h0 (by omega)) (good_false (beq_eq_false_iff_ne.2 c0) (good_false (beq_eq_false_iff_ne.2 c1) (good_needs (ob _ c m tr tb N e1 (by omega) (by omega) hb hl h0 h1 hm) (good_out ⟨rfl, Hsim.refl _⟩))))
noncomputable def ehL (l : Nat) (b : Nat → Int) (p : Int) : List Wh := (d2_ex l b p).choose
noncomputable def ehP (l : Nat) (b : Nat → Int) (p : Int) : Int := (d2_ex l b p).choose_spec.choose
theorem ehP_in (l : Nat) (b : Nat → Int) (p : Int) : p ≤ ehP l b p ∧ ehP l b p ≤ p + 70 := (d2_ex l b p).choose_spec.choose_spec.1
theorem ehL_len (l : Nat) (b : Nat → Int) (p : Int) : (ehL l b p).length ≤ 12 := (d2_ex l b p).choose_spec.choose_spec.2.1
def FehO (dl : Nat → (Nat → Int) → Int → List Wh) (dp : Nat → (Nat → Int) → Int → Int) : List AV → List AB → Option HR
  | [.ptr 0 0 0 0], [.cells [.sl 1 1 0 0 l c, .v (.int .i64 p)] tr, .row false m 1 g tb] => some { val := .own 2 (dl l (itB g) p).length, out := [.cells [.sl 1 1 0 0 l c, .v (.int .i64 (dp l (itB g) p))] tr, .row false m 1 g tb], new := [.row true (dl l (itB g) p).length 9 (row9 (wfun (dl l (itB g) p))) 46], obl := [okB m g, decide (l ≤ m), decide (0 ≤ p), decide (p ≤ 2 ^ 26), decide (0 < m)] }
  | _, _ => none
theorem ok_design2 : SpecOk Try.prog 69 (specK [] (FehO ehL ehP)) := by
  refine specK_ok gmE2D_ok Try.func69 rfl fun avs H hr hF ho => ?_
  unfold FehO at hF
  split at hF
  · rename_i l c p tr m g tb
    cases hF
    simp only [ob_cons, decide_eq_true_eq] at ho
    obtain ⟨h1, h2, h3, h4, h5, _⟩ := ho
    obtain ⟨Λ, e1, e2⟩ := (d2_ex l (itB g) p).choose_spec.choose_spec.2.2 c m tr tb (okB_it h1) h2 h3 h4 h5
    refine ⟨hpRd l c p m (itB g) tr tb, Λ, 100, rd_sim h1, e1, ⟨res_mono (fun e vs He hq => ?_) e2.out⟩⟩
    refine ⟨hq.1, hq.2.trans' (.cons (ABeq.refl _) (.cons (ABeq.row fun j hj => (okB_get h1 hj).1.symm) (Hsim.refl _)))⟩
  · cases hF

end Go.Proofs.Ytmdcafhnjihckaa

/- What is drawn: designs with some symmetry. No conditions. -/
namespace Go.Proofs.Ytmdcafhnjihckaa
open Go.RowKit
set_option maxRecDepth 100000

/-- A design, drawn from bytes. -/
noncomputable def bEx (m : Nat) (b : Nat → Int) : List Wh := if m = 0 then noneL else ehL (lnB m) b 0
theorem bEx_len (m : Nat) (b : Nat → Int) : (bEx m b).length ≤ 12 := by
  unfold bEx
  split
  · show 1 ≤ 12; omega
  · exact ehL_len _ _ _
def gmDrE (dl : Nat → (Nat → Int) → Int → List Wh) (dp : Nat → (Nat → Int) → Int → Int) (pk : Nat → (Nat → Int) → Int → Int → Int) : Gam := ext (gmPk pk) 69 (specK [] (FehO dl dp))
theorem gmDrE_ok : GamOk Try.prog (gmDrE ehL ehP pkV) := ext_ok (ext_ok g0_ok ok_pick) ok_design2

end Go.Proofs.Ytmdcafhnjihckaa

/- DrawDesignCheck: a list of wheels. Conditions: bytes, at most 2^21. -/
namespace Go.Proofs.Ytmdcafhnjihckaa
open Go.RowKit
set_option maxRecDepth 100000

theorem treeRCk (dl : Nat → (Nat → Int) → Int → List Wh) (dp : Nat → (Nat → Int) → Int → Int) (pk : Nat → (Nat → Int) → Int → Int → Int) (m : Nat) (b : Nat → Int) : execF Try.prog (gmDrE dl dp pk) noLam 100 Try.f34 [.sl 0 1 0 0 m none] [.row false m 1 (rowB b) 5] (packK 1)
    = bif decide ((↑m : Int) > (2000 : Int)) then needs [decide ((2000 : Int) ≤ (↑m : Int)), decide ((↑m : Int) ≤ (↑m : Int)), okB m (rowB b), decide (Int.toNat ((2000 : Int) - (0 : Int)) ≤ m), decide ((0 : Nat) < m), decide ((0 : Nat) < m)] (Res.out Ex.ret [AV.own (1 : Nat) (List.length (dl (Int.toNat ((2000 : Int) - (0 : Int))) (itB (rowB b)) (0 : Int)))] [AB.row false m (1 : Nat) (rowB b) (5 : TypeId), AB.row true (List.length (dl (Int.toNat ((2000 : Int) - (0 : Int))) (itB (rowB b)) (0 : Int))) (9 : Nat) (row9 (wfun (dl (Int.toNat ((2000 : Int) - (0 : Int))) (itB (rowB b)) (0 : Int)))) (46 : TypeId)]) else needs [okB m (rowB b), decide (m ≤ m), decide ((0 : Nat) < m), decide ((0 : Nat) < m)] (Res.out Ex.ret [AV.own (1 : Nat) (List.length (dl m (itB (rowB b)) (0 : Int)))] [AB.row false m (1 : Nat) (rowB b) (5 : TypeId), AB.row true (List.length (dl m (itB (rowB b)) (0 : Int))) (9 : Nat) (row9 (wfun (dl m (itB (rowB b)) (0 : Int)))) (46 : TypeId)]) := by kernel_rfl

theorem treeRCk0 (q : Option Addr) (c : Nat) (g : Nat → List Value) : execF Try.prog g0 noLam 100 Try.f34 [.v (.slice q 0 c)] [.row false 0 1 g 5] (packK 1)
    = Res.out Ex.ret [AV.own (1 : Nat) (1 : Nat)] [AB.row false (0 : Nat) (1 : Nat) g (5 : TypeId), AB.row true (1 : Nat) (9 : Nat) (fun _ ↦ [Value.int IntKind.i64 (1001 : Int), Value.int IntKind.i64 (0 : Int), Value.int IntKind.i64 (0 : Int), Value.int IntKind.i64 (0 : Int), Value.int IntKind.i64 (0 : Int), Value.int IntKind.i64 (0 : Int), Value.int IntKind.i64 (0 : Int), Value.int IntKind.i64 (0 : Int), Value.int IntKind.i64 (0 : Int)]) (46 : Nat)] := by kernel_rfl

theorem ok_drCk : SpecOk Try.prog 34 (specR md_co (FdrO fun m b => frL (bEx m b))) := by
  refine draw_ok Try.func34 rfl (fun m b h0 hm hb => ⟨_, gmDrE_ok, ?_⟩) fun q c g b => ⟨g0, g0_ok, ?_⟩
  · rw [treeRCk, itB_row]
    have e : bEx m b = ehL (lnB m) b 0 := by unfold bEx; rw [if_neg (by omega)]
    have hp := ehP_in (lnB m) b 0
    have hp2 := ehP_in (lnB m) b (ehP (lnB m) b 0)
    rw [e]
    refine good_ln (fun e1 hc => ?_) fun e1 hc => ?_
    · rw [e1] at hp hp2 ⊢
      rw [show Int.toNat ((2000 : Int) - 0) = 2000 from rfl]
      exact ⟨by simp only [ob_cons, ob_nil, and_true, decide_eq_true_eq, hb, true_and]; omega, good_out ⟨_, rfl, rfl, Hsim.refl _⟩⟩
    · rw [e1] at hp hp2 ⊢
      exact ⟨by simp only [ob_cons, ob_nil, and_true, decide_eq_true_eq, hb, true_and]; omega, good_out ⟨_, rfl, rfl, Hsim.refl _⟩⟩
  · rw [treeRCk0]
    exact good_out ⟨_, rfl, rfl, .cons (ABeq.refl _) (.cons (ABeq.row fun j hj => none_row j hj) .nil)⟩

end Go.Proofs.Ytmdcafhnjihckaa

/- Single points of both. Conditions: a point. -/
namespace Go.Proofs.Ytmdcafhnjihckaa
open Go.RowKit
set_option maxRecDepth 100000

/-- The roots, as single numbers. -/
def rtR : Nat → Nat
  | 0 => 1065353216
  | 1 => 1064781546
  | 2 => 1063105495
  | 3 => 1060439283
  | 4 => 1056964608
  | 5 => 1048871918
  | 6 => 0
  | _ => 3196355566
def rtM : Nat → Nat
  | 0 => 0
  | 1 => 1048871918
  | 2 => 1056964608
  | 3 => 1060439283
  | 4 => 1063105495
  | 5 => 1064781546
  | 6 => 1065353216
  | _ => 1064781546
def pdR (a : Nat → Int) (k : Nat) : Option Nat := FloatKind.f32.format.mul (FloatKind.f32.nearest (a k)) (rtR k)
def pdM (a : Nat → Int) (k : Nat) : Option Nat := FloatKind.f32.format.mul (FloatKind.f32.nearest (a k)) (rtM k)
def smR (a : Nat → Int) : Nat → Nat
  | 0 => 0
  | k + 1 => (FloatKind.f32.format.add (smR a k) ((pdR a k).getD 0)).getD 0
def smM (a : Nat → Int) : Nat → Nat
  | 0 => 0
  | k + 1 => (FloatKind.f32.format.add (smM a k) ((pdM a k).getD 0)).getD 0
def obS (a : Nat → Int) : List Bool := (List.range 8).flatMap fun k => [(pdR a k).isSome, (pdM a k).isSome, (FloatKind.f32.format.add (smR a k) ((pdR a k).getD 0)).isSome, (FloatKind.f32.format.add (smM a k) ((pdM a k).getD 0)).isSome]
theorem exSg (a : Nat → Int) : execF Try.prog g0 noLam 100 Try.f88 [.v (cyv a)] [] valK = needs (obS a) (.out .ret [.v (.complex .f32 (smR a 8) (smM a 8))] []) := by kernel_rfl
def gmCv (ok : (Nat → Int) → Bool) : Gam := ext g0 121 (specV (fOkc ok))
theorem exSp (ok : (Nat → Int) → Bool) (a : Nat → Int) : execF Try.prog (gmCv ok) noLam 100 Try.f90 [.v (cyv a)] [] (packK 0) = cond (!ok (w8 a)) (.out .ret [.tup [.v (.complex .f32 0 0), .v (.bool false)]] []) (needs (obS a) (.out .ret [.tup [.v (.complex .f32 (smR a 8) (smM a 8)), .v (.bool true)]] [])) := by kernel_rfl

end Go.Proofs.Ytmdcafhnjihckaa

/- Single numbers that stay finite: sums and products of small ones. No program, no conditions. -/
namespace Go.Proofs.Ytmdcafhnjihckaa
open Go.RowKit

/-- A word that stands for a number below 2 to e + 1. -/
def Fin32 (x : Nat) (e : Int) : Prop := ∃ s m i, FloatKind.f32.format.read x = .number s m i ∧ i + (m.log2 : Int) ≤ e
theorem Fin32.mono {x : Nat} {e d : Int} (h : Fin32 x e) (hd : e ≤ d) : Fin32 x d := by
  obtain ⟨s, m, i, h1, h2⟩ := h
  exact ⟨s, m, i, h1, by omega⟩
def finB (x : Nat) (e : Int) : Bool := match FloatKind.f32.format.read x with
  | .number _ m i => decide (i + (m.log2 : Int) ≤ e)
  | _ => false
theorem fin_of {x : Nat} {e : Int} (h : finB x e = true) : Fin32 x e := by
  unfold finB at h
  split at h
  · rename_i s m i hr
    exact ⟨s, m, i, hr, of_decide_eq_true h⟩
  · cases h
theorem log2_lt (n : Nat) : n < 2 ^ (n.log2 + 1) := Nat.lt_log2_self
theorem log2_le {n k : Nat} (h : n < 2 ^ (k + 1)) : n.log2 ≤ k := by
  rcases Nat.eq_zero_or_pos n with rfl | h0
  · rw [show Nat.log2 0 = 0 by decide]
    omega
  · have := (Nat.log2_lt (by omega)).2 h
    omega
theorem f32_binade : FloatKind.f32.format.binade = 8388608 := by decide
theorem f32_inf : FloatKind.f32.format.infRung = 2139095040 := by decide
theorem f32_sign : FloatKind.f32.format.signWeight = 2147483648 := by decide
theorem f32_least : FloatKind.f32.format.leastPlace = -149 := by decide
theorem f32_frac : FloatKind.f32.format.fractionBits = 23 := rfl
theorem cut_le (s : Bool) (n drop : Nat) : Ieee.Toward.even.cut s n drop ≤ n / 2 ^ min drop (n.log2 + 2) + 1 := by
  unfold Ieee.Toward.cut
  simp only [Nat.shiftLeft_eq, Nat.one_mul]
  have : ∀ b : Bool, b.toNat ≤ 1 := fun b => by cases b <;> decide
  exact Nat.add_le_add_left (this _) _
theorem kept_le {s : Bool} {m : Nat} {i last : Int} (hl : i + (m.log2 : Int) - 23 ≤ last) : Ieee.Toward.even.cut s (m <<< (i - last).toNat) (last - i).toNat ≤ 16777216 := by
  refine Nat.le_trans (cut_le _ _ _) ?_
  suffices h : m <<< (i - last).toNat / 2 ^ min (last - i).toNat ((m <<< (i - last).toNat).log2 + 2) < 16777216 by omega
  rw [Nat.shiftLeft_eq]
  have hm := log2_lt m
  by_cases hc : last ≤ i
  · have h1 : (last - i).toNat = 0 := by omega
    rw [h1, Nat.zero_min, Nat.pow_zero, Nat.div_one]
    calc m * 2 ^ (i - last).toNat < 2 ^ (m.log2 + 1) * 2 ^ (i - last).toNat := Nat.mul_lt_mul_of_pos_right hm (Nat.two_pow_pos _)
      _ = 2 ^ (m.log2 + 1 + (i - last).toNat) := (Nat.pow_add ..).symm
      _ ≤ 2 ^ 24 := Nat.pow_le_pow_right (by omega) (by omega)
  · have h1 : (i - last).toNat = 0 := by omega
    rw [h1, Nat.pow_zero, Nat.mul_one]
    rw [Nat.div_lt_iff_lt_mul (Nat.two_pow_pos _)]
    by_cases hd : (last - i).toNat ≤ m.log2 + 2
    · rw [Nat.min_eq_left hd]
      calc m < 2 ^ (m.log2 + 1) := hm
        _ ≤ 2 ^ (24 + (last - i).toNat) := Nat.pow_le_pow_right (by omega) (by omega)
        _ = 16777216 * 2 ^ (last - i).toNat := by rw [Nat.pow_add]
    · rw [Nat.min_eq_right (by omega)]
      calc m < 2 ^ (m.log2 + 1) := hm
        _ ≤ 2 ^ (24 + (m.log2 + 2)) := Nat.pow_le_pow_right (by omega) (by omega)
        _ = 16777216 * 2 ^ (m.log2 + 2) := by rw [Nat.pow_add]
theorem read_word (s : Bool) {R : Nat} (hR : R < 2139095040) : ∃ m i, FloatKind.f32.format.read (FloatKind.f32.format.word s R) = .number s m i ∧ i + (m.log2 : Int) ≤ max ((R / 8388608 : Nat) : Int) 1 - 127 := by
  have e1 : FloatKind.f32.format.word s R % 2147483648 = R := by
    unfold Ieee.Format.word
    rw [f32_sign]
    cases s
    · simp only [Bool.false_eq_true, if_false]; omega
    · simp only [if_true]; omega
  have e2 : (FloatKind.f32.format.word s R / 2147483648 % 2 == 1) = s := by
    unfold Ieee.Format.word
    rw [f32_sign]
    cases s
    · simp only [Bool.false_eq_true, if_false]
      rw [show R / 2147483648 = 0 by omega]
      rfl
    · simp only [if_true]
      rw [show (2147483648 + R) / 2147483648 = 1 by omega]
      rfl
  unfold Ieee.Format.read
  simp only [f32_sign, f32_binade, f32_inf, f32_least, e1, e2]
  by_cases h1 : R < 8388608
  · rw [if_pos h1]
    refine ⟨_, _, rfl, ?_⟩
    have : R.log2 ≤ 22 := log2_le (by omega)
    omega
  · rw [if_neg h1, if_pos hR]
    refine ⟨_, _, rfl, ?_⟩
    have : (8388608 + R % 8388608).log2 ≤ 23 := log2_le (by omega)
    omega
theorem nearest_fin (s : Bool) (m : Nat) (i : Int) {e : Int} (h : i + (m.log2 : Int) ≤ e) (h0 : -120 ≤ e) (h1 : e ≤ 100) : Fin32 (FloatKind.f32.format.nearest s m i) (e + 1) := by
  unfold Ieee.Format.nearest
  by_cases hm : m = 0
  · rw [if_pos hm]
    obtain ⟨m', i', e1, e2⟩ := read_word s (R := 0) (by omega)
    exact ⟨s, m', i', e1, by omega⟩
  · rw [if_neg hm]
    simp only [f32_frac, f32_least, f32_binade, f32_inf]
    have hk : Ieee.Toward.even.cut s (m <<< (i - max (i + (m.log2 : Int) - ((23 : Nat) : Int)) (-149)).toNat) (max (i + (m.log2 : Int) - ((23 : Nat) : Int)) (-149) - i).toNat ≤ 16777216 := kept_le (by omega)
    generalize hl : max (i + (m.log2 : Int) - ((23 : Nat) : Int)) (-149) = last at hk ⊢
    generalize Ieee.Toward.even.cut s (m <<< (i - last).toNat) (last - i).toNat = kept at hk ⊢
    have hlast : -149 ≤ last ∧ last ≤ 77 ∧ last ≤ max (e - 23) (-149) := by omega
    have hmin : min ((last - -149).toNat * 8388608 + kept) 2139095040 = (last - -149).toNat * 8388608 + kept := by omega
    rw [hmin]
    obtain ⟨m', i', e1, e2⟩ := read_word s (R := (last - -149).toNat * 8388608 + kept) (by omega)
    refine ⟨s, m', i', e1, ?_⟩
    have : ((last - -149).toNat * 8388608 + kept) / 8388608 ≤ (last - -149).toNat + 2 := by omega
    omega
theorem mul_fin {x y : Nat} {e d : Int} (hx : Fin32 x e) (hy : Fin32 y d) (h0 : -120 ≤ e + d + 1) (h1 : e + d + 1 ≤ 100) : (FloatKind.f32.format.mul x y).isSome = true ∧ Fin32 ((FloatKind.f32.format.mul x y).getD 0) (e + d + 2) := by
  obtain ⟨s, m, i, r1, b1⟩ := hx
  obtain ⟨t, n, j, r2, b2⟩ := hy
  have hm : FloatKind.f32.format.mul x y = some (FloatKind.f32.format.nearest (s ^^ t) (m * n) (i + j)) := by
    unfold Ieee.Format.mul
    rw [r1, r2]
    rfl
  rw [hm]
  refine ⟨rfl, ?_⟩
  have hl : (m * n).log2 ≤ m.log2 + n.log2 + 1 := log2_le (by
    calc m * n < 2 ^ (m.log2 + 1) * 2 ^ (n.log2 + 1) := Nat.mul_lt_mul'' (log2_lt m) (log2_lt n)
      _ = 2 ^ (m.log2 + n.log2 + 1 + 1) := by rw [← Nat.pow_add]; congr 1; omega)
  have := nearest_fin (s ^^ t) (m * n) (i + j) (e := e + d + 1) (by omega) h0 h1
  rwa [show e + d + 1 + 1 = e + d + 2 by omega] at this
theorem signed_abs (s : Bool) (m u : Nat) : (Ieee.signed s m u).natAbs = m * 2 ^ u := by
  unfold Ieee.signed
  rw [Nat.shiftLeft_eq]
  cases s
  · exact Int.natAbs_natCast _
  · exact (Int.natAbs_neg _).trans (Int.natAbs_natCast _)
theorem part_lt {m : Nat} {i base e : Int} (h : i + (m.log2 : Int) ≤ e) (hb : base ≤ i) : m * 2 ^ (i - base).toNat < 2 ^ ((e - base).toNat + 1) := by
  calc m * 2 ^ (i - base).toNat < 2 ^ (m.log2 + 1) * 2 ^ (i - base).toNat := Nat.mul_lt_mul_of_pos_right (log2_lt m) (Nat.two_pow_pos _)
    _ = 2 ^ (m.log2 + 1 + (i - base).toNat) := (Nat.pow_add ..).symm
    _ ≤ 2 ^ ((e - base).toNat + 1) := Nat.pow_le_pow_right (by omega) (by omega)
theorem add_fin {x y : Nat} {e : Int} (hx : Fin32 x e) (hy : Fin32 y e) (h0 : -120 ≤ e + 1) (h1 : e + 1 ≤ 100) : (FloatKind.f32.format.add x y).isSome = true ∧ Fin32 ((FloatKind.f32.format.add x y).getD 0) (e + 2) := by
  obtain ⟨s, m, i, r1, b1⟩ := hx
  obtain ⟨t, n, j, r2, b2⟩ := hy
  have hm : ∃ u, FloatKind.f32.format.add x y = some (FloatKind.f32.format.nearest u (Ieee.signed s m (i - min i j).toNat + Ieee.signed t n (j - min i j).toNat).natAbs (min i j)) := by
    unfold Ieee.Format.add
    rw [r1, r2]
    exact ⟨_, rfl⟩
  obtain ⟨u, hm⟩ := hm
  rw [hm]
  refine ⟨rfl, ?_⟩
  have hl : (Ieee.signed s m (i - min i j).toNat + Ieee.signed t n (j - min i j).toNat).natAbs.log2 ≤ (e - min i j).toNat + 1 := log2_le (by
    have h2 := Int.natAbs_add_le (Ieee.signed s m (i - min i j).toNat) (Ieee.signed t n (j - min i j).toNat)
    rw [signed_abs, signed_abs] at h2
    have h3 := part_lt b1 (base := min i j) (by omega)
    have h4 := part_lt b2 (base := min i j) (by omega)
    have h5 : 2 ^ ((e - min i j).toNat + 1 + 1) = 2 ^ ((e - min i j).toNat + 1) + 2 ^ ((e - min i j).toNat + 1) := by rw [Nat.pow_succ]; omega
    omega)
  have := nearest_fin u (Ieee.signed s m (i - min i j).toNat + Ieee.signed t n (j - min i j).toNat).natAbs (min i j) (e := e + 1) (by omega) h0 h1
  rwa [show e + 1 + 1 = e + 2 by omega] at this
theorem int_fin {n : Int} (h : -1000000 ≤ n ∧ n ≤ 1000000) : Fin32 (FloatKind.f32.nearest n) 21 := by
  have : n.natAbs.log2 ≤ 19 := log2_le (by omega)
  exact nearest_fin _ _ 0 (e := 20) (by omega) (by omega) (by omega)
theorem rtR_fin : ∀ k, k < 8 → Fin32 (rtR k) 1 := fun k hk => fin_of ((by decide +kernel : ∀ k, k < 8 → finB (rtR k) 1 = true) k hk)
theorem rtM_fin : ∀ k, k < 8 → Fin32 (rtM k) 1 := fun k hk => fin_of ((by decide +kernel : ∀ k, k < 8 → finB (rtM k) 1 = true) k hk)
theorem sm_fin {a : Nat → Int} (h : ∀ k, k < 8 → -1000000 ≤ a k ∧ a k ≤ 1000000) : ∀ k : Nat, k ≤ 8 → Fin32 (smR a k) (24 + 2 * (k : Int)) ∧ Fin32 (smM a k) (24 + 2 * (k : Int))
  | 0, _ => ⟨fin_of (show finB 0 (24 + 2 * ((0 : Nat) : Int)) = true by decide +kernel), fin_of (show finB 0 (24 + 2 * ((0 : Nat) : Int)) = true by decide +kernel)⟩
  | k + 1, hk => by
    obtain ⟨i1, i2⟩ := sm_fin h k (by omega)
    have p1 := mul_fin (int_fin (h k (by omega))) (rtR_fin k (by omega)) (by omega) (by omega)
    have p2 := mul_fin (int_fin (h k (by omega))) (rtM_fin k (by omega)) (by omega) (by omega)
    have a1 := (add_fin i1 (p1.2.mono (by omega)) (by omega) (by omega)).2
    have a2 := (add_fin i2 (p2.2.mono (by omega)) (by omega) (by omega)).2
    exact ⟨a1.mono (by omega), a2.mono (by omega)⟩
theorem obS_ok {a : Nat → Int} (h : ∀ k, k < 8 → -1000000 ≤ a k ∧ a k ≤ 1000000) : obls (obS a) = true := by
  unfold obls obS
  rw [List.all_flatMap]
  refine List.all_eq_true.2 fun k hk => ?_
  have hk := List.mem_range.1 hk
  obtain ⟨i1, i2⟩ := sm_fin h k (by omega)
  have p1 := mul_fin (int_fin (h k hk)) (rtR_fin k hk) (by omega) (by omega)
  have p2 := mul_fin (int_fin (h k hk)) (rtM_fin k hk) (by omega) (by omega)
  have a1 := add_fin i1 (p1.2.mono (by omega)) (by omega) (by omega)
  have a2 := add_fin i2 (p2.2.mono (by omega)) (by omega) (by omega)
  simp only [List.all_cons, List.all_nil, Bool.and_true, id]
  rw [show (pdR a k).isSome = true from p1.1, show (pdM a k).isSome = true from p2.1, show (FloatKind.f32.format.add (smR a k) ((pdR a k).getD 0)).isSome = true from a1.1, show (FloatKind.f32.format.add (smM a k) ((pdM a k).getD 0)).isSome = true from a2.1]
  rfl

end Go.Proofs.Ytmdcafhnjihckaa

/- DesignCheck of both: trees. Conditions: a list of wheels. -/
namespace Go.Proofs.Ytmdcafhnjihckaa
open Go.RowKit
set_option maxRecDepth 100000

/-- A single point of a point. -/
def f_sg (R M : (Nat → Int) → Nat) (ok : (Nat → Int) → Bool) : List Value → Option (Value × List Bool)
  | [.agg ⟨[.int .i64 a0, .int .i64 a1, .int .i64 a2, .int .i64 a3, .int .i64 a4, .int .i64 a5, .int .i64 a6, .int .i64 a7]⟩] => some (.complex .f32 (R (v8 a0 a1 a2 a3 a4 a5 a6 a7)) (M (v8 a0 a1 a2 a3 a4 a5 a6 a7)), [ok (v8 a0 a1 a2 a3 a4 a5 a6 a7)])
  | _ => none
/-- A single point, and whether the point is one. -/
def FspO (R M : (Nat → Int) → Nat) (ok : (Nat → Int) → Bool) : List SA → Option FR
  | [.v (.agg ⟨[.int .i64 a0, .int .i64 a1, .int .i64 a2, .int .i64 a3, .int .i64 a4, .int .i64 a5, .int .i64 a6, .int .i64 a7]⟩)] => some { val := .tup [.v (.complex .f32 (R (v8 a0 a1 a2 a3 a4 a5 a6 a7)) (M (v8 a0 a1 a2 a3 a4 a5 a6 a7))), .v (.bool (ok (v8 a0 a1 a2 a3 a4 a5 a6 a7)))] }
  | _ => none
def gmCkI (dv : (Nat → Nat → Int) → Int → Nat → Nat → Int) (dk : (Nat → Nat → Int) → Int → Nat → Bool) (R M : (Nat → Int) → Nat) (ok : (Nat → Int) → Bool) : Gam := ext (ext g0 18 (specR md_wv (FDAo dv dk))) 88 (specV (f_sg R M ok))
noncomputable abbrev fCkI : Func := Try.f35
abbrev lvCkI : Ex → List Nat := lv3 [4, 6, 20] [6] [2, 3]
abbrev stCkI (q : Nat) (h : Int) (i : Nat) : List AV := [.sl 1 9 0 0 q (some q), .v (.int .u32 h), .v (i64 i)]
abbrev hpCk (m : Nat) (f : Nat → Nat → Int) (q : Nat) (g : Nat → Nat → Int) : List AB := [.row false m 9 (row9 f) 46, .row false q 9 (row9 g) 46]
theorem rndCkI (dv : (Nat → Nat → Int) → Int → Nat → Nat → Int) (dk : (Nat → Nat → Int) → Int → Nat → Bool) (R M : (Nat → Int) → Nat) (ok : (Nat → Int) → Bool) (m : Nat) (f : Nat → Nat → Int) (q : Nat) (g : Nat → Nat → Int) (h : Int) (i : Nat) : execC Try.prog (gmCkI dv dk R M ok) 100 noLam (loopAt 0 fCkI) (mkT 0 49 ((lvCkI .normal).zip (stCkI q h i))) (hpCk m f q g) (leafV 49 lvCkI 1)
    = bif decide ((↑i : Int) < (24 : Int)) then needs [Nat.ble ((0 : Nat) + q) q, allW q fun q ↦ row9 g ((0 : Nat) + q), decide (q ≤ (274877906944 : Nat))] (bif !dk (itW fun q ↦ row9 g ((0 : Nat) + q)) (↑i : Int) q then Res.out Ex.ret [AV.v (Value.int IntKind.u32 (0 : Int)), AV.v (Value.bool false)] [AB.row false m (9 : Nat) (row9 f) (46 : TypeId)] else needs [ok (w8 (dv (itW fun q ↦ row9 g ((0 : Nat) + q)) (↑i : Int) q))] (Res.out Ex.normal [AV.sl (1 : Nat) (9 : Nat) (0 : Nat) (0 : Nat) q (some q), AV.v (Value.int IntKind.u32 (IntKind.wrap IntKind.u32 (IntKind.wrap IntKind.u32 (↑(BitVec.toNat (BitVec.ofInt (32 : Nat) (IntKind.wrap IntKind.u32 (IntKind.wrap IntKind.u32 (↑(BitVec.toNat (BitVec.ofInt (32 : Nat) h ^^^ BitVec.ofInt (32 : Nat) (↑(R (w8 (dv (itW fun q ↦ row9 g ((0 : Nat) + q)) (↑i : Int) q))) : Int))) : Int) * (16777619 : Int))) ^^^ BitVec.ofInt (32 : Nat) (↑(M (w8 (dv (itW fun q ↦ row9 g ((0 : Nat) + q)) (↑i : Int) q))) : Int))) : Int) * (16777619 : Int)))), AV.v (Value.int IntKind.i64 (IntKind.wrap IntKind.i64 ((↑i : Int) + (1 : Int))))] [AB.row false m (9 : Nat) (row9 f) (46 : TypeId), AB.row false q (9 : Nat) (row9 g) (46 : TypeId)])) else Res.out (Ex.exit (0 : Nat)) [AV.v (Value.int IntKind.u32 h)] [AB.row false m (9 : Nat) (row9 f) (46 : TypeId)] := by kernel_rfl

def gmCkS (dv : (Nat → Nat → Int) → Int → Nat → Nat → Int) (dk : (Nat → Nat → Int) → Int → Nat → Bool) (R M : (Nat → Int) → Nat) (ok : (Nat → Int) → Bool) : Gam := ext (ext g0 75 (specR md_wv (FDAo dv dk))) 90 (specR [.val] (FspO R M ok))
noncomputable abbrev fCkS : Func := Try.f36
abbrev lvCkS : Ex → List Nat := lv3 [4, 6, 7] [6] [2, 3]
abbrev stCkS (q : Nat) (h : Int) (i : Nat) : List AV := [.own 1 q, .v (.int .u32 h), .v (i64 i)]
abbrev hpCkS (m : Nat) (f : Nat → Nat → Int) (q : Nat) (g : Nat → Nat → Int) : List AB := [.row false m 9 (row9 f) 46, .row true q 9 (row9 g) 46]
theorem rndCkS (dv : (Nat → Nat → Int) → Int → Nat → Nat → Int) (dk : (Nat → Nat → Int) → Int → Nat → Bool) (R M : (Nat → Int) → Nat) (ok : (Nat → Int) → Bool) (m : Nat) (f : Nat → Nat → Int) (q : Nat) (g : Nat → Nat → Int) (h : Int) (i : Nat) : execC Try.prog (gmCkS dv dk R M ok) 100 noLam (loopAt 0 fCkS) (mkT 0 53 ((lvCkS .normal).zip (stCkS q h i))) (hpCkS m f q g) (leafV 53 lvCkS 1)
    = bif decide ((↑i : Int) < (24 : Int)) then needs [Nat.ble q q, allW q (row9 g), decide (q ≤ (274877906944 : Nat))] (bif !dk (itW (row9 g)) (↑i : Int) q then Res.out Ex.ret [AV.v (Value.int IntKind.u32 (0 : Int)), AV.v (Value.bool false)] [AB.row false m (9 : Nat) (row9 f) (46 : TypeId)] else bif !ok (w8 (dv (itW (row9 g)) (↑i : Int) q)) then Res.out Ex.ret [AV.v (Value.int IntKind.u32 (0 : Int)), AV.v (Value.bool false)] [AB.row false m (9 : Nat) (row9 f) (46 : TypeId)] else Res.out Ex.normal [AV.own (1 : Nat) q, AV.v (Value.int IntKind.u32 (IntKind.wrap IntKind.u32 (IntKind.wrap IntKind.u32 (↑(BitVec.toNat (BitVec.ofInt (32 : Nat) (IntKind.wrap IntKind.u32 (IntKind.wrap IntKind.u32 (↑(BitVec.toNat (BitVec.ofInt (32 : Nat) h ^^^ BitVec.ofInt (32 : Nat) (↑(R (w8 (dv (itW (row9 g)) (↑i : Int) q))) : Int))) : Int) * (16777619 : Int))) ^^^ BitVec.ofInt (32 : Nat) (↑(M (w8 (dv (itW (row9 g)) (↑i : Int) q))) : Int))) : Int) * (16777619 : Int)))), AV.v (Value.int IntKind.i64 (IntKind.wrap IntKind.i64 ((↑i : Int) + (1 : Int))))] [AB.row false m (9 : Nat) (row9 f) (46 : TypeId), AB.row true q (9 : Nat) (row9 g) (46 : TypeId)]) else Res.out (Ex.exit (0 : Nat)) [AV.v (Value.int IntKind.u32 h)] [AB.row false m (9 : Nat) (row9 f) (46 : TypeId)] := by kernel_rfl

end Go.Proofs.Ytmdcafhnjihckaa

/- DesignCheck of both: single points, loops. Conditions: a list of wheels. -/
namespace Go.Proofs.Ytmdcafhnjihckaa
open Go.RowKit
set_option maxRecDepth 100000

abbrev hpC (m : Nat) (f : Nat → Nat → Int) : List AB := [.row false m 9 (row9 f) 46]
theorem good_needsV {bs : List Bool} {r : Res} {x : Value} (h : obls bs = true) (k : Good r x) : Good (needs bs r) x := by
  induction bs with
  | nil => exact k
  | cons b bs ih =>
    have : b = true ∧ obls bs = true := by simpa [obls] using h
    rw [this.1]
    exact ⟨(ih this.2).out⟩
def spO (a : Nat → Int) : Bool := cyOk (cyOf a)
def sgR (a : Nat → Int) : Nat := bif spO a then smR a 8 else 0
def sgM (a : Nat → Int) : Nat := bif spO a then smM a 8 else 0
theorem obS_of {a : Nat → Int} (h : spO a = true) : obls (obS a) = true := obS_ok fun k hk => by
  have h1 := smallF_iff.1 h k hk
  have e : (cyOf a).f k = a k := by
    match k, hk with
    | 0, _ => rfl
    | 1, _ => rfl
    | 2, _ => rfl
    | 3, _ => rfl
    | 4, _ => rfl
    | 5, _ => rfl
    | 6, _ => rfl
    | 7, _ => rfl
  omega
theorem ok_sg : SpecOk Try.prog 88 (specV (f_sg sgR sgM spO)) := by
  refine mkV (n := 100) g0_ok Try.func88 rfl fun vs v ob hF ho => ?_
  unfold f_sg at hF
  split at hF
  · rename_i a0 a1 a2 a3 a4 a5 a6 a7
    cases hF
    rw [ob_cons] at ho
    have ho := ho.1
    show Good (execF Try.prog g0 noLam 100 Try.f88 [.v (cyv (v8 a0 a1 a2 a3 a4 a5 a6 a7))] [] valK) _
    rw [exSg]
    refine good_needsV (obS_of ho) (one ?_)
    rw [sgR, sgM, ho]
    rfl
  · cases hF
theorem ok_sp : SpecOk Try.prog 90 (specR [.val] (FspO sgR sgM spO)) := by
  have hg : GamOk Try.prog (gmCv fun v => cyOk (cyOf v)) := by
    unfold gmCv
    rw [fOkc_eq]
    exact ext_ok g0_ok ok_cv
  refine specR_hr hg Try.func90 rfl fun sas fr hF ho => ?_
  unfold FspO at hF
  split at hF
  · rename_i a0 a1 a2 a3 a4 a5 a6 a7
    cases hF
    refine ⟨[], noLam, 100, .nil, noLam' _, ?_⟩
    show GoodQ (execF Try.prog (gmCv fun v => cyOk (cyOf v)) noLam 100 Try.f90 [.v (cyv (v8 a0 a1 a2 a3 a4 a5 a6 a7))] [] (packK 0)) _
    rw [exSp]
    refine good_cond (fun q => ?_) fun q => ?_
    · have q : spO (v8 a0 a1 a2 a3 a4 a5 a6 a7) = false := by
        have q' : (!spO (v8 a0 a1 a2 a3 a4 a5 a6 a7)) = true := q
        simpa using q'
      refine good_out ⟨_, rfl, ?_, .nil⟩
      rw [sgR, sgM, q]
      rfl
    · have q : spO (v8 a0 a1 a2 a3 a4 a5 a6 a7) = true := by
        have q' : (!spO (v8 a0 a1 a2 a3 a4 a5 a6 a7)) = false := q
        simpa using q'
      refine good_needs (obS_of q) (good_out ⟨_, rfl, ?_, .nil⟩)
      rw [sgR, sgM, q]
      rfl
  · cases hF

/-- One step of the sum: both numbers of a point. -/
def hsh (h : Int) (R M : Nat) : Int := IntKind.wrap IntKind.u32 (IntKind.wrap IntKind.u32 (((BitVec.ofInt 32 (IntKind.wrap IntKind.u32 (IntKind.wrap IntKind.u32 (((BitVec.ofInt 32 h ^^^ BitVec.ofInt 32 (R : Int)).toNat : Nat) : Int) * 16777619)) ^^^ BitVec.ofInt 32 (M : Int)).toNat : Nat) : Int) * 16777619)
/-- The sum after i turns. -/
def ckH (f : Nat → Nat → Int) (q : Nat) : Nat → Int
  | 0 => 2166136261
  | i + 1 => hsh (ckH f q i) (sgR (w8 (daV f i q))) (sgM (w8 (daV f i q)))
def badCk (f : Nat → Nat → Int) (q : Nat) (i : Nat) : Bool := !daOk f i q
theorem cyOf_w8 (a : Nat → Int) : cyOf (w8 a) = cyOf a := rfl
theorem da_sp {f : Nat → Nat → Int} {n : Int} {m : Nat} (h : daOk f n m = true) : spO (w8 (daV f n m)) = true := by
  have h2 := h
  unfold daOk at h2
  rw [Bool.and_eq_true] at h2
  rw [spO, cyOf_w8, daV, h, cond_true]
  exact h2.2
theorem gmCkI_ok : GamOk Try.prog (gmCkI daV daOk sgR sgM spO) := ext_ok (ext_ok g0_ok ok_DAI) ok_sg
theorem gmCkS_ok : GamOk Try.prog (gmCkS daV daOk sgR sgM spO) := by
  refine ext_ok (ext_ok g0_ok ?_) ok_sp
  rw [FDAo_eq]
  exact ok_DA
theorem sumCkI (m : Nat) (f : Nat → Nat → Int) (q : Nat) (g : Nat → Nat → Int) (hq : q ≤ 12) :
    SumOk Try.prog 1 (.block 0 (.loop (loopAt 0 fCkI))) (atS 49 (lvCkI .normal) 1 (stCkI q 2166136261 0) (hpCk m f q g) (fun K => cond (noneTo (badCk g q) 24) (K .normal (mkT 0 49 [(6, .v (.int .u32 (ckH g q 24)))]) (hpC m f)) (K .ret (mkT 0 49 [(2, .v (.int .u32 0)), (3, .v (.bool false))]) (hpC m f)))) := by
  refine for_at gmCkI_ok (n := 100) (m := 1) (lv := lvCkI) (fun i => stCkI q (ckH g q i) i) (fun _ => hpCk m f q g) (fun i => noneTo (badCk g q) i = true) 24 (fun _ => noLam) (lv3_ris rfl rfl rfl) (Nat.le_refl _) rfl fun K Q hk i hi h24 => ⟨noLam_ok _ _ _, ?_⟩
  rw [rndCkI]
  refine good_cond (fun c1 => ?_) fun c1 => ?_
  · have c1 := of_decide_eq_true c1
    have c1' : i < 24 := by omega
    simp only [row0, daOk_row, daV_row]
    rw [wr_in (x := (i : Int) + 1) (by omega)]
    refine good_needs (by simp only [ob_cons, ob_nil, and_true, decide_eq_true_eq, Nat.ble_eq, allW_row, true_and]; omega) (good_cond (fun p => ?_) fun p => ?_)
    · refine good_out ⟨_, Hsim.refl _, ?_⟩
      have hb : badCk g q i = true := p
      rw [noneTo_no c1' hb] at hk
      exact hk
    · have hb : badCk g q i = false := p
      have hd : daOk g i q = true := by simpa [badCk] using hb
      exact good_needs (by rw [ob_cons]; exact ⟨da_sp hd, rfl⟩) (good_out ⟨i + 1, ⟨rfl, c1', noneTo_succ hi hb⟩, rfl, Hsim.refl _⟩)
  · have c1 := of_decide_eq_false c1
    have : i = 24 := by omega
    subst this
    refine good_out ⟨_, Hsim.refl _, ?_⟩
    rw [if_pos rfl]
    rw [hi] at hk
    exact hk
theorem sumCkS (m : Nat) (f : Nat → Nat → Int) (q : Nat) (g : Nat → Nat → Int) (hq : q ≤ 12) :
    SumOk Try.prog 1 (.block 0 (.loop (loopAt 0 fCkS))) (atS 53 (lvCkS .normal) 1 (stCkS q 2166136261 0) (hpCkS m f q g) (fun K => cond (noneTo (badCk g q) 24) (K .normal (mkT 0 53 [(6, .v (.int .u32 (ckH g q 24)))]) (hpC m f)) (K .ret (mkT 0 53 [(2, .v (.int .u32 0)), (3, .v (.bool false))]) (hpC m f)))) := by
  refine for_at gmCkS_ok (n := 100) (m := 1) (lv := lvCkS) (fun i => stCkS q (ckH g q i) i) (fun _ => hpCkS m f q g) (fun i => noneTo (badCk g q) i = true) 24 (fun _ => noLam) (lv3_ris rfl rfl rfl) (Nat.le_refl _) rfl fun K Q hk i hi h24 => ⟨noLam_ok _ _ _, ?_⟩
  rw [rndCkS]
  refine good_cond (fun c1 => ?_) fun c1 => ?_
  · have c1 := of_decide_eq_true c1
    have c1' : i < 24 := by omega
    simp only [row0, daOk_row, daV_row]
    rw [wr_in (x := (i : Int) + 1) (by omega)]
    refine good_needs (by simp only [ob_cons, ob_nil, and_true, decide_eq_true_eq, Nat.ble_eq, allW_row, true_and]; omega) (good_cond (fun p => ?_) fun p => ?_)
    · refine good_out ⟨_, Hsim.refl _, ?_⟩
      have hb : badCk g q i = true := p
      rw [noneTo_no c1' hb] at hk
      exact hk
    · have hb : badCk g q i = false := p
      have hd : daOk g i q = true := by simpa [badCk] using hb
      rw [da_sp hd]
      exact good_false rfl (good_out ⟨i + 1, ⟨rfl, c1', noneTo_succ hi hb⟩, rfl, Hsim.refl _⟩)
  · have c1 := of_decide_eq_false c1
    have : i = 24 := by omega
    subst this
    refine good_out ⟨_, Hsim.refl _, ?_⟩
    rw [if_pos rfl]
    rw [hi] at hk
    exact hk

noncomputable abbrev lamCkI (m : Nat) (f : Nat → Nat → Int) (q : Nat) (g : Nat → Nat → Int) (c : Bool) (x : Int) : Nat → Option Sum := oneL 0 (atS 49 (lvCkI .normal) 1 (stCkI q 2166136261 0) (hpCk m f q g) (fun K => cond c (K .normal (mkT 0 49 [(6, .v (.int .u32 x))]) (hpC m f)) (K .ret (mkT 0 49 [(2, .v (.int .u32 0)), (3, .v (.bool false))]) (hpC m f))))
noncomputable abbrev lamCkS (m : Nat) (f : Nat → Nat → Int) (q : Nat) (g : Nat → Nat → Int) (c : Bool) (x : Int) : Nat → Option Sum := oneL 0 (atS 53 (lvCkS .normal) 1 (stCkS q 2166136261 0) (hpCkS m f q g) (fun K => cond c (K .normal (mkT 0 53 [(6, .v (.int .u32 x))]) (hpC m f)) (K .ret (mkT 0 53 [(2, .v (.int .u32 0)), (3, .v (.bool false))]) (hpC m f))))
def gmTdI (yI : List Wh → Bool) (tI : List Wh → List Wh) : Gam := ext g0 37 (specU md_ws (UO0 yI tI))
def gmTdS (yI : List Wh → Bool) (tI : List Wh → List Wh) : Gam := ext g0 73 (specR md_ws (FOw yI tI))
theorem treeCkI (yI : List Wh → Bool) (tI : List Wh → List Wh) (m : Nat) (f : Nat → Nat → Int) (q : Nat) (g : Nat → Nat → Int) (c : Bool) (x : Int) : execF Try.prog (gmTdI yI tI) (lamCkI m f q g c x) 100 fCkI [.sl 0 9 0 0 m none] (hpC m f) (packK 1)
    = needs [Nat.ble ((0 : Nat) + m) m, allW m fun q ↦ row9 f ((0 : Nat) + q), decide (m ≤ (274877906944 : Nat))] (bif !yI (listW (itW fun q ↦ row9 f ((0 : Nat) + q)) m) then Res.out Ex.ret [AV.tup [AV.v (Value.int IntKind.u32 (0 : Int)), AV.v (Value.bool false)]] [AB.row false m (9 : Nat) (row9 f) (46 : TypeId)] else needs [chk ([AV.sl (1 : Nat) (9 : Nat) (0 : Nat) (0 : Nat) (List.length (tI (listW (itW fun q ↦ row9 f ((0 : Nat) + q)) m))) (some (List.length (tI (listW (itW fun q ↦ row9 f ((0 : Nat) + q)) m)))), AV.v (Value.int IntKind.u32 (2166136261 : Int)), AV.v (Value.int IntKind.i64 (0 : Int))] = stCkI q (2166136261 : Int) (0 : Nat) ∧ Hsim [AB.row false m (9 : Nat) (row9 f) (46 : TypeId), AB.row false (List.length (tI (listW (itW fun q ↦ row9 f ((0 : Nat) + q)) m))) (9 : Nat) (row9 (wfun (tI (listW (itW fun q ↦ row9 f ((0 : Nat) + q)) m)))) (46 : TypeId)] (hpCk m f q g))] (bif c then Res.out Ex.ret [AV.tup [AV.v (Value.int IntKind.u32 x), AV.v (Value.bool true)]] [AB.row false m (9 : Nat) (row9 f) (46 : TypeId)] else Res.out Ex.ret [AV.tup [AV.v (Value.int IntKind.u32 (0 : Int)), AV.v (Value.bool false)]] [AB.row false m (9 : Nat) (row9 f) (46 : TypeId)])) := by kernel_rfl

theorem treeCkS (yI : List Wh → Bool) (tI : List Wh → List Wh) (m : Nat) (f : Nat → Nat → Int) (q : Nat) (g : Nat → Nat → Int) (c : Bool) (x : Int) : execF Try.prog (gmTdS yI tI) (lamCkS m f q g c x) 100 fCkS [.sl 0 9 0 0 m none] (hpC m f) (packK 1)
    = needs [Nat.ble ((0 : Nat) + m) m, allW m fun q ↦ row9 f ((0 : Nat) + q), decide (m ≤ (274877906944 : Nat))] (bif !yI (listW (itW fun q ↦ row9 f ((0 : Nat) + q)) m) then Res.out Ex.ret [AV.tup [AV.v (Value.int IntKind.u32 (0 : Int)), AV.v (Value.bool false)]] [AB.row false m (9 : Nat) (row9 f) (46 : TypeId)] else needs [chk ([AV.own (1 : Nat) (List.length (tI (listW (itW fun q ↦ row9 f ((0 : Nat) + q)) m))), AV.v (Value.int IntKind.u32 (2166136261 : Int)), AV.v (Value.int IntKind.i64 (0 : Int))] = stCkS q (2166136261 : Int) (0 : Nat) ∧ Hsim [AB.row false m (9 : Nat) (row9 f) (46 : TypeId), AB.row true (List.length (tI (listW (itW fun q ↦ row9 f ((0 : Nat) + q)) m))) (9 : Nat) (row9 (wfun (tI (listW (itW fun q ↦ row9 f ((0 : Nat) + q)) m)))) (46 : TypeId)] (hpCkS m f q g))] (bif c then Res.out Ex.ret [AV.tup [AV.v (Value.int IntKind.u32 x), AV.v (Value.bool true)]] [AB.row false m (9 : Nat) (row9 f) (46 : TypeId)] else Res.out Ex.ret [AV.tup [AV.v (Value.int IntKind.u32 (0 : Int)), AV.v (Value.bool false)]] [AB.row false m (9 : Nat) (row9 f) (46 : TypeId)])) := by kernel_rfl

end Go.Proofs.Ytmdcafhnjihckaa

/- DesignCheck of both: their word. Conditions: a list of wheels. -/
namespace Go.Proofs.Ytmdcafhnjihckaa
open Go.RowKit
set_option maxRecDepth 100000

/-- A sum is there: the list is tidied, and has a point at each turn. -/
def ckY (L : List Wh) : Bool := yI L && noneTo (badCk (wfun (tI L)) (tI L).length) 24
def ckV (L : List Wh) : Int := bif ckY L then ckH (wfun (tI L)) (tI L).length 24 else 0
def FckO (v : List Wh → Int) (y : List Wh → Bool) : List SA → Option FR
  | [.row m g] => some { val := .tup [.v (.int .u32 (v (listW (itW g) m))), .v (.bool (y (listW (itW g) m)))], obl := [allW m g, decide (m ≤ 2 ^ 38)] }
  | _ => none
theorem tI_len12 (L : List Wh) : (tI L).length ≤ 12 := by
  cases h : yI L with
  | true =>
    rw [tI, h, cond_true]
    rw [yI, Bool.and_eq_true] at h
    exact tidyL_len h.2
  | false => rw [tI_no h]; exact Nat.zero_le _
theorem ok_ckI : SpecOk Try.prog 35 (specR md_ws (FckO ckV ckY)) := by
  refine specR_hr (Γ := gmTdI yI tI) (ext_ok g0_ok ok_UTi) Try.func35 rfl fun sas fr hF ho => ?_
  unfold FckO at hF
  split at hF
  · rename_i m g
    cases hF
    simp only [ob_cons] at ho
    obtain ⟨h1, h2, _⟩ := ho
    have hm := of_decide_eq_true h2
    have fin : ∀ v b, ckV (listW (itW g) m) = v → ckY (listW (itW g) m) = b → GoodQ (.out .ret [.tup [.v (.int .u32 v), .v (.bool b)]] (hpC m (itW g))) (GivR (abP md_ws [.row m g] []) { val := .tup [.v (.int .u32 (ckV (listW (itW g) m))), .v (.bool (ckY (listW (itW g) m)))], obl := [allW m g, decide (m ≤ 2 ^ 38)] }) := fun v b hv hb =>
      good_out ⟨_, rfl, by rw [hv, hb], .cons (ABeq.row fun j hj => (allW_get h1 j hj).symm) .nil⟩
    have no : ckY (listW (itW g) m) = false → GoodQ (.out .ret [.tup [.v (.int .u32 0), .v (.bool false)]] (hpC m (itW g))) (GivR (abP md_ws [.row m g] []) { val := .tup [.v (.int .u32 (ckV (listW (itW g) m))), .v (.bool (ckY (listW (itW g) m)))], obl := [allW m g, decide (m ≤ 2 ^ 38)] }) := fun h => fin 0 false (by rw [ckV, h]; rfl) h
    refine ⟨hpC m (itW g), lamCkI m (itW g) (tI (listW (itW g) m)).length (wfun (tI (listW (itW g) m))) (noneTo (badCk (wfun (tI (listW (itW g) m))) (tI (listW (itW g) m)).length) 24) (ckH (wfun (tI (listW (itW g) m))) (tI (listW (itW g) m)).length 24), 100, .cons (ABeq.row fun j hj => allW_get h1 j hj) .nil, lam1 (by kernel_rfl) (sumCkI m (itW g) _ _ (tI_len12 _)), ?_⟩
    show GoodQ (execF Try.prog (gmTdI yI tI) (lamCkI m (itW g) (tI (listW (itW g) m)).length (wfun (tI (listW (itW g) m))) (noneTo (badCk (wfun (tI (listW (itW g) m))) (tI (listW (itW g) m)).length) 24) (ckH (wfun (tI (listW (itW g) m))) (tI (listW (itW g) m)).length 24)) 100 fCkI [.sl 0 9 0 0 m none] (hpC m (itW g)) (packK 1)) _
    rw [treeCkI]
    simp only [row0, listW_itW]
    generalize listW (itW g) m = L at fin no ⊢
    refine good_needs (by simp only [ob_cons, ob_nil, and_true, decide_eq_true_eq, Nat.ble_eq, allW_row, true_and]; omega) (good_cond (fun q => ?_) fun q => good_needs (by rw [ob_cons]; exact ⟨chk_of ⟨rfl, Hsim.refl _⟩, rfl⟩) (good_cond (fun q2 => ?_) fun q2 => ?_))
    · rw [Bool.not_eq_true'] at q
      exact no (by rw [ckY, q]; rfl)
    · rw [Bool.not_eq_false'] at q
      have h : ckY L = true := by rw [ckY, q, q2]; rfl
      exact fin _ true (by rw [ckV, h]; rfl) h
    · rw [Bool.not_eq_false'] at q
      exact no (by rw [ckY, q, q2]; rfl)
  · cases hF
theorem ok_ckS : SpecOk Try.prog 36 (specR md_ws (FckO ckV ckY)) := by
  refine specR_hr (Γ := gmTdS yI tI) (ext_ok g0_ok ok_tiS) Try.func36 rfl fun sas fr hF ho => ?_
  unfold FckO at hF
  split at hF
  · rename_i m g
    cases hF
    simp only [ob_cons] at ho
    obtain ⟨h1, h2, _⟩ := ho
    have hm := of_decide_eq_true h2
    have fin : ∀ v b, ckV (listW (itW g) m) = v → ckY (listW (itW g) m) = b → GoodQ (.out .ret [.tup [.v (.int .u32 v), .v (.bool b)]] (hpC m (itW g))) (GivR (abP md_ws [.row m g] []) { val := .tup [.v (.int .u32 (ckV (listW (itW g) m))), .v (.bool (ckY (listW (itW g) m)))], obl := [allW m g, decide (m ≤ 2 ^ 38)] }) := fun v b hv hb =>
      good_out ⟨_, rfl, by rw [hv, hb], .cons (ABeq.row fun j hj => (allW_get h1 j hj).symm) .nil⟩
    have no : ckY (listW (itW g) m) = false → GoodQ (.out .ret [.tup [.v (.int .u32 0), .v (.bool false)]] (hpC m (itW g))) (GivR (abP md_ws [.row m g] []) { val := .tup [.v (.int .u32 (ckV (listW (itW g) m))), .v (.bool (ckY (listW (itW g) m)))], obl := [allW m g, decide (m ≤ 2 ^ 38)] }) := fun h => fin 0 false (by rw [ckV, h]; rfl) h
    refine ⟨hpC m (itW g), lamCkS m (itW g) (tI (listW (itW g) m)).length (wfun (tI (listW (itW g) m))) (noneTo (badCk (wfun (tI (listW (itW g) m))) (tI (listW (itW g) m)).length) 24) (ckH (wfun (tI (listW (itW g) m))) (tI (listW (itW g) m)).length 24), 100, .cons (ABeq.row fun j hj => allW_get h1 j hj) .nil, lam1 (by kernel_rfl) (sumCkS m (itW g) _ _ (tI_len12 _)), ?_⟩
    show GoodQ (execF Try.prog (gmTdS yI tI) (lamCkS m (itW g) (tI (listW (itW g) m)).length (wfun (tI (listW (itW g) m))) (noneTo (badCk (wfun (tI (listW (itW g) m))) (tI (listW (itW g) m)).length) 24) (ckH (wfun (tI (listW (itW g) m))) (tI (listW (itW g) m)).length 24)) 100 fCkS [.sl 0 9 0 0 m none] (hpC m (itW g)) (packK 1)) _
    rw [treeCkS]
    simp only [row0, listW_itW]
    generalize listW (itW g) m = L at fin no ⊢
    refine good_needs (by simp only [ob_cons, ob_nil, and_true, decide_eq_true_eq, Nat.ble_eq, allW_row, true_and]; omega) (good_cond (fun q => ?_) fun q => good_needs (by rw [ob_cons]; exact ⟨chk_of ⟨rfl, Hsim.refl _⟩, rfl⟩) (good_cond (fun q2 => ?_) fun q2 => ?_))
    · rw [Bool.not_eq_true'] at q
      exact no (by rw [ckY, q]; rfl)
    · rw [Bool.not_eq_false'] at q
      have h : ckY L = true := by rw [ckY, q, q2]; rfl
      exact fin _ true (by rw [ckV, h]; rfl) h
    · rw [Bool.not_eq_false'] at q
      exact no (by rw [ckY, q, q2]; rfl)
  · cases hF

end Go.Proofs.Ytmdcafhnjihckaa

/- The greatest common divisor, of both. Conditions: numbers up to 10^12. -/
namespace Go.Proofs.Ytmdcafhnjihckaa
open Go.RowKit
set_option maxRecDepth 100000

def gcdI (a b : Int) : Int := (Nat.gcd a.natAbs b.natAbs : Int)
def FgdO (gf : Int → Int → Int) : List SA → Option FR
  | [.v (.int .i64 a), .v (.int .i64 b)] => some { val := .v (i64 (gf a b)), obl := [inR a (-1000000000000) 1000000000000, inR b (-1000000000000) 1000000000000] }
  | _ => none
theorem ok_gdS : SpecOk Try.prog 154 (specR [.val, .val] (FgdO gcdI)) := by
  refine ⟨ok_gcd.1, fun avs H base δ ν vals w hS ho hv hr hlt hf hsep => ?_⟩
  unfold specR at hS
  split at hS
  case h_2 => cases hS
  rename_i xs hxs
  split at hS
  case h_2 => cases hS
  rename_i fr' hF
  unfold FgdO at hF
  split at hF
  case h_2 => cases hF
  rename_i a b hx
  cases hF
  have hS' := hS
  simp only [shA] at hS
  cases hc : ((!hasWr [Md.val, Md.val] || nodupB ((ixC [Md.val, Md.val] xs).filterMap id)) && ([] : List AB).all isRowT && Nat.beq (abP [Md.val, Md.val] (xs.map (·.sa)) []).length (abC [Md.val, Md.val] (xs.map (·.sa))).length) with
  | false => rw [hc] at hS; cases hS
  | true =>
  rw [hc] at hS
  simp only [cond_true, Option.some.injEq] at hS
  subst hS
  have ho' : obls (xs.flatMap (·.ob)) = true ∧ obls [inR a (-1000000000000) 1000000000000, inR b (-1000000000000) 1000000000000] = true := by simpa [obls, List.all_append] using ho
  have h2 := ho'.2
  simp only [ob_cons] at h2
  have ha := inR_iff.1 h2.1
  have hb := inR_iff.1 h2.2.1
  have hS2 : specR [.val, .val] F_gcd avs H base = some { val := .v (i64 (gcdI a b)), rd := (ixC [Md.val, Md.val] xs).filterMap id, put := putC (ixC [Md.val, Md.val] xs) (abP [Md.val, Md.val] (xs.map (·.sa)) []), new := [], obl := xs.flatMap (·.ob) ++ [] } := by
    unfold specR
    rw [hxs]
    simp only [hx, F_gcd, shA, gcdF_eq ha hb]
    rw [hx] at hc
    simp only [hc]
    rfl
  refine (ok_gcd.2 avs H base _ ν vals w hS2 (by simpa [obls, List.all_append] using ho'.1) hv hr hlt hf hsep).mono ?_
  rintro e w' ⟨v, ν', rfl, d⟩
  exact ⟨v, ν', rfl, d.le, d.dom, d.val, d.put, d.new, d.os, d.tape, d.output, d.size, d.block, d.fresh, d.apart⟩

abbrev lvGd : Ex → List Nat := lv3 [0, 1] [0] [4]
theorem rndGd (a b : Int) : execC Try.prog g0 100 noLam (loopAt 0 Try.f78) (mkT 0 15 ((lvGd .normal).zip [.v (i64 a), .v (i64 b)])) [] (leafV 15 lvGd 0)
    = bif b != (0 : Int) then needs [!decide (b = (0 : Int))] (Res.out Ex.normal [AV.v (Value.int IntKind.i64 b), AV.v (Value.int IntKind.i64 (Int.tmod a b))] []) else Res.out (Ex.exit (0 : Nat)) [AV.v (Value.int IntKind.i64 a)] [] := by kernel_rfl

noncomputable abbrev lamGd (a b c : Int) : Nat → Option Sum := oneL 0 (atS 15 (lvGd .normal) 0 [.v (i64 a), .v (i64 b)] [] (fun K => K .normal (mkT 0 15 [(0, .v (i64 c))]) []))
theorem treeGd (a b c : Int) : execF Try.prog g0 (lamGd a b c) 100 Try.f78 [.v (i64 a), .v (i64 b)] [] (packK 0)
    = needs [chk ([AV.v (Value.int IntKind.i64 a), AV.v (Value.int IntKind.i64 b)] = [AV.v (Value.int IntKind.i64 a), AV.v (Value.int IntKind.i64 b)] ∧ Hsim [] [])] (Res.out Ex.ret [AV.v (Value.int IntKind.i64 (if IntKind.wrap IntKind.i64 ((0 : Int) - c) > c then IntKind.wrap IntKind.i64 ((0 : Int) - c) else c))] []) := by kernel_rfl

theorem sumGd (a b : Int) : SumOk Try.prog 0 (.block 0 (.loop (loopAt 0 Try.f78))) (atS 15 (lvGd .normal) 0 [.v (i64 a), .v (i64 b)] [] (fun K => K .normal (mkT 0 15 [(0, .v (i64 (gcdE (b.natAbs + 1) a b)))]) [])) := by
  refine loop_at g0_ok (n := 100) (m := 0) (lv := lvGd) (σ := Nat × Int × Int) (fun s => [.v (i64 s.2.1), .v (i64 s.2.2)]) (fun _ => []) (fun s => s.2.2.natAbs < s.1 ∧ gcdE s.1 s.2.1 s.2.2 = gcdE (b.natAbs + 1) a b) (fun s => s.1) (b.natAbs + 1, a, b) (fun _ => noLam) (lv3_ris rfl rfl rfl) (Nat.le_refl _) ⟨Nat.lt_succ_self _, rfl⟩ fun K Q hk s hs => ⟨noLam_ok _ _ _, ?_⟩
  obtain ⟨n, x, y⟩ := s
  obtain ⟨h1, h2⟩ := hs
  rw [rndGd]
  cases n with
  | zero => exact absurd h1 (Nat.not_lt_zero _)
  | succ n =>
    refine good_cond (fun c => ?_) fun c => ?_
    · have c : y ≠ 0 := by simpa using c
      have h2 : gcdE n y (x.tmod y) = gcdE (b.natAbs + 1) a b := by
        rw [← h2]
        show _ = if y = 0 then x else gcdE n y (x.tmod y)
        rw [if_neg c]
      have h1 : y.natAbs < n + 1 := h1
      have h3 : (x.tmod y).natAbs < y.natAbs := by
        rw [Int.natAbs_tmod]
        exact Nat.mod_lt _ (by omega)
      exact good_needs (by simp [obls, c]) (good_out ⟨(n, y, x.tmod y), ⟨⟨by show (x.tmod y).natAbs < n; omega, h2⟩, Nat.lt_succ_self _⟩, rfl, .nil⟩)
    · have c : y = 0 := by simpa using c
      have h2 : x = gcdE (b.natAbs + 1) a b := by
        rw [← h2]
        show _ = if y = 0 then x else gcdE n y (x.tmod y)
        rw [if_pos c]
      refine good_out ⟨_, .nil, ?_⟩
      rw [if_pos rfl]
      rw [← h2] at hk
      exact hk


theorem ok_gdI : SpecOk Try.prog 78 (specR [.val, .val] (FgdO gcdI)) := by
  refine specR_hr g0_ok Try.func78 rfl fun sas fr hF ho => ?_
  unfold FgdO at hF
  split at hF
  · rename_i a b
    cases hF
    simp only [ob_cons] at ho
    obtain ⟨ha, hb, _⟩ := ho
    have e := gcdF_eq (inR_iff.1 ha) (inR_iff.1 hb)
    refine ⟨[], lamGd a b (gcdE (b.natAbs + 1) a b), 100, .nil, lam1 (by kernel_rfl) (sumGd a b), ?_⟩
    show GoodQ (execF Try.prog g0 (lamGd a b (gcdE (b.natAbs + 1) a b)) 100 Try.f78 [.v (i64 a), .v (i64 b)] [] (packK 0)) _
    rw [treeGd]
    refine good_needs (by rw [ob_cons]; exact ⟨chk_of ⟨rfl, .nil⟩, rfl⟩) (good_out ⟨_, rfl, ?_, .nil⟩)
    show [AV.v (i64 (gcdF a b))] = [AV.v (i64 (gcdI a b))]
    rw [e]
    rfl
  · cases hF

end Go.Proofs.Ytmdcafhnjihckaa

/- DesignPeriod and DesignFold of both: trees. Conditions: a list of wheels. -/
namespace Go.Proofs.Ytmdcafhnjihckaa
open Go.RowKit
set_option maxRecDepth 100000

def gmPr (gf : Int → Int → Int) : Gam := ext (ext g0 78 (specR [.val, .val] (FgdO gf))) 154 (specR [.val, .val] (FgdO gf))
def gmPt (yI : List Wh → Bool) (tI : List Wh → List Wh) : Gam := ext (ext g0 37 (specU md_ws (UO0 yI tI))) 73 (specR md_ws (FOw yI tI))
abbrev hpPI (m : Nat) (f : Nat → Nat → Int) (k : Nat) (g : Nat → Nat → Int) : List AB := [.row false m 9 (row9 f) 46, .row false k 9 (row9 g) 46]
abbrev hpPS (m : Nat) (f : Nat → Nat → Int) (k : Nat) (g : Nat → Nat → Int) : List AB := [.row false m 9 (row9 f) 46, .row true k 9 (row9 g) 46]
abbrev hpP1 (m : Nat) (f : Nat → Nat → Int) : List AB := [.row false m 9 (row9 f) 46]
abbrev lvPI : Ex → List Nat := lv3 [5, 15, 16, 17] [5] [2]
abbrev stPI (k : Nat) (x : Int) (i : Nat) : List AV := [.v (i64 x), .sl 1 9 0 0 k (some k), .v (i64 k), .v (i64 i)]
noncomputable abbrev lamPI (m : Nat) (f : Nat → Nat → Int) (k : Nat) (g : Nat → Nat → Int) (x : Int) : Nat → Option Sum := oneL 0 (atS 27 (lvPI .normal) 1 (stPI k 0 0) (hpPI m f k g) (fun K => K .normal (mkT 0 27 [(5, .v (i64 x))]) (hpP1 m f)))
abbrev lvPS : Ex → List Nat := lv3 [3, 5, 6] [5] [2]
abbrev stPS (k : Nat) (x : Int) (i : Nat) : List AV := [.own 1 k, .v (i64 x), .v (i64 i)]
noncomputable abbrev lamPS (m : Nat) (f : Nat → Nat → Int) (k : Nat) (g : Nat → Nat → Int) (x : Int) : Nat → Option Sum := oneL 0 (atS 28 (lvPS .normal) 1 (stPS k 0 0) (hpPS m f k g) (fun K => K .normal (mkT 0 28 [(5, .v (i64 x))]) (hpP1 m f)))
noncomputable abbrev fQI : Func := Try.f23
abbrev lvQI : Ex → List Nat := lv3 [3, 5, 15, 16, 17] [5] [2]
abbrev stQI (k : Nat) (x : Int) (i : Nat) : List AV := [.sl 1 9 0 0 k (some k), .v (i64 x), .sl 1 9 0 0 k (some k), .v (i64 k), .v (i64 i)]
theorem rndQI (gf : Int → Int → Int) (m : Nat) (f : Nat → Nat → Int) (k : Nat) (g : Nat → Nat → Int) (x : Int) (i : Nat) : execC Try.prog (gmPr gf) 100 noLam (loopAt 0 fQI) (mkT 0 32 ((lvQI .normal).zip (stQI k x i))) (hpPI m f k g) (leafV 32 lvQI 1)
    = bif decide ((↑i : Int) < (↑k : Int)) then needs [decide ((↑i : Int) < (↑k : Int)), decide ((0 : Nat) + Int.toNat (↑i : Int) < k), decide ((0 : Int) < (↑k : Int)), decide ((0 : Nat) < k), inR x (-1000000000000 : Int) (1000000000000 : Int), inR (IntKind.wrap IntKind.i64 (g ((0 : Nat) + Int.toNat (↑i : Int)) (0 : Nat) - g (0 : Nat) (0 : Nat))) (-1000000000000 : Int) (1000000000000 : Int)] (Res.out Ex.normal [AV.sl (1 : Nat) (9 : Nat) (0 : Nat) (0 : Nat) k (some k), AV.v (Value.int IntKind.i64 (gf x (IntKind.wrap IntKind.i64 (g ((0 : Nat) + Int.toNat (↑i : Int)) (0 : Nat) - g (0 : Nat) (0 : Nat))))), AV.sl (1 : Nat) (9 : Nat) (0 : Nat) (0 : Nat) k (some k), AV.v (Value.int IntKind.i64 (↑k : Int)), AV.v (Value.int IntKind.i64 (IntKind.wrap IntKind.i64 ((↑i : Int) + (1 : Int))))] [AB.row false m (9 : Nat) (row9 f) (46 : TypeId), AB.row false k (9 : Nat) (row9 g) (46 : TypeId)]) else Res.out (Ex.exit (0 : Nat)) [AV.v (Value.int IntKind.i64 x)] [AB.row false m (9 : Nat) (row9 f) (46 : TypeId)] := by kernel_rfl

noncomputable abbrev lamQI (m : Nat) (f : Nat → Nat → Int) (k : Nat) (g : Nat → Nat → Int) (x : Int) : Nat → Option Sum := oneL 0 (atS 32 (lvQI .normal) 1 (stQI k 0 0) (hpPI m f k g) (fun K => K .normal (mkT 0 32 [(5, .v (i64 x))]) (hpP1 m f)))
theorem treeQI (yI : List Wh → Bool) (tI : List Wh → List Wh) (m : Nat) (f : Nat → Nat → Int) (k : Nat) (g : Nat → Nat → Int) (x : Int) : execF Try.prog (gmPt yI tI) (lamQI m f k g x) 100 fQI [.sl 0 9 0 0 m none] (hpP1 m f) (packK 1)
    = needs [Nat.ble ((0 : Nat) + m) m, allW m fun q ↦ row9 f ((0 : Nat) + q), decide (m ≤ (274877906944 : Nat))] (bif !yI (listW (itW fun q ↦ row9 f ((0 : Nat) + q)) m) then Res.out Ex.ret [AV.v (Value.int IntKind.i64 (-1 : Int))] [AB.row false m (9 : Nat) (row9 f) (46 : TypeId)] else needs [chk ([AV.sl (1 : Nat) (9 : Nat) (0 : Nat) (0 : Nat) (List.length (tI (listW (itW fun q ↦ row9 f ((0 : Nat) + q)) m))) (some (List.length (tI (listW (itW fun q ↦ row9 f ((0 : Nat) + q)) m)))), AV.v (Value.int IntKind.i64 (0 : Int)), AV.sl (1 : Nat) (9 : Nat) (0 : Nat) (0 : Nat) (List.length (tI (listW (itW fun q ↦ row9 f ((0 : Nat) + q)) m))) (some (List.length (tI (listW (itW fun q ↦ row9 f ((0 : Nat) + q)) m)))), AV.v (Value.int IntKind.i64 (↑(List.length (tI (listW (itW fun q ↦ row9 f ((0 : Nat) + q)) m))) : Int)), AV.v (Value.int IntKind.i64 (0 : Int))] = stQI k (0 : Int) (0 : Nat) ∧ Hsim [AB.row false m (9 : Nat) (row9 f) (46 : TypeId), AB.row false (List.length (tI (listW (itW fun q ↦ row9 f ((0 : Nat) + q)) m))) (9 : Nat) (row9 (wfun (tI (listW (itW fun q ↦ row9 f ((0 : Nat) + q)) m)))) (46 : TypeId)] (hpPI m f k g))] (Res.out Ex.ret [AV.v (Value.int IntKind.i64 x)] [AB.row false m (9 : Nat) (row9 f) (46 : TypeId)])) := by kernel_rfl

abbrev lvQS : Ex → List Nat := lv3 [3, 5, 6] [5] [2]
abbrev stQS (k : Nat) (x : Int) (i : Nat) : List AV := [.own 1 k, .v (i64 x), .v (i64 ((i : Int) + 1))]
noncomputable abbrev lamQS (m : Nat) (f : Nat → Nat → Int) (k : Nat) (g : Nat → Nat → Int) (x : Int) : Nat → Option Sum := oneL 0 (atS 33 (lvQS .normal) 1 (stQS k 0 0) (hpPS m f k g) (fun K => K .normal (mkT 0 33 [(5, .v (i64 x))]) (hpP1 m f)))
end Go.Proofs.Ytmdcafhnjihckaa

/- DesignPeriod and DesignFold of both: their words. Conditions: a list of wheels. -/
namespace Go.Proofs.Ytmdcafhnjihckaa
open Go.RowKit
set_option maxRecDepth 100000

/-- The greatest common divisor of the first numbers. -/
def pgF (h : Nat → Int) : Nat → Int
  | 0 => 0
  | i + 1 => gcdI (pgF h i) (h i)
theorem gcdI_zero (a : Int) : gcdI 0 a = a.natAbs := by
  unfold gcdI
  rw [show (0 : Int).natAbs = 0 from rfl, Nat.gcd_zero_left]
theorem pgF_in {h : Nat → Int} {k : Nat} (hh : ∀ i, i < k → -2000 ≤ h i ∧ h i ≤ 2000) : ∀ i, i ≤ k → 0 ≤ pgF h i ∧ pgF h i ≤ 2000
  | 0, _ => by show 0 ≤ (0 : Int) ∧ (0 : Int) ≤ 2000; omega
  | i + 1, hi => by
    have ih := pgF_in hh i (by omega)
    have hb := hh i (by omega)
    show 0 ≤ (Nat.gcd (pgF h i).natAbs (h i).natAbs : Int) ∧ (Nat.gcd (pgF h i).natAbs (h i).natAbs : Int) ≤ 2000
    refine ⟨by omega, ?_⟩
    by_cases h0 : (pgF h i).natAbs = 0
    · rw [h0, Nat.gcd_zero_left]
      omega
    · have := Nat.gcd_le_left (h i).natAbs (show 0 < (pgF h i).natAbs by omega)
      omega
theorem gmPr_ok : GamOk Try.prog (gmPr gcdI) := ext_ok (ext_ok g0_ok ok_gdI) ok_gdS
theorem gmPt_ok : GamOk Try.prog (gmPt yI tI) := ext_ok (ext_ok g0_ok ok_UTi) ok_tiS
def spH (T : List Wh) : Nat → Int := fun i => wfun T i 0
def dfH (T : List Wh) : Nat → Int := fun i => IntKind.wrap IntKind.i64 (wfun T i 0 - wfun T 0 0)
theorem spH_at {T : List Wh} {i : Nat} (hi : i < T.length) : spH T i = T[i].s := by
  unfold spH
  rw [wfun_get hi]
  rfl
theorem tidy_sp {T : List Wh} (h : isTidy T) {i : Nat} (hi : i < T.length) : -1000 ≤ wfun T i 0 ∧ wfun T i 0 ≤ 1000 := by
  have e : wfun T i 0 = T[i].s := spH_at hi
  rw [e]
  exact (okD_all (tidy_okD h) (List.getElem_mem hi)).1
theorem dfH_in {T : List Wh} (hT : isTidy T) {i : Nat} (hi : i < T.length) : -2000 ≤ dfH T i ∧ dfH T i ≤ 2000 := by
  have h1 := tidy_sp hT hi
  have h0 := tidy_sp hT (i := 0) (by omega)
  unfold dfH
  rw [wr_in (by omega)]
  omega
theorem sumQI (m : Nat) (f : Nat → Nat → Int) (T : List Wh) (hT : isTidy T) :
    SumOk Try.prog 1 (.block 0 (.loop (loopAt 0 fQI))) (atS 32 (lvQI .normal) 1 (stQI T.length 0 0) (hpPI m f T.length (wfun T)) (fun K => K .normal (mkT 0 32 [(5, .v (i64 (pgF (dfH T) T.length)))]) (hpP1 m f))) := by
  refine for_at gmPr_ok (n := 100) (m := 1) (lv := lvQI) (fun i => stQI T.length (pgF (dfH T) i) i) (fun _ => hpPI m f T.length (wfun T)) (fun _ => True) T.length (fun _ => noLam) (lv3_ris rfl rfl rfl) (Nat.le_refl _) trivial fun K Q hk i _ hi => ⟨noLam_ok _ _ _, ?_⟩
  have hlen := okD_len (tidy_okD hT)
  rw [rndQI]
  refine good_cond (fun c1 => ?_) fun c1 => ?_
  · have c1 := of_decide_eq_true c1
    have c1' : i < T.length := by omega
    rw [show 0 + Int.toNat (i : Int) = i by omega, wr_in (x := (i : Int) + 1) (by omega)]
    have h1 := pgF_in (h := dfH T) (k := T.length) (fun j hj => dfH_in hT hj) i (by omega)
    have h2 : -2000 ≤ IntKind.wrap IntKind.i64 (wfun T i 0 - wfun T 0 0) ∧ IntKind.wrap IntKind.i64 (wfun T i 0 - wfun T 0 0) ≤ 2000 := dfH_in hT c1'
    refine good_needs (by simp only [ob_cons, ob_nil, and_true, decide_eq_true_eq]; exact ⟨by omega, by omega, by omega, by omega, inR_iff.2 (by omega), inR_iff.2 (by omega)⟩) (good_out ⟨i + 1, ⟨rfl, c1', trivial⟩, rfl, Hsim.refl _⟩)
  · have c1 := of_decide_eq_false c1
    have : i = T.length := by omega
    subst this
    refine good_out ⟨_, Hsim.refl _, ?_⟩
    rw [if_pos rfl]
    exact hk
theorem dfH_first {T : List Wh} : pgF (dfH T) 1 = 0 := by
  show gcdI 0 (dfH T 0) = 0
  rw [gcdI_zero]
  unfold dfH
  rw [Int.sub_self]
  rfl
def perV (L : List Wh) : Int := bif yI L then pgF (spH (tI L)) (tI L).length else -1
def fldV (L : List Wh) : Int := bif yI L then pgF (dfH (tI L)) (tI L).length else -1
/-- A number of a list of wheels. -/
def FnmO (v : List Wh → Int) : List SA → Option FR
  | [.row m g] => some { val := .v (.int .i64 (v (listW (itW g) m))), obl := [allW m g, decide (m ≤ 2 ^ 38)] }
  | _ => none
theorem nm_fin {m : Nat} {g : Nat → List Value} {v : List Wh → Int} {x : Int} {ob : List Bool} {fn : Func} {Λ : Nat → Option Sum} (h1 : allW m g = true) (hm : m ≤ 2 ^ 38) {P : Prop} (c : P) (hob : P → obls ob = true) (h0 : yI (listW (itW g) m) = false → v (listW (itW g) m) = -1) (hx : yI (listW (itW g) m) = true → v (listW (itW g) m) = x)
    (ht : execF Try.prog (gmPt yI tI) Λ 100 fn [.sl 0 9 0 0 m none] (hpP1 m (itW g)) (packK 1) = needs [Nat.ble (0 + m) m, allW m fun q => row9 (itW g) (0 + q), decide (m ≤ 274877906944)] (bif !yI (listW (itW fun q => row9 (itW g) (0 + q)) m) then .out .ret [.v (i64 (-1))] [.row false m 9 (row9 (itW g)) 46] else needs ob (.out .ret [.v (i64 x)] [.row false m 9 (row9 (itW g)) 46]))) :
    GoodQ (execF Try.prog (gmPt yI tI) Λ 100 fn [.sl 0 9 0 0 m none] (hpP1 m (itW g)) (packK 1)) (GivR (abP md_ws [.row m g] []) { val := .v (.int .i64 (v (listW (itW g) m))), obl := [allW m g, decide (m ≤ 2 ^ 38)] }) := by
  rw [ht]
  simp only [row0, listW_itW]
  refine good_needs (by simp only [ob_cons, ob_nil, and_true, decide_eq_true_eq, Nat.ble_eq, allW_row, true_and]; omega) (good_cond (fun q => ?_) fun q => ?_)
  · have q2 : yI (listW (itW g) m) = false := by simpa using q
    exact good_out ⟨_, rfl, by rw [h0 q2], .cons (ABeq.row fun j hj => (allW_get h1 j hj).symm) .nil⟩
  · have q2 : yI (listW (itW g) m) = true := by simpa using q
    exact good_needs (hob c) (good_out ⟨_, rfl, by rw [hx q2], .cons (ABeq.row fun j hj => (allW_get h1 j hj).symm) .nil⟩)
theorem ok_foI : SpecOk Try.prog 23 (specR md_ws (FnmO fldV)) := by
  refine specR_hr gmPt_ok Try.func23 rfl fun sas fr hF ho => ?_
  unfold FnmO at hF
  split at hF
  · rename_i m g
    cases hF
    simp only [ob_cons] at ho
    obtain ⟨h1, h2, _⟩ := ho
    have hm := of_decide_eq_true h2
    refine ⟨hpP1 m (itW g), _, 100, .cons (ABeq.row fun j hj => allW_get h1 j hj) .nil, lam1 (by kernel_rfl) (sumQI m (itW g) (tI (listW (itW g) m)) (tI_tidy _)), ?_⟩
    refine nm_fin h1 hm trivial (fun _ => ?_) (fun q => by rw [fldV, q]; rfl) (fun q => by rw [fldV, q]; rfl) (treeQI yI tI m (itW g) _ _ _)
    simp only [row0, listW_itW, ob_cons, ob_nil, and_true]
    exact chk_of ⟨rfl, Hsim.refl _⟩
  · cases hF
end Go.Proofs.Ytmdcafhnjihckaa

/- FnCheck: its tree. Conditions: bytes. -/
namespace Go.Proofs.Ytmdcafhnjihckaa
open Go.RowKit
set_option maxRecDepth 100000

def gmLCk (dl : Nat → (Nat → Int) → List Wh) (v : List Wh → Int) (y yI : List Wh → Bool) (tI : List Wh → List Wh) : Gam := ext (ext (ext (ext g0 34 (specR md_co (FdrO fun m b => frL (dl m b)))) 35 (specR md_ws (FckO v y))) 36 (specR md_ws (FckO v y))) 37 (specU md_ws (UO0 yI tI))
theorem lawCk (dl : Nat → (Nat → Int) → List Wh) (v : List Wh → Int) (y yI : List Wh → Bool) (tI : List Wh → List Wh) (m : Nat) (b : Nat → Int) : execF Try.prog (gmLCk dl v y yI tI) noLam 100 Try.f7 [.sl 0 1 0 0 m none] [.row false m 1 (rowB b) 5] (packK 1)
    = bif decide ((↑m : Int) > (1048576 : Int)) then Res.out Ex.ret [AV.v (Value.bool true)] [AB.row false m (1 : Nat) (rowB b) (5 : TypeId)] else needs [Nat.ble ((0 : Nat) + m) m, okB m fun q ↦ rowB b ((0 : Nat) + q), decide (m ≤ (2097152 : Nat)), Nat.ble (List.length (dl m (itB fun q ↦ rowB b ((0 : Nat) + q)))) (List.length (dl m (itB fun q ↦ rowB b ((0 : Nat) + q)))), allW (List.length (dl m (itB fun q ↦ rowB b ((0 : Nat) + q)))) (row9 (wfun (dl m (itB fun q ↦ rowB b ((0 : Nat) + q))))), decide (List.length (dl m (itB fun q ↦ rowB b ((0 : Nat) + q))) ≤ (274877906944 : Nat)), Nat.ble (List.length (dl m (itB fun q ↦ rowB b ((0 : Nat) + q)))) (List.length (dl m (itB fun q ↦ rowB b ((0 : Nat) + q)))), allW (List.length (dl m (itB fun q ↦ rowB b ((0 : Nat) + q)))) (row9 (wfun (dl m (itB fun q ↦ rowB b ((0 : Nat) + q))))), decide (List.length (dl m (itB fun q ↦ rowB b ((0 : Nat) + q))) ≤ (274877906944 : Nat))] (bif !y (listW (itW (row9 (wfun (dl m (itB fun q ↦ rowB b ((0 : Nat) + q)))))) (List.length (dl m (itB fun q ↦ rowB b ((0 : Nat) + q))))) == y (listW (itW (row9 (wfun (dl m (itB fun q ↦ rowB b ((0 : Nat) + q)))))) (List.length (dl m (itB fun q ↦ rowB b ((0 : Nat) + q))))) then bif y (listW (itW (row9 (wfun (dl m (itB fun q ↦ rowB b ((0 : Nat) + q)))))) (List.length (dl m (itB fun q ↦ rowB b ((0 : Nat) + q))))) == y (listW (itW (row9 (wfun (dl m (itB fun q ↦ rowB b ((0 : Nat) + q)))))) (List.length (dl m (itB fun q ↦ rowB b ((0 : Nat) + q))))) then Res.out Ex.ret [AV.v (Value.bool (v (listW (itW (row9 (wfun (dl m (itB fun q ↦ rowB b ((0 : Nat) + q)))))) (List.length (dl m (itB fun q ↦ rowB b ((0 : Nat) + q))))) == v (listW (itW (row9 (wfun (dl m (itB fun q ↦ rowB b ((0 : Nat) + q)))))) (List.length (dl m (itB fun q ↦ rowB b ((0 : Nat) + q)))))))] [AB.row false m (1 : Nat) (rowB b) (5 : TypeId)] else Res.out Ex.ret [AV.v (Value.bool false)] [AB.row false m (1 : Nat) (rowB b) (5 : TypeId)] else bif v (listW (itW (row9 (wfun (dl m (itB fun q ↦ rowB b ((0 : Nat) + q)))))) (List.length (dl m (itB fun q ↦ rowB b ((0 : Nat) + q))))) != v (listW (itW (row9 (wfun (dl m (itB fun q ↦ rowB b ((0 : Nat) + q)))))) (List.length (dl m (itB fun q ↦ rowB b ((0 : Nat) + q))))) then bif y (listW (itW (row9 (wfun (dl m (itB fun q ↦ rowB b ((0 : Nat) + q)))))) (List.length (dl m (itB fun q ↦ rowB b ((0 : Nat) + q))))) == y (listW (itW (row9 (wfun (dl m (itB fun q ↦ rowB b ((0 : Nat) + q)))))) (List.length (dl m (itB fun q ↦ rowB b ((0 : Nat) + q))))) then Res.out Ex.ret [AV.v (Value.bool (v (listW (itW (row9 (wfun (dl m (itB fun q ↦ rowB b ((0 : Nat) + q)))))) (List.length (dl m (itB fun q ↦ rowB b ((0 : Nat) + q))))) == v (listW (itW (row9 (wfun (dl m (itB fun q ↦ rowB b ((0 : Nat) + q)))))) (List.length (dl m (itB fun q ↦ rowB b ((0 : Nat) + q)))))))] [AB.row false m (1 : Nat) (rowB b) (5 : TypeId)] else Res.out Ex.ret [AV.v (Value.bool false)] [AB.row false m (1 : Nat) (rowB b) (5 : TypeId)] else bif !y (listW (itW (row9 (wfun (dl m (itB fun q ↦ rowB b ((0 : Nat) + q)))))) (List.length (dl m (itB fun q ↦ rowB b ((0 : Nat) + q))))) then bif y (listW (itW (row9 (wfun (dl m (itB fun q ↦ rowB b ((0 : Nat) + q)))))) (List.length (dl m (itB fun q ↦ rowB b ((0 : Nat) + q))))) == y (listW (itW (row9 (wfun (dl m (itB fun q ↦ rowB b ((0 : Nat) + q)))))) (List.length (dl m (itB fun q ↦ rowB b ((0 : Nat) + q))))) then Res.out Ex.ret [AV.v (Value.bool (v (listW (itW (row9 (wfun (dl m (itB fun q ↦ rowB b ((0 : Nat) + q)))))) (List.length (dl m (itB fun q ↦ rowB b ((0 : Nat) + q))))) == v (listW (itW (row9 (wfun (dl m (itB fun q ↦ rowB b ((0 : Nat) + q)))))) (List.length (dl m (itB fun q ↦ rowB b ((0 : Nat) + q)))))))] [AB.row false m (1 : Nat) (rowB b) (5 : TypeId)] else Res.out Ex.ret [AV.v (Value.bool false)] [AB.row false m (1 : Nat) (rowB b) (5 : TypeId)] else needs [Nat.ble (List.length (dl m (itB fun q ↦ rowB b ((0 : Nat) + q)))) (List.length (dl m (itB fun q ↦ rowB b ((0 : Nat) + q)))), allW (List.length (dl m (itB fun q ↦ rowB b ((0 : Nat) + q)))) (row9 (wfun (dl m (itB fun q ↦ rowB b ((0 : Nat) + q))))), decide (List.length (dl m (itB fun q ↦ rowB b ((0 : Nat) + q))) ≤ (274877906944 : Nat)), Nat.ble ((0 : Nat) + List.length (tI (listW (itW (row9 (wfun (dl m (itB fun q ↦ rowB b ((0 : Nat) + q)))))) (List.length (dl m (itB fun q ↦ rowB b ((0 : Nat) + q))))))) (List.length (tI (listW (itW (row9 (wfun (dl m (itB fun q ↦ rowB b ((0 : Nat) + q)))))) (List.length (dl m (itB fun q ↦ rowB b ((0 : Nat) + q))))))), allW (List.length (tI (listW (itW (row9 (wfun (dl m (itB fun q ↦ rowB b ((0 : Nat) + q)))))) (List.length (dl m (itB fun q ↦ rowB b ((0 : Nat) + q))))))) fun q ↦ row9 (wfun (tI (listW (itW (row9 (wfun (dl m (itB fun q ↦ rowB b ((0 : Nat) + q)))))) (List.length (dl m (itB fun q ↦ rowB b ((0 : Nat) + q))))))) ((0 : Nat) + q), decide (List.length (tI (listW (itW (row9 (wfun (dl m (itB fun q ↦ rowB b ((0 : Nat) + q)))))) (List.length (dl m (itB fun q ↦ rowB b ((0 : Nat) + q)))))) ≤ (274877906944 : Nat))] (bif yI (listW (itW (row9 (wfun (dl m (itB fun q ↦ rowB b ((0 : Nat) + q)))))) (List.length (dl m (itB fun q ↦ rowB b ((0 : Nat) + q))))) then bif y (listW (itW fun q ↦ row9 (wfun (tI (listW (itW (row9 (wfun (dl m (itB fun q ↦ rowB b ((0 : Nat) + q)))))) (List.length (dl m (itB fun q ↦ rowB b ((0 : Nat) + q))))))) ((0 : Nat) + q)) (List.length (tI (listW (itW (row9 (wfun (dl m (itB fun q ↦ rowB b ((0 : Nat) + q)))))) (List.length (dl m (itB fun q ↦ rowB b ((0 : Nat) + q)))))))) then Res.out Ex.ret [AV.v (Value.bool (v (listW (itW fun q ↦ row9 (wfun (tI (listW (itW (row9 (wfun (dl m (itB fun q ↦ rowB b ((0 : Nat) + q)))))) (List.length (dl m (itB fun q ↦ rowB b ((0 : Nat) + q))))))) ((0 : Nat) + q)) (List.length (tI (listW (itW (row9 (wfun (dl m (itB fun q ↦ rowB b ((0 : Nat) + q)))))) (List.length (dl m (itB fun q ↦ rowB b ((0 : Nat) + q)))))))) == v (listW (itW (row9 (wfun (dl m (itB fun q ↦ rowB b ((0 : Nat) + q)))))) (List.length (dl m (itB fun q ↦ rowB b ((0 : Nat) + q)))))))] [AB.row false m (1 : Nat) (rowB b) (5 : TypeId)] else Res.out Ex.ret [AV.v (Value.bool false)] [AB.row false m (1 : Nat) (rowB b) (5 : TypeId)] else Res.out Ex.ret [AV.v (Value.bool false)] [AB.row false m (1 : Nat) (rowB b) (5 : TypeId)])) := by kernel_rfl

theorem gmLCk_ok : GamOk Try.prog (gmLCk bEx ckV ckY yI tI) := ext_ok (ext_ok (ext_ok (ext_ok g0_ok ok_drCk) ok_ckI) ok_ckS) ok_UTi

end Go.Proofs.Ytmdcafhnjihckaa

/- FnCheck returns true, whatever the bytes are. Conditions: bytes. -/
namespace Go.Proofs.Ytmdcafhnjihckaa
open Go.RowKit
set_option maxRecDepth 100000

theorem ck_self {L : List Wh} (h : yI L = true) : ckY (tI L) = ckY L ∧ ckV (tI L) = ckV L := by
  have hT := tI_tidy L
  have e : ckY (tI L) = ckY L := by rw [ckY, ckY, tI_self hT, yI_self hT, h]
  exact ⟨e, by rw [ckV, ckV, e, tI_self hT]⟩
theorem yes_dck (m : Nat) (b : Nat → Int) (_ : m ≤ 9223372036854775807) (hb : okB m (rowB b) = true) : ∃ Γ n Λ, GamOk Try.prog Γ ∧ (∀ cc, (Try.f7).body = some cc → LamOk Try.prog 1 Λ cc) ∧ GoodQ (execF Try.prog Γ Λ n Try.f7 [.sl 0 1 0 0 m none] [.row false m 1 (rowB b) 5] (packK 1)) SaysYes := by
  refine ⟨_, 100, noLam, gmLCk_ok, noLam' _, ?_⟩
  rw [lawCk]
  refine good_cond (fun _ => good_out rfl) fun c => ?_
  have c := of_decide_eq_false c
  have hl := bEx_len m b
  simp only [Nat.zero_add, itB_row]
  generalize bEx m b = L at hl ⊢
  have b21 : decide (m ≤ 2097152) = true := decide_eq_true (by omega)
  have bT : decide ((tI L).length ≤ 274877906944) = true := decide_eq_true (by have := tI_len12 L; omega)
  simp only [hb, b21, ble_me, allW_row, b38 hl, bT, needs_t, needs_nil, beq_self_eq_true, bne_self_eq_false, Bool.not_true, cond_false, cond_true, listW_me]
  refine good_cond (fun _ => good_out rfl) fun h1 => ?_
  rw [Bool.not_eq_false'] at h1
  have hy : yI L = true := by
    cases h : yI L with
    | true => rfl
    | false => rw [ckY, h] at h1; cases h1
  rw [hy, (ck_self hy).1, (ck_self hy).2, h1]
  exact say (beq_self_eq_true _)

end Go.Proofs.Ytmdcafhnjihckaa

/- A sum of a design is the reference sum, and that of the tidied design: FnCheck returns true, whatever the bytes are, and they read as before. No conditions. -/
namespace Go.Proofs.Ytmdcafhnjihckaa
open Go.ChangeShapes Go.WideShapes Go.ChangeAt Go.RowKit

set_option maxRecDepth 100000 in
theorem dck_lifted (os : Os) (started : os.Started) (H : Type) (enc : TypeId × Value → H) :
    ReturnsInHanded {} Try.checked os 7 .any (Rows.fnCheckSpec.pre6 enc Try.prog Try.f7 Rows.fnCheckRow.domain false) (Rows.fnCheckSpec.post enc Try.prog Try.f7 false true false false) := by
  refine returnsInHanded_of_change (C := Try.checked) own started (by kernel_rfl) Try.func7
    (ChangeSpec.witness6 (enc := enc) (C := Try.checked) false ⟨#[], #[.slice none 0 0], []⟩ 8 (by kernel_rfl) (by kernel_rfl) (by kernel_rfl) (by kernel_rfl)) ?_
  intro W base args ds gs before hval hW _ _
  exact contractB (spec := Rows.fnCheckSpec) Try.func7 rfl rfl rfl (fun _ _ => rfl) (fun m b hm hb => yes_dck m b hm hb) H enc W base args ds gs before hval hW

set_option maxRecDepth 100000 in
theorem dck_f1 : Rows.fnCheckRow.wf (OpenSpec.ofChange Rows.fnCheckSpec) = true := by kernel_rfl
set_option maxRecDepth 100000 in
theorem dck_f2 : (Rows.fnCheckRow.inPlace == Try.prog.inPlace 7) = true := by kernel_rfl
set_option maxRecDepth 100000 in
theorem dck_f3 : (Rows.fnCheckRow.unfollowed == Try.prog.unfollowed 7) = true := by kernel_rfl
set_option maxRecDepth 100000 in
theorem dck_f4 : (Rows.fnCheckRow.recurses == Try.prog.recurses 7) = true := by kernel_rfl
set_option maxRecDepth 100000 in
theorem dck_f5 : (Rows.fnCheckRow.named == Try.prog.varsNamed 7) = true := by kernel_rfl
set_option maxRecDepth 100000 in
theorem dck_f6 : Try.prog.funcNamed Rows.fnCheckRow.func = some 7 := by kernel_rfl
theorem dck_f7 : (Rows.fnCheckRow.lifted == Try.prog.liftsFinal) = true := jfG
theorem dck_f8 : (Try.prog.make == some Rows.fnCheckRow.make) = true := jfH
theorem dck_f9 : (Rows.fnCheckRow.plainKeys == Try.prog.plainKeys) = true := jfI
set_option maxRecDepth 100000 in
theorem dck_joined : joinedFacts Try.prog 7 Try.f7 Rows.fnCheckSpec Rows.fnCheckRow = true := by
  unfold joinedFacts
  rw [jfA, jfB, jfC, jfD, jfE, jfF, dck_f1, dck_f2, dck_f3, dck_f4, dck_f5, dck_f7, dck_f8, dck_f9]
  kernel_rfl

theorem dck_holds : Rows.FnCheckSaid :=
  OpenClaim.holds_of_wide 7 Try.f7 rfl rfl rfl rfl rfl rfl rfl ⟨rfl, rfl, rfl, rfl, rfl⟩ rfl rfl rfl rfl rfl dck_f6 Try.func7 dck_joined
    (of_decide_eq_true (by kernel_rfl)) (by unfold Func.isWrapper; first | (rw [if_pos (by decide +kernel)]; kernel_rfl) | (rw [if_neg (by decide +kernel)]; exact ⟨rfl, rfl⟩))
    (fun os started H enc _ => dck_lifted os started H enc)
#print axioms dck_holds
end Go.Proofs.Ytmdcafhnjihckaa
