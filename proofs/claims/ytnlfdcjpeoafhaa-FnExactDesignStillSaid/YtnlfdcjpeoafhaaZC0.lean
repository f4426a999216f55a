/- FnExactDesignStill: the helpers on whole numbers, the whole. -/
import Derived.Test.YtnlfdcjpeoafhaaZA0
import Derived.Test.YtnlfdcjpeoafhaaZA1
import Derived.Test.YtnlfdcjpeoafhaaZA2
import Derived.Test.YtnlfdcjpeoafhaaZA3
import Derived.Test.YtnlfdcjpeoafhaaZA4
import Derived.Test.YtnlfdcjpeoafhaaZA5
import Derived.Test.YtnlfdcjpeoafhaaZA6
import Derived.Test.YtnlfdcjpeoafhaaZB0
/- A word for a callee that hands back a new list or none: read as one. Conditions: those of its two cases. -/
namespace Go.Proofs.Ytnlfdcjpeoafhaa
open Go.RowKit
set_option maxRecDepth 100000

theorem putC_nil : ∀ (is : List (Option Nat)) (bs : List AB), (∀ b ∈ bs, b.wr = false) → putC is bs = []
  | [], [], _ => rfl
  | [], _ :: _, _ => by simp [putC]
  | i :: is, [], _ => by cases i <;> simp [putC]
  | none :: is, b :: bs, h => by
    simp only [putC]
    exact putC_nil is bs fun x hx => h x (by simp [hx])
  | some i :: is, b :: bs, h => by
    have ih := putC_nil is bs fun x hx => h x (by simp [hx])
    have hb := h b (by simp)
    cases b with
    | row rw n s g t =>
      cases rw with
      | true => cases hb
      | false => simp only [putC]; exact ih
    | cells cs t => cases hb
    | gone => simp only [putC]; exact ih
theorem abP_rd : ∀ {mds : List Md} {sas : List SA} {ps : List (Nat → List Value)}, hasWr mds = false → ∀ b ∈ abP mds sas ps, b.wr = false
  | [], [], ps, _, b, hb => by simp [abP] at hb
  | .val :: ds, .v x :: r, ps, h, b, hb => abP_rd (mds := ds) (sas := r) (ps := ps) h b (by simpa only [abP] using hb)
  | .rd s t :: ds, .row m g :: r, ps, h, b, hb => by
    simp only [abP, List.mem_cons] at hb
    rcases hb with rfl | hb
    · rfl
    · exact abP_rd (mds := ds) (sas := r) (ps := ps) h b hb
  | .wr s t :: ds, _, ps, h, b, hb => by cases h
  | [], _ :: _, ps, _, b, hb => by simp [abP] at hb
  | .val :: ds, [], ps, _, b, hb => by simp [abP] at hb
  | .val :: ds, .row .. :: _, ps, _, b, hb => by simp [abP] at hb
  | .val :: ds, .own .. :: _, ps, _, b, hb => by simp [abP] at hb
  | .rd .. :: ds, [], ps, _, b, hb => by simp [abP] at hb
  | .rd .. :: ds, .v _ :: _, ps, _, b, hb => by simp [abP] at hb
  | .rd .. :: ds, .own .. :: _, ps, _, b, hb => by simp [abP] at hb

/-- The list, or none. -/
structure UR where
  b : Bool
  T : List Wh
  obl : List Bool
def specU (mds : List Md) (U : List SA → Option UR) : Spec := fun avs H base =>
  match saAll H mds avs with
  | some xs => match U (xs.map (·.sa)) with
    | some u => some { val := .tup [.sl base 9 0 0 u.T.length (some u.T.length), .v (.bool u.b)], rd := (ixC mds xs).filterMap id, put := [], new := [.row false u.T.length 9 (row9 (wfun u.T)) 67], obl := xs.flatMap (·.ob) ++ u.obl }
    | none => none
  | none => none

theorem specU_ok {P : Program} {f : FuncId} {mds : List Md} {FY FN : List SA → Option FR} {U : List SA → Option UR} (hw : hasWr mds = false) (hY : SpecOk P f (specR mds FY)) (hN : SpecOk P f (specR mds FN))
    (h : ∀ sas u, U sas = some u → obls u.obl = true → Nat.beq (abP mds sas []).length (abC mds sas).length = true ∧ ((u.b = true ∧ ∃ ob, FY sas = some { val := valY u.T, new := newY u.T, obl := ob } ∧ obls ob = true) ∨ (u.b = false ∧ u.T = [] ∧ ∃ ob, FN sas = some { val := valN, obl := ob } ∧ obls ob = true))) : SpecOk P f (specU mds U) := by
  refine ⟨hY.1, fun avs H base δ ν vals w hS ho hv hr hlt hfree hsep => ?_⟩
  unfold specU at hS
  split at hS
  case h_2 => cases hS
  rename_i xs hxs
  split at hS
  case h_2 => cases hS
  rename_i u hu
  simp only [Option.some.injEq] at hS
  subst hS
  have ho' : obls (xs.flatMap (·.ob)) = true ∧ obls u.obl = true := by simpa [obls, List.all_append] using ho
  obtain ⟨hl, hc⟩ := h _ _ hu ho'.2
  have hput : putC (ixC mds xs) (abP mds (xs.map (·.sa)) []) = [] := putC_nil _ _ fun b hb => abP_rd hw b hb
  rcases hc with ⟨hb, ob, e1, e2⟩ | ⟨hb, hT, ob, e1, e2⟩
  · have hS2 : specR mds FY avs H base = some { val := .tup [.sl base 9 0 0 u.T.length (some u.T.length), .v (.bool true)], rd := (ixC mds xs).filterMap id, put := [], new := newY u.T, obl := xs.flatMap (·.ob) ++ ob } := by
      unfold specR
      rw [hxs]
      simp only [e1]
      show cond _ _ _ = _
      rw [hw, hl, hput]
      rfl
    refine (hY.2 avs H base _ ν vals w hS2 (by simpa [obls, List.all_append] using And.intro ho'.1 e2) hv hr hlt hfree (fun i o j b b' hp => by cases hp)).mono ?_
    rintro e w' ⟨v, ν', rfl, d⟩
    refine ⟨v, ν', rfl, d.le, d.dom, by rw [hb]; exact d.val, fun i b hl => (by cases hl), fun j b hj => ?_, d.os, d.tape, d.output, d.size, d.block, d.fresh, d.apart⟩
    match j with
    | 0 =>
      simp only [List.getElem?_cons_zero, Option.some.injEq] at hj
      subst hj
      have := d.new 0 _ rfl
      rcases this with ⟨h1, _, _⟩ | ⟨k, l, t', fz, h1, h2, _, h4, h5⟩
      · cases h1
      · exact .inr ⟨k, l, t', fz, h1, h2, fun h => (by cases h), h4, h5⟩
    | j + 1 => simp at hj
  · have hS2 : specR mds FN avs H base = some { val := valN, rd := (ixC mds xs).filterMap id, put := [], new := [], obl := xs.flatMap (·.ob) ++ ob } := by
      unfold specR
      rw [hxs]
      simp only [e1]
      show cond _ _ _ = _
      rw [hw, hl, hput]
      rfl
    refine (hN.2 avs H base _ ν vals w hS2 (by simpa [obls, List.all_append] using And.intro ho'.1 e2) hv hr hlt (fun j hj => absurd hj (Nat.not_lt_zero _)) (fun i o j b b' hp => by cases hp)).mono ?_
    rintro e w' ⟨v, ν', rfl, d⟩
    have hnone : ν' base = none := by
      have h0 : ν base = none := hfree 0 (Nat.zero_lt_one)
      cases hq : ν' base with
      | none => rfl
      | some b =>
        have := d.dom base h0 (by rw [hq]; simp)
        simp at this
    have hv0 : VR ν' (.tup [.sl base 9 0 0 0 (some 0), .v (.bool false)]) v := by
      have := d.val
      simp only [VR, VRs] at this ⊢
      obtain ⟨l, e1, e2⟩ := this
      match l, e2 with
      | [a, b], ⟨ha, hbb, _⟩ => exact ⟨[a, b], e1, ⟨none, 0, ha, fun c' hc' => by simpa using hc', Nat.le_refl _, fun hc => absurd hc (Nat.lt_irrefl 0)⟩, hbb, trivial⟩
    refine ⟨v, ν', rfl, d.le, fun i h1 h2 => ?_, by rw [hb, hT]; exact hv0, fun i b hl => (by cases hl), fun j b hj => ?_, d.os, d.tape, d.output, d.size, d.block, fun j b hj hq => ?_, fun j j' b b' hne hj hj' => ?_⟩
    · have := d.dom i h1 h2
      simp at this
      omega
    · match j with
      | 0 =>
        simp only [List.getElem?_cons_zero, Option.some.injEq] at hj
        subst hj
        rw [hT]
        exact .inl ⟨rfl, rfl, hnone⟩
      | j + 1 => simp at hj
    · have hj : j < 1 := hj
      have : j = 0 := by omega
      subst this
      rw [Nat.add_zero, hnone] at hq
      cases hq
    · have hj : j < 1 := hj
      have hj' : j' < 1 := hj'
      omega

end Go.Proofs.Ytnlfdcjpeoafhaa

/- Lists of wheels compared: slices.Equal, l5Equal. Conditions: two lists of wheels. -/
namespace Go.Proofs.Ytnlfdcjpeoafhaa
open Go.RowKit
set_option maxRecDepth 100000

noncomputable abbrev fSE : Func := Try.f82
abbrev lvSE : Ex → List Nat := lv3 [0, 1, 12, 13] [] [4]
theorem rndSE (m : Nat) (f h : Nat → Nat → Int) (i : Nat) : execC Try.prog g0 100 noLam (loopAt 0 fSE) (mkT 0 26 ((lvSE .normal).zip [.sl 0 9 0 0 m none, .sl 1 9 0 0 m none, .v (i64 m), .v (i64 i)])) (hpQW m f h) (leafV 26 lvSE 2)
    = bif decide ((↑i : Int) < (↑m : Int)) then needs [decide ((↑i : Int) < (↑m : Int)), decide ((0 : Nat) + Int.toNat (↑i : Int) < m), decide ((↑i : Int) < (↑m : Int)), decide ((0 : Nat) + Int.toNat (↑i : Int) < m)] (bif !(f ((0 : Nat) + Int.toNat (↑i : Int)) (0 : Nat) == h ((0 : Nat) + Int.toNat (↑i : Int)) (0 : Nat) && (f ((0 : Nat) + Int.toNat (↑i : Int)) (1 : Nat) == h ((0 : Nat) + Int.toNat (↑i : Int)) (1 : Nat) && (f ((0 : Nat) + Int.toNat (↑i : Int)) (2 : Nat) == h ((0 : Nat) + Int.toNat (↑i : Int)) (2 : Nat) && (f ((0 : Nat) + Int.toNat (↑i : Int)) (3 : Nat) == h ((0 : Nat) + Int.toNat (↑i : Int)) (3 : Nat) && (f ((0 : Nat) + Int.toNat (↑i : Int)) (4 : Nat) == h ((0 : Nat) + Int.toNat (↑i : Int)) (4 : Nat) && (f ((0 : Nat) + Int.toNat (↑i : Int)) (5 : Nat) == h ((0 : Nat) + Int.toNat (↑i : Int)) (5 : Nat) && (f ((0 : Nat) + Int.toNat (↑i : Int)) (6 : Nat) == h ((0 : Nat) + Int.toNat (↑i : Int)) (6 : Nat) && (f ((0 : Nat) + Int.toNat (↑i : Int)) (7 : Nat) == h ((0 : Nat) + Int.toNat (↑i : Int)) (7 : Nat) && (f ((0 : Nat) + Int.toNat (↑i : Int)) (8 : Nat) == h ((0 : Nat) + Int.toNat (↑i : Int)) (8 : Nat) && true))))))) && true && true)) then Res.out Ex.ret [AV.v (Value.bool false)] [AB.row false m (9 : Nat) (row9 f) (67 : TypeId), AB.row false m (9 : Nat) (row9 h) (67 : TypeId)] else Res.out Ex.normal [AV.sl (0 : Nat) (9 : Nat) (0 : Nat) (0 : Nat) m none, AV.sl (1 : Nat) (9 : Nat) (0 : Nat) (0 : Nat) m none, AV.v (Value.int IntKind.i64 (↑m : Int)), AV.v (Value.int IntKind.i64 (IntKind.wrap IntKind.i64 ((↑i : Int) + (1 : Int))))] [AB.row false m (9 : Nat) (row9 f) (67 : TypeId), AB.row false m (9 : Nat) (row9 h) (67 : TypeId)]) else Res.out (Ex.exit (0 : Nat)) [] [AB.row false m (9 : Nat) (row9 f) (67 : TypeId), AB.row false m (9 : Nat) (row9 h) (67 : TypeId)] := by kernel_rfl

noncomputable abbrev lamSE (m : Nat) (f h : Nat → Nat → Int) (c : Bool) : Nat → Option Sum := oneL 0 (atS 26 (lvSE .normal) 2 [.sl 0 9 0 0 m none, .sl 1 9 0 0 m none, .v (i64 m), .v (i64 (0 : Nat))] (hpQW m f h) (fun K => cond c (K .normal (mkT 0 26 []) (hpQW m f h)) (K .ret (mkT 0 26 [(4, .v (.bool false))]) (hpQW m f h))))
theorem treeSE (m n : Nat) (f h : Nat → Nat → Int) (c : Bool) : execF Try.prog g0 (lamSE m f h c) 100 fSE [.sl 0 9 0 0 m none, .sl 1 9 0 0 n none] [.row false m 9 (row9 f) 67, .row false n 9 (row9 h) 67] (packK 2)
    = bif (↑m : Int) != (↑n : Int) then Res.out Ex.ret [AV.v (Value.bool false)] [AB.row false m (9 : Nat) (row9 f) (67 : TypeId), AB.row false n (9 : Nat) (row9 h) (67 : TypeId)] else needs [chk ([AV.sl (0 : Nat) (9 : Nat) (0 : Nat) (0 : Nat) m none, AV.sl (1 : Nat) (9 : Nat) (0 : Nat) (0 : Nat) n none, AV.v (Value.int IntKind.i64 (↑m : Int)), AV.v (Value.int IntKind.i64 (0 : Int))] = [AV.sl (0 : Nat) (9 : Nat) (0 : Nat) (0 : Nat) m none, AV.sl (1 : Nat) (9 : Nat) (0 : Nat) (0 : Nat) m none, AV.v (Value.int IntKind.i64 (↑m : Int)), AV.v (Value.int IntKind.i64 (0 : Int))] ∧ Hsim [AB.row false m (9 : Nat) (row9 f) (67 : TypeId), AB.row false n (9 : Nat) (row9 h) (67 : TypeId)] (hpQW m f h))] (bif c then Res.out Ex.ret [AV.v (Value.bool true)] [AB.row false m (9 : Nat) (row9 f) (67 : TypeId), AB.row false m (9 : Nat) (row9 h) (67 : TypeId)] else Res.out Ex.ret [AV.v (Value.bool false)] [AB.row false m (9 : Nat) (row9 f) (67 : TypeId), AB.row false m (9 : Nat) (row9 h) (67 : TypeId)]) := by kernel_rfl

abbrev lvLE : Ex → List Nat := lv3 [0, 1, 5] [] [4]
theorem rndLE (m : Nat) (f h : Nat → Nat → Int) (i : Nat) : execC Try.prog g0 100 noLam (loopAt 0 Try.f86) (mkT 0 26 ((lvLE .normal).zip [.sl 0 9 0 0 m none, .sl 1 9 0 0 m none, .v (i64 i)])) (hpQW m f h) (leafV 26 lvLE 2)
    = bif decide ((↑i : Int) < (↑m : Int)) then needs [decide ((↑i : Int) < (↑m : Int)), decide ((0 : Nat) + Int.toNat (↑i : Int) < m), decide ((↑i : Int) < (↑m : Int)), decide ((0 : Nat) + Int.toNat (↑i : Int) < m)] (bif !(f ((0 : Nat) + Int.toNat (↑i : Int)) (0 : Nat) == h ((0 : Nat) + Int.toNat (↑i : Int)) (0 : Nat) && (f ((0 : Nat) + Int.toNat (↑i : Int)) (1 : Nat) == h ((0 : Nat) + Int.toNat (↑i : Int)) (1 : Nat) && (f ((0 : Nat) + Int.toNat (↑i : Int)) (2 : Nat) == h ((0 : Nat) + Int.toNat (↑i : Int)) (2 : Nat) && (f ((0 : Nat) + Int.toNat (↑i : Int)) (3 : Nat) == h ((0 : Nat) + Int.toNat (↑i : Int)) (3 : Nat) && (f ((0 : Nat) + Int.toNat (↑i : Int)) (4 : Nat) == h ((0 : Nat) + Int.toNat (↑i : Int)) (4 : Nat) && (f ((0 : Nat) + Int.toNat (↑i : Int)) (5 : Nat) == h ((0 : Nat) + Int.toNat (↑i : Int)) (5 : Nat) && (f ((0 : Nat) + Int.toNat (↑i : Int)) (6 : Nat) == h ((0 : Nat) + Int.toNat (↑i : Int)) (6 : Nat) && (f ((0 : Nat) + Int.toNat (↑i : Int)) (7 : Nat) == h ((0 : Nat) + Int.toNat (↑i : Int)) (7 : Nat) && (f ((0 : Nat) + Int.toNat (↑i : Int)) (8 : Nat) == h ((0 : Nat) + Int.toNat (↑i : Int)) (8 : Nat) && true))))))) && true && true)) then Res.out Ex.ret [AV.v (Value.bool false)] [AB.row false m (9 : Nat) (row9 f) (67 : TypeId), AB.row false m (9 : Nat) (row9 h) (67 : TypeId)] else Res.out Ex.normal [AV.sl (0 : Nat) (9 : Nat) (0 : Nat) (0 : Nat) m none, AV.sl (1 : Nat) (9 : Nat) (0 : Nat) (0 : Nat) m none, AV.v (Value.int IntKind.i64 (IntKind.wrap IntKind.i64 ((↑i : Int) + (1 : Int))))] [AB.row false m (9 : Nat) (row9 f) (67 : TypeId), AB.row false m (9 : Nat) (row9 h) (67 : TypeId)]) else Res.out (Ex.exit (0 : Nat)) [] [AB.row false m (9 : Nat) (row9 f) (67 : TypeId), AB.row false m (9 : Nat) (row9 h) (67 : TypeId)] := by kernel_rfl

noncomputable abbrev lamLE (m : Nat) (f h : Nat → Nat → Int) (c : Bool) : Nat → Option Sum := oneL 0 (atS 26 (lvLE .normal) 2 [.sl 0 9 0 0 m none, .sl 1 9 0 0 m none, .v (i64 (0 : Nat))] (hpQW m f h) (fun K => cond c (K .normal (mkT 0 26 []) (hpQW m f h)) (K .ret (mkT 0 26 [(4, .v (.bool false))]) (hpQW m f h))))
theorem treeLE (m n : Nat) (f h : Nat → Nat → Int) (c : Bool) : execF Try.prog g0 (lamLE m f h c) 100 Try.f86 [.sl 0 9 0 0 m none, .sl 1 9 0 0 n none] [.row false m 9 (row9 f) 67, .row false n 9 (row9 h) 67] (packK 2)
    = bif (↑m : Int) != (↑n : Int) then Res.out Ex.ret [AV.v (Value.bool false)] [AB.row false m (9 : Nat) (row9 f) (67 : TypeId), AB.row false n (9 : Nat) (row9 h) (67 : TypeId)] else needs [chk ([AV.sl (0 : Nat) (9 : Nat) (0 : Nat) (0 : Nat) m none, AV.sl (1 : Nat) (9 : Nat) (0 : Nat) (0 : Nat) n none, AV.v (Value.int IntKind.i64 (0 : Int))] = [AV.sl (0 : Nat) (9 : Nat) (0 : Nat) (0 : Nat) m none, AV.sl (1 : Nat) (9 : Nat) (0 : Nat) (0 : Nat) m none, AV.v (Value.int IntKind.i64 (0 : Int))] ∧ Hsim [AB.row false m (9 : Nat) (row9 f) (67 : TypeId), AB.row false n (9 : Nat) (row9 h) (67 : TypeId)] (hpQW m f h))] (bif c then Res.out Ex.ret [AV.v (Value.bool true)] [AB.row false m (9 : Nat) (row9 f) (67 : TypeId), AB.row false m (9 : Nat) (row9 h) (67 : TypeId)] else Res.out Ex.ret [AV.v (Value.bool false)] [AB.row false m (9 : Nat) (row9 f) (67 : TypeId), AB.row false m (9 : Nat) (row9 h) (67 : TypeId)]) := by kernel_rfl

def FeqB (eq : List Wh → List Wh → Bool) : List SA → Option FR
  | [.row m g, .row n g2] => some { val := .v (.bool (eq (listW (itW g) m) (listW (itW g2) n))), obl := [allW m g, allW n g2, decide (m ≤ 2 ^ 38)] }
  | _ => none
def UO1 (yes : Int → List Wh → Bool) (tl : Int → List Wh → List Wh) : List SA → Option UR
  | [.row m g, .v (.int .i64 x)] => some ⟨yes x (listW (itW g) m), tl x (listW (itW g) m), [allW m g, decide (m ≤ 2 ^ 38)]⟩
  | _ => none
def gmS3 (yT yL : Int → List Wh → Bool) (tT tL : Int → List Wh → List Wh) (eq : List Wh → List Wh → Bool) : Gam := ext (ext (ext g0 82 (specR md_eqWS (FeqB eq))) 25 (specU md_wv (UO1 yL tL))) 27 (specU md_wv (UO1 yT tT))
abbrev lvS4 : Ex → List Nat := lv3 [4, 6, 7, 8, 9, 10, 21] [4, 6, 21] [2, 3]
abbrev stS4 (q k : Nat) (b : Nat) (r : Nat) (fine : Bool) (a : Nat) : List AV := [.sl 1 9 0 0 q (some q), .own 2 k, .v (i64 b), .sl 3 9 0 0 r (some r), .v (.bool fine), .v (i64 a), .v (i64 b)]
abbrev hpS4 (m : Nat) (f : Nat → Nat → Int) (q : Nat) (h : Nat → Nat → Int) (k : Nat) (o : Nat → Int) (r : Nat) (u : Nat → Nat → Int) : List AB := [.row false m 9 (row9 f) 67, .row true q 9 (row9 h) 67, .row true k 1 (rowI o) 3, .row false r 9 (row9 u) 67]
abbrev hpS5 (m : Nat) (f : Nat → Nat → Int) (q : Nat) (h : Nat → Nat → Int) (k : Nat) (o : Nat → Int) : List AB := [.row false m 9 (row9 f) 67, .row true q 9 (row9 h) 67, .row true k 1 (rowI o) 3]
theorem rndS4 (yT yL : Int → List Wh → Bool) (tT tL : Int → List Wh → List Wh) (eq : List Wh → List Wh → Bool) (m : Nat) (f : Nat → Nat → Int) (q : Nat) (h : Nat → Nat → Int) (k : Nat) (o : Nat → Int) (b r : Nat) (u : Nat → Nat → Int) (fine : Bool) (a : Nat) : execC Try.prog (gmS3 yT yL tT tL eq) 100 noLam (loopAt 2 Try.f41) (mkT 0 56 ((lvS4 .normal).zip (stS4 q k b r fine a))) (hpS4 m f q h k o r u) (leafV 56 lvS4 1)
    = bif fine then bif decide ((↑a : Int) < (24 : Int)) then needs [Nat.ble ((0 : Nat) + q) q, allW q fun q ↦ row9 h ((0 : Nat) + q), decide (q ≤ (274877906944 : Nat))] (bif yL (↑a : Int) (listW (itW fun q ↦ row9 h ((0 : Nat) + q)) q) then needs [Nat.ble ((0 : Nat) + r) r, Nat.ble ((0 : Nat) + List.length (tL (↑a : Int) (listW (itW fun q ↦ row9 h ((0 : Nat) + q)) q))) (List.length (tL (↑a : Int) (listW (itW fun q ↦ row9 h ((0 : Nat) + q)) q))), allW r fun q ↦ row9 u ((0 : Nat) + q), allW (List.length (tL (↑a : Int) (listW (itW fun q ↦ row9 h ((0 : Nat) + q)) q))) fun q_1 ↦ row9 (wfun (tL (↑a : Int) (listW (itW fun q ↦ row9 h ((0 : Nat) + q)) q))) ((0 : Nat) + q_1), decide (r ≤ (274877906944 : Nat))] (bif eq (listW (itW fun q ↦ row9 u ((0 : Nat) + q)) r) (listW (itW fun q_1 ↦ row9 (wfun (tL (↑a : Int) (listW (itW fun q ↦ row9 h ((0 : Nat) + q)) q))) ((0 : Nat) + q_1)) (List.length (tL (↑a : Int) (listW (itW fun q ↦ row9 h ((0 : Nat) + q)) q)))) then needs [Nat.ble k k, Nat.ble (k + (1 : Nat)) (549755813888 : Nat)] (Res.out (Ex.exit (2 : Nat)) [AV.sl (1 : Nat) (9 : Nat) (0 : Nat) (0 : Nat) q (some q), AV.own (2 : Nat) (k + (1 : Nat)), AV.v (Value.int IntKind.i64 (↑b : Int))] [AB.row false m (9 : Nat) (row9 f) (67 : TypeId), AB.row true q (9 : Nat) (row9 h) (67 : TypeId), AB.row true (k + (1 : Nat)) (1 : Nat) (fun q ↦ [Value.int IntKind.i64 (bif Nat.blt q k then o q else (↑b : Int))]) (3 : Nat)]) else Res.out Ex.normal [AV.sl (1 : Nat) (9 : Nat) (0 : Nat) (0 : Nat) q (some q), AV.own (2 : Nat) k, AV.v (Value.int IntKind.i64 (↑b : Int)), AV.sl (3 : Nat) (9 : Nat) (0 : Nat) (0 : Nat) r (some r), AV.v (Value.bool fine), AV.v (Value.int IntKind.i64 (IntKind.wrap IntKind.i64 ((↑a : Int) + (1 : Int)))), AV.v (Value.int IntKind.i64 (↑b : Int))] [AB.row false m (9 : Nat) (row9 f) (67 : TypeId), AB.row true q (9 : Nat) (row9 h) (67 : TypeId), AB.row true k (1 : Nat) (rowI o) (3 : TypeId), AB.row false r (9 : Nat) (row9 u) (67 : TypeId)]) else Res.out Ex.normal [AV.sl (1 : Nat) (9 : Nat) (0 : Nat) (0 : Nat) q (some q), AV.own (2 : Nat) k, AV.v (Value.int IntKind.i64 (↑b : Int)), AV.sl (3 : Nat) (9 : Nat) (0 : Nat) (0 : Nat) r (some r), AV.v (Value.bool fine), AV.v (Value.int IntKind.i64 (IntKind.wrap IntKind.i64 ((↑a : Int) + (1 : Int)))), AV.v (Value.int IntKind.i64 (↑b : Int))] [AB.row false m (9 : Nat) (row9 f) (67 : TypeId), AB.row true q (9 : Nat) (row9 h) (67 : TypeId), AB.row true k (1 : Nat) (rowI o) (3 : TypeId), AB.row false r (9 : Nat) (row9 u) (67 : TypeId)]) else Res.out (Ex.exit (2 : Nat)) [AV.sl (1 : Nat) (9 : Nat) (0 : Nat) (0 : Nat) q (some q), AV.own (2 : Nat) k, AV.v (Value.int IntKind.i64 (↑b : Int))] [AB.row false m (9 : Nat) (row9 f) (67 : TypeId), AB.row true q (9 : Nat) (row9 h) (67 : TypeId), AB.row true k (1 : Nat) (rowI o) (3 : TypeId)] else Res.out (Ex.exit (2 : Nat)) [AV.sl (1 : Nat) (9 : Nat) (0 : Nat) (0 : Nat) q (some q), AV.own (2 : Nat) k, AV.v (Value.int IntKind.i64 (↑b : Int))] [AB.row false m (9 : Nat) (row9 f) (67 : TypeId), AB.row true q (9 : Nat) (row9 h) (67 : TypeId), AB.row true k (1 : Nat) (rowI o) (3 : TypeId)] := by kernel_rfl

end Go.Proofs.Ytnlfdcjpeoafhaa

/- DesignStill of both: trees. Conditions: a list of wheels. -/
namespace Go.Proofs.Ytnlfdcjpeoafhaa
open Go.RowKit
set_option maxRecDepth 100000

abbrev lvS5 : Ex → List Nat := lv3 [4, 6, 21] [6] [2, 3]
abbrev stS5 (q k i : Nat) : List AV := [.sl 1 9 0 0 q (some q), .own 2 k, .v (i64 i)]
noncomputable abbrev lamS4 (m : Nat) (f : Nat → Nat → Int) (q : Nat) (h : Nat → Nat → Int) (k : Nat) (o : Nat → Int) (i r : Nat) (u : Nat → Nat → Int) (fine c : Bool) (o2 : Nat → Int) : Nat → Option Sum := oneL 2 (atS 56 (lvS4 .normal) 1 (stS4 q k i r fine 0) (hpS4 m f q h k o r u) (fun K => cond c (K .normal (mkT 0 56 ([4, 6, 21].zip (stS5 q (k + 1) i))) (hpS5 m f q h (k + 1) o2)) (K .normal (mkT 0 56 ([4, 6, 21].zip (stS5 q k i))) (hpS5 m f q h k o))))
theorem rndS5 (yT yL : Int → List Wh → Bool) (tT tL : Int → List Wh → List Wh) (eq : List Wh → List Wh → Bool) (m : Nat) (f : Nat → Nat → Int) (q : Nat) (h : Nat → Nat → Int) (k : Nat) (o : Nat → Int) (i r : Nat) (u : Nat → Nat → Int) (fine c : Bool) (o2 : Nat → Int) : execC Try.prog (gmS3 yT yL tT tL eq) 100 (lamS4 m f q h k o i r u fine c o2) (loopAt 0 Try.f41) (mkT 0 56 ((lvS5 .normal).zip (stS5 q k i))) (hpS5 m f q h k o) (leafV 56 lvS5 1)
    = bif decide ((↑i : Int) < (24 : Int)) then needs [Nat.ble ((0 : Nat) + q) q, allW q fun q ↦ row9 h ((0 : Nat) + q), decide (q ≤ (274877906944 : Nat)), chk ([AV.sl (1 : Nat) (9 : Nat) (0 : Nat) (0 : Nat) q (some q), AV.own (2 : Nat) k, AV.v (Value.int IntKind.i64 (↑i : Int)), AV.sl (3 : Nat) (9 : Nat) (0 : Nat) (0 : Nat) (List.length (tT (↑i : Int) (listW (itW fun q ↦ row9 h ((0 : Nat) + q)) q))) (some (List.length (tT (↑i : Int) (listW (itW fun q ↦ row9 h ((0 : Nat) + q)) q)))), AV.v (Value.bool (yT (↑i : Int) (listW (itW fun q ↦ row9 h ((0 : Nat) + q)) q))), AV.v (Value.int IntKind.i64 (0 : Int)), AV.v (Value.int IntKind.i64 (↑i : Int))] = stS4 q k i r fine (0 : Nat) ∧ Hsim [AB.row false m (9 : Nat) (row9 f) (67 : TypeId), AB.row true q (9 : Nat) (row9 h) (67 : TypeId), AB.row true k (1 : Nat) (rowI o) (3 : TypeId), AB.row false (List.length (tT (↑i : Int) (listW (itW fun q ↦ row9 h ((0 : Nat) + q)) q))) (9 : Nat) (row9 (wfun (tT (↑i : Int) (listW (itW fun q ↦ row9 h ((0 : Nat) + q)) q)))) (67 : TypeId)] (hpS4 m f q h k o r u))] (bif c then Res.out Ex.normal [AV.sl (1 : Nat) (9 : Nat) (0 : Nat) (0 : Nat) q (some q), AV.own (2 : Nat) (k + (1 : Nat)), AV.v (Value.int IntKind.i64 (IntKind.wrap IntKind.i64 ((↑i : Int) + (1 : Int))))] [AB.row false m (9 : Nat) (row9 f) (67 : TypeId), AB.row true q (9 : Nat) (row9 h) (67 : TypeId), AB.row true (k + (1 : Nat)) (1 : Nat) (rowI o2) (3 : TypeId)] else Res.out Ex.normal [AV.sl (1 : Nat) (9 : Nat) (0 : Nat) (0 : Nat) q (some q), AV.own (2 : Nat) k, AV.v (Value.int IntKind.i64 (IntKind.wrap IntKind.i64 ((↑i : Int) + (1 : Int))))] [AB.row false m (9 : Nat) (row9 f) (67 : TypeId), AB.row true q (9 : Nat) (row9 h) (67 : TypeId), AB.row true k (1 : Nat) (rowI o) (3 : TypeId)]) else Res.out (Ex.exit (0 : Nat)) [AV.own (1 : Nat) k] [AB.row false m (9 : Nat) (row9 f) (67 : TypeId), AB.row true k (1 : Nat) (rowI o) (3 : TypeId)] := by kernel_rfl

theorem rndS5n (yT yL : Int → List Wh → Bool) (tT tL : Int → List Wh → List Wh) (eq : List Wh → List Wh → Bool) (m : Nat) (f : Nat → Nat → Int) (q : Nat) (h : Nat → Nat → Int) (k : Nat) (o : Nat → Int) (i : Nat) : execC Try.prog (gmS3 yT yL tT tL eq) 100 (oneL 2 errS) (loopAt 0 Try.f41) (mkT 0 56 ((lvS5 .normal).zip (stS5 q k i))) (hpS5 m f q h k o) (leafV 56 lvS5 1)
    = bif decide ((↑i : Int) < (24 : Int)) then needs [Nat.ble ((0 : Nat) + q) q, allW q fun q ↦ row9 h ((0 : Nat) + q), decide (q ≤ (274877906944 : Nat))] Res.err else Res.out (Ex.exit (0 : Nat)) [AV.own (1 : Nat) k] [AB.row false m (9 : Nat) (row9 f) (67 : TypeId), AB.row true k (1 : Nat) (rowI o) (3 : TypeId)] := by kernel_rfl

abbrev hpS6 (m : Nat) (f : Nat → Nat → Int) (k : Nat) (o : Nat → Int) : List AB := [.row false m 9 (row9 f) 67, .row true k 1 (rowI o) 3]
noncomputable abbrev lamS5 (m : Nat) (f : Nat → Nat → Int) (q : Nat) (h : Nat → Nat → Int) (k : Nat) (o : Nat → Int) : Nat → Option Sum := oneL 0 (atS 56 (lvS5 .normal) 1 (stS5 q 0 0) (hpS5 m f q h 0 (fun _ => 0)) (fun K => K .normal (mkT 0 56 [(6, .own 1 k)]) (hpS6 m f k o)))
theorem treeStY (yes : List Wh → Bool) (ti mp : List Wh → List Wh) (m : Nat) (f : Nat → Nat → Int) (q : Nat) (h : Nat → Nat → Int) (k : Nat) (o : Nat → Int) : execF Try.prog (ext g0 52 (specR md_ws (FdeYTi yes ti mp))) (lamS5 m f q h k o) 100 Try.f41 [.sl 0 9 0 0 m none] (hpK m f) (packK 1)
    = needs [Nat.ble ((0 : Nat) + m) m, allW m fun q ↦ row9 f ((0 : Nat) + q), decide (m ≤ (274877906944 : Nat)), yes (listW (itW fun q ↦ row9 f ((0 : Nat) + q)) m), chk ([AV.sl (1 : Nat) (9 : Nat) (0 : Nat) (0 : Nat) (List.length (ti (mp (listW (itW fun q ↦ row9 f ((0 : Nat) + q)) m)))) (some (List.length (ti (mp (listW (itW fun q ↦ row9 f ((0 : Nat) + q)) m))))), AV.own (2 : Nat) (0 : Nat), AV.v (Value.int IntKind.i64 (0 : Int))] = stS5 q (0 : Nat) (0 : Nat) ∧ Hsim [AB.row false m (9 : Nat) (row9 f) (67 : TypeId), AB.row true (List.length (ti (mp (listW (itW fun q ↦ row9 f ((0 : Nat) + q)) m)))) (9 : Nat) (row9 (wfun (ti (mp (listW (itW fun q ↦ row9 f ((0 : Nat) + q)) m))))) (67 : TypeId), AB.row true (0 : Nat) (1 : Nat) (fun x ↦ []) (3 : Nat)] (hpS5 m f q h (0 : Nat) fun x ↦ (0 : Int))), decide ((↑k : Int) ≤ (↑k : Int)), decide ((↑k : Int) ≤ (↑k : Int)), Nat.ble k k] (Res.out Ex.ret [AV.tup [AV.sl (1 : Nat) (1 : Nat) (0 : Nat) (0 : Nat) (Int.toNat ((↑k : Int) - (0 : Int))) (some (Int.toNat ((↑k : Int) - (0 : Int)))), AV.v (Value.bool true)]] [AB.row false m (9 : Nat) (row9 f) (67 : TypeId), AB.row true k (1 : Nat) (rowI o) (3 : TypeId)]) := by kernel_rfl

theorem treeStN (yes : List Wh → Bool) (m : Nat) (f : Nat → Nat → Int) : execF Try.prog (ext g0 52 (specR md_ws (FdeNTi yes))) (oneL 0 errS) 100 Try.f41 [.sl 0 9 0 0 m none] (hpK m f) (packK 1)
    = needs [Nat.ble ((0 : Nat) + m) m, allW m fun q ↦ row9 f ((0 : Nat) + q), decide (m ≤ (274877906944 : Nat)), !yes (listW (itW fun q ↦ row9 f ((0 : Nat) + q)) m)] (Res.out Ex.ret [AV.tup [AV.v (Value.slice none (0 : Nat) (0 : Nat)), AV.v (Value.bool false)]] [AB.row false m (9 : Nat) (row9 f) (67 : TypeId)]) := by kernel_rfl

def gmR3 (ok : Int → Int → Int → Bool → List Wh → Bool) (el : Int → Int → Int → Bool → List Wh → List Wh) (eq : List Wh → List Wh → Bool) : Gam := ext (ext g0 86 (specR md_eqWS (FeqB eq))) 55 (specR md_ea (FeaO ok el))
abbrev lvR4 : Ex → List Nat := lv3 [4, 6, 7, 8, 9, 10, 11] [4, 6, 7, 10] [2, 3]
abbrev stR4 (q k i r : Nat) (p fd : Bool) (a : Nat) : List AV := [.own 1 q, .own 2 k, .v (i64 i), .own 3 r, .v (.bool p), .v (.bool fd), .v (i64 a)]
abbrev hpR4 (m : Nat) (f : Nat → Nat → Int) (q : Nat) (h : Nat → Nat → Int) (k : Nat) (o : Nat → Int) (r : Nat) (u : Nat → Nat → Int) : List AB := [.row false m 9 (row9 f) 67, .row true q 9 (row9 h) 67, .row true k 1 (rowI o) 3, .row true r 9 (row9 u) 67]
theorem rndR4 (ok : Int → Int → Int → Bool → List Wh → Bool) (el : Int → Int → Int → Bool → List Wh → List Wh) (eq : List Wh → List Wh → Bool) (m : Nat) (f : Nat → Nat → Int) (q : Nat) (h : Nat → Nat → Int) (k : Nat) (o : Nat → Int) (i r : Nat) (u : Nat → Nat → Int) (p fd : Bool) (a : Nat) : execC Try.prog (gmR3 ok el eq) 100 noLam (loopAt 2 Try.f40) (mkT 0 62 ((lvR4 .normal).zip (stR4 q k i r p fd a))) (hpR4 m f q h k o r u) (leafV 62 lvR4 1)
    = bif decide ((↑a : Int) < (24 : Int)) then bif p then bif !fd then needs [Nat.ble q q, allW q (row9 h), decide (q ≤ (274877906944 : Nat))] (bif ok (1 : Int) (0 : Int) (↑a : Int) false (listW (itW (row9 h)) q) then needs [Nat.ble (List.length (el (1 : Int) (0 : Int) (↑a : Int) false (listW (itW (row9 h)) q))) (List.length (el (1 : Int) (0 : Int) (↑a : Int) false (listW (itW (row9 h)) q))), Nat.ble r r, allW (List.length (el (1 : Int) (0 : Int) (↑a : Int) false (listW (itW (row9 h)) q))) (row9 (wfun (el (1 : Int) (0 : Int) (↑a : Int) false (listW (itW (row9 h)) q)))), allW r (row9 u), decide (List.length (el (1 : Int) (0 : Int) (↑a : Int) false (listW (itW (row9 h)) q)) ≤ (274877906944 : Nat))] (Res.out Ex.normal [AV.own (1 : Nat) q, AV.own (2 : Nat) k, AV.v (Value.int IntKind.i64 (↑i : Int)), AV.own (3 : Nat) r, AV.v (Value.bool p), AV.v (Value.bool (eq (listW (itW (row9 (wfun (el (1 : Int) (0 : Int) (↑a : Int) false (listW (itW (row9 h)) q))))) (List.length (el (1 : Int) (0 : Int) (↑a : Int) false (listW (itW (row9 h)) q)))) (listW (itW (row9 u)) r))), AV.v (Value.int IntKind.i64 (IntKind.wrap IntKind.i64 ((↑a : Int) + (1 : Int))))] [AB.row false m (9 : Nat) (row9 f) (67 : TypeId), AB.row true q (9 : Nat) (row9 h) (67 : TypeId), AB.row true k (1 : Nat) (rowI o) (3 : TypeId), AB.row true r (9 : Nat) (row9 u) (67 : TypeId)]) else Res.out Ex.normal [AV.own (1 : Nat) q, AV.own (2 : Nat) k, AV.v (Value.int IntKind.i64 (↑i : Int)), AV.own (3 : Nat) r, AV.v (Value.bool p), AV.v (Value.bool false), AV.v (Value.int IntKind.i64 (IntKind.wrap IntKind.i64 ((↑a : Int) + (1 : Int))))] [AB.row false m (9 : Nat) (row9 f) (67 : TypeId), AB.row true q (9 : Nat) (row9 h) (67 : TypeId), AB.row true k (1 : Nat) (rowI o) (3 : TypeId), AB.row true r (9 : Nat) (row9 u) (67 : TypeId)]) else Res.out (Ex.exit (2 : Nat)) [AV.own (1 : Nat) q, AV.own (2 : Nat) k, AV.v (Value.int IntKind.i64 (↑i : Int)), AV.v (Value.bool fd)] [AB.row false m (9 : Nat) (row9 f) (67 : TypeId), AB.row true q (9 : Nat) (row9 h) (67 : TypeId), AB.row true k (1 : Nat) (rowI o) (3 : TypeId)] else Res.out (Ex.exit (2 : Nat)) [AV.own (1 : Nat) q, AV.own (2 : Nat) k, AV.v (Value.int IntKind.i64 (↑i : Int)), AV.v (Value.bool fd)] [AB.row false m (9 : Nat) (row9 f) (67 : TypeId), AB.row true q (9 : Nat) (row9 h) (67 : TypeId), AB.row true k (1 : Nat) (rowI o) (3 : TypeId)] else Res.out (Ex.exit (2 : Nat)) [AV.own (1 : Nat) q, AV.own (2 : Nat) k, AV.v (Value.int IntKind.i64 (↑i : Int)), AV.v (Value.bool fd)] [AB.row false m (9 : Nat) (row9 f) (67 : TypeId), AB.row true q (9 : Nat) (row9 h) (67 : TypeId), AB.row true k (1 : Nat) (rowI o) (3 : TypeId)] := by kernel_rfl

abbrev lvR5 : Ex → List Nat := lv3 [4, 6, 7] [6] [2, 3]
abbrev stR5 (q k i : Nat) : List AV := [.own 1 q, .own 2 k, .v (i64 i)]
noncomputable abbrev lamR4 (m : Nat) (f : Nat → Nat → Int) (q : Nat) (h : Nat → Nat → Int) (k : Nat) (o : Nat → Int) (i r : Nat) (u : Nat → Nat → Int) (p c : Bool) : Nat → Option Sum := oneL 2 (atS 62 (lvR4 .normal) 1 (stR4 q k i r p false 0) (hpR4 m f q h k o r u) (fun K => K .normal (mkT 0 62 ([4, 6, 7, 10].zip [.own 1 q, .own 2 k, .v (i64 i), .v (.bool c)])) (hpS5 m f q h k o)))
theorem rndR5 (ok : Int → Int → Int → Bool → List Wh → Bool) (el : Int → Int → Int → Bool → List Wh → List Wh) (eq : List Wh → List Wh → Bool) (m : Nat) (f : Nat → Nat → Int) (q : Nat) (h : Nat → Nat → Int) (k : Nat) (o : Nat → Int) (i r : Nat) (u : Nat → Nat → Int) (p c : Bool) : execC Try.prog (gmR3 ok el eq) 100 (lamR4 m f q h k o i r u p c) (loopAt 0 Try.f40) (mkT 0 62 ((lvR5 .normal).zip (stR5 q k i))) (hpS5 m f q h k o) (leafV 62 lvR5 1)
    = bif decide ((↑i : Int) < (24 : Int)) then needs [Nat.ble q q, allW q (row9 h), decide (q ≤ (274877906944 : Nat)), chk ([AV.own (1 : Nat) q, AV.own (2 : Nat) k, AV.v (Value.int IntKind.i64 (↑i : Int)), AV.own (3 : Nat) (List.length (el (1 : Int) (↑i : Int) (0 : Int) false (listW (itW (row9 h)) q))), AV.v (Value.bool (ok (1 : Int) (↑i : Int) (0 : Int) false (listW (itW (row9 h)) q))), AV.v (Value.bool false), AV.v (Value.int IntKind.i64 (0 : Int))] = stR4 q k i r p false (0 : Nat) ∧ Hsim [AB.row false m (9 : Nat) (row9 f) (67 : TypeId), AB.row true q (9 : Nat) (row9 h) (67 : TypeId), AB.row true k (1 : Nat) (rowI o) (3 : TypeId), AB.row true (List.length (el (1 : Int) (↑i : Int) (0 : Int) false (listW (itW (row9 h)) q))) (9 : Nat) (row9 (wfun (el (1 : Int) (↑i : Int) (0 : Int) false (listW (itW (row9 h)) q)))) (67 : TypeId)] (hpR4 m f q h k o r u))] (bif c then needs [Nat.ble k k, Nat.ble (k + (1 : Nat)) (549755813888 : Nat)] (Res.out Ex.normal [AV.own (1 : Nat) q, AV.own (2 : Nat) (k + (1 : Nat)), AV.v (Value.int IntKind.i64 (IntKind.wrap IntKind.i64 ((↑i : Int) + (1 : Int))))] [AB.row false m (9 : Nat) (row9 f) (67 : TypeId), AB.row true q (9 : Nat) (row9 h) (67 : TypeId), AB.row true (k + (1 : Nat)) (1 : Nat) (fun q ↦ [Value.int IntKind.i64 (bif Nat.blt q k then o q else (↑i : Int))]) (3 : Nat)]) else Res.out Ex.normal [AV.own (1 : Nat) q, AV.own (2 : Nat) k, AV.v (Value.int IntKind.i64 (IntKind.wrap IntKind.i64 ((↑i : Int) + (1 : Int))))] [AB.row false m (9 : Nat) (row9 f) (67 : TypeId), AB.row true q (9 : Nat) (row9 h) (67 : TypeId), AB.row true k (1 : Nat) (rowI o) (3 : TypeId)]) else Res.out (Ex.exit (0 : Nat)) [AV.own (1 : Nat) k] [AB.row false m (9 : Nat) (row9 f) (67 : TypeId), AB.row true k (1 : Nat) (rowI o) (3 : TypeId)] := by kernel_rfl

theorem rndR5n (ok : Int → Int → Int → Bool → List Wh → Bool) (el : Int → Int → Int → Bool → List Wh → List Wh) (eq : List Wh → List Wh → Bool) (m : Nat) (f : Nat → Nat → Int) (q : Nat) (h : Nat → Nat → Int) (k : Nat) (o : Nat → Int) (i : Nat) : execC Try.prog (gmR3 ok el eq) 100 (oneL 2 errS) (loopAt 0 Try.f40) (mkT 0 62 ((lvR5 .normal).zip (stR5 q k i))) (hpS5 m f q h k o) (leafV 62 lvR5 1)
    = bif decide ((↑i : Int) < (24 : Int)) then needs [Nat.ble q q, allW q (row9 h), decide (q ≤ (274877906944 : Nat))] Res.err else Res.out (Ex.exit (0 : Nat)) [AV.own (1 : Nat) k] [AB.row false m (9 : Nat) (row9 f) (67 : TypeId), AB.row true k (1 : Nat) (rowI o) (3 : TypeId)] := by kernel_rfl

noncomputable abbrev lamR5 (m : Nat) (f : Nat → Nat → Int) (q : Nat) (h : Nat → Nat → Int) (k : Nat) (o : Nat → Int) : Nat → Option Sum := oneL 0 (atS 62 (lvR5 .normal) 1 (stR5 q 0 0) (hpS5 m f q h 0 (fun _ => 0)) (fun K => K .normal (mkT 0 62 [(6, .own 1 k)]) (hpS6 m f k o)))
theorem treeStS (okd : List Wh → Bool) (ti : List Wh → List Wh) (okt : List Wh → Bool) (m : Nat) (f : Nat → Nat → Int) (q : Nat) (h : Nat → Nat → Int) (k : Nat) (o : Nat → Int) : execF Try.prog (gmS2 okd ti okt) (lamR5 m f q h k o) 100 Try.f40 [.sl 0 9 0 0 m none] (hpK m f) (packK 1)
    = needs [Nat.ble ((0 : Nat) + m) m, allW m fun q ↦ row9 f ((0 : Nat) + q), decide (m ≤ (549755813888 : Nat))] (bif !okd (listW (itW fun q ↦ row9 f ((0 : Nat) + q)) m) then Res.out Ex.ret [AV.tup [AV.own (1 : Nat) (0 : Nat), AV.v (Value.bool false)]] [AB.row false m (9 : Nat) (row9 f) (67 : TypeId), AB.row true (0 : Nat) (1 : Nat) (fun x ↦ []) (3 : Nat)] else needs [Nat.ble ((0 : Nat) + m) m, allW m fun q ↦ row9 f ((0 : Nat) + q), decide (m ≤ (274877906944 : Nat))] (bif !okt (listW (itW fun q ↦ row9 f ((0 : Nat) + q)) m) then Res.out Ex.ret [AV.tup [AV.own (1 : Nat) (0 : Nat), AV.v (Value.bool false)]] [AB.row false m (9 : Nat) (row9 f) (67 : TypeId), AB.row true (0 : Nat) (1 : Nat) (fun x ↦ []) (3 : Nat)] else needs [chk ([AV.own (1 : Nat) (List.length (ti (listW (itW fun q ↦ row9 f ((0 : Nat) + q)) m))), AV.own (2 : Nat) (0 : Nat), AV.v (Value.int IntKind.i64 (0 : Int))] = stR5 q (0 : Nat) (0 : Nat) ∧ Hsim [AB.row false m (9 : Nat) (row9 f) (67 : TypeId), AB.row true (List.length (ti (listW (itW fun q ↦ row9 f ((0 : Nat) + q)) m))) (9 : Nat) (row9 (wfun (ti (listW (itW fun q ↦ row9 f ((0 : Nat) + q)) m)))) (67 : TypeId), AB.row true (0 : Nat) (1 : Nat) (fun x ↦ []) (3 : Nat)] (hpS5 m f q h (0 : Nat) fun x ↦ (0 : Int)))] (Res.out Ex.ret [AV.tup [AV.own (1 : Nat) k, AV.v (Value.bool true)]] [AB.row false m (9 : Nat) (row9 f) (67 : TypeId), AB.row true k (1 : Nat) (rowI o) (3 : TypeId)]))) := by kernel_rfl

end Go.Proofs.Ytnlfdcjpeoafhaa

/- Lists compared; the program's turned designs read as the reference's. Conditions: lists of wheels. -/
namespace Go.Proofs.Ytnlfdcjpeoafhaa
open Go.RowKit
set_option maxRecDepth 100000

def eqL (A B : List Wh) : Bool := decide (A = B)
theorem eqL_comm (A B : List Wh) : eqL A B = eqL B A := by
  unfold eqL
  rw [Bool.eq_iff_iff, decide_eq_true_eq, decide_eq_true_eq]
  exact ⟨Eq.symm, Eq.symm⟩
def badE (f h : Nat → Nat → Int) (i : Nat) : Bool := !decide (whOf (f i) = whOf (h i))
theorem eqL_list (f h : Nat → Nat → Int) (m : Nat) : eqL (listW f m) (listW h m) = noneTo (badE f h) m := by
  rw [Bool.eq_iff_iff, noneTo_iff, eqL, decide_eq_true_eq]
  refine ⟨fun e i hi => ?_, fun e => ?_⟩
  · have h1 := listW_get f hi
    rw [e, listW_get h hi, Option.some.injEq] at h1
    simp [badE, h1]
  · exact List.map_congr_left fun i hi => by
      have := e i (by simpa using hi)
      simpa [badE] using this
theorem eqL_len {A B : List Wh} (h : A.length ≠ B.length) : eqL A B = false := decide_eq_false fun e => h (by rw [e])
theorem sumSE (m : Nat) (f h : Nat → Nat → Int) (hm : m ≤ 2 ^ 40) :
    SumOk Try.prog 2 (.block 0 (.loop (loopAt 0 fSE))) (atS 26 (lvSE .normal) 2 [.sl 0 9 0 0 m none, .sl 1 9 0 0 m none, .v (i64 m), .v (i64 (0 : Nat))] (hpQW m f h) (fun K => cond (noneTo (badE f h) m) (K .normal (mkT 0 26 []) (hpQW m f h)) (K .ret (mkT 0 26 [(4, .v (.bool false))]) (hpQW m f h)))) := by
  refine for_at g0_ok (n := 100) (m := 2) (lv := lvSE) (fun i => [.sl 0 9 0 0 m none, .sl 1 9 0 0 m none, .v (i64 m), .v (i64 (i : Nat))]) (fun _ => hpQW m f h) (fun i => noneTo (badE f h) i = true) m (fun _ => noLam) (lv3_ris rfl rfl rfl) (Nat.le_refl _) rfl fun K Q hk i hi him => ⟨noLam_ok _ _ _, ?_⟩
  rw [rndSE]
  refine good_cond (fun c1 => ?_) fun c1 => ?_
  · have c1 := of_decide_eq_true c1
    have c1' : i < m := by omega
    rw [Int.toNat_natCast, Nat.zero_add, wr_in (x := (i : Int) + 1) (by omega)]
    refine good_needs (by simp only [ob_cons, ob_nil, and_true, decide_eq_true_eq]; omega) (good_cond (fun q => ?_) fun q => ?_)
    · have hb : badE f h i = true := by
        unfold badE
        rw [Bool.not_eq_true', decide_eq_false_iff_not]
        intro e
        simp only [whOf, Wh.mk.injEq, Cy.mk.injEq] at e
        obtain ⟨e0, e1, e2, e3, e4, e5, e6, e7, e8⟩ := e
        simp [e0, e1, e2, e3, e4, e5, e6, e7, e8] at q
      refine good_out ⟨_, Hsim.refl _, ?_⟩
      rw [noneTo_no c1' hb] at hk
      exact hk
    · have hb : badE f h i = false := by
        unfold badE
        rw [Bool.not_eq_false', decide_eq_true_eq]
        simp at q
        simp [whOf, q]
      exact good_out ⟨i + 1, ⟨rfl, c1', noneTo_succ hi hb⟩, rfl, Hsim.refl _⟩
  · have c1 := of_decide_eq_false c1
    have : i = m := by omega
    subst this
    refine good_out ⟨_, Hsim.refl _, ?_⟩
    rw [if_pos rfl]
    rw [hi] at hk
    exact hk
theorem ok_SE : SpecOk Try.prog 82 (specR md_eqWS (FeqB eqL)) := by
  refine specR_hr g0_ok Try.func82 rfl fun sas fr hF ho => ?_
  unfold FeqB at hF
  split at hF
  · rename_i m g n g2
    cases hF
    simp only [ob_cons] at ho
    obtain ⟨h1, h2, h3, _⟩ := ho
    have hm := of_decide_eq_true h3
    refine ⟨[.row false m 9 (row9 (itW g)) 67, .row false n 9 (row9 (itW g2)) 67], lamSE m (itW g) (itW g2) (noneTo (badE (itW g) (itW g2)) m), 100, .cons (ABeq.row fun j hj => allW_get h1 j hj) (.cons (ABeq.row fun j hj => allW_get h2 j hj) .nil), lam1 (by kernel_rfl) (sumSE m (itW g) (itW g2) (by omega)), ?_⟩
    show GoodQ (execF Try.prog g0 (lamSE m (itW g) (itW g2) (noneTo (badE (itW g) (itW g2)) m)) 100 fSE [.sl 0 9 0 0 m none, .sl 1 9 0 0 n none] [.row false m 9 (row9 (itW g)) 67, .row false n 9 (row9 (itW g2)) 67] (packK 2)) _
    rw [treeSE]
    refine good_cond (fun q => ?_) fun q => ?_
    · have hne : m ≠ n := fun e => by
        subst e
        simp at q
      exact good_out ⟨_, rfl, by rw [eqL_len (by rw [listW_length, listW_length]; exact hne)], .cons (ABeq.row fun j hj => (allW_get h1 j hj).symm) (.cons (ABeq.row fun j hj => (allW_get h2 j hj).symm) .nil)⟩
    · have e : m = n := by
        have q2 : (m : Int) = n := by simpa using q
        omega
      subst e
      refine good_needs (by rw [ob_cons]; exact ⟨chk_of ⟨rfl, Hsim.refl _⟩, rfl⟩) (good_cond (fun q => ?_) fun q => ?_)
      · exact good_out ⟨_, rfl, by rw [eqL_list, q], .cons (ABeq.row fun j hj => (allW_get h1 j hj).symm) (.cons (ABeq.row fun j hj => (allW_get h2 j hj).symm) .nil)⟩
      · exact good_out ⟨_, rfl, by rw [eqL_list, q], .cons (ABeq.row fun j hj => (allW_get h1 j hj).symm) (.cons (ABeq.row fun j hj => (allW_get h2 j hj).symm) .nil)⟩
  · cases hF

theorem sumLE (m : Nat) (f h : Nat → Nat → Int) (hm : m ≤ 2 ^ 40) :
    SumOk Try.prog 2 (.block 0 (.loop (loopAt 0 Try.f86))) (atS 26 (lvLE .normal) 2 [.sl 0 9 0 0 m none, .sl 1 9 0 0 m none, .v (i64 (0 : Nat))] (hpQW m f h) (fun K => cond (noneTo (badE f h) m) (K .normal (mkT 0 26 []) (hpQW m f h)) (K .ret (mkT 0 26 [(4, .v (.bool false))]) (hpQW m f h)))) := by
  refine for_at g0_ok (n := 100) (m := 2) (lv := lvLE) (fun i => [.sl 0 9 0 0 m none, .sl 1 9 0 0 m none, .v (i64 (i : Nat))]) (fun _ => hpQW m f h) (fun i => noneTo (badE f h) i = true) m (fun _ => noLam) (lv3_ris rfl rfl rfl) (Nat.le_refl _) rfl fun K Q hk i hi him => ⟨noLam_ok _ _ _, ?_⟩
  rw [rndLE]
  refine good_cond (fun c1 => ?_) fun c1 => ?_
  · have c1 := of_decide_eq_true c1
    have c1' : i < m := by omega
    rw [Int.toNat_natCast, Nat.zero_add, wr_in (x := (i : Int) + 1) (by omega)]
    refine good_needs (by simp only [ob_cons, ob_nil, and_true, decide_eq_true_eq]; omega) (good_cond (fun q => ?_) fun q => ?_)
    · have hb : badE f h i = true := by
        unfold badE
        rw [Bool.not_eq_true', decide_eq_false_iff_not]
        intro e
        simp only [whOf, Wh.mk.injEq, Cy.mk.injEq] at e
        obtain ⟨e0, e1, e2, e3, e4, e5, e6, e7, e8⟩ := e
        simp [e0, e1, e2, e3, e4, e5, e6, e7, e8] at q
      refine good_out ⟨_, Hsim.refl _, ?_⟩
      rw [noneTo_no c1' hb] at hk
      exact hk
    · have hb : badE f h i = false := by
        unfold badE
        rw [Bool.not_eq_false', decide_eq_true_eq]
        simp at q
        simp [whOf, q]
      exact good_out ⟨i + 1, ⟨rfl, c1', noneTo_succ hi hb⟩, rfl, Hsim.refl _⟩
  · have c1 := of_decide_eq_false c1
    have : i = m := by omega
    subst this
    refine good_out ⟨_, Hsim.refl _, ?_⟩
    rw [if_pos rfl]
    rw [hi] at hk
    exact hk
theorem ok_LE : SpecOk Try.prog 86 (specR md_eqWS (FeqB eqL)) := by
  refine specR_hr g0_ok Try.func86 rfl fun sas fr hF ho => ?_
  unfold FeqB at hF
  split at hF
  · rename_i m g n g2
    cases hF
    simp only [ob_cons] at ho
    obtain ⟨h1, h2, h3, _⟩ := ho
    have hm := of_decide_eq_true h3
    refine ⟨[.row false m 9 (row9 (itW g)) 67, .row false n 9 (row9 (itW g2)) 67], lamLE m (itW g) (itW g2) (noneTo (badE (itW g) (itW g2)) m), 100, .cons (ABeq.row fun j hj => allW_get h1 j hj) (.cons (ABeq.row fun j hj => allW_get h2 j hj) .nil), lam1 (by kernel_rfl) (sumLE m (itW g) (itW g2) (by omega)), ?_⟩
    show GoodQ (execF Try.prog g0 (lamLE m (itW g) (itW g2) (noneTo (badE (itW g) (itW g2)) m)) 100 Try.f86 [.sl 0 9 0 0 m none, .sl 1 9 0 0 n none] [.row false m 9 (row9 (itW g)) 67, .row false n 9 (row9 (itW g2)) 67] (packK 2)) _
    rw [treeLE]
    refine good_cond (fun q => ?_) fun q => ?_
    · have hne : m ≠ n := fun e => by
        subst e
        simp at q
      exact good_out ⟨_, rfl, by rw [eqL_len (by rw [listW_length, listW_length]; exact hne)], .cons (ABeq.row fun j hj => (allW_get h1 j hj).symm) (.cons (ABeq.row fun j hj => (allW_get h2 j hj).symm) .nil)⟩
    · have e : m = n := by
        have q2 : (m : Int) = n := by simpa using q
        omega
      subst e
      refine good_needs (by rw [ob_cons]; exact ⟨chk_of ⟨rfl, Hsim.refl _⟩, rfl⟩) (good_cond (fun q => ?_) fun q => ?_)
      · exact good_out ⟨_, rfl, by rw [eqL_list, q], .cons (ABeq.row fun j hj => (allW_get h1 j hj).symm) (.cons (ABeq.row fun j hj => (allW_get h2 j hj).symm) .nil)⟩
      · exact good_out ⟨_, rfl, by rw [eqL_list, q], .cons (ABeq.row fun j hj => (allW_get h1 j hj).symm) (.cons (ABeq.row fun j hj => (allW_get h2 j hj).symm) .nil)⟩
  · cases hF

def yT (x : Int) (L : List Wh) : Bool := eachOk 1 x 0 false L
def tT (x : Int) (L : List Wh) : List Wh := eachL 1 x 0 false L
theorem ok_UTu : SpecOk Try.prog 27 (specU md_wv (UO1 yT tT)) := by
  refine specU_ok rfl ok_deYTu ok_deNTu fun sas u hu ho => ?_
  unfold UO1 at hu
  split at hu
  · rename_i m g x
    cases hu
    simp only [ob_cons] at ho
    obtain ⟨h1, h2, _⟩ := ho
    refine ⟨rfl, ?_⟩
    have hM : inR x 0 23 = true → okD (listW (itW g) m) = true → (listW (itW g) m).map (chE 1 x 0 false) = mpTu x (listW (itW g) m) := fun hx hd => (map_same fun w hw => (chTu_same hx (okD_mem hd hw).1).symm)
    cases hv : yesTu x (listW (itW g) m) with
    | true =>
      left
      have hv2 := hv
      rw [yesTu, Bool.and_eq_true, Bool.and_eq_true] at hv2
      obtain ⟨hx, hd, ht⟩ := hv2
      obtain ⟨hE, hO⟩ := each_yes (sp := 1) (tn := x) (la := 0) (mir := false) (by rw [eachP, hd, hx]; rfl) (hM hx hd) ht
      refine ⟨hO, [allW m g, decide (m ≤ 2 ^ 38), yesTu x (listW (itW g) m)], ?_, ?_⟩
      · show FdeYTu yesTu tidyL mpTu [.row m g, .v (.int .i64 x)] = some { val := valY (tT x (listW (itW g) m)), new := newY (tT x (listW (itW g) m)), obl := [allW m g, decide (m ≤ 2 ^ 38), yesTu x (listW (itW g) m)] }
        rw [show tT x (listW (itW g) m) = tidyL (mpTu x (listW (itW g) m)) from hE]
        rfl
      · simp only [ob_cons, ob_nil, and_true]
        exact ⟨h1, h2, hv⟩
    | false =>
      right
      obtain ⟨hE, hO⟩ := each_no (sp := 1) (tn := x) (la := 0) (mir := false) (L := listW (itW g) m) fun hp => by
        rw [eachP, Bool.and_eq_true, Bool.and_eq_true] at hp
        rw [hM (hp.2.1) hp.1]
        rw [yesTu, hp.2.1, hp.1, Bool.true_and, Bool.true_and] at hv
        exact hv
      refine ⟨hO, hE, [allW m g, decide (m ≤ 2 ^ 38), !yesTu x (listW (itW g) m)], rfl, ?_⟩
      simp only [ob_cons, ob_nil, and_true]
      exact ⟨h1, h2, by rw [hv]; rfl⟩
  · cases hu
def yL (x : Int) (L : List Wh) : Bool := eachOk 1 0 x false L
def tL (x : Int) (L : List Wh) : List Wh := eachL 1 0 x false L
theorem ok_ULa : SpecOk Try.prog 25 (specU md_wv (UO1 yL tL)) := by
  refine specU_ok rfl ok_deYLa ok_deNLa fun sas u hu ho => ?_
  unfold UO1 at hu
  split at hu
  · rename_i m g x
    cases hu
    simp only [ob_cons] at ho
    obtain ⟨h1, h2, _⟩ := ho
    refine ⟨rfl, ?_⟩
    have hM : inR x 0 23 = true → okD (listW (itW g) m) = true → (listW (itW g) m).map (chE 1 0 x false) = mpLa x (listW (itW g) m) := fun hx hd => (map_same fun w hw => (chLa_same hx (okD_mem hd hw).1).symm)
    cases hv : yesLa x (listW (itW g) m) with
    | true =>
      left
      have hv2 := hv
      rw [yesLa, Bool.and_eq_true, Bool.and_eq_true] at hv2
      obtain ⟨hx, hd, ht⟩ := hv2
      obtain ⟨hE, hO⟩ := each_yes (sp := 1) (tn := 0) (la := x) (mir := false) (by rw [eachP, hd, hx]; rfl) (hM hx hd) ht
      refine ⟨hO, [allW m g, decide (m ≤ 2 ^ 38), yesLa x (listW (itW g) m)], ?_, ?_⟩
      · show FdeYLa yesLa tidyL mpLa [.row m g, .v (.int .i64 x)] = some { val := valY (tL x (listW (itW g) m)), new := newY (tL x (listW (itW g) m)), obl := [allW m g, decide (m ≤ 2 ^ 38), yesLa x (listW (itW g) m)] }
        rw [show tL x (listW (itW g) m) = tidyL (mpLa x (listW (itW g) m)) from hE]
        rfl
      · simp only [ob_cons, ob_nil, and_true]
        exact ⟨h1, h2, hv⟩
    | false =>
      right
      obtain ⟨hE, hO⟩ := each_no (sp := 1) (tn := 0) (la := x) (mir := false) (L := listW (itW g) m) fun hp => by
        rw [eachP, Bool.and_eq_true, Bool.and_eq_true] at hp
        rw [hM (hp.2.2) hp.1]
        rw [yesLa, hp.2.2, hp.1, Bool.true_and, Bool.true_and] at hv
        exact hv
      refine ⟨hO, hE, [allW m g, decide (m ≤ 2 ^ 38), !yesLa x (listW (itW g) m)], rfl, ?_⟩
      simp only [ob_cons, ob_nil, and_true]
      exact ⟨h1, h2, by rw [hv]; rfl⟩
  · cases hu
theorem gmS3_ok : GamOk Try.prog (gmS3 yT yL tT tL eqL) := ext_ok (ext_ok (ext_ok g0_ok ok_SE) ok_ULa) ok_UTu
theorem gmR3_ok : GamOk Try.prog (gmR3 eachOk eachL eqL) := ext_ok (ext_ok g0_ok ok_LE) ok_each

end Go.Proofs.Ytnlfdcjpeoafhaa

/- DesignStill of both. Conditions: a list of wheels. -/
namespace Go.Proofs.Ytnlfdcjpeoafhaa
open Go.RowKit
set_option maxRecDepth 100000

/-- Turned by b is the same as a turns later. -/
def hitB (T : List Wh) (b a : Nat) : Bool := yL a T && eqL (tT b T) (tL a T)
def fndB (T : List Wh) (b : Nat) : Bool := yT b T && !noneTo (hitB T b) 24
def stL (T : List Wh) (i : Nat) : List Nat := (List.range i).filter (fndB T)
def oF (T : List Wh) (i : Nat) : Nat → Int := fun j => (((stL T i)[j]?.getD 0 : Nat) : Int)
theorem stL_yes {T : List Wh} {i : Nat} (h : fndB T i = true) : stL T (i + 1) = stL T i ++ [i] := by simp [stL, List.range_succ, h]
theorem stL_no {T : List Wh} {i : Nat} (h : fndB T i = false) : stL T (i + 1) = stL T i := by simp [stL, List.range_succ, h]
theorem stL_le (T : List Wh) (i : Nat) : (stL T i).length ≤ i := by
  have := List.length_filter_le (fndB T) (List.range i)
  rwa [List.length_range] at this
theorem oF_yes {T : List Wh} {i : Nat} (h : fndB T i = true) (j : Nat) (hj : j < (stL T i).length + 1) : (bif Nat.blt j (stL T i).length then oF T i j else (i : Int)) = oF T (i + 1) j := by
  unfold oF
  rw [stL_yes h]
  by_cases hlt : j < (stL T i).length
  · rw [blt_yes hlt, cond_true, List.getElem?_append_left hlt]
  · have e : j = (stL T i).length := by omega
    subst e
    rw [blt_no, cond_false, List.getElem?_append_right (Nat.le_refl _), Nat.sub_self]
    rfl

theorem sumS4 (m : Nat) (f : Nat → Nat → Int) (T : List Wh) (k : Nat) (o : Nat → Int) (i : Nat) (hT : T.length ≤ 12) (hU : (tT i T).length ≤ 2 ^ 38) (hk : k ≤ 24) :
    SumOk Try.prog 1 (.block 2 (.loop (loopAt 2 Try.f41))) (atS 56 (lvS4 .normal) 1 (stS4 T.length k i (tT i T).length (yT i T) 0) (hpS4 m f T.length (wfun T) k o (tT i T).length (wfun (tT i T))) (fun K => cond (fndB T i) (K .normal (mkT 0 56 ([4, 6, 21].zip (stS5 T.length (k + 1) i))) (hpS5 m f T.length (wfun T) (k + 1) (fun j => bif Nat.blt j k then o j else (i : Int)))) (K .normal (mkT 0 56 ([4, 6, 21].zip (stS5 T.length k i))) (hpS5 m f T.length (wfun T) k o)))) := by
  refine for_at gmS3_ok (n := 100) (m := 1) (lv := lvS4) (fun a => stS4 T.length k i (tT i T).length (yT i T) a) (fun _ => hpS4 m f T.length (wfun T) k o (tT i T).length (wfun (tT i T))) (fun a => noneTo (hitB T i) a = true) 24 (fun _ => noLam) (lv3_ris rfl rfl rfl) (Nat.le_refl _) rfl fun K Q hq a ha ha24 => ⟨noLam_ok _ _ _, ?_⟩
  rw [rndS4, listW_self0 T _ rfl, listW_self0 (tT i T) _ rfl, listW_self0 (tL a T) _ rfl]
  refine good_cond (fun c1 => ?_) fun c1 => ?_
  · refine good_cond (fun c2 => ?_) fun c2 => ?_
    · have c2 := of_decide_eq_true c2
      have c2' : a < 24 := by omega
      rw [wr_in (x := (a : Int) + 1) (by omega)]
      refine good_needs (by simp only [row0, ob_cons, ob_nil, and_true, decide_eq_true_eq, Nat.ble_eq, allW_row, true_and]; omega) (good_cond (fun c3 => ?_) fun c3 => ?_)
      · refine good_needs (by simp only [row0, ob_cons, ob_nil, and_true, decide_eq_true_eq, Nat.ble_eq, allW_row, true_and]; omega) (good_cond (fun c4 => ?_) fun c4 => ?_)
        · have hh : hitB T i a = true := by unfold hitB; rw [c3, c4]; rfl
          have hc : fndB T i = true := by unfold fndB; rw [c1, noneTo_no c2' hh]; rfl
          rw [hc] at hq
          refine good_needs (by simp only [ob_cons, ob_nil, and_true, decide_eq_true_eq, Nat.ble_eq]; omega) (good_out ⟨_, Hsim.refl _, ?_⟩)
          rw [if_pos rfl]
          exact hq
        · have hh : hitB T i a = false := by unfold hitB; rw [c3, c4]; rfl
          exact good_out ⟨a + 1, ⟨rfl, c2', noneTo_succ ha hh⟩, rfl, Hsim.refl _⟩
      · have hh : hitB T i a = false := by unfold hitB; rw [c3]; rfl
        exact good_out ⟨a + 1, ⟨rfl, c2', noneTo_succ ha hh⟩, rfl, Hsim.refl _⟩
    · have c2 := of_decide_eq_false c2
      have : a = 24 := by omega
      subst this
      have hc : fndB T i = false := by unfold fndB; rw [ha, Bool.not_true, Bool.and_false]
      rw [hc] at hq
      refine good_out ⟨_, Hsim.refl _, ?_⟩
      rw [if_pos rfl]
      exact hq
  · have hc : fndB T i = false := by unfold fndB; rw [c1]; rfl
    rw [hc] at hq
    refine good_out ⟨_, Hsim.refl _, ?_⟩
    rw [if_pos rfl]
    exact hq
theorem tT_len {x : Int} {T : List Wh} : (tT x T).length ≤ 12 := by
  unfold tT eachL
  cases eachP x 0 T with
  | false => simp
  | true =>
    show (tidyL _).length ≤ 12
    cases h : okT (T.map (chE 1 x 0 false)) with
    | true => exact tidyL_len h
    | false => rw [tidyL_no h]; simp

theorem sumS5 (m : Nat) (f : Nat → Nat → Int) (T : List Wh) (hT : T.length ≤ 12) :
    SumOk Try.prog 1 (.block 0 (.loop (loopAt 0 Try.f41))) (atS 56 (lvS5 .normal) 1 (stS5 T.length 0 0) (hpS5 m f T.length (wfun T) 0 (fun _ => 0)) (fun K => K .normal (mkT 0 56 [(6, .own 1 (stL T 24).length)]) (hpS6 m f (stL T 24).length (oF T 24)))) := by
  refine for_at gmS3_ok (n := 100) (m := 1) (lv := lvS5) (fun i => stS5 T.length (stL T i).length i) (fun i => hpS5 m f T.length (wfun T) (stL T i).length (bif Nat.beq i 0 then (fun _ => 0) else oF T i)) (fun _ => True) 24
    (fun i => bif Nat.blt i 24 then lamS4 m f T.length (wfun T) (stL T i).length (bif Nat.beq i 0 then (fun _ => 0) else oF T i) i (tT i T).length (wfun (tT i T)) (yT i T) (fndB T i) (fun j => bif Nat.blt j (stL T i).length then (bif Nat.beq i 0 then (fun _ => 0) else oF T i) j else (i : Int)) else oneL 2 errS) (lv3_ris rfl rfl rfl) (Nat.le_refl _) trivial fun K Q hk i _ hi24 => ?_
  have ho : ∀ j, j < (stL T i).length → (bif Nat.beq i 0 then (fun _ => (0 : Int)) else oF T i) j = oF T i j := by
    intro j hj
    cases i with
    | zero => exact absurd hj (Nat.not_lt_zero _)
    | succ i => rfl
  have hl := stL_le T i
  by_cases hlt : i < 24
  · rw [blt_yes hlt, cond_true]
    have hU : (tT i T).length ≤ 12 := tT_len
    refine ⟨lamC (c := loopAt 2 Try.f41) (by kernel_rfl) (sumS4 m f T _ _ i hT (by omega) (by omega)), ?_⟩
    rw [rndS5, listW_self0 T _ rfl]
    refine good_true (decide_eq_true (by omega)) ?_
    rw [wr_in (x := (i : Int) + 1) (by omega)]
    refine good_needs (by simp only [row0, ob_cons, ob_nil, and_true, decide_eq_true_eq, Nat.ble_eq, allW_row, true_and]; exact ⟨by omega, by omega, chk_of ⟨rfl, Hsim.refl _⟩⟩) (good_cond (fun q => ?_) fun q => ?_)
    · refine good_out ⟨i + 1, ⟨rfl, hlt, trivial⟩, ?_, ?_⟩
      · show _ = stS5 T.length (stL T (i + 1)).length (i + 1)
        rw [stL_yes q, List.length_append]
        rfl
      · show Hsim _ (hpS5 m f T.length (wfun T) (stL T (i + 1)).length (oF T (i + 1)))
        rw [show (stL T (i + 1)).length = (stL T i).length + 1 by rw [stL_yes q, List.length_append]; rfl]
        refine .cons (ABeq.refl _) (.cons (ABeq.refl _) (.cons (ABeq.row fun j hj => ?_) .nil))
        show [i64 (bif Nat.blt j (stL T i).length then (bif Nat.beq i 0 then (fun _ => (0 : Int)) else oF T i) j else (i : Int))] = [i64 (oF T (i + 1) j)]
        rw [← oF_yes q j hj]
        by_cases hj2 : j < (stL T i).length
        · rw [blt_yes hj2, cond_true, cond_true, ho j hj2]
        · have : j = (stL T i).length := by omega
          subst this
          rw [blt_no, cond_false, cond_false]
    · refine good_out ⟨i + 1, ⟨rfl, hlt, trivial⟩, ?_, ?_⟩
      · show _ = stS5 T.length (stL T (i + 1)).length (i + 1)
        rw [stL_no q]
        rfl
      · show Hsim _ (hpS5 m f T.length (wfun T) (stL T (i + 1)).length (oF T (i + 1)))
        rw [stL_no q]
        refine .cons (ABeq.refl _) (.cons (ABeq.refl _) (.cons (ABeq.row fun j hj => ?_) .nil))
        show [i64 _] = [i64 _]
        rw [ho j hj, oF, oF, stL_no q]
  · have b : Nat.blt i 24 = false := by
      cases hb : Nat.blt i 24 with
      | false => rfl
      | true => rw [Nat.blt_eq] at hb; omega
    rw [b, cond_false]
    have : i = 24 := by omega
    subst this
    refine ⟨lamC (c := loopAt 2 Try.f41) (by kernel_rfl) errS_ok, ?_⟩
    rw [rndS5n]
    refine good_false (decide_eq_false (by omega)) (good_out ⟨_, Hsim.refl _, ?_⟩)
    rw [if_pos rfl]
    exact hk

/-- The turns that change nothing. -/
def FstY (yes : List Wh → Bool) (sl : List Wh → List Nat) (of : List Wh → Nat → Int) : List SA → Option FR
  | [.row m g] => some { val := .tup [.sl 0 1 0 0 (sl (listW (itW g) m)).length (some (sl (listW (itW g) m)).length), .v (.bool true)], new := [.row true (sl (listW (itW g) m)).length 1 (rowI (of (listW (itW g) m))) 3], obl := [allW m g, decide (m ≤ 2 ^ 38), yes (listW (itW g) m)] }
  | _ => none
def FstN (yes : List Wh → Bool) : List SA → Option FR
  | [.row m g] => some { val := valN, obl := [allW m g, decide (m ≤ 2 ^ 38), !yes (listW (itW g) m)] }
  | _ => none
def FstS (yes : List Wh → Bool) (sl : List Wh → List Nat) (of : List Wh → Nat → Int) : List SA → Option FR
  | [.row m g] => some { val := .tup [.own 0 (sl (listW (itW g) m)).length, .v (.bool (yes (listW (itW g) m)))], new := [.row true (sl (listW (itW g) m)).length 1 (rowI (of (listW (itW g) m))) 3], obl := [allW m g, decide (m ≤ 2 ^ 38)] }
  | _ => none
def stT (L : List Wh) : List Nat := bif yesTi L then stL (tidyL L) 24 else []
def stO (L : List Wh) : Nat → Int := oF (tidyL L) 24
theorem yesTi_eq (L : List Wh) : yesTi L = (okD L && okT L) := by
  have := map_Ti L
  unfold yesTi
  rw [show L.map chTi = L from this]
theorem ok_stY : SpecOk Try.prog 41 (specR md_ws (FstY yesTi stT stO)) := by
  refine specR_hr (ext_ok g0_ok ok_deYTi) Try.func41 rfl fun sas fr hF ho => ?_
  unfold FstY at hF
  split at hF
  · rename_i m g
    cases hF
    simp only [ob_cons] at ho
    obtain ⟨h1, h2, h3, _⟩ := ho
    have hm := of_decide_eq_true h2
    have hy := h3
    rw [yesTi_eq, Bool.and_eq_true] at hy
    have hT := tidyL_len hy.2
    have es : stT (listW (itW g) m) = stL (tidyL (listW (itW g) m)) 24 := by rw [stT, h3]; rfl
    refine ⟨hpK m (itW g), lamS5 m (itW g) (tidyL (listW (itW g) m)).length (wfun (tidyL (listW (itW g) m))) (stL (tidyL (listW (itW g) m)) 24).length (oF (tidyL (listW (itW g) m)) 24), 100, .cons (ABeq.row fun j hj => allW_get h1 j hj) .nil, lam1 (by kernel_rfl) (sumS5 m (itW g) (tidyL (listW (itW g) m)) hT), ?_⟩
    show GoodQ (execF Try.prog (ext g0 52 (specR md_ws (FdeYTi yesTi tidyL mpTi))) (lamS5 m (itW g) (tidyL (listW (itW g) m)).length (wfun (tidyL (listW (itW g) m))) (stL (tidyL (listW (itW g) m)) 24).length (oF (tidyL (listW (itW g) m)) 24)) 100 Try.f41 [.sl 0 9 0 0 m none] (hpK m (itW g)) (packK 1)) _
    rw [treeStY, row0, listW_itW, map_Ti, es]
    simp only [Int.sub_zero, Int.toNat_natCast]
    refine good_needs ?_ (good_out ⟨_, rfl, rfl, .cons (ABeq.row fun j hj => (allW_get h1 j hj).symm) (Hsim.refl _)⟩)
    simp only [ob_cons, ob_nil, and_true, allW_row]
    exact ⟨by simp, trivial, decide_eq_true hm, h3, chk_of ⟨rfl, .cons (ABeq.refl _) (.cons (ABeq.refl _) (.cons (ABeq.row fun j hj => absurd hj (Nat.not_lt_zero _)) .nil))⟩, by simp, by simp, by simp⟩
  · cases hF
theorem ok_stN : SpecOk Try.prog 41 (specR md_ws (FstN yesTi)) := by
  refine specR_hr (ext_ok g0_ok ok_deNTi) Try.func41 rfl fun sas fr hF ho => ?_
  unfold FstN at hF
  split at hF
  · rename_i m g
    cases hF
    simp only [ob_cons] at ho
    obtain ⟨h1, h2, h3, _⟩ := ho
    have hm := of_decide_eq_true h2
    refine ⟨hpK m (itW g), oneL 0 errS, 100, .cons (ABeq.row fun j hj => allW_get h1 j hj) .nil, lam1 (c := loopAt 0 Try.f41) (by kernel_rfl) errS_ok, ?_⟩
    show GoodQ (execF Try.prog (ext g0 52 (specR md_ws (FdeNTi yesTi))) (oneL 0 errS) 100 Try.f41 [.sl 0 9 0 0 m none] (hpK m (itW g)) (packK 1)) _
    rw [treeStN, row0, listW_itW]
    exact good_needs (by simp only [ob_cons, ob_nil, and_true, decide_eq_true_eq, Nat.ble_eq, allW_row, true_and]; exact ⟨by omega, by omega, h3⟩) (good_out ⟨_, rfl, rfl, .cons (ABeq.row fun j hj => (allW_get h1 j hj).symm) .nil⟩)
  · cases hF

end Go.Proofs.Ytnlfdcjpeoafhaa

/- DesignStill, the reference's; the helpers on whole numbers: trees. Conditions: a list of wheels. -/
namespace Go.Proofs.Ytnlfdcjpeoafhaa
open Go.RowKit
set_option maxRecDepth 100000

theorem sumR4 (m : Nat) (f : Nat → Nat → Int) (T : List Wh) (k : Nat) (o : Nat → Int) (i : Nat) (hT : T.length ≤ 12) (hU : (tT i T).length ≤ 12) :
    SumOk Try.prog 1 (.block 2 (.loop (loopAt 2 Try.f40))) (atS 62 (lvR4 .normal) 1 (stR4 T.length k i (tT i T).length (yT i T) false 0) (hpR4 m f T.length (wfun T) k o (tT i T).length (wfun (tT i T))) (fun K => K .normal (mkT 0 62 ([4, 6, 7, 10].zip [.own 1 T.length, .own 2 k, .v (i64 i), .v (.bool (fndB T i))])) (hpS5 m f T.length (wfun T) k o))) := by
  refine loop_at gmR3_ok (n := 100) (m := 1) (m0 := 1) (lv := lvR4) (σ := Nat × Bool) (fun s => stR4 T.length k i (tT i T).length (yT i T) s.2 s.1) (fun _ => hpR4 m f T.length (wfun T) k o (tT i T).length (wfun (tT i T))) (fun s => s.1 ≤ 24 ∧ (s.2 = false → noneTo (hitB T i) s.1 = true) ∧ (s.2 = true → fndB T i = true)) (fun s => 24 - s.1) (0, false) (fun _ => noLam) (lv3_ris rfl rfl rfl) (Nat.le_refl _) ⟨Nat.zero_le _, fun _ => rfl, fun h => by cases h⟩ fun K Q hq s hs => ⟨noLam_ok _ _ _, ?_⟩
  obtain ⟨a, fd⟩ := s
  obtain ⟨h1, h2, h3⟩ := hs
  simp only at h1 h2 h3
  have done : fndB T i = fd → GoodQ (.out (.exit 2) [.own 1 T.length, .own 2 k, .v (i64 i), .v (.bool fd)] (hpS5 m f T.length (wfun T) k o)) (RoundV 62 2 lvR4 (fun s : Nat × Bool => stR4 T.length k i (tT i T).length (yT i T) s.2 s.1) (fun _ => hpR4 m f T.length (wfun T) k o (tT i T).length (wfun (tT i T))) (fun s' => (s'.1 ≤ 24 ∧ (s'.2 = false → noneTo (hitB T i) s'.1 = true) ∧ (s'.2 = true → fndB T i = true)) ∧ 24 - s'.1 < 24 - a) K Q) := fun e => by
    refine good_out ⟨_, Hsim.refl _, ?_⟩
    rw [if_pos rfl]
    rw [e] at hq
    exact hq
  show GoodQ (execC Try.prog (gmR3 eachOk eachL eqL) 100 noLam (loopAt 2 Try.f40) (mkT 0 62 ((lvR4 .normal).zip (stR4 T.length k i (tT i T).length (yT i T) fd a))) (hpR4 m f T.length (wfun T) k o (tT i T).length (wfun (tT i T))) (leafV 62 lvR4 1)) _
  rw [rndR4, listW_self T _ rfl, listW_self (tT i T) _ rfl, listW_self (eachL 1 0 a false T) _ rfl]
  have hl : (eachL 1 0 a false T).length ≤ 12 := by
    unfold eachL
    cases eachP 0 a T with
    | false => simp
    | true =>
      show (tidyL _).length ≤ 12
      cases h : okT (T.map (chE 1 0 a false)) with
      | true => exact tidyL_len h
      | false => rw [tidyL_no h]; simp
  have eh : hitB T i a = (eachOk 1 0 a false T && eqL (eachL 1 0 a false T) (tT i T)) := by unfold hitB; rw [eqL_comm]; rfl
  refine good_cond (fun c1 => ?_) fun c1 => ?_
  · have c1 := of_decide_eq_true c1
    have c1' : a < 24 := by omega
    refine good_cond (fun c2 => ?_) fun c2 => ?_
    · cases fd with
      | true => exact good_false rfl (done (h3 rfl))
      | false =>
        have hn := h2 rfl
        refine good_true rfl ?_
        rw [wr_in (x := (a : Int) + 1) (by omega)]
        refine good_needs (by simp only [ob_cons, ob_nil, and_true, decide_eq_true_eq, Nat.ble_eq, allW_row, true_and]; omega) (good_cond (fun c3 => ?_) fun c3 => ?_)
        · refine good_needs (by simp only [ob_cons, ob_nil, and_true, decide_eq_true_eq, Nat.ble_eq, allW_row, true_and]; omega) (good_out ⟨(a + 1, eqL (eachL 1 0 a false T) (tT i T)), ⟨⟨c1', fun e => ?_, fun e => ?_⟩, by simp only; omega⟩, rfl, Hsim.refl _⟩)
          · exact noneTo_succ hn (by rw [eh, c3]; exact e)
          · have hh : hitB T i a = true := by rw [eh, c3]; exact e
            unfold fndB
            rw [c2, noneTo_no c1' hh]
            rfl
        · refine good_out ⟨(a + 1, false), ⟨⟨c1', fun _ => noneTo_succ hn (by rw [eh, c3]; rfl), fun e => by cases e⟩, by simp only; omega⟩, rfl, Hsim.refl _⟩
    · refine done ?_
      have e0 : fndB T i = false := by unfold fndB; rw [c2]; rfl
      cases fd with
      | false => exact e0
      | true => exact h3 rfl
  · have c1 := of_decide_eq_false c1
    have : a = 24 := by omega
    subst this
    refine done ?_
    cases fd with
    | false => unfold fndB; rw [h2 rfl, Bool.not_true, Bool.and_false]
    | true => exact h3 rfl

theorem sumR5 (m : Nat) (f : Nat → Nat → Int) (T : List Wh) (hT : T.length ≤ 12) :
    SumOk Try.prog 1 (.block 0 (.loop (loopAt 0 Try.f40))) (atS 62 (lvR5 .normal) 1 (stR5 T.length 0 0) (hpS5 m f T.length (wfun T) 0 (fun _ => 0)) (fun K => K .normal (mkT 0 62 [(6, .own 1 (stL T 24).length)]) (hpS6 m f (stL T 24).length (oF T 24)))) := by
  refine for_at gmR3_ok (n := 100) (m := 1) (lv := lvR5) (fun i => stR5 T.length (stL T i).length i) (fun i => hpS5 m f T.length (wfun T) (stL T i).length (bif Nat.beq i 0 then (fun _ => 0) else oF T i)) (fun _ => True) 24
    (fun i => bif Nat.blt i 24 then lamR4 m f T.length (wfun T) (stL T i).length (bif Nat.beq i 0 then (fun _ => 0) else oF T i) i (tT i T).length (wfun (tT i T)) (yT i T) (fndB T i) else oneL 2 errS) (lv3_ris rfl rfl rfl) (Nat.le_refl _) trivial fun K Q hk i _ hi24 => ?_
  have ho : ∀ j, j < (stL T i).length → (bif Nat.beq i 0 then (fun _ => (0 : Int)) else oF T i) j = oF T i j := by
    intro j hj
    cases i with
    | zero => exact absurd hj (Nat.not_lt_zero _)
    | succ i => rfl
  have hl := stL_le T i
  by_cases hlt : i < 24
  · rw [blt_yes hlt, cond_true]
    have hU : (tT i T).length ≤ 12 := tT_len
    refine ⟨lamC (c := loopAt 2 Try.f40) (by kernel_rfl) (sumR4 m f T _ _ i hT hU), ?_⟩
    rw [rndR5, listW_self T _ rfl]
    refine good_true (decide_eq_true (by omega)) ?_
    rw [wr_in (x := (i : Int) + 1) (by omega)]
    refine good_needs (by simp only [ob_cons, ob_nil, and_true, decide_eq_true_eq, Nat.ble_eq, allW_row, true_and]; exact ⟨by omega, by omega, chk_of ⟨rfl, Hsim.refl _⟩⟩) (good_cond (fun q => ?_) fun q => ?_)
    · refine good_needs (by simp only [ob_cons, ob_nil, and_true, decide_eq_true_eq, Nat.ble_eq]; omega) (good_out ⟨i + 1, ⟨rfl, hlt, trivial⟩, ?_, ?_⟩)
      · show _ = stR5 T.length (stL T (i + 1)).length (i + 1)
        rw [stL_yes q, List.length_append]
        rfl
      · show Hsim _ (hpS5 m f T.length (wfun T) (stL T (i + 1)).length (oF T (i + 1)))
        rw [show (stL T (i + 1)).length = (stL T i).length + 1 by rw [stL_yes q, List.length_append]; rfl]
        refine .cons (ABeq.refl _) (.cons (ABeq.refl _) (.cons (ABeq.row fun j hj => ?_) .nil))
        show [i64 (bif Nat.blt j (stL T i).length then (bif Nat.beq i 0 then (fun _ => (0 : Int)) else oF T i) j else (i : Int))] = [i64 (oF T (i + 1) j)]
        rw [← oF_yes q j hj]
        by_cases hj2 : j < (stL T i).length
        · rw [blt_yes hj2, cond_true, cond_true, ho j hj2]
        · have : j = (stL T i).length := by omega
          subst this
          rw [blt_no, cond_false, cond_false]
    · refine good_out ⟨i + 1, ⟨rfl, hlt, trivial⟩, ?_, ?_⟩
      · show _ = stR5 T.length (stL T (i + 1)).length (i + 1)
        rw [stL_no q]
        rfl
      · show Hsim _ (hpS5 m f T.length (wfun T) (stL T (i + 1)).length (oF T (i + 1)))
        rw [stL_no q]
        refine .cons (ABeq.refl _) (.cons (ABeq.refl _) (.cons (ABeq.row fun j hj => ?_) .nil))
        show [i64 _] = [i64 _]
        rw [ho j hj, oF, oF, stL_no q]
  · have b : Nat.blt i 24 = false := by
      cases hb : Nat.blt i 24 with
      | false => rfl
      | true => rw [Nat.blt_eq] at hb; omega
    rw [b, cond_false]
    have : i = 24 := by omega
    subst this
    refine ⟨lamC (c := loopAt 2 Try.f40) (by kernel_rfl) errS_ok, ?_⟩
    rw [rndR5n]
    refine good_false (decide_eq_false (by omega)) (good_out ⟨_, Hsim.refl _, ?_⟩)
    rw [if_pos rfl]
    exact hk

theorem ok_stS : SpecOk Try.prog 40 (specR md_ws (FstS yesTi stT stO)) := by
  refine specR_hr gmS2_ok Try.func40 rfl fun sas fr hF ho => ?_
  unfold FstS at hF
  split at hF
  · rename_i m g
    cases hF
    simp only [ob_cons] at ho
    obtain ⟨h1, h2, _⟩ := ho
    have hm := of_decide_eq_true h2
    have hT : (tidyL (listW (itW g) m)).length ≤ 12 := by
      cases h : okT (listW (itW g) m) with
      | true => exact tidyL_len h
      | false => rw [tidyL_no h]; simp
    refine ⟨hpK m (itW g), lamR5 m (itW g) (tidyL (listW (itW g) m)).length (wfun (tidyL (listW (itW g) m))) (stL (tidyL (listW (itW g) m)) 24).length (oF (tidyL (listW (itW g) m)) 24), 100, .cons (ABeq.row fun j hj => allW_get h1 j hj) .nil, lam1 (by kernel_rfl) (sumR5 m (itW g) (tidyL (listW (itW g) m)) hT), ?_⟩
    show GoodQ (execF Try.prog (gmS2 okD tidyL okT) (lamR5 m (itW g) (tidyL (listW (itW g) m)).length (wfun (tidyL (listW (itW g) m))) (stL (tidyL (listW (itW g) m)) 24).length (oF (tidyL (listW (itW g) m)) 24)) 100 Try.f40 [.sl 0 9 0 0 m none] (hpK m (itW g)) (packK 1)) _
    rw [treeStS, row0, listW_itW]
    have fin : ∀ (k : Nat) (b : Bool) (G : Nat → List Value), yesTi (listW (itW g) m) = b → (stT (listW (itW g) m)).length = k → (∀ j, j < k → G j = rowI (stO (listW (itW g) m)) j) → GoodQ (.out .ret [.tup [.own 1 k, .v (.bool b)]] [.row false m 9 (row9 (itW g)) 67, .row true k 1 G 3])
        (GivR (abP md_ws [.row m g] []) { val := .tup [.own 0 (stT (listW (itW g) m)).length, .v (.bool (yesTi (listW (itW g) m)))], new := [.row true (stT (listW (itW g) m)).length 1 (rowI (stO (listW (itW g) m))) 3], obl := [allW m g, decide (m ≤ 2 ^ 38)] }) := by
      rintro k b G rfl rfl hG
      exact good_out ⟨_, rfl, rfl, .cons (ABeq.row fun j hj => (allW_get h1 j hj).symm) (.cons (ABeq.row hG) .nil)⟩
    have bad : ∀ G, yesTi (listW (itW g) m) = false → GoodQ (.out .ret [.tup [.own 1 0, .v (.bool false)]] [.row false m 9 (row9 (itW g)) 67, .row true 0 1 G 3]) _ := fun G e => fin 0 false G e (by rw [stT, e]; rfl) fun j hj => absurd hj (Nat.not_lt_zero _)
    refine good_needs (by simp only [ob_cons, ob_nil, and_true, decide_eq_true_eq, Nat.ble_eq, allW_row, true_and]; omega) (good_cond (fun q => ?_) fun q => ?_)
    · have q' : (!okD (listW (itW g) m)) = true := q
      exact bad _ (by rw [yesTi_eq, show okD (listW (itW g) m) = false by simpa using q']; rfl)
    · have q' : (!okD (listW (itW g) m)) = false := q
      have qd : okD (listW (itW g) m) = true := by simpa using q'
      refine good_needs (by simp only [ob_cons, ob_nil, and_true, decide_eq_true_eq, Nat.ble_eq, allW_row, true_and]; omega) (good_cond (fun q => ?_) fun q => ?_)
      · have q' : (!okT (listW (itW g) m)) = true := q
        exact bad _ (by rw [yesTi_eq, show okT (listW (itW g) m) = false by simpa using q', Bool.and_false])
      · have q' : (!okT (listW (itW g) m)) = false := q
        have qt : okT (listW (itW g) m) = true := by simpa using q'
        have e : yesTi (listW (itW g) m) = true := by rw [yesTi_eq, qd, qt]; rfl
        refine good_needs ?_ (fin _ _ _ e (by rw [stT, e]; rfl) fun j hj => rfl)
        rw [ob_cons]
        exact ⟨chk_of ⟨rfl, .cons (ABeq.refl _) (.cons (ABeq.refl _) (.cons (ABeq.row fun j hj => absurd hj (Nat.not_lt_zero _)) .nil))⟩, rfl⟩
  · cases hF

abbrev lvEI : Ex → List Nat := lv3 [0, 1, 5] [] [4]
abbrev hpEI (m : Nat) (f h : Nat → Int) : List AB := [.row false m 1 (rowI f) 3, .row false m 1 (rowI h) 3]
theorem rndEI (m : Nat) (f h : Nat → Int) (i : Nat) : execC Try.prog g0 100 noLam (loopAt 0 Try.f42) (mkT 0 26 ((lvEI .normal).zip [.sl 0 1 0 0 m none, .sl 1 1 0 0 m none, .v (i64 i)])) (hpEI m f h) (leafV 26 lvEI 2)
    = bif decide ((↑i : Int) < (↑m : Int)) then needs [decide ((↑i : Int) < (↑m : Int)), decide ((0 : Nat) + Int.toNat (↑i : Int) < m), decide ((↑i : Int) < (↑m : Int)), decide ((0 : Nat) + Int.toNat (↑i : Int) < m)] (bif f ((0 : Nat) + Int.toNat (↑i : Int)) != h ((0 : Nat) + Int.toNat (↑i : Int)) then Res.out Ex.ret [AV.v (Value.bool false)] [AB.row false m (1 : Nat) (rowI f) (3 : TypeId), AB.row false m (1 : Nat) (rowI h) (3 : TypeId)] else Res.out Ex.normal [AV.sl (0 : Nat) (1 : Nat) (0 : Nat) (0 : Nat) m none, AV.sl (1 : Nat) (1 : Nat) (0 : Nat) (0 : Nat) m none, AV.v (Value.int IntKind.i64 (IntKind.wrap IntKind.i64 ((↑i : Int) + (1 : Int))))] [AB.row false m (1 : Nat) (rowI f) (3 : TypeId), AB.row false m (1 : Nat) (rowI h) (3 : TypeId)]) else Res.out (Ex.exit (0 : Nat)) [] [AB.row false m (1 : Nat) (rowI f) (3 : TypeId), AB.row false m (1 : Nat) (rowI h) (3 : TypeId)] := by kernel_rfl

noncomputable abbrev lamEI (m : Nat) (f h : Nat → Int) : Nat → Option Sum := oneL 0 (atS 26 (lvEI .normal) 2 [.sl 0 1 0 0 m none, .sl 1 1 0 0 m none, .v (i64 (0 : Nat))] (hpEI m f h) (fun K => K .normal (mkT 0 26 []) (hpEI m f h)))
theorem treeEI (m : Nat) (f h : Nat → Int) : execF Try.prog g0 (lamEI m f h) 100 Try.f42 [.sl 0 1 0 0 m none, .sl 1 1 0 0 m none] (hpEI m f h) (packK 2)
    = bif (↑m : Int) != (↑m : Int) then Res.out Ex.ret [AV.v (Value.bool false)] [AB.row false m (1 : Nat) (rowI f) (3 : TypeId), AB.row false m (1 : Nat) (rowI h) (3 : TypeId)] else needs [chk ([AV.sl (0 : Nat) (1 : Nat) (0 : Nat) (0 : Nat) m none, AV.sl (1 : Nat) (1 : Nat) (0 : Nat) (0 : Nat) m none, AV.v (Value.int IntKind.i64 (0 : Int))] = [AV.sl (0 : Nat) (1 : Nat) (0 : Nat) (0 : Nat) m none, AV.sl (1 : Nat) (1 : Nat) (0 : Nat) (0 : Nat) m none, AV.v (Value.int IntKind.i64 (0 : Int))] ∧ Hsim [AB.row false m (1 : Nat) (rowI f) (3 : TypeId), AB.row false m (1 : Nat) (rowI h) (3 : TypeId)] (hpEI m f h))] (Res.out Ex.ret [AV.v (Value.bool true)] [AB.row false m (1 : Nat) (rowI f) (3 : TypeId), AB.row false m (1 : Nat) (rowI h) (3 : TypeId)]) := by kernel_rfl

abbrev lvHI : Ex → List Nat := lv3 [0, 1, 5] [1] [4]
theorem rndHI (m : Nat) (f : Nat → Int) (k : Int) (i : Nat) : execC Try.prog g0 100 noLam (loopAt 0 Try.f44) (mkT 0 21 ((lvHI .normal).zip [.sl 0 1 0 0 m none, .v (i64 k), .v (i64 i)])) [.row false m 1 (rowI f) 3] (leafV 21 lvHI 1)
    = bif decide ((↑i : Int) < (↑m : Int)) then needs [decide ((↑i : Int) < (↑m : Int)), decide ((0 : Nat) + Int.toNat (↑i : Int) < m)] (bif f ((0 : Nat) + Int.toNat (↑i : Int)) != k then Res.out Ex.ret [AV.v (Value.int IntKind.i64 (-1 : Int))] [AB.row false m (1 : Nat) (rowI f) (3 : TypeId)] else Res.out Ex.normal [AV.sl (0 : Nat) (1 : Nat) (0 : Nat) (0 : Nat) m none, AV.v (Value.int IntKind.i64 (IntKind.wrap IntKind.i64 (k + (1 : Int)))), AV.v (Value.int IntKind.i64 (IntKind.wrap IntKind.i64 ((↑i : Int) + (1 : Int))))] [AB.row false m (1 : Nat) (rowI f) (3 : TypeId)]) else Res.out (Ex.exit (0 : Nat)) [AV.v (Value.int IntKind.i64 k)] [AB.row false m (1 : Nat) (rowI f) (3 : TypeId)] := by kernel_rfl

noncomputable abbrev lamHI (m : Nat) (f : Nat → Int) (k k2 : Int) : Nat → Option Sum := oneL 0 (atS 21 (lvHI .normal) 1 [.sl 0 1 0 0 m none, .v (i64 k), .v (i64 (0 : Nat))] [.row false m 1 (rowI f) 3] (fun K => K .normal (mkT 0 21 [(1, .v (i64 k2))]) [.row false m 1 (rowI f) 3]))
theorem treeHI (m : Nat) (f : Nat → Int) (k k2 : Int) : execF Try.prog g0 (lamHI m f k k2) 100 Try.f44 [.sl 0 1 0 0 m none, .v (i64 k)] [.row false m 1 (rowI f) 3] (packK 1)
    = needs [chk ([AV.sl (0 : Nat) (1 : Nat) (0 : Nat) (0 : Nat) m none, AV.v (Value.int IntKind.i64 k), AV.v (Value.int IntKind.i64 (0 : Int))] = [AV.sl (0 : Nat) (1 : Nat) (0 : Nat) (0 : Nat) m none, AV.v (Value.int IntKind.i64 k), AV.v (Value.int IntKind.i64 (0 : Int))] ∧ Hsim [AB.row false m (1 : Nat) (rowI f) (3 : TypeId)] [AB.row false m (1 : Nat) (rowI f) (3 : TypeId)])] (Res.out Ex.ret [AV.v (Value.int IntKind.i64 k2)] [AB.row false m (1 : Nat) (rowI f) (3 : TypeId)]) := by kernel_rfl

abbrev lvMI : Ex → List Nat := lv3 [0, 1, 5] [1] [4]
abbrev slI (m : Nat) : AV := .sl 0 1 0 0 m (some m)
theorem rndMI (m : Nat) (f : Nat → Int) (k : Int) (i : Nat) : execC Try.prog g0 100 noLam (loopAt 0 Try.f43) (mkT 0 19 ((lvMI .normal).zip [slI m, .v (i64 k), .v (i64 i)])) [.row true m 1 (rowI f) 3] (leafV 19 lvMI 1)
    = bif decide ((↑i : Int) < (↑m : Int)) then needs [decide ((↑i : Int) < (↑m : Int)), decide ((0 : Nat) + Int.toNat (↑i : Int) < m)] (Res.out Ex.normal [AV.sl (0 : Nat) (1 : Nat) (0 : Nat) (0 : Nat) m (some m), AV.v (Value.int IntKind.i64 (IntKind.wrap IntKind.i64 (k + (1 : Int)))), AV.v (Value.int IntKind.i64 (IntKind.wrap IntKind.i64 ((↑i : Int) + (1 : Int))))] [AB.row true m (1 : Nat) (fun q ↦ [Value.int IntKind.i64 (bif Nat.beq q ((0 : Nat) + Int.toNat (↑i : Int)) then k else f q)]) (3 : TypeId)]) else Res.out (Ex.exit (0 : Nat)) [AV.v (Value.int IntKind.i64 k)] [AB.row true m (1 : Nat) (rowI f) (3 : TypeId)] := by kernel_rfl

noncomputable abbrev lamMI (m : Nat) (f h : Nat → Int) (k k2 : Int) : Nat → Option Sum := oneL 0 (atS 19 (lvMI .normal) 1 [slI m, .v (i64 k), .v (i64 (0 : Nat))] [.row true m 1 (rowI f) 3] (fun K => K .normal (mkT 0 19 [(1, .v (i64 k2))]) [.row true m 1 (rowI h) 3]))
theorem treeMI (m : Nat) (f h : Nat → Int) (k k2 : Int) : execF Try.prog g0 (lamMI m f h k k2) 100 Try.f43 [slI m, .v (i64 k)] [.row true m 1 (rowI f) 3] (packK 1)
    = needs [chk ([AV.sl (0 : Nat) (1 : Nat) (0 : Nat) (0 : Nat) m (some m), AV.v (Value.int IntKind.i64 k), AV.v (Value.int IntKind.i64 (0 : Int))] = [slI m, AV.v (Value.int IntKind.i64 k), AV.v (Value.int IntKind.i64 (0 : Int))] ∧ Hsim [AB.row true m (1 : Nat) (rowI f) (3 : TypeId)] [AB.row true m (1 : Nat) (rowI f) (3 : TypeId)])] (Res.out Ex.ret [AV.v (Value.int IntKind.i64 k2)] [AB.row true m (1 : Nat) (rowI h) (3 : TypeId)]) := by kernel_rfl

end Go.Proofs.Ytnlfdcjpeoafhaa

/- FnExactDesignStill: the helpers on whole numbers, the whole. -/
namespace Go.Proofs.Ytnlfdcjpeoafhaa
open Go.RowKit
set_option maxRecDepth 100000

def sameQ (m : Nat) (f h : Nat → Int) : Prop := ∀ j, j < m → f j = h j
noncomputable def sameJ (m : Nat) (f h : Nat → Int) : Bool := chk (sameQ m f h)
theorem sumEI (m : Nat) (f h : Nat → Int) (hm : m ≤ 2 ^ 40) (hs : sameQ m f h) :
    SumOk Try.prog 2 (.block 0 (.loop (loopAt 0 Try.f42))) (atS 26 (lvEI .normal) 2 [.sl 0 1 0 0 m none, .sl 1 1 0 0 m none, .v (i64 (0 : Nat))] (hpEI m f h) (fun K => K .normal (mkT 0 26 []) (hpEI m f h))) := by
  refine for_at g0_ok (n := 100) (m := 2) (lv := lvEI) (fun i => [.sl 0 1 0 0 m none, .sl 1 1 0 0 m none, .v (i64 (i : Nat))]) (fun _ => hpEI m f h) (fun _ => True) m (fun _ => noLam) (lv3_ris rfl rfl rfl) (Nat.le_refl _) trivial fun K Q hk i hi him => ⟨noLam_ok _ _ _, ?_⟩
  rw [rndEI]
  refine good_cond (fun c1 => ?_) fun c1 => ?_
  · have c1 := of_decide_eq_true c1
    have c1' : i < m := by omega
    rw [Int.toNat_natCast, Nat.zero_add, wr_in (x := (i : Int) + 1) (by omega)]
    exact good_needs (by simp only [ob_cons, ob_nil, and_true, decide_eq_true_eq]; omega) (good_false (by simp [hs i c1']) (good_out ⟨i + 1, ⟨rfl, c1', trivial⟩, rfl, Hsim.refl _⟩))
  · have c1 := of_decide_eq_false c1
    have : i = m := by omega
    subst this
    refine good_out ⟨_, Hsim.refl _, ?_⟩
    rw [if_pos rfl]
    exact hk
noncomputable def F_eqIS : List SA → Option FR
  | [.row m g, .row m2 g2] => some { val := .v (.bool true), obl := [Nat.beq m2 m, allI m g, allI m g2, sameJ m (itI g) (itI g2), decide (m ≤ 2 ^ 40)] }
  | _ => none
def md_eqIS : List Md := [.rd 1 3, .rd 1 3]
theorem ok_eqIS : SpecOk Try.prog 42 (specR md_eqIS F_eqIS) := by
  refine specR_hr g0_ok Try.func42 rfl fun sas fr hF ho => ?_
  unfold F_eqIS at hF
  split at hF
  · rename_i m g m2 g2
    cases hF
    simp only [ob_cons] at ho
    obtain ⟨h0, h1, h2, h3, h4, _⟩ := ho
    have h0 := Nat.eq_of_beq_eq_true h0
    subst h0
    have hm := of_decide_eq_true h4
    refine ⟨hpEI m2 (itI g) (itI g2), lamEI m2 (itI g) (itI g2), 100, .cons (ABeq.row fun j hj => allI_get h1 j hj) (.cons (ABeq.row fun j hj => allI_get h2 j hj) .nil), lam1 (by kernel_rfl) (sumEI m2 (itI g) (itI g2) hm (of_chk h3)), ?_⟩
    show GoodQ (execF Try.prog g0 (lamEI m2 (itI g) (itI g2)) 100 Try.f42 [.sl 0 1 0 0 m2 none, .sl 1 1 0 0 m2 none] (hpEI m2 (itI g) (itI g2)) (packK 2)) _
    rw [treeEI]
    exact good_false (by simp) (good_needs (by rw [ob_cons]; exact ⟨chk_of ⟨rfl, Hsim.refl _⟩, rfl⟩) (good_out ⟨_, rfl, rfl, .cons (ABeq.row fun j hj => (allI_get h1 j hj).symm) (.cons (ABeq.row fun j hj => (allI_get h2 j hj).symm) .nil)⟩))
  · cases hF
def markJ (k : Int) : Nat → Int := fun j => k + (j : Int)
theorem sumHI (m : Nat) (f : Nat → Int) (k : Int) (hm : m ≤ 2 ^ 40) (hk0 : 0 ≤ k ∧ k ≤ 2 ^ 50) (hs : sameQ m f (markJ k)) :
    SumOk Try.prog 1 (.block 0 (.loop (loopAt 0 Try.f44))) (atS 21 (lvHI .normal) 1 [.sl 0 1 0 0 m none, .v (i64 (k + (0 : Nat))), .v (i64 (0 : Nat))] [.row false m 1 (rowI f) 3] (fun K => K .normal (mkT 0 21 [(1, .v (i64 (k + m)))]) [.row false m 1 (rowI f) 3])) := by
  refine for_at g0_ok (n := 100) (m := 1) (lv := lvHI) (fun i => [.sl 0 1 0 0 m none, .v (i64 (k + (i : Nat))), .v (i64 (i : Nat))]) (fun _ => [.row false m 1 (rowI f) 3]) (fun _ => True) m (fun _ => noLam) (lv3_ris rfl rfl rfl) (Nat.le_refl _) trivial fun K Q hk i hi him => ⟨noLam_ok _ _ _, ?_⟩
  rw [rndHI]
  refine good_cond (fun c1 => ?_) fun c1 => ?_
  · have c1 := of_decide_eq_true c1
    have c1' : i < m := by omega
    have e1 : IntKind.wrap IntKind.i64 (k + (i : Int) + 1) = k + ((i + 1 : Nat) : Int) := (wr_in (by omega)).trans (by omega)
    rw [Int.toNat_natCast, Nat.zero_add, wr_in (x := (i : Int) + 1) (by omega), e1]
    exact good_needs (by simp only [ob_cons, ob_nil, and_true, decide_eq_true_eq]; omega) (good_false (by rw [hs i c1']; simp [markJ]) (good_out ⟨i + 1, ⟨rfl, c1', trivial⟩, rfl, Hsim.refl _⟩))
  · have c1 := of_decide_eq_false c1
    have : i = m := by omega
    subst this
    refine good_out ⟨_, Hsim.refl _, ?_⟩
    rw [if_pos rfl]
    exact hk
noncomputable def F_heldI : List SA → Option FR
  | [.row m g, .v (.int .i64 k)] => some { val := .v (i64 (k + m)), obl := [allI m g, sameJ m (itI g) (markJ k), decide (0 ≤ k), decide (k ≤ 2 ^ 50), decide (m ≤ 2 ^ 40)] }
  | _ => none
def md_iv : List Md := [.rd 1 3, .val]
theorem ok_heldI : SpecOk Try.prog 44 (specR md_iv F_heldI) := by
  refine specR_hr g0_ok Try.func44 rfl fun sas fr hF ho => ?_
  unfold F_heldI at hF
  split at hF
  · rename_i m g k
    cases hF
    simp only [ob_cons] at ho
    obtain ⟨h1, h3, h4, h5, h6, _⟩ := ho
    have h4 := of_decide_eq_true h4
    have h5 := of_decide_eq_true h5
    have hm := of_decide_eq_true h6
    have e0 : k = k + ((0 : Nat) : Int) := by omega
    have hS := sumHI m (itI g) k hm ⟨h4, h5⟩ (of_chk h3)
    rw [← e0] at hS
    refine ⟨[.row false m 1 (rowI (itI g)) 3], lamHI m (itI g) k (k + m), 100, .cons (ABeq.row fun j hj => allI_get h1 j hj) .nil, lam1 (by kernel_rfl) hS, ?_⟩
    show GoodQ (execF Try.prog g0 (lamHI m (itI g) k (k + m)) 100 Try.f44 [.sl 0 1 0 0 m none, .v (i64 k)] [.row false m 1 (rowI (itI g)) 3] (packK 1)) _
    rw [treeHI]
    exact good_needs (by rw [ob_cons]; exact ⟨chk_of ⟨rfl, Hsim.refl _⟩, rfl⟩) (good_out ⟨_, rfl, rfl, .cons (ABeq.row fun j hj => (allI_get h1 j hj).symm) .nil⟩)
  · cases hF
def mkJ (k : Int) (f : Nat → Int) (i : Nat) : Nat → Int := fun j => bif Nat.blt j i then markJ k j else f j
theorem sumMI (m : Nat) (f : Nat → Int) (k : Int) (hm : m ≤ 2 ^ 40) (hk0 : 0 ≤ k ∧ k ≤ 2 ^ 50) :
    SumOk Try.prog 1 (.block 0 (.loop (loopAt 0 Try.f43))) (atS 19 (lvMI .normal) 1 [slI m, .v (i64 (k + (0 : Nat))), .v (i64 (0 : Nat))] [.row true m 1 (rowI f) 3] (fun K => K .normal (mkT 0 19 [(1, .v (i64 (k + m)))]) [.row true m 1 (rowI (markJ k)) 3])) := by
  refine for_at g0_ok (n := 100) (m := 1) (lv := lvMI) (fun i => [slI m, .v (i64 (k + (i : Nat))), .v (i64 (i : Nat))]) (fun i => [.row true m 1 (rowI (mkJ k f i)) 3]) (fun _ => True) m (fun _ => noLam) (lv3_ris rfl rfl rfl) (Nat.le_refl _) trivial fun K Q hk i hi him => ⟨noLam_ok _ _ _, ?_⟩
  rw [rndMI]
  refine good_cond (fun c1 => ?_) fun c1 => ?_
  · have c1 := of_decide_eq_true c1
    have c1' : i < m := by omega
    have e1 : IntKind.wrap IntKind.i64 (k + (i : Int) + 1) = k + ((i + 1 : Nat) : Int) := (wr_in (by omega)).trans (by omega)
    rw [Int.toNat_natCast, Nat.zero_add, wr_in (x := (i : Int) + 1) (by omega), e1]
    refine good_needs (by simp only [ob_cons, ob_nil, and_true, decide_eq_true_eq]; omega) (good_out ⟨i + 1, ⟨rfl, c1', trivial⟩, rfl, .cons (ABeq.row fun j hj => ?_) .nil⟩)
    show [i64 (bif Nat.beq j i then k + (i : Int) else mkJ k f i j)] = [i64 (mkJ k f (i + 1) j)]
    by_cases e : j = i
    · subst e
      rw [show Nat.beq j j = true from Nat.beq_refl j, cond_true, mkJ, blt_yes (Nat.lt_succ_self j), cond_true, markJ]
    · have b2 : Nat.blt j (i + 1) = Nat.blt j i := by
        rw [Bool.eq_iff_iff, Nat.blt_eq, Nat.blt_eq]
        omega
      rw [beq_ne e, cond_false, mkJ, mkJ, b2]
  · have c1 := of_decide_eq_false c1
    have : i = m := by omega
    subst this
    refine good_out ⟨[.row true i 1 (rowI (markJ k)) 3], .cons (ABeq.row fun q hq => ?_) .nil, ?_⟩
    · show [i64 (mkJ k f i q)] = [i64 (markJ k q)]
      rw [mkJ, blt_yes hq, cond_true]
    · rw [if_pos rfl]
      exact hk
def F_markI : List AV → List AB → Option HR
  | [.sl 0 1 0 0 m (some c), .v (.int .i64 k)], [.row true n 1 g t] => some { val := .v (i64 (k + m)), out := [.row true m 1 (rowI (markJ k)) t], obl := [Nat.beq n m, Nat.beq c m, Nat.beq t 3, allI m g, decide (0 ≤ k), decide (k ≤ 2 ^ 50), decide (m ≤ 2 ^ 40)] }
  | _, _ => none
theorem ok_markI : SpecOk Try.prog 43 (specH [] F_markI) := by
  refine specH_ok g0_ok Try.func43 rfl fun avs H hr hF ho => ?_
  unfold F_markI at hF
  split at hF
  · rename_i m c k n g t
    cases hF
    simp only [ob_cons] at ho
    obtain ⟨h0, hc, ht, h1, h4, h5, h6, _⟩ := ho
    have h0 := Nat.eq_of_beq_eq_true h0
    have hc := Nat.eq_of_beq_eq_true hc
    have ht := Nat.eq_of_beq_eq_true ht
    have h4 := of_decide_eq_true h4
    have h5 := of_decide_eq_true h5
    have hm := of_decide_eq_true h6
    subst ht hc h0
    have e0 : k = k + ((0 : Nat) : Int) := by omega
    have hS := sumMI n (itI g) k hm ⟨h4, h5⟩
    rw [← e0] at hS
    refine ⟨[.row true n 1 (rowI (itI g)) 3], lamMI n (itI g) (markJ k) k (k + n), 100, .cons (ABeq.row fun j hj => allI_get h1 j hj) .nil, lam1 (by kernel_rfl) hS, ?_⟩
    show GoodQ (execF Try.prog g0 (lamMI n (itI g) (markJ k) k (k + n)) 100 Try.f43 [slI n, .v (i64 k)] [.row true n 1 (rowI (itI g)) 3] (packK 1)) _
    rw [treeMI]
    exact good_needs (by rw [ob_cons]; exact ⟨chk_of ⟨rfl, Hsim.refl _⟩, rfl⟩) (good_out ⟨rfl, Hsim.refl _⟩)
  · cases hF

noncomputable def gmHI : Gam := ext (ext (ext gmH 42 (specR md_eqIS F_eqIS)) 43 (specH [] F_markI)) 44 (specR md_iv F_heldI)
theorem gmHI_ok : GamOk Try.prog gmHI := ext_ok (ext_ok (ext_ok gmH_ok ok_eqIS) ok_markI) ok_heldI
theorem lawYSt (yes : List Wh → Bool) (sl : List Wh → List Nat) (of : List Wh → Nat → Int) (m : Nat) (f : Nat → Nat → Int) (t : TypeId) : execF Try.prog (ext (ext gmHI 40 (specR md_ws (FstS yes sl of))) 41 (specR md_ws (FstY yes sl of))) noLam 100 Try.f11 [.sl 0 9 0 0 m none] [.row false m 9 (row9 f) t] (packK 1)
    = bif decide (IntKind.wrap IntKind.i64 ((1048576 : Int) - (↑m : Int)) < (0 : Int)) then Res.out Ex.ret [AV.v (Value.bool true)] [AB.row false m (9 : Nat) (row9 f) t] else bif decide (IntKind.wrap IntKind.i64 ((1048576 : Int) - (↑m : Int)) < (0 : Int)) then Res.out Ex.ret [AV.v (Value.bool true)] [AB.row false m (9 : Nat) (row9 f) t] else needs [Nat.ble ((0 : Nat) + m) m, allW m fun q ↦ row9 f ((0 : Nat) + q), decide (m ≤ (549755813888 : Nat)), Nat.ble m m, allW m (row9 (itW fun q ↦ row9 f ((0 : Nat) + q))), decide (m ≤ (274877906944 : Nat)), Nat.ble ((0 : Nat) + m) m, allW m fun q ↦ row9 f ((0 : Nat) + q), decide (m ≤ (549755813888 : Nat)), Nat.ble m m, allW m (row9 (itW fun q ↦ row9 f ((0 : Nat) + q))), decide (m ≤ (274877906944 : Nat)), yes (listW (itW (row9 (itW fun q ↦ row9 f ((0 : Nat) + q)))) m), Nat.ble ((0 : Nat) + List.length (sl (listW (itW (row9 (itW fun q ↦ row9 f ((0 : Nat) + q)))) m))) (List.length (sl (listW (itW (row9 (itW fun q ↦ row9 f ((0 : Nat) + q)))) m))), Nat.ble (List.length (sl (listW (itW (row9 (itW fun q ↦ row9 f ((0 : Nat) + q)))) m))) (List.length (sl (listW (itW (row9 (itW fun q ↦ row9 f ((0 : Nat) + q)))) m))), Nat.beq (List.length (sl (listW (itW (row9 (itW fun q ↦ row9 f ((0 : Nat) + q)))) m))) (List.length (sl (listW (itW (row9 (itW fun q ↦ row9 f ((0 : Nat) + q)))) m))), allI (List.length (sl (listW (itW (row9 (itW fun q ↦ row9 f ((0 : Nat) + q)))) m))) fun q ↦ rowI (of (listW (itW (row9 (itW fun q ↦ row9 f ((0 : Nat) + q)))) m)) ((0 : Nat) + q), allI (List.length (sl (listW (itW (row9 (itW fun q ↦ row9 f ((0 : Nat) + q)))) m))) (rowI (of (listW (itW (row9 (itW fun q ↦ row9 f ((0 : Nat) + q)))) m))), sameJ (List.length (sl (listW (itW (row9 (itW fun q ↦ row9 f ((0 : Nat) + q)))) m))) (itI fun q ↦ rowI (of (listW (itW (row9 (itW fun q ↦ row9 f ((0 : Nat) + q)))) m)) ((0 : Nat) + q)) (itI (rowI (of (listW (itW (row9 (itW fun q ↦ row9 f ((0 : Nat) + q)))) m)))), decide (List.length (sl (listW (itW (row9 (itW fun q ↦ row9 f ((0 : Nat) + q)))) m)) ≤ (1099511627776 : Nat))] (bif !true == yes (listW (itW (row9 (itW fun q ↦ row9 f ((0 : Nat) + q)))) m) then Res.out Ex.ret [AV.v (Value.bool false)] [AB.row false m (9 : Nat) (row9 f) t] else needs [Nat.ble ((0 : Nat) + m) m, allW m fun q ↦ row9 f ((0 : Nat) + q), decide (m ≤ (549755813888 : Nat)), Nat.ble m m, Nat.ble m m, Nat.beq m m, allW m (row9 (itW fun q ↦ row9 f ((0 : Nat) + q))), allW m (row9 (itW fun q ↦ row9 f ((0 : Nat) + q))), sameW m (itW (row9 (itW fun q ↦ row9 f ((0 : Nat) + q)))) (itW (row9 (itW fun q ↦ row9 f ((0 : Nat) + q)))), decide (m ≤ (1099511627776 : Nat)), Nat.beq m m, allW m (row9 (itW fun q ↦ row9 f ((0 : Nat) + q))), decide (m ≤ (1099511627776 : Nat)), Nat.ble ((0 : Nat) + List.length (sl (listW (itW (row9 (itW fun q ↦ row9 f ((0 : Nat) + q)))) m))) (List.length (sl (listW (itW (row9 (itW fun q ↦ row9 f ((0 : Nat) + q)))) m))), Nat.ble (List.length (sl (listW (itW (row9 (itW fun q ↦ row9 f ((0 : Nat) + q)))) m))) (List.length (sl (listW (itW (row9 (itW fun q ↦ row9 f ((0 : Nat) + q)))) m))), Nat.beq (List.length (sl (listW (itW (row9 (itW fun q ↦ row9 f ((0 : Nat) + q)))) m))) (List.length (sl (listW (itW (row9 (itW fun q ↦ row9 f ((0 : Nat) + q)))) m))), allI (List.length (sl (listW (itW (row9 (itW fun q ↦ row9 f ((0 : Nat) + q)))) m))) fun q ↦ rowI (of (listW (itW (row9 (itW fun q ↦ row9 f ((0 : Nat) + q)))) m)) ((0 : Nat) + q), allI (List.length (sl (listW (itW (row9 (itW fun q ↦ row9 f ((0 : Nat) + q)))) m))) (rowI (of (listW (itW (row9 (itW fun q ↦ row9 f ((0 : Nat) + q)))) m))), sameJ (List.length (sl (listW (itW (row9 (itW fun q ↦ row9 f ((0 : Nat) + q)))) m))) (itI fun q ↦ rowI (of (listW (itW (row9 (itW fun q ↦ row9 f ((0 : Nat) + q)))) m)) ((0 : Nat) + q)) (itI (rowI (of (listW (itW (row9 (itW fun q ↦ row9 f ((0 : Nat) + q)))) m)))), decide (List.length (sl (listW (itW (row9 (itW fun q ↦ row9 f ((0 : Nat) + q)))) m)) ≤ (1099511627776 : Nat))] (bif !true == yes (listW (itW (row9 (itW fun q ↦ row9 f ((0 : Nat) + q)))) m) then Res.out Ex.ret [AV.v (Value.bool false)] [AB.row false m (9 : Nat) (row9 f) t] else needs [Nat.beq (List.length (sl (listW (itW (row9 (itW fun q ↦ row9 f ((0 : Nat) + q)))) m))) (List.length (sl (listW (itW (row9 (itW fun q ↦ row9 f ((0 : Nat) + q)))) m))), Nat.beq (List.length (sl (listW (itW (row9 (itW fun q ↦ row9 f ((0 : Nat) + q)))) m))) (List.length (sl (listW (itW (row9 (itW fun q ↦ row9 f ((0 : Nat) + q)))) m))), allI (List.length (sl (listW (itW (row9 (itW fun q ↦ row9 f ((0 : Nat) + q)))) m))) (rowI (of (listW (itW (row9 (itW fun q ↦ row9 f ((0 : Nat) + q)))) m))), decide (List.length (sl (listW (itW (row9 (itW fun q ↦ row9 f ((0 : Nat) + q)))) m)) ≤ (1099511627776 : Nat)), Nat.ble ((0 : Nat) + List.length (sl (listW (itW (row9 (itW fun q ↦ row9 f ((0 : Nat) + q)))) m))) (List.length (sl (listW (itW (row9 (itW fun q ↦ row9 f ((0 : Nat) + q)))) m))), allI (List.length (sl (listW (itW (row9 (itW fun q ↦ row9 f ((0 : Nat) + q)))) m))) fun q ↦ rowI (markJ (1 : Int)) ((0 : Nat) + q), sameJ (List.length (sl (listW (itW (row9 (itW fun q ↦ row9 f ((0 : Nat) + q)))) m))) (itI fun q ↦ rowI (markJ (1 : Int)) ((0 : Nat) + q)) (markJ (1 : Int)), decide (List.length (sl (listW (itW (row9 (itW fun q ↦ row9 f ((0 : Nat) + q)))) m)) ≤ (1099511627776 : Nat))] (bif (1 : Int) + (↑(List.length (sl (listW (itW (row9 (itW fun q ↦ row9 f ((0 : Nat) + q)))) m))) : Int) != (1 : Int) + (↑(List.length (sl (listW (itW (row9 (itW fun q ↦ row9 f ((0 : Nat) + q)))) m))) : Int) then Res.out Ex.ret [AV.v (Value.bool false)] [AB.row false m (9 : Nat) (row9 f) t] else needs [Nat.ble ((0 : Nat) + m) m, allW m fun q ↦ row9 f ((0 : Nat) + q), decide (m ≤ (549755813888 : Nat)), Nat.ble m m, allW m (row9 (itW fun q ↦ row9 f ((0 : Nat) + q))), decide (m ≤ (274877906944 : Nat)), yes (listW (itW (row9 (itW fun q ↦ row9 f ((0 : Nat) + q)))) m), Nat.ble ((0 : Nat) + List.length (sl (listW (itW (row9 (itW fun q ↦ row9 f ((0 : Nat) + q)))) m))) (List.length (sl (listW (itW (row9 (itW fun q ↦ row9 f ((0 : Nat) + q)))) m))), Nat.ble (List.length (sl (listW (itW (row9 (itW fun q ↦ row9 f ((0 : Nat) + q)))) m))) (List.length (sl (listW (itW (row9 (itW fun q ↦ row9 f ((0 : Nat) + q)))) m))), Nat.beq (List.length (sl (listW (itW (row9 (itW fun q ↦ row9 f ((0 : Nat) + q)))) m))) (List.length (sl (listW (itW (row9 (itW fun q ↦ row9 f ((0 : Nat) + q)))) m))), allI (List.length (sl (listW (itW (row9 (itW fun q ↦ row9 f ((0 : Nat) + q)))) m))) fun q ↦ rowI (of (listW (itW (row9 (itW fun q ↦ row9 f ((0 : Nat) + q)))) m)) ((0 : Nat) + q), allI (List.length (sl (listW (itW (row9 (itW fun q ↦ row9 f ((0 : Nat) + q)))) m))) (rowI (of (listW (itW (row9 (itW fun q ↦ row9 f ((0 : Nat) + q)))) m))), sameJ (List.length (sl (listW (itW (row9 (itW fun q ↦ row9 f ((0 : Nat) + q)))) m))) (itI fun q ↦ rowI (of (listW (itW (row9 (itW fun q ↦ row9 f ((0 : Nat) + q)))) m)) ((0 : Nat) + q)) (itI (rowI (of (listW (itW (row9 (itW fun q ↦ row9 f ((0 : Nat) + q)))) m)))), decide (List.length (sl (listW (itW (row9 (itW fun q ↦ row9 f ((0 : Nat) + q)))) m)) ≤ (1099511627776 : Nat))] (bif !true == yes (listW (itW (row9 (itW fun q ↦ row9 f ((0 : Nat) + q)))) m) then Res.out Ex.ret [AV.v (Value.bool false)] [AB.row false m (9 : Nat) (row9 f) t] else needs [Nat.ble ((0 : Nat) + List.length (sl (listW (itW (row9 (itW fun q ↦ row9 f ((0 : Nat) + q)))) m))) (List.length (sl (listW (itW (row9 (itW fun q ↦ row9 f ((0 : Nat) + q)))) m))), allI (List.length (sl (listW (itW (row9 (itW fun q ↦ row9 f ((0 : Nat) + q)))) m))) fun q ↦ rowI (markJ (1 : Int)) ((0 : Nat) + q), sameJ (List.length (sl (listW (itW (row9 (itW fun q ↦ row9 f ((0 : Nat) + q)))) m))) (itI fun q ↦ rowI (markJ (1 : Int)) ((0 : Nat) + q)) (markJ (1 : Int)), decide (List.length (sl (listW (itW (row9 (itW fun q ↦ row9 f ((0 : Nat) + q)))) m)) ≤ (1099511627776 : Nat))] (bif (1 : Int) + (↑(List.length (sl (listW (itW (row9 (itW fun q ↦ row9 f ((0 : Nat) + q)))) m))) : Int) != (1 : Int) + (↑(List.length (sl (listW (itW (row9 (itW fun q ↦ row9 f ((0 : Nat) + q)))) m))) : Int) then Res.out Ex.ret [AV.v (Value.bool false)] [AB.row false m (9 : Nat) (row9 f) t] else Res.out Ex.ret [AV.v (Value.bool true)] [AB.row false m (9 : Nat) (row9 f) t]))))) := by kernel_rfl

theorem lawNSt (yes : List Wh → Bool) (sl : List Wh → List Nat) (of : List Wh → Nat → Int) (m : Nat) (f : Nat → Nat → Int) (t : TypeId) : execF Try.prog (ext (ext gmHI 40 (specR md_ws (FstS yes sl of))) 41 (specR md_ws (FstN yes))) noLam 100 Try.f11 [.sl 0 9 0 0 m none] [.row false m 9 (row9 f) t] (packK 1)
    = bif decide (IntKind.wrap IntKind.i64 ((1048576 : Int) - (↑m : Int)) < (0 : Int)) then Res.out Ex.ret [AV.v (Value.bool true)] [AB.row false m (9 : Nat) (row9 f) t] else bif decide (IntKind.wrap IntKind.i64 ((1048576 : Int) - (↑m : Int)) < (0 : Int)) then Res.out Ex.ret [AV.v (Value.bool true)] [AB.row false m (9 : Nat) (row9 f) t] else needs [Nat.ble ((0 : Nat) + m) m, allW m fun q ↦ row9 f ((0 : Nat) + q), decide (m ≤ (549755813888 : Nat)), Nat.ble m m, allW m (row9 (itW fun q ↦ row9 f ((0 : Nat) + q))), decide (m ≤ (274877906944 : Nat)), Nat.ble ((0 : Nat) + m) m, allW m fun q ↦ row9 f ((0 : Nat) + q), decide (m ≤ (549755813888 : Nat)), Nat.ble m m, allW m (row9 (itW fun q ↦ row9 f ((0 : Nat) + q))), decide (m ≤ (274877906944 : Nat)), !yes (listW (itW (row9 (itW fun q ↦ row9 f ((0 : Nat) + q)))) m), Nat.ble (List.length (sl (listW (itW (row9 (itW fun q ↦ row9 f ((0 : Nat) + q)))) m))) (List.length (sl (listW (itW (row9 (itW fun q ↦ row9 f ((0 : Nat) + q)))) m))), Nat.beq (List.length (sl (listW (itW (row9 (itW fun q ↦ row9 f ((0 : Nat) + q)))) m))) (0 : Nat), sameJ (0 : Nat) (itI fun x ↦ []) (itI (rowI (of (listW (itW (row9 (itW fun q ↦ row9 f ((0 : Nat) + q)))) m))))] (bif !false == yes (listW (itW (row9 (itW fun q ↦ row9 f ((0 : Nat) + q)))) m) then Res.out Ex.ret [AV.v (Value.bool false)] [AB.row false m (9 : Nat) (row9 f) t] else needs [Nat.ble ((0 : Nat) + m) m, allW m fun q ↦ row9 f ((0 : Nat) + q), decide (m ≤ (549755813888 : Nat)), Nat.ble m m, Nat.ble m m, Nat.beq m m, allW m (row9 (itW fun q ↦ row9 f ((0 : Nat) + q))), allW m (row9 (itW fun q ↦ row9 f ((0 : Nat) + q))), sameW m (itW (row9 (itW fun q ↦ row9 f ((0 : Nat) + q)))) (itW (row9 (itW fun q ↦ row9 f ((0 : Nat) + q)))), decide (m ≤ (1099511627776 : Nat)), Nat.beq m m, allW m (row9 (itW fun q ↦ row9 f ((0 : Nat) + q))), decide (m ≤ (1099511627776 : Nat)), Nat.ble (List.length (sl (listW (itW (row9 (itW fun q ↦ row9 f ((0 : Nat) + q)))) m))) (List.length (sl (listW (itW (row9 (itW fun q ↦ row9 f ((0 : Nat) + q)))) m))), Nat.beq (List.length (sl (listW (itW (row9 (itW fun q ↦ row9 f ((0 : Nat) + q)))) m))) (0 : Nat), sameJ (0 : Nat) (itI fun x ↦ []) (itI (rowI (of (listW (itW (row9 (itW fun q ↦ row9 f ((0 : Nat) + q)))) m))))] (bif !false == yes (listW (itW (row9 (itW fun q ↦ row9 f ((0 : Nat) + q)))) m) then Res.out Ex.ret [AV.v (Value.bool false)] [AB.row false m (9 : Nat) (row9 f) t] else needs [sameJ (0 : Nat) (itI fun x ↦ []) (markJ (1 : Int)), Nat.ble ((0 : Nat) + m) m, allW m fun q ↦ row9 f ((0 : Nat) + q), decide (m ≤ (549755813888 : Nat)), Nat.ble m m, allW m (row9 (itW fun q ↦ row9 f ((0 : Nat) + q))), decide (m ≤ (274877906944 : Nat)), !yes (listW (itW (row9 (itW fun q ↦ row9 f ((0 : Nat) + q)))) m), Nat.ble (List.length (sl (listW (itW (row9 (itW fun q ↦ row9 f ((0 : Nat) + q)))) m))) (List.length (sl (listW (itW (row9 (itW fun q ↦ row9 f ((0 : Nat) + q)))) m))), Nat.beq (List.length (sl (listW (itW (row9 (itW fun q ↦ row9 f ((0 : Nat) + q)))) m))) (0 : Nat), sameJ (0 : Nat) (itI fun x ↦ []) (itI (rowI (of (listW (itW (row9 (itW fun q ↦ row9 f ((0 : Nat) + q)))) m))))] (bif !false == yes (listW (itW (row9 (itW fun q ↦ row9 f ((0 : Nat) + q)))) m) then Res.out Ex.ret [AV.v (Value.bool false)] [AB.row false m (9 : Nat) (row9 f) t] else needs [sameJ (0 : Nat) (itI fun x ↦ []) (markJ (1 : Int))] (Res.out Ex.ret [AV.v (Value.bool true)] [AB.row false m (9 : Nat) (row9 f) t])))) := by kernel_rfl

theorem sameJ_self (m : Nat) (f : Nat → Int) : sameJ m f f = true := chk_of fun _ _ => rfl
theorem sameJ_zero (f h : Nat → Int) : sameJ 0 f h = true := chk_of fun j hj => absurd hj (Nat.not_lt_zero _)
theorem itI_row (f : Nat → Int) : itI (rowI f) = f := rfl
theorem rowI_0 (f : Nat → Int) : (fun q => rowI f (0 + q)) = rowI f := by
  funext q
  rw [Nat.zero_add]
theorem allI_row (m : Nat) (a : Nat → Int) : allI m (rowI a) = true := allI_of (a := a) fun j _ => rfl
theorem stT_len (L : List Wh) : (stT L).length ≤ 24 := by
  unfold stT
  cases yesTi L with
  | true => exact stL_le _ _
  | false => simp
theorem yes_still (m : Nat) (f : Nat → Nat → Int) (t : TypeId) (hm : m ≤ 9223372036854775807) : ∃ Γ, GamOk Try.prog Γ ∧ GoodQ (execF Try.prog Γ noLam 100 Try.f11 [.sl 0 9 0 0 m none] [.row false m 9 (row9 f) t] (packK 1)) SaysYes := by
  have e1 : IntKind.wrap IntKind.i64 ((1048576 : Int) - (m : Int)) = 1048576 - m := wr_in (by omega)
  have gS : GamOk Try.prog (ext gmHI 40 (specR md_ws (FstS yesTi stT stO))) := ext_ok gmHI_ok ok_stS
  have gY : GamOk Try.prog (ext (ext gmHI 40 (specR md_ws (FstS yesTi stT stO))) 41 (specR md_ws (FstY yesTi stT stO))) := ext_ok gS ok_stY
  have gN : GamOk Try.prog (ext (ext gmHI 40 (specR md_ws (FstS yesTi stT stO))) 41 (specR md_ws (FstN yesTi))) := ext_ok gS ok_stN
  by_cases hb : m ≤ 1048576
  · have c1 : decide ((1048576 : Int) - m < 0) = false := decide_eq_false (by omega)
    have b40 : decide (m ≤ 1099511627776) = true := decide_eq_true (by omega)
    have b39 : decide (m ≤ 549755813888) = true := decide_eq_true (by omega)
    have b38 : decide (m ≤ 274877906944) = true := decide_eq_true (by omega)
    cases hv : yesTi (listW f m) with
    | true =>
      refine ⟨_, gY, ?_⟩
      rw [lawYSt]
      have hl := stT_len (listW f m)
      generalize hk : (stT (listW f m)).length = k at hl
      have bT : decide (k ≤ 1099511627776) = true := decide_eq_true (by omega)
      have cT : decide ((1 : Int) + (k : Int) < 0) = false := decide_eq_false (by omega)
      simp only [row0, row9_itW, listW_itW, hv, hk, e1, c1, cT, bT, b40, b39, b38, allW_row, sameW_self, sameW_row, rowI_0, itI_row, allI_row, sameJ_self, ble_me, beq_me, needs_t, needs_nil, cond_true, cond_false, Nat.zero_add, bne_self_eq_false, beq_self_eq_true, Bool.not_true]
      exact good_out rfl
    | false =>
      refine ⟨_, gN, ?_⟩
      rw [lawNSt]
      have hk : (stT (listW f m)).length = 0 := by rw [stT, hv]; rfl
      simp only [row0, row9_itW, listW_itW, hv, hk, e1, c1, b40, b39, b38, allW_row, sameW_self, sameW_row, sameW_zero, rowI_0, itI_row, allI_row, sameJ_self, sameJ_zero, ble_me, beq_me, needs_t, needs_nil, cond_true, cond_false, Nat.zero_add, bne_self_eq_false, beq_self_eq_true, Bool.not_true, Bool.not_false]
      exact good_out rfl
  · refine ⟨_, gN, ?_⟩
    rw [lawNSt, e1, show decide ((1048576 : Int) - m < 0) = true from decide_eq_true (by omega)]
    exact good_out rfl

end Go.Proofs.Ytnlfdcjpeoafhaa
