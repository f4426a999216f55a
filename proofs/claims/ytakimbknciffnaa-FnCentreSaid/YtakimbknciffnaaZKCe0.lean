/- FnCentre: its trees. Conditions: bytes. -/
import Derived.Test.YtakimbknciffnaaZD0
import Derived.Test.YtakimbknciffnaaZD1
import Derived.Test.YtakimbknciffnaaZD2
import Derived.Test.YtakimbknciffnaaZD3
import Derived.Test.YtakimbknciffnaaZD4
import Derived.Test.YtakimbknciffnaaZD5
import Derived.Test.YtakimbknciffnaaZD6
/- The program's CycMirror. Conditions: a point. -/
namespace Go.Proofs.Ytakimbknciffnaa
open Go.RowKit
set_option maxRecDepth 100000

def gmO2 (ok : (Nat → Int) → Bool) (mi : (Nat → Int) → Nat → Int) : Gam := ext (ext g0 83 (specV (fOkc ok))) 94 (specV (fMirO mi))
theorem treeO2 (ok : (Nat → Int) → Bool) (mi : (Nat → Int) → Nat → Int) (a : Nat → Int) : execF Try.prog (gmO2 ok mi) noLam 100 Try.f43 [.v (cyv a)] [] (packK 0)
    = bif !ok (w8 a) then Res.out Ex.ret [AV.tup [AV.agg [AV.v (Value.int IntKind.i64 (0 : Int)), AV.v (Value.int IntKind.i64 (0 : Int)), AV.v (Value.int IntKind.i64 (0 : Int)), AV.v (Value.int IntKind.i64 (0 : Int)), AV.v (Value.int IntKind.i64 (0 : Int)), AV.v (Value.int IntKind.i64 (0 : Int)), AV.v (Value.int IntKind.i64 (0 : Int)), AV.v (Value.int IntKind.i64 (0 : Int))], AV.v (Value.bool false)]] [] else bif !ok (w8 (mi (w8 a))) then Res.out Ex.ret [AV.tup [AV.agg [AV.v (Value.int IntKind.i64 (0 : Int)), AV.v (Value.int IntKind.i64 (0 : Int)), AV.v (Value.int IntKind.i64 (0 : Int)), AV.v (Value.int IntKind.i64 (0 : Int)), AV.v (Value.int IntKind.i64 (0 : Int)), AV.v (Value.int IntKind.i64 (0 : Int)), AV.v (Value.int IntKind.i64 (0 : Int)), AV.v (Value.int IntKind.i64 (0 : Int))], AV.v (Value.bool false)]] [] else Res.out Ex.ret [AV.tup [AV.agg [AV.v (Value.int IntKind.i64 (mi (w8 a) (0 : Nat))), AV.v (Value.int IntKind.i64 (mi (w8 a) (1 : Nat))), AV.v (Value.int IntKind.i64 (mi (w8 a) (2 : Nat))), AV.v (Value.int IntKind.i64 (mi (w8 a) (3 : Nat))), AV.v (Value.int IntKind.i64 (mi (w8 a) (4 : Nat))), AV.v (Value.int IntKind.i64 (mi (w8 a) (5 : Nat))), AV.v (Value.int IntKind.i64 (mi (w8 a) (6 : Nat))), AV.v (Value.int IntKind.i64 (mi (w8 a) (7 : Nat)))], AV.v (Value.bool true)]] [] := by kernel_rfl

theorem gmO2_ok : GamOk Try.prog (gmO2 (fun v => cyOk (cyOf v)) mirF) := by
  unfold gmO2
  rw [fOkc_eq, fMirO_eq]
  exact ext_ok (ext_ok g0_ok ok_cvI) ok_mirror
/-- A point: a point, and whether it is one. -/
def FcqO (v : (Nat → Int) → Nat → Int) (ok : (Nat → Int) → Bool) : List SA → Option FR
  | [.v (.agg ⟨[.int .i64 a0, .int .i64 a1, .int .i64 a2, .int .i64 a3, .int .i64 a4, .int .i64 a5, .int .i64 a6, .int .i64 a7]⟩)] => some { val := .tup [.agg (cyC (v (v8 a0 a1 a2 a3 a4 a5 a6 a7))), .v (.bool (ok (v8 a0 a1 a2 a3 a4 a5 a6 a7)))] }
  | _ => none
def okMi (a : Nat → Int) : Bool := cyOk (cyOf a) && cyOk (cyOf (mirF a))
def vMi (a : Nat → Int) : Nat → Int := bif okMi a then mirF a else fun _ => 0
theorem ok_cMi : SpecOk Try.prog 43 (specR [.val] (FcqO vMi okMi)) := by
  refine specR_hr gmO2_ok Try.func43 rfl fun sas fr hF ho => ?_
  unfold FcqO at hF
  split at hF
  · rename_i a0 a1 a2 a3 a4 a5 a6 a7
    cases hF
    refine ⟨[], noLam, 100, .nil, noLam' _, ?_⟩
    show GoodQ (execF Try.prog (gmO2 (fun v => cyOk (cyOf v)) mirF) noLam 100 Try.f43 [.v (cyv (v8 a0 a1 a2 a3 a4 a5 a6 a7))] [] (packK 0)) _
    rw [treeO2]
    generalize hA : v8 a0 a1 a2 a3 a4 a5 a6 a7 = a
    have hw : w8 a = a := by subst hA; rfl
    rw [hw]
    have fin : ∀ (v : Nat → Int) (o : Bool), vMi a = v → okMi a = o → GoodQ (.out .ret [.tup [.agg (cyC v), .v (.bool o)]] []) (GivR (abP [.val] [.v (.agg ⟨[.int .i64 a0, .int .i64 a1, .int .i64 a2, .int .i64 a3, .int .i64 a4, .int .i64 a5, .int .i64 a6, .int .i64 a7]⟩)] []) { val := .tup [.agg (cyC (vMi a)), .v (.bool (okMi a))] }) := by
      rintro v o rfl rfl
      exact good_out ⟨_, rfl, rfl, .nil⟩
    have bad : okMi a = false → GoodQ (.out .ret [.tup [.agg (cyC fun _ => 0), .v (.bool false)]] []) _ := fun e => fin _ _ (by rw [vMi, e]; rfl) e
    refine good_cond (fun q => ?_) fun q => ?_
    · have q' : (!cyOk (cyOf a)) = true := q
      exact bad (by rw [okMi, show cyOk (cyOf a) = false by simpa using q']; rfl)
    · have q' : (!cyOk (cyOf a)) = false := q
      have qa : cyOk (cyOf a) = true := by simpa using q'
      refine good_cond (fun q => ?_) fun q => ?_
      · have q' : (!cyOk (cyOf (mirF a))) = true := q
        exact bad (by rw [okMi, qa, show cyOk (cyOf (mirF a)) = false by simpa using q']; rfl)
      · have q' : (!cyOk (cyOf (mirF a))) = false := q
        have qm : cyOk (cyOf (mirF a)) = true := by simpa using q'
        have e : okMi a = true := by rw [okMi, qa, qm]; rfl
        exact fin (mirF a) true (by rw [vMi, e]; rfl) e
  · cases hF

end Go.Proofs.Ytakimbknciffnaa

/- 'changed', for DesignFaster: trees. Conditions: a list of wheels. -/
namespace Go.Proofs.Ytakimbknciffnaa
open Go.RowKit
set_option maxRecDepth 100000

abbrev fnFa : AV := .fn 86 [.ptr 1 0 0 0]
abbrev hpCFa (m : Nat) (f : Nat → Nat → Int) (t : TypeId) (x : Int) (n : Nat) (h : Nat → Nat → Int) : List AB := [.row false m 9 (row9 f) t, .cells [.v (i64 x)] 3, .row true n 9 (row9 h) 58]
abbrev stCFa (m n i : Nat) : List AV := [fnFa, .own 2 n, .sl 0 9 0 0 m none, .v (i64 m), .v (i64 i)]
theorem rndCFa (mi : (Nat → Int) → Nat → Int) (tu : (Nat → Int) → Int → Nat → Int) (m : Nat) (f : Nat → Nat → Int) (t : TypeId) (x : Int) (n : Nat) (h : Nat → Nat → Int) (i : Nat) : execC Try.prog (gmC mi tu) 100 noLam (loopAt 0 Try.f64) (mkT 0 32 ((lvCh .normal).zip (stCFa m n i))) (hpCFa m f t x n h) (leafV 32 lvCh 2)
    = bif decide ((↑i : Int) < (↑m : Int)) then needs [decide ((↑i : Int) < (↑m : Int)), decide ((0 : Nat) + Int.toNat (↑i : Int) < m), Nat.ble n n, Nat.ble (n + (1 : Nat)) (549755813888 : Nat)] (Res.out Ex.normal [AV.fn (86 : FuncId) [AV.ptr (1 : Nat) (0 : Nat) (0 : Nat) (0 : Nat)], AV.own (2 : Nat) (n + (1 : Nat)), AV.sl (0 : Nat) (9 : Nat) (0 : Nat) (0 : Nat) m none, AV.v (Value.int IntKind.i64 (↑m : Int)), AV.v (Value.int IntKind.i64 (IntKind.wrap IntKind.i64 ((↑i : Int) + (1 : Int))))] [AB.row false m (9 : Nat) (row9 f) t, AB.cells [AV.v (Value.int IntKind.i64 x)] (3 : TypeId), AB.row true (n + (1 : Nat)) (9 : Nat) (fun q ↦ [Value.int IntKind.i64 (bif Nat.blt q n then h q (0 : Nat) else IntKind.wrap IntKind.i64 (x * f ((0 : Nat) + Int.toNat (↑i : Int)) (0 : Nat))), Value.int IntKind.i64 (bif Nat.blt q n then h q (1 : Nat) else f ((0 : Nat) + Int.toNat (↑i : Int)) (1 : Nat)), Value.int IntKind.i64 (bif Nat.blt q n then h q (2 : Nat) else f ((0 : Nat) + Int.toNat (↑i : Int)) (2 : Nat)), Value.int IntKind.i64 (bif Nat.blt q n then h q (3 : Nat) else f ((0 : Nat) + Int.toNat (↑i : Int)) (3 : Nat)), Value.int IntKind.i64 (bif Nat.blt q n then h q (4 : Nat) else f ((0 : Nat) + Int.toNat (↑i : Int)) (4 : Nat)), Value.int IntKind.i64 (bif Nat.blt q n then h q (5 : Nat) else f ((0 : Nat) + Int.toNat (↑i : Int)) (5 : Nat)), Value.int IntKind.i64 (bif Nat.blt q n then h q (6 : Nat) else f ((0 : Nat) + Int.toNat (↑i : Int)) (6 : Nat)), Value.int IntKind.i64 (bif Nat.blt q n then h q (7 : Nat) else f ((0 : Nat) + Int.toNat (↑i : Int)) (7 : Nat)), Value.int IntKind.i64 (bif Nat.blt q n then h q (8 : Nat) else f ((0 : Nat) + Int.toNat (↑i : Int)) (8 : Nat))]) (58 : Nat)]) else Res.out (Ex.exit (0 : Nat)) [AV.own (2 : Nat) n] [AB.row false m (9 : Nat) (row9 f) t, AB.cells [AV.v (Value.int IntKind.i64 x)] (3 : TypeId), AB.row true n (9 : Nat) (row9 h) (58 : TypeId)] := by kernel_rfl

noncomputable abbrev lamCFa (m : Nat) (f : Nat → Nat → Int) (t : TypeId) (x : Int) (n : Nat) (h : Nat → Nat → Int) : Nat → Option Sum := oneL 0 (atS 32 (lvCh .normal) 2 (stCFa m 0 0) (hpCFa m f t x 0 (wfun [])) (fun K => K .normal (mkT 0 32 [(6, .own 2 n)]) (hpCFa m f t x n h)))
theorem treeYFa (okd : List Wh → Bool) (ti : List Wh → List Wh) (okt inw : List Wh → Bool) (m : Nat) (f : Nat → Nat → Int) (t : TypeId) (x : Int) (n : Nat) (h : Nat → Nat → Int) : execF Try.prog (gmChY okd ti okt inw) (lamCFa m f t x n h) 100 Try.f64 [.sl 0 9 0 0 m none, fnFa] [.row false m 9 (row9 f) t, .cells [.v (i64 x)] 3] (packK 2)
    = needs [Nat.ble ((0 : Nat) + m) m, allW m fun q ↦ row9 f ((0 : Nat) + q), decide (m ≤ (549755813888 : Nat))] (bif !okd (listW (itW fun q ↦ row9 f ((0 : Nat) + q)) m) then Res.out Ex.ret [AV.tup [AV.v (Value.slice none (0 : Nat) (0 : Nat)), AV.v (Value.bool false)]] [AB.row false m (9 : Nat) (row9 f) t, AB.cells [AV.v (Value.int IntKind.i64 x)] (3 : TypeId)] else needs [decide ((↑m : Int) ≤ (1099511627776 : Int)), chk ([AV.fn (86 : FuncId) [AV.ptr (1 : Nat) (0 : Nat) (0 : Nat) (0 : Nat)], AV.own (2 : Nat) (0 : Nat), AV.sl (0 : Nat) (9 : Nat) (0 : Nat) (0 : Nat) m none, AV.v (Value.int IntKind.i64 (↑m : Int)), AV.v (Value.int IntKind.i64 (0 : Int))] = stCFa m (0 : Nat) (0 : Nat) ∧ Hsim [AB.row false m (9 : Nat) (row9 f) t, AB.cells [AV.v (Value.int IntKind.i64 x)] (3 : TypeId), AB.row true (0 : Nat) (9 : Nat) (fun _ ↦ [Value.int IntKind.i64 (0 : Int), Value.int IntKind.i64 (0 : Int), Value.int IntKind.i64 (0 : Int), Value.int IntKind.i64 (0 : Int), Value.int IntKind.i64 (0 : Int), Value.int IntKind.i64 (0 : Int), Value.int IntKind.i64 (0 : Int), Value.int IntKind.i64 (0 : Int), Value.int IntKind.i64 (0 : Int)]) (58 : Nat)] (hpCFa m f t x (0 : Nat) (wfun []))), Nat.ble n n, allW n (row9 h), decide (n ≤ (274877906944 : Nat)), inw (listW (itW (row9 h)) n), okt (listW (itW (row9 h)) n)] (Res.out Ex.ret [AV.tup [AV.sl (2 : Nat) (9 : Nat) (0 : Nat) (0 : Nat) (List.length (ti (listW (itW (row9 h)) n))) (some (List.length (ti (listW (itW (row9 h)) n)))), AV.v (Value.bool true)]] [AB.row false m (9 : Nat) (row9 f) t, AB.cells [AV.v (Value.int IntKind.i64 x)] (3 : TypeId), AB.row true (List.length (ti (listW (itW (row9 h)) n))) (9 : Nat) (row9 (wfun (ti (listW (itW (row9 h)) n)))) (58 : TypeId)])) := by kernel_rfl

theorem treeNFa (okd : List Wh → Bool) (okt inw : List Wh → Bool) (m : Nat) (f : Nat → Nat → Int) (t : TypeId) (x : Int) (n : Nat) (h : Nat → Nat → Int) : execF Try.prog (gmChN okd okt inw) (lamCFa m f t x n h) 100 Try.f64 [.sl 0 9 0 0 m none, fnFa] [.row false m 9 (row9 f) t, .cells [.v (i64 x)] 3] (packK 2)
    = needs [Nat.ble ((0 : Nat) + m) m, allW m fun q ↦ row9 f ((0 : Nat) + q), decide (m ≤ (549755813888 : Nat))] (bif !okd (listW (itW fun q ↦ row9 f ((0 : Nat) + q)) m) then Res.out Ex.ret [AV.tup [AV.v (Value.slice none (0 : Nat) (0 : Nat)), AV.v (Value.bool false)]] [AB.row false m (9 : Nat) (row9 f) t, AB.cells [AV.v (Value.int IntKind.i64 x)] (3 : TypeId)] else needs [decide ((↑m : Int) ≤ (1099511627776 : Int)), chk ([AV.fn (86 : FuncId) [AV.ptr (1 : Nat) (0 : Nat) (0 : Nat) (0 : Nat)], AV.own (2 : Nat) (0 : Nat), AV.sl (0 : Nat) (9 : Nat) (0 : Nat) (0 : Nat) m none, AV.v (Value.int IntKind.i64 (↑m : Int)), AV.v (Value.int IntKind.i64 (0 : Int))] = stCFa m (0 : Nat) (0 : Nat) ∧ Hsim [AB.row false m (9 : Nat) (row9 f) t, AB.cells [AV.v (Value.int IntKind.i64 x)] (3 : TypeId), AB.row true (0 : Nat) (9 : Nat) (fun _ ↦ [Value.int IntKind.i64 (0 : Int), Value.int IntKind.i64 (0 : Int), Value.int IntKind.i64 (0 : Int), Value.int IntKind.i64 (0 : Int), Value.int IntKind.i64 (0 : Int), Value.int IntKind.i64 (0 : Int), Value.int IntKind.i64 (0 : Int), Value.int IntKind.i64 (0 : Int), Value.int IntKind.i64 (0 : Int)]) (58 : Nat)] (hpCFa m f t x (0 : Nat) (wfun []))), Nat.ble n n, allW n (row9 h), decide (n ≤ (274877906944 : Nat)), inw (listW (itW (row9 h)) n), !okt (listW (itW (row9 h)) n)] (Res.out Ex.ret [AV.tup [AV.v (Value.slice none (0 : Nat) (0 : Nat)), AV.v (Value.bool false)]] [AB.row false m (9 : Nat) (row9 f) t, AB.cells [AV.v (Value.int IntKind.i64 x)] (3 : TypeId)])) := by kernel_rfl

end Go.Proofs.Ytakimbknciffnaa

/- 'changed', for DesignFaster: its words. Conditions: a list of wheels. -/
namespace Go.Proofs.Ytakimbknciffnaa
open Go.RowKit
set_option maxRecDepth 100000

theorem treeEFa (okd : List Wh → Bool) (okt inw : List Wh → Bool) (m : Nat) (f : Nat → Nat → Int) (t : TypeId) (x : Int) : execF Try.prog (gmChN okd okt inw) (oneL 0 errS) 100 Try.f64 [.sl 0 9 0 0 m none, fnFa] [.row false m 9 (row9 f) t, .cells [.v (i64 x)] 3] (packK 2)
    = needs [Nat.ble ((0 : Nat) + m) m, allW m fun q ↦ row9 f ((0 : Nat) + q), decide (m ≤ (549755813888 : Nat))] (bif !okd (listW (itW fun q ↦ row9 f ((0 : Nat) + q)) m) then Res.out Ex.ret [AV.tup [AV.v (Value.slice none (0 : Nat) (0 : Nat)), AV.v (Value.bool false)]] [AB.row false m (9 : Nat) (row9 f) t, AB.cells [AV.v (Value.int IntKind.i64 x)] (3 : TypeId)] else needs [decide ((↑m : Int) ≤ (1099511627776 : Int))] Res.err) := by kernel_rfl

def chFa (x : Int) (w : Wh) : Wh := ⟨IntKind.wrap IntKind.i64 (x * w.s), w.r⟩
abbrev mpFa : Int → List Wh → List Wh := fun x L => L.map (chFa x)
theorem inwFa (x : Int) {L : List Wh} (h : okD L = true) : inW (L.map (chFa x)) := by
  intro w' hw'
  obtain ⟨w, hw, rfl⟩ := List.mem_map.1 hw'
  exact (valid_in h hw : cyIn w.r)
theorem sumCFa (m : Nat) (f : Nat → Nat → Int) (t : TypeId) (x : Int) (hm : m ≤ 2 ^ 38) (hok : ∀ w ∈ listW f m, inB w.r.f = true) :
    SumOk Try.prog 2 (.block 0 (.loop (loopAt 0 Try.f64))) (atS 32 (lvCh .normal) 2 (stCFa m 0 0) (hpCFa m f t x 0 (wfun [])) (fun K => K .normal (mkT 0 32 [(6, .own 2 m)]) (hpCFa m f t x m (wfun ((listW f m).map (chFa x)))))) := by
  refine for_at gmC_ok (n := 100) (m := 2) (lv := lvCh) (fun i => stCFa m i i) (fun i => hpCFa m f t x i (wfun ((listW f i).map (chFa x)))) (fun _ => True) m (fun _ => noLam) (lv3_ris rfl rfl rfl) (Nat.le_refl _) trivial fun K Q hk i hi him => ⟨noLam_ok _ _ _, ?_⟩
  rw [rndCFa]
  refine good_cond (fun c1 => ?_) fun c1 => ?_
  · have c1 := of_decide_eq_true c1
    have c1' : i < m := by omega
    rw [Int.toNat_natCast, Nat.zero_add, wr_in (x := (i : Int) + 1) (by omega)]
    refine good_needs (by simp only [ob_cons, ob_nil, and_true, decide_eq_true_eq, Nat.ble_eq]; omega) (good_out ⟨i + 1, ⟨rfl, c1', trivial⟩, rfl, ?_⟩)
    show Hsim _ (hpCFa m f t x (i + 1) (wfun ((listW f (i + 1)).map (chFa x))))
    rw [listW_succ, List.map_append]
    refine (.cons (ABeq.refl _) (.cons (ABeq.refl _) (.cons (ABeq.row fun q hq => ?_) .nil)))
    exact ch_row _ ((chFa x) (whOf (f i))) i (by rw [List.length_map, listW_length]) q hq
  · have c1 := of_decide_eq_false c1
    have : i = m := by omega
    subst this
    refine good_out ⟨_, Hsim.refl _, ?_⟩
    rw [if_pos rfl]
    exact hk

def FchYFa (okd : List Wh → Bool) (ti : List Wh → List Wh) (okt : List Wh → Bool) (mp : Int → List Wh → List Wh) : List AV → List AB → Option HR
  | [.sl 0 9 0 0 m none, .fn 86 [.ptr 1 0 0 0]], [.row false n 9 g t, .cells [.v (.int .i64 x)] 3] => some { val := .tup [.sl 2 9 0 0 (ti (mp x (listW (itW g) m))).length (some (ti (mp x (listW (itW g) m))).length), .v (.bool true)], out := [.row false n 9 g t, .cells [.v (.int .i64 x)] 3], new := newY (ti (mp x (listW (itW g) m))), obl := [Nat.beq n m, allW m g, decide (m ≤ 2 ^ 38), okd (listW (itW g) m) && okt (mp x (listW (itW g) m))] }
  | _, _ => none
def FchNFa (okd : List Wh → Bool) (okt : List Wh → Bool) (mp : Int → List Wh → List Wh) : List AV → List AB → Option HR
  | [.sl 0 9 0 0 m none, .fn 86 [.ptr 1 0 0 0]], [.row false n 9 g t, .cells [.v (.int .i64 x)] 3] => some { val := valN, out := [.row false n 9 g t, .cells [.v (.int .i64 x)] 3], obl := [Nat.beq n m, allW m g, decide (m ≤ 2 ^ 38), !(okd (listW (itW g) m) && okt (mp x (listW (itW g) m)))] }
  | _, _ => none
theorem ok_chYFa : SpecOk Try.prog 64 (specH [true] (FchYFa okD tidyL okT mpFa)) := by
  refine specH_ok gmChY_ok Try.func64 rfl fun avs H hr hF ho => ?_
  unfold FchYFa at hF
  split at hF
  · rename_i m n g t x
    cases hF
    simp only [ob_cons] at ho
    obtain ⟨h0, h1, h2, h3, _⟩ := ho
    have h0 := Nat.eq_of_beq_eq_true h0
    subst h0
    have hm := of_decide_eq_true h2
    rw [Bool.and_eq_true] at h3
    obtain ⟨hd, ht⟩ := h3
    have hin := inwFa x hd
    have hs := sumCFa n (itW g) t x hm (fun w hw => valid_inB hd hw)
    refine ⟨[.row false n 9 (row9 (itW g)) t, .cells [.v (i64 x)] 3], lamCFa n (itW g) t x n (wfun ((listW (itW g) n).map (chFa x))), 100, .cons (ABeq.row fun j hj => allW_get h1 j hj) (.cons rfl .nil), lam1 (by kernel_rfl) hs, ?_⟩
    show GoodQ (execF Try.prog (gmChY okD tidyL okT inWB) (lamCFa n (itW g) t x n (wfun ((listW (itW g) n).map (chFa x)))) 100 Try.f64 [.sl 0 9 0 0 n none, fnFa] [.row false n 9 (row9 (itW g)) t, .cells [.v (i64 x)] 3] (packK 2)) _
    rw [treeYFa, row0, listW_itW, listW_self ((listW (itW g) n).map (chFa x)) n (by rw [List.length_map, listW_length])]
    refine good_needs (by simp only [ob_cons, ob_nil, and_true, decide_eq_true_eq, Nat.ble_eq, allW_row, true_and]; omega) (good_false (by rw [hd]; rfl) (good_needs ?_ (good_out ⟨rfl, .cons (ABeq.row fun j hj => (allW_get h1 j hj).symm) (.cons rfl (Hsim.refl _))⟩)))
    simp only [ob_cons, ob_nil, and_true, allW_row]
    exact ⟨decide_eq_true (by omega), chk_of ⟨rfl, (.cons (ABeq.refl _) (.cons (ABeq.refl _) (.cons (ABeq.row fun j hj => absurd hj (Nat.not_lt_zero _)) .nil)))⟩, by simp, trivial, decide_eq_true (by omega), chk_of hin, ht⟩
  · cases hF
theorem ok_chNFa : SpecOk Try.prog 64 (specH [true] (FchNFa okD okT mpFa)) := by
  refine specH_ok gmChN_ok Try.func64 rfl fun avs H hr hF ho => ?_
  unfold FchNFa at hF
  split at hF
  · rename_i m n g t x
    cases hF
    simp only [ob_cons] at ho
    obtain ⟨h0, h1, h2, h3, _⟩ := ho
    have h0 := Nat.eq_of_beq_eq_true h0
    subst h0
    have hm := of_decide_eq_true h2
    cases hd : okD (listW (itW g) n) with
    | false =>
      have hz : SumOk Try.prog 2 (.block 0 (.loop (loopAt 0 Try.f64))) errS := errS_ok
      refine ⟨[.row false n 9 (row9 (itW g)) t, .cells [.v (i64 x)] 3], oneL 0 errS, 100, .cons (ABeq.row fun j hj => allW_get h1 j hj) (.cons rfl .nil), lam1 (by kernel_rfl) hz, ?_⟩
      show GoodQ (execF Try.prog (gmChN okD okT inWB) (oneL 0 errS) 100 Try.f64 [.sl 0 9 0 0 n none, fnFa] [.row false n 9 (row9 (itW g)) t, .cells [.v (i64 x)] 3] (packK 2)) _
      rw [treeEFa, row0, listW_itW]
      exact good_needs (by simp only [ob_cons, ob_nil, and_true, decide_eq_true_eq, Nat.ble_eq, allW_row, true_and]; omega) (good_true (by rw [hd]; rfl) (good_out ⟨rfl, .cons (ABeq.row fun j hj => (allW_get h1 j hj).symm) (.cons rfl .nil)⟩))
    | true =>
    rw [hd, Bool.true_and] at h3
    have ht : okT ((listW (itW g) n).map (chFa x)) = false := by simpa using h3
    have hin := inwFa x hd
    have hs := sumCFa n (itW g) t x hm (fun w hw => valid_inB hd hw)
    refine ⟨[.row false n 9 (row9 (itW g)) t, .cells [.v (i64 x)] 3], lamCFa n (itW g) t x n (wfun ((listW (itW g) n).map (chFa x))), 100, .cons (ABeq.row fun j hj => allW_get h1 j hj) (.cons rfl .nil), lam1 (by kernel_rfl) hs, ?_⟩
    show GoodQ (execF Try.prog (gmChN okD okT inWB) (lamCFa n (itW g) t x n (wfun ((listW (itW g) n).map (chFa x)))) 100 Try.f64 [.sl 0 9 0 0 n none, fnFa] [.row false n 9 (row9 (itW g)) t, .cells [.v (i64 x)] 3] (packK 2)) _
    rw [treeNFa, row0, listW_itW, listW_self ((listW (itW g) n).map (chFa x)) n (by rw [List.length_map, listW_length])]
    refine good_needs (by simp only [ob_cons, ob_nil, and_true, decide_eq_true_eq, Nat.ble_eq, allW_row, true_and]; omega) (good_false (by rw [hd]; rfl) (good_needs ?_ (good_out ⟨rfl, .cons (ABeq.row fun j hj => (allW_get h1 j hj).symm) (.cons rfl .nil)⟩)))
    simp only [ob_cons, ob_nil, and_true, allW_row]
    exact ⟨decide_eq_true (by omega), chk_of ⟨rfl, (.cons (ABeq.refl _) (.cons (ABeq.refl _) (.cons (ABeq.row fun j hj => absurd hj (Nat.not_lt_zero _)) .nil)))⟩, by simp, trivial, decide_eq_true (by omega), chk_of hin, by rw [ht]; rfl⟩
  · cases hF

end Go.Proofs.Ytakimbknciffnaa

/- The program's DesignFaster. Conditions: a list of wheels. -/
namespace Go.Proofs.Ytakimbknciffnaa
open Go.RowKit
set_option maxRecDepth 100000

/-- The list is a design, and what comes of it too. -/
def yesFa (x : Int) (L : List Wh) : Bool := inR x (-20) 20 && (okD L && okT (L.map (chFa x)))
def FdeYFa (yes : Int → List Wh → Bool) (ti : List Wh → List Wh) (mp : Int → List Wh → List Wh) : List SA → Option FR
  | [.row m g, .v (.int .i64 x)] => some { val := valY (ti (mp x (listW (itW g) m))), new := newY (ti (mp x (listW (itW g) m))), obl := [allW m g, decide (m ≤ 2 ^ 38), yes x (listW (itW g) m)] }
  | _ => none
def FdeNFa (yes : Int → List Wh → Bool) : List SA → Option FR
  | [.row m g, .v (.int .i64 x)] => some { val := valN, obl := [allW m g, decide (m ≤ 2 ^ 38), !yes x (listW (itW g) m)] }
  | _ => none
theorem treeDYFa (okd : List Wh → Bool) (ti : List Wh → List Wh) (okt : List Wh → Bool) (mp : Int → List Wh → List Wh) (m : Nat) (f : Nat → Nat → Int) (x : Int) : execF Try.prog (ext gm_within 64 (specH [true] (FchYFa okd ti okt mp))) noLam 100 Try.f32 [.sl 0 9 0 0 m none, .v (i64 x)] [.row false m 9 (row9 f) 58] (packK 1)
    = bif !inR x (-20 : Int) (20 : Int) then Res.out Ex.ret [AV.tup [AV.v (Value.slice none (0 : Nat) (0 : Nat)), AV.v (Value.bool false)]] [AB.row false m (9 : Nat) (row9 f) (58 : TypeId)] else needs [Nat.beq m m, allW m (row9 f), decide (m ≤ (274877906944 : Nat)), okd (listW (itW (row9 f)) m) && okt (mp x (listW (itW (row9 f)) m))] (Res.out Ex.ret [AV.tup [AV.sl (1 : Nat) (9 : Nat) (0 : Nat) (0 : Nat) (List.length (ti (mp x (listW (itW (row9 f)) m)))) (some (List.length (ti (mp x (listW (itW (row9 f)) m))))), AV.v (Value.bool true)]] [AB.row false m (9 : Nat) (row9 f) (58 : TypeId), AB.row true (List.length (ti (mp x (listW (itW (row9 f)) m)))) (9 : Nat) (row9 (wfun (ti (mp x (listW (itW (row9 f)) m))))) (58 : TypeId)]) := by kernel_rfl

theorem treeDNFa (okd : List Wh → Bool) (okt : List Wh → Bool) (mp : Int → List Wh → List Wh) (m : Nat) (f : Nat → Nat → Int) (x : Int) : execF Try.prog (ext gm_within 64 (specH [true] (FchNFa okd okt mp))) noLam 100 Try.f32 [.sl 0 9 0 0 m none, .v (i64 x)] [.row false m 9 (row9 f) 58] (packK 1)
    = bif !inR x (-20 : Int) (20 : Int) then Res.out Ex.ret [AV.tup [AV.v (Value.slice none (0 : Nat) (0 : Nat)), AV.v (Value.bool false)]] [AB.row false m (9 : Nat) (row9 f) (58 : TypeId)] else needs [Nat.beq m m, allW m (row9 f), decide (m ≤ (274877906944 : Nat)), !(okd (listW (itW (row9 f)) m) && okt (mp x (listW (itW (row9 f)) m)))] (Res.out Ex.ret [AV.tup [AV.v (Value.slice none (0 : Nat) (0 : Nat)), AV.v (Value.bool false)]] [AB.row false m (9 : Nat) (row9 f) (58 : TypeId)]) := by kernel_rfl

theorem ok_deYFa : SpecOk Try.prog 32 (specR md_wv (FdeYFa yesFa tidyL mpFa)) := by
  refine specR_hr (ext_ok gm_within_ok ok_chYFa) Try.func32 rfl fun sas fr hF ho => ?_
  unfold FdeYFa at hF
  split at hF
  · rename_i m g x
    cases hF
    simp only [ob_cons] at ho
    obtain ⟨h1, h2, h3, _⟩ := ho
    have hm := of_decide_eq_true h2
    refine ⟨[.row false m 9 (row9 (itW g)) 58], noLam, 100, .cons (ABeq.row fun j hj => allW_get h1 j hj) .nil, noLam' _, ?_⟩
    show GoodQ (execF Try.prog (ext gm_within 64 (specH [true] (FchYFa okD tidyL okT mpFa))) noLam 100 Try.f32 [.sl 0 9 0 0 m none, .v (i64 x)] [.row false m 9 (row9 (itW g)) 58] (packK 1)) _
    rw [treeDYFa]
    rw [yesFa, Bool.and_eq_true] at h3
    obtain ⟨hx, h3⟩ := h3
    have hx2 := inR_iff.1 hx
    exact good_false (by rw [hx]; rfl) (good_needs (by simp only [ob_cons, ob_nil, and_true, beq_me, allW_row, listW_itW, true_and]; exact ⟨decide_eq_true hm, h3⟩) (good_out ⟨_, rfl, rfl, .cons (ABeq.row fun j hj => (allW_get h1 j hj).symm) (Hsim.refl _)⟩))
  · cases hF
theorem ok_deNFa : SpecOk Try.prog 32 (specR md_wv (FdeNFa yesFa)) := by
  refine specR_hr (ext_ok gm_within_ok ok_chNFa) Try.func32 rfl fun sas fr hF ho => ?_
  unfold FdeNFa at hF
  split at hF
  · rename_i m g x
    cases hF
    simp only [ob_cons] at ho
    obtain ⟨h1, h2, h3, _⟩ := ho
    have hm := of_decide_eq_true h2
    refine ⟨[.row false m 9 (row9 (itW g)) 58], noLam, 100, .cons (ABeq.row fun j hj => allW_get h1 j hj) .nil, noLam' _, ?_⟩
    show GoodQ (execF Try.prog (ext gm_within 64 (specH [true] (FchNFa okD okT mpFa))) noLam 100 Try.f32 [.sl 0 9 0 0 m none, .v (i64 x)] [.row false m 9 (row9 (itW g)) 58] (packK 1)) _
    rw [treeDNFa]
    cases hx : inR x (-20) 20 with
    | false => exact good_true rfl (good_out ⟨_, rfl, rfl, .cons (ABeq.row fun j hj => (allW_get h1 j hj).symm) .nil⟩)
    | true =>
      rw [yesFa, hx, Bool.true_and] at h3
      have hx2 := inR_iff.1 hx
      exact good_false rfl (good_needs (by simp only [ob_cons, ob_nil, and_true, beq_me, allW_row, listW_itW, true_and]; exact ⟨decide_eq_true hm, h3⟩) (good_out ⟨_, rfl, rfl, .cons (ABeq.row fun j hj => (allW_get h1 j hj).symm) .nil⟩))
  · cases hF

end Go.Proofs.Ytakimbknciffnaa

/- The program's DesignFaster, as a list or none, read as one. Conditions: a list of wheels. -/
namespace Go.Proofs.Ytakimbknciffnaa
open Go.RowKit
set_option maxRecDepth 100000

theorem chFa_same {x : Int} {w : Wh} : chFa x w = chE x 0 0 false w := by
  have e2 : (IntKind.wrap IntKind.i64 ((0 : Int) + IntKind.wrap IntKind.i64 (0 * w.s)) % 24).toNat = 0 := by rw [Int.zero_mul]; rfl
  rw [chFa, chE, e2]
  rfl
def yF (x : Int) (L : List Wh) : Bool := inR x (-20) 20 && eachOk x 0 0 false L
def tF (x : Int) (L : List Wh) : List Wh := bif inR x (-20) 20 then eachL x 0 0 false L else []
theorem ok_UFa : SpecOk Try.prog 32 (specU md_wv (UO1 yF tF)) := by
  refine specU_ok rfl ok_deYFa ok_deNFa fun sas u hu ho => ?_
  unfold UO1 at hu
  split at hu
  · rename_i m g x
    cases hu
    simp only [ob_cons] at ho
    obtain ⟨h1, h2, _⟩ := ho
    refine ⟨rfl, ?_⟩
    have hM : (listW (itW g) m).map (chE x 0 0 false) = mpFa x (listW (itW g) m) := map_same fun w _ => chFa_same.symm
    cases hv : yesFa x (listW (itW g) m) with
    | true =>
      left
      have hv2 := hv
      rw [yesFa, Bool.and_eq_true, Bool.and_eq_true] at hv2
      obtain ⟨hx, hd, ht⟩ := hv2
      obtain ⟨hE, hO⟩ := each_yes (sp := x) (tn := 0) (la := 0) (mir := false) (by rw [eachP, hd]; rfl) hM ht
      refine ⟨by show yF x _ = true; rw [yF, hx, hO]; rfl, [allW m g, decide (m ≤ 2 ^ 38), yesFa x (listW (itW g) m)], ?_, ?_⟩
      · show FdeYFa yesFa tidyL mpFa [.row m g, .v (.int .i64 x)] = some { val := valY (tF x (listW (itW g) m)), new := newY (tF x (listW (itW g) m)), obl := [allW m g, decide (m ≤ 2 ^ 38), yesFa x (listW (itW g) m)] }
        rw [show tF x (listW (itW g) m) = tidyL (mpFa x (listW (itW g) m)) by rw [tF, hx]; exact hE]
        rfl
      · simp only [ob_cons, ob_nil, and_true]
        exact ⟨h1, h2, hv⟩
    | false =>
      right
      have key : yF x (listW (itW g) m) = false ∧ tF x (listW (itW g) m) = [] := by
        cases hx : inR x (-20) 20 with
        | false => exact ⟨by rw [yF, hx]; rfl, by rw [tF, hx]; rfl⟩
        | true =>
          obtain ⟨hE, hO⟩ := each_no (sp := x) (tn := 0) (la := 0) (mir := false) (L := listW (itW g) m) fun hp => by
            rw [eachP, Bool.and_eq_true] at hp
            rw [hM]
            rw [yesFa, hx, hp.1, Bool.true_and, Bool.true_and] at hv
            exact hv
          exact ⟨by rw [yF, hx, hO]; rfl, by rw [tF, hx]; exact hE⟩
      refine ⟨key.1, key.2, [allW m g, decide (m ≤ 2 ^ 38), !yesFa x (listW (itW g) m)], rfl, ?_⟩
      simp only [ob_cons, ob_nil, and_true]
      exact ⟨h1, h2, by rw [hv]; rfl⟩
  · cases hu

end Go.Proofs.Ytakimbknciffnaa

/- Plain laws of designs: turned, later, back, mirrored, faster. No program, no conditions. -/
namespace Go.Proofs.Ytakimbknciffnaa
open Go.RowKit

theorem lin_tn {φ : Int → (Nat → Int) → Int} (h : Lin φ) (g c : Int → Int) : Lin fun s f => φ (g s) (tnI f (c s)) := fun s f f' => by
  show φ (g s) (tnI (fun k => f k + f' k) (c s)) = _
  rw [tnI_add]
  exact h _ _ _
theorem loc_tn {φ : Int → (Nat → Int) → Int} (h : Loc φ) (g c : Int → Int) : Loc fun s f => φ (g s) (tnI f (c s)) := fun _ _ _ hf => h _ _ _ (tnI_congr hf _)
theorem tnI_mulmod (f : Nat → Int) (a s : Int) : tnI f (a % 24 * s) = tnI f (a * s) := tnI_mod f (by rw [Int.mul_emod, Int.emod_emod, ← Int.mul_emod])
theorem each_tidy {sp tn la : Int} {mir : Bool} {L : List Wh} (h1 : -20 ≤ sp ∧ sp ≤ 20) (h : eachOk sp tn la mir L = true) : isTidy (eachL sp tn la mir L) := (each_spec h1 h).2.2.2.1
theorem tnI_24 (f : Nat → Int) {n : Int} (h : n % 24 = 0) : ∀ k, k < 8 → tnI f n k = f k := fun k _ => by
  rw [tnI, h]
  rfl
/-- Turned on to a whole turn. -/
theorem law_turned {L : List Wh} {t x : Int} (hx : (t + x) % 24 = 0) (h1 : eachOk 1 t 0 false L = true) (h2 : eachOk 1 x 0 false (eachL 1 t 0 false L) = true) (h3 : yI L = true) : eachL 1 x 0 false (eachL 1 t 0 false L) = tI L := by
  refine tidy_unique (each_tidy (by omega) h2) (tI_spec h3).2.1 fun s k hk => ?_
  rw [(tI_spec h3).2.2 _ (atSp_lin s k), each_lin (by omega) h2 (atSp_lin s k) (atSp_loc s hk), each_lin (by omega) h1 (lin_tn (atSp_lin s k) (fun s => 1 * s) fun s => x + 0 * s) (loc_tn (atSp_loc s hk) (fun s => 1 * s) fun s => x + 0 * s)]
  refine linS_congr fun w _ => ?_
  show atSp s k (1 * (1 * w.s)) (tnI (tnI w.r.f (t + 0 * w.s)) (x + 0 * (1 * w.s))) = atSp s k w.s w.r.f
  rw [show (1 : Int) * (1 * w.s) = w.s by omega, show t + 0 * w.s = t by omega, show x + 0 * (1 * w.s) = x by omega]
  refine atSp_loc s hk _ _ _ fun j hj => ?_
  rw [tnI_tnI _ _ _ j hj, tnI_24 _ hx j hj]
/-- Later. -/
theorem law_later {L : List Wh} {t : Int} {k : Nat} (hk : k < 8) (h1 : eachOk 1 0 t false L = true) : dAt (eachL 1 0 t false L) 5 k = dAt L ((5 + t) % 24) k := by
  refine (each_lin (by omega) h1 (atT_lin 5 k) (atT_loc 5 hk)).trans (linS_congr fun w _ => ?_)
  show tnI (tnI w.r.f (0 + t * w.s)) (5 * (1 * w.s)) k = tnI w.r.f ((5 + t) % 24 * w.s) k
  rw [tnI_tnI _ _ _ k hk, tnI_mulmod, show 0 + t * w.s + 5 * (1 * w.s) = (5 + t) * w.s by rw [Int.add_mul]; omega]
/-- Back and back. -/
theorem law_back {L : List Wh} (h1 : eachOk (-1) 0 0 false L = true) (h2 : eachOk (-1) 0 0 false (eachL (-1) 0 0 false L) = true) (h3 : yI L = true) : eachL (-1) 0 0 false (eachL (-1) 0 0 false L) = tI L := by
  refine tidy_unique (each_tidy (by omega) h2) (tI_spec h3).2.1 fun s k hk => ?_
  rw [(tI_spec h3).2.2 _ (atSp_lin s k), each_lin (by omega) h2 (atSp_lin s k) (atSp_loc s hk), each_lin (by omega) h1 (lin_tn (atSp_lin s k) (fun s => -1 * s) fun s => 0 + 0 * s) (loc_tn (atSp_loc s hk) (fun s => -1 * s) fun s => 0 + 0 * s)]
  refine linS_congr fun w _ => ?_
  show atSp s k (-1 * (-1 * w.s)) (tnI (tnI w.r.f (0 + 0 * w.s)) (0 + 0 * (-1 * w.s))) = atSp s k w.s w.r.f
  rw [show (-1 : Int) * (-1 * w.s) = w.s by omega, show 0 + 0 * w.s = 0 by omega, show 0 + 0 * (-1 * w.s) = 0 by omega]
  rfl
theorem law_back_at {L : List Wh} {k : Nat} (hk : k < 8) (h1 : eachOk (-1) 0 0 false L = true) : dAt (eachL (-1) 0 0 false L) 5 k = dAt L 19 k := by
  refine (each_lin (by omega) h1 (atT_lin 5 k) (atT_loc 5 hk)).trans (linS_congr fun w _ => ?_)
  show tnI (tnI w.r.f (0 + 0 * w.s)) (5 * (-1 * w.s)) k = tnI w.r.f (19 * w.s) k
  rw [show 0 + 0 * w.s = 0 by omega, tnI_zero, tnI_mod w.r.f (m := 5 * (-1 * w.s)) (n := 19 * w.s) (by omega)]
/-- A mirrored point turned. -/
theorem mir_step (f : Nat → Int) : ∀ k, k < 8 → stZ (mirZ (stZ f)) k = mirZ f k := by
  refine forall8 ?_ ?_ ?_ ?_ ?_ ?_ ?_ ?_ <;> simp only [stZ, mirZ] <;> omega
theorem mir_tn (f : Nat → Int) : ∀ (n k : Nat), k < 8 → tnZ (mirZ (tnZ f n)) n k = mirZ f k
  | 0, _, _ => rfl
  | n + 1, k, hk => by
    have e : tnZ (mirZ (stZ (tnZ f n))) (n + 1) k = tnZ (stZ (mirZ (stZ (tnZ f n)))) n k := by
      rw [show n + 1 = 1 + n by omega, ← tnZ_tnZ]
      rfl
    show tnZ (mirZ (stZ (tnZ f n))) (n + 1) k = mirZ f k
    rw [e, tnZ_congr (mir_step (tnZ f n)) n k hk]
    exact mir_tn f n k hk
theorem mir_tnI (f : Nat → Int) (n : Int) (k : Nat) (hk : k < 8) : mirZ (tnI f n) k = tnI (mirZ f) (-n) k := by
  have h := tnI_congr (mir_tn f (n % 24).toNat) (-n) k hk
  rw [← h]
  show _ = tnI (tnZ (mirZ (tnI f n)) (n % 24).toNat) (-n) k
  have e : tnZ (mirZ (tnI f n)) (n % 24).toNat = tnI (mirZ (tnI f n)) n := rfl
  rw [e, tnI_tnI _ _ _ k hk, tnI_24 _ (by omega) k hk]
theorem linS_mir {φ : Nat → Int → (Nat → Int) → Int} : ∀ (L : List Wh) (k : Nat), mirZ (fun k => linS (φ k) L) k = linS (fun s f => mirZ (fun k => φ k s f) k) L
  | [], k => by
    show mirZ (fun _ => 0) k = 0
    unfold mirZ
    split <;> rfl
  | w :: l, k => by
    show mirZ (fun k => φ k w.s w.r.f + linS (φ k) l) k = _
    rw [mir_add]
    show mirZ (fun k => φ k w.s w.r.f) k + mirZ (fun k => linS (φ k) l) k = _
    rw [linS_mir l k]
    rfl
theorem law_mirror {L : List Wh} {k : Nat} (hk : k < 8) (h1 : eachOk (-1) 0 0 true L = true) : dAt (eachL (-1) 0 0 true L) 5 k = mirZ (dAt L 5) k := by
  refine (each_linM (by omega) h1 (atT_lin 5 k) (atT_loc 5 hk)).trans ?_
  refine Eq.trans (linS_congr fun w _ => ?_) (linS_mir (φ := atT 5) L k).symm
  show tnI (tnI (mirZ w.r.f) (0 + 0 * w.s)) (5 * (-1 * w.s)) k = mirZ (tnI w.r.f (5 * w.s)) k
  rw [mir_tnI _ _ k hk, show 0 + 0 * w.s = 0 by omega, tnI_zero, show 5 * (-1 * w.s) = -(5 * w.s) by omega]
theorem vMi_exact {a : Nat → Int} (h : okMi a = true) : ∀ k, k < 8 → vMi a k = mirZ a k := fun k hk => by
  rw [vMi, h, cond_true]
  rw [okMi, Bool.and_eq_true] at h
  have hb : bd8 1000000 a := fun k hk => by
    have := cyOk_bd h.1 k hk
    rwa [cyOf_f8 _ k hk] at this
  exact W8 (mir_bd hb) (by omega) k hk
/-- Faster. -/
theorem law_faster {L : List Wh} {n : Int} {k : Nat} (hk : k < 8) (h1 : yF n L = true) : dAt (tF n L) 1 k = dAt L (n % 24) k := by
  rw [yF, Bool.and_eq_true] at h1
  have hn := inR_iff.1 h1.1
  have e : tF n L = eachL n 0 0 false L := by rw [tF, h1.1]; rfl
  rw [e]
  refine (each_lin (by omega) h1.2 (atT_lin 1 k) (atT_loc 1 hk)).trans (linS_congr fun w _ => ?_)
  show tnI (tnI w.r.f (0 + 0 * w.s)) (1 * (n * w.s)) k = tnI w.r.f (n % 24 * w.s) k
  rw [tnI_mulmod, show 0 + 0 * w.s = 0 by omega, tnI_zero, Int.one_mul]

end Go.Proofs.Ytakimbknciffnaa

/- l1Gcd, the reference's: its word. Conditions: numbers of 64 bits. -/
namespace Go.Proofs.Ytakimbknciffnaa
open Go.RowKit
set_option maxRecDepth 100000

abbrev lvGc : Ex → List Nat := lv3 [0, 1] [0] [4]
theorem rndGc (a b : Int) : execC Try.prog g0 100 noLam (loopAt 0 Try.f101) (mkT 0 17 ((lvGc .normal).zip [.v (i64 a), .v (i64 b)])) [] (leafV 17 lvGc 0)
    = bif b != (0 : Int) then needs [!decide (b = (0 : Int))] (Res.out Ex.normal [AV.v (Value.int IntKind.i64 b), AV.v (Value.int IntKind.i64 (Int.tmod a b))] []) else Res.out (Ex.exit (0 : Nat)) [AV.v (Value.int IntKind.i64 a)] [] := by kernel_rfl

noncomputable abbrev lamGc (a b c : Int) : Nat → Option Sum := oneL 0 (atS 17 (lvGc .normal) 0 [.v (i64 a), .v (i64 b)] [] (fun K => K .normal (mkT 0 17 [(0, .v (i64 c))]) []))
theorem treeGc (a b c : Int) : execF Try.prog g0 (lamGc a b c) 100 Try.f101 [.v (i64 a), .v (i64 b)] [] (packK 0)
    = needs [chk ([AV.v (Value.int IntKind.i64 a), AV.v (Value.int IntKind.i64 b)] = [AV.v (Value.int IntKind.i64 a), AV.v (Value.int IntKind.i64 b)] ∧ Hsim [] [])] (Res.out Ex.ret [AV.v (Value.int IntKind.i64 (if IntKind.wrap IntKind.i64 ((0 : Int) - c) > c then IntKind.wrap IntKind.i64 ((0 : Int) - c) else c))] []) := by kernel_rfl

def gcdE : Nat → Int → Int → Int
  | 0, a, _ => a
  | n + 1, a, b => if b = 0 then a else gcdE n b (a.tmod b)

theorem sumGc (a b : Int) : SumOk Try.prog 0 (.block 0 (.loop (loopAt 0 Try.f101))) (atS 17 (lvGc .normal) 0 [.v (i64 a), .v (i64 b)] [] (fun K => K .normal (mkT 0 17 [(0, .v (i64 (gcdE (b.natAbs + 1) a b)))]) [])) := by
  refine loop_at g0_ok (n := 100) (m := 0) (lv := lvGc) (σ := Nat × Int × Int) (fun s => [.v (i64 s.2.1), .v (i64 s.2.2)]) (fun _ => []) (fun s => s.2.2.natAbs < s.1 ∧ gcdE s.1 s.2.1 s.2.2 = gcdE (b.natAbs + 1) a b) (fun s => s.1) (b.natAbs + 1, a, b) (fun _ => noLam) (lv3_ris rfl rfl rfl) (Nat.le_refl _) ⟨Nat.lt_succ_self _, rfl⟩ fun K Q hk s hs => ⟨noLam_ok _ _ _, ?_⟩
  obtain ⟨n, x, y⟩ := s
  obtain ⟨h1, h2⟩ := hs
  rw [rndGc]
  cases n with
  | zero => exact absurd h1 (Nat.not_lt_zero _)
  | succ n =>
    refine good_cond (fun c => ?_) fun c => ?_
    · have c : y ≠ 0 := by simpa using c
      have h2 : gcdE n y (x.tmod y) = gcdE (b.natAbs + 1) a b := by
        rw [← h2]
        show _ = if y = 0 then x else gcdE n y (x.tmod y)
        rw [if_neg c]
      have h1 : y.natAbs < n + 1 := h1
      have h3 : (x.tmod y).natAbs < y.natAbs := by
        rw [Int.natAbs_tmod]
        exact Nat.mod_lt _ (by omega)
      exact good_needs (by simp [obls, c]) (good_out ⟨(n, y, x.tmod y), ⟨⟨by show (x.tmod y).natAbs < n; omega, h2⟩, Nat.lt_succ_self _⟩, rfl, .nil⟩)
    · have c : y = 0 := by simpa using c
      have h2 : x = gcdE (b.natAbs + 1) a b := by
        rw [← h2]
        show _ = if y = 0 then x else gcdE n y (x.tmod y)
        rw [if_pos c]
      refine good_out ⟨_, .nil, ?_⟩
      rw [if_pos rfl]
      rw [← h2] at hk
      exact hk

def gcdF (a b : Int) : Int := if IntKind.wrap IntKind.i64 (0 - gcdE (b.natAbs + 1) a b) > gcdE (b.natAbs + 1) a b then IntKind.wrap IntKind.i64 (0 - gcdE (b.natAbs + 1) a b) else gcdE (b.natAbs + 1) a b
def F_gcd : List SA → Option FR
  | [.v (.int .i64 a), .v (.int .i64 b)] => some { val := .v (i64 (gcdF a b)) }
  | _ => none
theorem ok_gcd : SpecOk Try.prog 101 (specR [.val, .val] F_gcd) := by
  refine specR_hr g0_ok Try.func101 rfl fun sas fr hF ho => ?_
  unfold F_gcd at hF
  split at hF
  · rename_i a b
    cases hF
    refine ⟨[], lamGc a b (gcdE (b.natAbs + 1) a b), 100, .nil, lam1 (by kernel_rfl) (sumGc a b), ?_⟩
    show GoodQ (execF Try.prog g0 (lamGc a b (gcdE (b.natAbs + 1) a b)) 100 Try.f101 [.v (i64 a), .v (i64 b)] [] (packK 0)) _
    rw [treeGc]
    exact good_needs (by rw [ob_cons]; exact ⟨chk_of ⟨rfl, .nil⟩, rfl⟩) (good_out ⟨_, rfl, rfl, .nil⟩)
  · cases hF

end Go.Proofs.Ytakimbknciffnaa

/- The reference's RingDesign: trees; greatest common divisors. Conditions: numbers of 64 bits. -/
namespace Go.Proofs.Ytakimbknciffnaa
open Go.RowKit
set_option maxRecDepth 100000

theorem gcdE_abs : ∀ (n : Nat) (a b : Int), b.natAbs < n → (gcdE n a b).natAbs = Nat.gcd a.natAbs b.natAbs
  | 0, _, _, h => absurd h (Nat.not_lt_zero _)
  | n + 1, a, b, h => by
    unfold gcdE
    split
    · rename_i hb
      subst hb
      simp
    · rename_i hb
      have e : (a.tmod b).natAbs = a.natAbs % b.natAbs := Int.natAbs_tmod _ _
      have hlt : a.natAbs % b.natAbs < b.natAbs := Nat.mod_lt _ (by omega)
      rw [gcdE_abs n b (a.tmod b) (by omega), e, Nat.gcd_comm a.natAbs, Nat.gcd_rec b.natAbs a.natAbs, Nat.gcd_comm]
/-- The greatest common divisor. -/
theorem gcdF_eq {a b : Int} (ha : -1000000000000 ≤ a ∧ a ≤ 1000000000000) (hb : -1000000000000 ≤ b ∧ b ≤ 1000000000000) : gcdF a b = (Nat.gcd a.natAbs b.natAbs : Int) := by
  have h := gcdE_abs (b.natAbs + 1) a b (Nat.lt_succ_self _)
  have hle : Nat.gcd a.natAbs b.natAbs ≤ 1000000000000 := by
    by_cases h0 : a.natAbs = 0
    · rw [h0, Nat.gcd_zero_left]
      omega
    · exact Nat.le_trans (Nat.gcd_le_left _ (by omega)) (by omega)
  unfold gcdF
  rw [wr_in (by omega)]
  split <;> omega

theorem treeNu (s r : Int) : execF Try.prog g0 noLam 100 Try.f140 [.v (i64 s), .v (i64 r)] [] (packK 0)
    = Res.out Ex.ret [AV.agg [AV.v (Value.int IntKind.i64 s), AV.v (Value.int IntKind.i64 r), AV.v (Value.int IntKind.i64 (0 : Int)), AV.v (Value.int IntKind.i64 (0 : Int)), AV.v (Value.int IntKind.i64 (0 : Int)), AV.v (Value.int IntKind.i64 (0 : Int)), AV.v (Value.int IntKind.i64 (0 : Int)), AV.v (Value.int IntKind.i64 (0 : Int)), AV.v (Value.int IntKind.i64 (0 : Int))]] [] := by kernel_rfl

/-- A wheel with a whole radius. -/
def FnuO : List SA → Option FR
  | [.v (.int .i64 s), .v (.int .i64 r)] => some { val := .agg [.v (i64 s), .v (i64 r), .v (i64 0), .v (i64 0), .v (i64 0), .v (i64 0), .v (i64 0), .v (i64 0), .v (i64 0)] }
  | _ => none
theorem ok_num : SpecOk Try.prog 140 (specR [.val, .val] FnuO) := by
  refine specR_hr g0_ok Try.func140 rfl fun sas fr hF ho => ?_
  unfold FnuO at hF
  split at hF
  · rename_i s r
    cases hF
    refine ⟨[], noLam, 100, .nil, noLam' _, ?_⟩
    show GoodQ (execF Try.prog g0 noLam 100 Try.f140 [.v (i64 s), .v (i64 r)] [] (packK 0)) _
    rw [treeNu]
    exact good_out ⟨_, rfl, rfl, .nil⟩
  · cases hF
def FgcO (gf : Int → Int → Int) : List SA → Option FR
  | [.v (.int .i64 a), .v (.int .i64 b)] => some { val := .v (i64 (gf a b)) }
  | _ => none
theorem specR_sub' {P : Program} {f : FuncId} {mds : List Md} {F F' : List SA → Option FR} (h : ∀ sas fr', F' sas = some fr' → ∃ fr, F sas = some fr ∧ fr.val = fr'.val ∧ fr.new = fr'.new ∧ fr.put = fr'.put ∧ (obls fr'.obl = true → obls fr.obl = true)) (hs : SpecOk P f (specR mds F)) : SpecOk P f (specR mds F') := by
  refine ⟨hs.1, fun avs H base δ ν vals w hS ho hv hr hlt hf hsep => ?_⟩
  unfold specR at hS
  split at hS
  case h_2 => cases hS
  rename_i xs hxs
  split at hS
  case h_2 => cases hS
  rename_i fr' hF
  obtain ⟨fr, e, e1, e2, e3, e4⟩ := h _ _ hF
  split at hS
  case h_2 => cases hS
  rename_i av hav
  cases hc : ((!hasWr mds || nodupB ((ixC mds xs).filterMap id)) && fr'.new.all isRowT && Nat.beq (abP mds (xs.map (·.sa)) fr'.put).length (abC mds (xs.map (·.sa))).length) with
  | false => rw [hc] at hS; cases hS
  | true =>
  rw [hc] at hS
  simp only [cond_true, Option.some.injEq] at hS
  subst hS
  have ho' : obls (xs.flatMap (·.ob)) = true ∧ obls fr'.obl = true := by simpa [obls, List.all_append] using ho
  have hS2 : specR mds F avs H base = some { val := av, rd := (ixC mds xs).filterMap id, put := putC (ixC mds xs) (abP mds (xs.map (·.sa)) fr'.put), new := fr'.new, obl := xs.flatMap (·.ob) ++ fr.obl } := by
    unfold specR
    rw [hxs]
    simp only [e]
    rw [e1, e2, e3, hav]
    simp only [hc]
    rfl
  refine (hs.2 avs H base _ ν vals w hS2 (by simpa [obls, List.all_append] using And.intro ho'.1 (e4 ho'.2)) hv hr hlt hf hsep).mono ?_
  rintro e w' ⟨v, ν', rfl, d⟩
  exact ⟨v, ν', rfl, d.le, d.dom, d.val, d.put, d.new, d.os, d.tape, d.output, d.size, d.block, d.fresh, d.apart⟩
/-- l5Tidy of two wheels. -/
def Fti2 (ti : List Wh → List Wh) (okt : List Wh → Bool) : List SA → Option FR
  | [.row 2 g] => match g 0, g 1 with
    | [.int .i64 a0, .int .i64 a1, .int .i64 a2, .int .i64 a3, .int .i64 a4, .int .i64 a5, .int .i64 a6, .int .i64 a7, .int .i64 a8], [.int .i64 b0, .int .i64 b1, .int .i64 b2, .int .i64 b3, .int .i64 b4, .int .i64 b5, .int .i64 b6, .int .i64 b7, .int .i64 b8] => some { val := .tup [.own 0 (ti [⟨a0, ⟨a1, a2, a3, a4, a5, a6, a7, a8⟩⟩, ⟨b0, ⟨b1, b2, b3, b4, b5, b6, b7, b8⟩⟩]).length, .v (.bool (okt [⟨a0, ⟨a1, a2, a3, a4, a5, a6, a7, a8⟩⟩, ⟨b0, ⟨b1, b2, b3, b4, b5, b6, b7, b8⟩⟩]))], new := [.row true (ti [⟨a0, ⟨a1, a2, a3, a4, a5, a6, a7, a8⟩⟩, ⟨b0, ⟨b1, b2, b3, b4, b5, b6, b7, b8⟩⟩]).length 9 (row9 (wfun (ti [⟨a0, ⟨a1, a2, a3, a4, a5, a6, a7, a8⟩⟩, ⟨b0, ⟨b1, b2, b3, b4, b5, b6, b7, b8⟩⟩]))) 58] }
    | _, _ => none
  | _ => none
theorem ok_ti2 : SpecOk Try.prog 82 (specR md_ws (Fti2 tidyL okT)) := by
  have h := ok_tidyS
  rw [← FtidyO_eq] at h
  refine specR_sub' (fun sas fr hF => ?_) h
  unfold Fti2 at hF
  split at hF
  · rename_i g
    split at hF
    · rename_i a0 a1 a2 a3 a4 a5 a6 a7 a8 b0 b1 b2 b3 b4 b5 b6 b7 b8 e0 e1
      cases hF
      have hL : listW (itW g) 2 = [⟨a0, ⟨a1, a2, a3, a4, a5, a6, a7, a8⟩⟩, ⟨b0, ⟨b1, b2, b3, b4, b5, b6, b7, b8⟩⟩] := by
        show [whOf (itW g 0), whOf (itW g 1)] = _
        unfold whOf itW
        rw [e0, e1]
        rfl
      refine ⟨_, rfl, by simp only [hL], by simp only [hL], rfl, ?_⟩
      · have ha : allW 2 g = true := List.all_eq_true.2 fun j hj => by
          have hj : j < 2 := by simpa using hj
          rcases (by omega : j = 0 ∨ j = 1) with rfl | rfl
          · rw [e0]; rfl
          · rw [e1]; rfl
        intro _
        simp only [ob_cons, ob_nil, and_true]
        exact ⟨ha, by decide⟩
    · cases hF
  · cases hF
def gmRd (gf : Int → Int → Int) (ti : List Wh → List Wh) (okt : List Wh → Bool) : Gam := ext (ext (ext gm_l6In 101 (specR [.val, .val] (FgcO gf))) 140 (specR [.val, .val] FnuO)) 82 (specR md_ws (Fti2 ti okt))
theorem treeRd (gf : Int → Int → Int) (ti : List Wh → List Wh) (okt : List Wh → Bool) (a b : Int) (c : Bool) (d : Int) : execF Try.prog (gmRd gf ti okt) noLam 100 Try.f130 [.v (i64 a), .v (i64 b), .v (.bool c), .v (i64 d)] [] (packK 0)
    = bif !inR a (6 : Int) (240 : Int) then Res.out Ex.ret [AV.tup [AV.own (0 : Nat) (0 : Nat), AV.v (Value.bool false)]] [AB.row true (0 : Nat) (9 : Nat) (fun _ ↦ []) (58 : Nat)] else bif !inR b (6 : Int) (240 : Int) then Res.out Ex.ret [AV.tup [AV.own (0 : Nat) (0 : Nat), AV.v (Value.bool false)]] [AB.row true (0 : Nat) (9 : Nat) (fun _ ↦ []) (58 : Nat)] else bif c then bif decide (b ≥ a) then Res.out Ex.ret [AV.tup [AV.own (0 : Nat) (0 : Nat), AV.v (Value.bool false)]] [AB.row true (0 : Nat) (9 : Nat) (fun _ ↦ []) (58 : Nat)] else needs [!decide (gf a b = (0 : Int))] (bif !inR d (-300 : Int) (300 : Int) then Res.out Ex.ret [AV.tup [AV.own (0 : Nat) (0 : Nat), AV.v (Value.bool false)]] [AB.row true (0 : Nat) (9 : Nat) (fun _ ↦ []) (58 : Nat)] else bif c then needs [!decide (gf a b = (0 : Int)), !decide (gf a b = (0 : Int))] (Res.out Ex.ret [AV.tup [AV.own (0 : Nat) (List.length (ti [Wh.mk (IntKind.wrap IntKind.i64 (Int.tdiv b (gf a b))) (Cy.mk (IntKind.wrap IntKind.i64 (a - b)) (0 : Int) (0 : Int) (0 : Int) (0 : Int) (0 : Int) (0 : Int) (0 : Int)), Wh.mk (IntKind.wrap IntKind.i64 (Int.tdiv (IntKind.wrap IntKind.i64 (b - a)) (gf a b))) (Cy.mk d (0 : Int) (0 : Int) (0 : Int) (0 : Int) (0 : Int) (0 : Int) (0 : Int))])), AV.v (Value.bool (okt [Wh.mk (IntKind.wrap IntKind.i64 (Int.tdiv b (gf a b))) (Cy.mk (IntKind.wrap IntKind.i64 (a - b)) (0 : Int) (0 : Int) (0 : Int) (0 : Int) (0 : Int) (0 : Int) (0 : Int)), Wh.mk (IntKind.wrap IntKind.i64 (Int.tdiv (IntKind.wrap IntKind.i64 (b - a)) (gf a b))) (Cy.mk d (0 : Int) (0 : Int) (0 : Int) (0 : Int) (0 : Int) (0 : Int) (0 : Int))]))]] [AB.row true (List.length (ti [Wh.mk (IntKind.wrap IntKind.i64 (Int.tdiv b (gf a b))) (Cy.mk (IntKind.wrap IntKind.i64 (a - b)) (0 : Int) (0 : Int) (0 : Int) (0 : Int) (0 : Int) (0 : Int) (0 : Int)), Wh.mk (IntKind.wrap IntKind.i64 (Int.tdiv (IntKind.wrap IntKind.i64 (b - a)) (gf a b))) (Cy.mk d (0 : Int) (0 : Int) (0 : Int) (0 : Int) (0 : Int) (0 : Int) (0 : Int))])) (9 : Nat) (row9 (wfun (ti [Wh.mk (IntKind.wrap IntKind.i64 (Int.tdiv b (gf a b))) (Cy.mk (IntKind.wrap IntKind.i64 (a - b)) (0 : Int) (0 : Int) (0 : Int) (0 : Int) (0 : Int) (0 : Int) (0 : Int)), Wh.mk (IntKind.wrap IntKind.i64 (Int.tdiv (IntKind.wrap IntKind.i64 (b - a)) (gf a b))) (Cy.mk d (0 : Int) (0 : Int) (0 : Int) (0 : Int) (0 : Int) (0 : Int) (0 : Int))]))) (58 : TypeId)]) else needs [!decide (gf a b = (0 : Int)), !decide (gf a b = (0 : Int))] (Res.out Ex.ret [AV.tup [AV.own (0 : Nat) (List.length (ti [Wh.mk (IntKind.wrap IntKind.i64 (Int.tdiv b (gf a b))) (Cy.mk (IntKind.wrap IntKind.i64 (a + b)) (0 : Int) (0 : Int) (0 : Int) (0 : Int) (0 : Int) (0 : Int) (0 : Int)), Wh.mk (IntKind.wrap IntKind.i64 (Int.tdiv (IntKind.wrap IntKind.i64 (a + b)) (gf a b))) (Cy.mk (IntKind.wrap IntKind.i64 ((0 : Int) - d)) (0 : Int) (0 : Int) (0 : Int) (0 : Int) (0 : Int) (0 : Int) (0 : Int))])), AV.v (Value.bool (okt [Wh.mk (IntKind.wrap IntKind.i64 (Int.tdiv b (gf a b))) (Cy.mk (IntKind.wrap IntKind.i64 (a + b)) (0 : Int) (0 : Int) (0 : Int) (0 : Int) (0 : Int) (0 : Int) (0 : Int)), Wh.mk (IntKind.wrap IntKind.i64 (Int.tdiv (IntKind.wrap IntKind.i64 (a + b)) (gf a b))) (Cy.mk (IntKind.wrap IntKind.i64 ((0 : Int) - d)) (0 : Int) (0 : Int) (0 : Int) (0 : Int) (0 : Int) (0 : Int) (0 : Int))]))]] [AB.row true (List.length (ti [Wh.mk (IntKind.wrap IntKind.i64 (Int.tdiv b (gf a b))) (Cy.mk (IntKind.wrap IntKind.i64 (a + b)) (0 : Int) (0 : Int) (0 : Int) (0 : Int) (0 : Int) (0 : Int) (0 : Int)), Wh.mk (IntKind.wrap IntKind.i64 (Int.tdiv (IntKind.wrap IntKind.i64 (a + b)) (gf a b))) (Cy.mk (IntKind.wrap IntKind.i64 ((0 : Int) - d)) (0 : Int) (0 : Int) (0 : Int) (0 : Int) (0 : Int) (0 : Int) (0 : Int))])) (9 : Nat) (row9 (wfun (ti [Wh.mk (IntKind.wrap IntKind.i64 (Int.tdiv b (gf a b))) (Cy.mk (IntKind.wrap IntKind.i64 (a + b)) (0 : Int) (0 : Int) (0 : Int) (0 : Int) (0 : Int) (0 : Int) (0 : Int)), Wh.mk (IntKind.wrap IntKind.i64 (Int.tdiv (IntKind.wrap IntKind.i64 (a + b)) (gf a b))) (Cy.mk (IntKind.wrap IntKind.i64 ((0 : Int) - d)) (0 : Int) (0 : Int) (0 : Int) (0 : Int) (0 : Int) (0 : Int) (0 : Int))]))) (58 : TypeId)])) else needs [!decide (gf a b = (0 : Int))] (bif !inR d (-300 : Int) (300 : Int) then Res.out Ex.ret [AV.tup [AV.own (0 : Nat) (0 : Nat), AV.v (Value.bool false)]] [AB.row true (0 : Nat) (9 : Nat) (fun _ ↦ []) (58 : Nat)] else bif c then needs [!decide (gf a b = (0 : Int)), !decide (gf a b = (0 : Int))] (Res.out Ex.ret [AV.tup [AV.own (0 : Nat) (List.length (ti [Wh.mk (IntKind.wrap IntKind.i64 (Int.tdiv b (gf a b))) (Cy.mk (IntKind.wrap IntKind.i64 (a - b)) (0 : Int) (0 : Int) (0 : Int) (0 : Int) (0 : Int) (0 : Int) (0 : Int)), Wh.mk (IntKind.wrap IntKind.i64 (Int.tdiv (IntKind.wrap IntKind.i64 (b - a)) (gf a b))) (Cy.mk d (0 : Int) (0 : Int) (0 : Int) (0 : Int) (0 : Int) (0 : Int) (0 : Int))])), AV.v (Value.bool (okt [Wh.mk (IntKind.wrap IntKind.i64 (Int.tdiv b (gf a b))) (Cy.mk (IntKind.wrap IntKind.i64 (a - b)) (0 : Int) (0 : Int) (0 : Int) (0 : Int) (0 : Int) (0 : Int) (0 : Int)), Wh.mk (IntKind.wrap IntKind.i64 (Int.tdiv (IntKind.wrap IntKind.i64 (b - a)) (gf a b))) (Cy.mk d (0 : Int) (0 : Int) (0 : Int) (0 : Int) (0 : Int) (0 : Int) (0 : Int))]))]] [AB.row true (List.length (ti [Wh.mk (IntKind.wrap IntKind.i64 (Int.tdiv b (gf a b))) (Cy.mk (IntKind.wrap IntKind.i64 (a - b)) (0 : Int) (0 : Int) (0 : Int) (0 : Int) (0 : Int) (0 : Int) (0 : Int)), Wh.mk (IntKind.wrap IntKind.i64 (Int.tdiv (IntKind.wrap IntKind.i64 (b - a)) (gf a b))) (Cy.mk d (0 : Int) (0 : Int) (0 : Int) (0 : Int) (0 : Int) (0 : Int) (0 : Int))])) (9 : Nat) (row9 (wfun (ti [Wh.mk (IntKind.wrap IntKind.i64 (Int.tdiv b (gf a b))) (Cy.mk (IntKind.wrap IntKind.i64 (a - b)) (0 : Int) (0 : Int) (0 : Int) (0 : Int) (0 : Int) (0 : Int) (0 : Int)), Wh.mk (IntKind.wrap IntKind.i64 (Int.tdiv (IntKind.wrap IntKind.i64 (b - a)) (gf a b))) (Cy.mk d (0 : Int) (0 : Int) (0 : Int) (0 : Int) (0 : Int) (0 : Int) (0 : Int))]))) (58 : TypeId)]) else needs [!decide (gf a b = (0 : Int)), !decide (gf a b = (0 : Int))] (Res.out Ex.ret [AV.tup [AV.own (0 : Nat) (List.length (ti [Wh.mk (IntKind.wrap IntKind.i64 (Int.tdiv b (gf a b))) (Cy.mk (IntKind.wrap IntKind.i64 (a + b)) (0 : Int) (0 : Int) (0 : Int) (0 : Int) (0 : Int) (0 : Int) (0 : Int)), Wh.mk (IntKind.wrap IntKind.i64 (Int.tdiv (IntKind.wrap IntKind.i64 (a + b)) (gf a b))) (Cy.mk (IntKind.wrap IntKind.i64 ((0 : Int) - d)) (0 : Int) (0 : Int) (0 : Int) (0 : Int) (0 : Int) (0 : Int) (0 : Int))])), AV.v (Value.bool (okt [Wh.mk (IntKind.wrap IntKind.i64 (Int.tdiv b (gf a b))) (Cy.mk (IntKind.wrap IntKind.i64 (a + b)) (0 : Int) (0 : Int) (0 : Int) (0 : Int) (0 : Int) (0 : Int) (0 : Int)), Wh.mk (IntKind.wrap IntKind.i64 (Int.tdiv (IntKind.wrap IntKind.i64 (a + b)) (gf a b))) (Cy.mk (IntKind.wrap IntKind.i64 ((0 : Int) - d)) (0 : Int) (0 : Int) (0 : Int) (0 : Int) (0 : Int) (0 : Int) (0 : Int))]))]] [AB.row true (List.length (ti [Wh.mk (IntKind.wrap IntKind.i64 (Int.tdiv b (gf a b))) (Cy.mk (IntKind.wrap IntKind.i64 (a + b)) (0 : Int) (0 : Int) (0 : Int) (0 : Int) (0 : Int) (0 : Int) (0 : Int)), Wh.mk (IntKind.wrap IntKind.i64 (Int.tdiv (IntKind.wrap IntKind.i64 (a + b)) (gf a b))) (Cy.mk (IntKind.wrap IntKind.i64 ((0 : Int) - d)) (0 : Int) (0 : Int) (0 : Int) (0 : Int) (0 : Int) (0 : Int) (0 : Int))])) (9 : Nat) (row9 (wfun (ti [Wh.mk (IntKind.wrap IntKind.i64 (Int.tdiv b (gf a b))) (Cy.mk (IntKind.wrap IntKind.i64 (a + b)) (0 : Int) (0 : Int) (0 : Int) (0 : Int) (0 : Int) (0 : Int) (0 : Int)), Wh.mk (IntKind.wrap IntKind.i64 (Int.tdiv (IntKind.wrap IntKind.i64 (a + b)) (gf a b))) (Cy.mk (IntKind.wrap IntKind.i64 ((0 : Int) - d)) (0 : Int) (0 : Int) (0 : Int) (0 : Int) (0 : Int) (0 : Int) (0 : Int))]))) (58 : TypeId)])) := by kernel_rfl

/-- The ring design that is drawn. -/
def FrdO (rd : Int → Int → Bool → Int → List Wh) (ro : Int → Int → Bool → Int → Bool) : List SA → Option FR
  | [.v (.int .i64 a), .v (.int .i64 b), .v (.bool c), .v (.int .i64 d)] => some { val := .tup [.own 0 (rd a b c d).length, .v (.bool (ro a b c d))], new := [.row true (rd a b c d).length 9 (row9 (wfun (rd a b c d))) 58] }
  | _ => none
def rnP (a b : Int) (c : Bool) (d : Int) : Bool := inR a 6 240 && (inR b 6 240 && (!(c && decide (b ≥ a)) && inR d (-300) 300))
def rnW (a b : Int) (c : Bool) (d : Int) : List Wh := bif c then [⟨IntKind.wrap IntKind.i64 (Int.tdiv b (gcdF a b)), ⟨IntKind.wrap IntKind.i64 (a - b), 0, 0, 0, 0, 0, 0, 0⟩⟩, ⟨IntKind.wrap IntKind.i64 (Int.tdiv (IntKind.wrap IntKind.i64 (b - a)) (gcdF a b)), ⟨d, 0, 0, 0, 0, 0, 0, 0⟩⟩] else [⟨IntKind.wrap IntKind.i64 (Int.tdiv b (gcdF a b)), ⟨IntKind.wrap IntKind.i64 (a + b), 0, 0, 0, 0, 0, 0, 0⟩⟩, ⟨IntKind.wrap IntKind.i64 (Int.tdiv (IntKind.wrap IntKind.i64 (a + b)) (gcdF a b)), ⟨IntKind.wrap IntKind.i64 (0 - d), 0, 0, 0, 0, 0, 0, 0⟩⟩]
def rnL (a b : Int) (c : Bool) (d : Int) : List Wh := bif rnP a b c d then tidyL (rnW a b c d) else []
def rnO (a b : Int) (c : Bool) (d : Int) : Bool := rnP a b c d && okT (rnW a b c d)
theorem gmRd_ok : GamOk Try.prog (gmRd gcdF tidyL okT) := by
  refine ext_ok (ext_ok (ext_ok gm_l6In_ok ?_) ok_num) ok_ti2
  have e : FgcO gcdF = F_gcd := by funext l; rfl
  rw [e]
  exact ok_gcd
theorem gcd_nz {a b : Int} (ha : inR a 6 240 = true) (hb : inR b 6 240 = true) : gcdF a b ≠ 0 := by
  have ha := inR_iff.1 ha
  have hb := inR_iff.1 hb
  rw [gcdF_eq (by omega) (by omega)]
  have : 0 < Nat.gcd a.natAbs b.natAbs := Nat.gcd_pos_of_pos_left _ (by omega)
  omega
theorem rnL_no {a b : Int} {c : Bool} {d : Int} (h : rnP a b c d = false) : rnL a b c d = [] ∧ rnO a b c d = false := ⟨by rw [rnL, h]; rfl, by rw [rnO, h]; rfl⟩
theorem rnL_yes {a b : Int} {c : Bool} {d : Int} (h : rnP a b c d = true) : rnL a b c d = tidyL (rnW a b c d) ∧ rnO a b c d = okT (rnW a b c d) := ⟨by rw [rnL, h]; rfl, by rw [rnO, h, Bool.true_and]⟩
theorem rnL_len (a b : Int) (c : Bool) (d : Int) : (rnL a b c d).length ≤ 12 := by
  cases h : rnP a b c d with
  | false => rw [(rnL_no h).1]; exact Nat.zero_le _
  | true =>
    rw [(rnL_yes h).1]
    cases ht : okT (rnW a b c d) with
    | true => exact tidyL_len ht
    | false => rw [tidyL_no ht]; exact Nat.zero_le _
theorem ok_rd : SpecOk Try.prog 130 (specR [.val, .val, .val, .val] (FrdO rnL rnO)) := by
  refine specR_hr gmRd_ok Try.func130 rfl fun sas fr hF ho => ?_
  unfold FrdO at hF
  split at hF
  · rename_i a b c d
    cases hF
    refine ⟨[], noLam, 100, .nil, noLam' _, ?_⟩
    show GoodQ (execF Try.prog (gmRd gcdF tidyL okT) noLam 100 Try.f130 [.v (i64 a), .v (i64 b), .v (.bool c), .v (i64 d)] [] (packK 0)) _
    rw [treeRd]
    have bad : rnP a b c d = false → GoodQ (.out .ret [.tup [.own 0 0, .v (.bool false)]] [.row true 0 9 (fun _ => []) 58]) (GivR (abP [.val, .val, .val, .val] [.v (.int .i64 a), .v (.int .i64 b), .v (.bool c), .v (.int .i64 d)] []) { val := .tup [.own 0 (rnL a b c d).length, .v (.bool (rnO a b c d))], new := [.row true (rnL a b c d).length 9 (row9 (wfun (rnL a b c d))) 58] }) := by
      intro h
      rw [(rnL_no h).1, (rnL_no h).2]
      exact good_out ⟨_, rfl, rfl, .cons (ABeq.row fun j hj => absurd hj (Nat.not_lt_zero _)) .nil⟩
    have yes : ∀ M : List Wh, rnP a b c d = true → rnW a b c d = M → GoodQ (.out .ret [.tup [.own 0 (tidyL M).length, .v (.bool (okT M))]] [.row true (tidyL M).length 9 (row9 (wfun (tidyL M))) 58]) (GivR (abP [.val, .val, .val, .val] [.v (.int .i64 a), .v (.int .i64 b), .v (.bool c), .v (.int .i64 d)] []) { val := .tup [.own 0 (rnL a b c d).length, .v (.bool (rnO a b c d))], new := [.row true (rnL a b c d).length 9 (row9 (wfun (rnL a b c d))) 58] }) := by
      rintro M h rfl
      rw [(rnL_yes h).1, (rnL_yes h).2]
      exact good_out ⟨_, rfl, rfl, Hsim.refl _⟩
    cases h1 : inR a 6 240 with
    | false => exact good_true rfl (bad (by rw [rnP, h1]; rfl))
    | true =>
    refine good_false rfl ?_
    cases h2 : inR b 6 240 with
    | false => exact good_true rfl (bad (by rw [rnP, h1, h2]; rfl))
    | true =>
    refine good_false rfl ?_
    have hz : decide (gcdF a b = 0) = false := decide_eq_false (gcd_nz h1 h2)
    rw [hz]
    cases c with
    | true =>
      refine good_true rfl ?_
      cases h3 : decide (b ≥ a) with
      | true => exact good_true rfl (bad (by rw [rnP, h1, h2, h3]; rfl))
      | false =>
      refine good_false rfl (good_needs rfl ?_)
      cases h4 : inR d (-300) 300 with
      | false => exact good_true rfl (bad (by rw [rnP, h1, h2, h3, h4]; rfl))
      | true => exact good_false rfl (good_true rfl (good_needs rfl (yes _ (by rw [rnP, h1, h2, h3, h4]; rfl) rfl)))
    | false =>
      refine good_false rfl (good_needs rfl ?_)
      cases h4 : inR d (-300) 300 with
      | false => exact good_true rfl (bad (by rw [rnP, h1, h2, h4]; rfl))
      | true => exact good_false rfl (good_false rfl (good_needs rfl (yes _ (by rw [rnP, h1, h2, h4]; rfl) rfl)))
  · cases hF

end Go.Proofs.Ytakimbknciffnaa

/- The greatest common divisor, of both. Conditions: numbers up to 10^12. -/
namespace Go.Proofs.Ytakimbknciffnaa
open Go.RowKit
set_option maxRecDepth 100000

def gcdI (a b : Int) : Int := (Nat.gcd a.natAbs b.natAbs : Int)
def FgdO (gf : Int → Int → Int) : List SA → Option FR
  | [.v (.int .i64 a), .v (.int .i64 b)] => some { val := .v (i64 (gf a b)), obl := [inR a (-1000000000000) 1000000000000, inR b (-1000000000000) 1000000000000] }
  | _ => none
theorem ok_gdS : SpecOk Try.prog 101 (specR [.val, .val] (FgdO gcdI)) := by
  refine ⟨ok_gcd.1, fun avs H base δ ν vals w hS ho hv hr hlt hf hsep => ?_⟩
  unfold specR at hS
  split at hS
  case h_2 => cases hS
  rename_i xs hxs
  split at hS
  case h_2 => cases hS
  rename_i fr' hF
  unfold FgdO at hF
  split at hF
  case h_2 => cases hF
  rename_i a b hx
  cases hF
  have hS' := hS
  simp only [shA] at hS
  cases hc : ((!hasWr [Md.val, Md.val] || nodupB ((ixC [Md.val, Md.val] xs).filterMap id)) && ([] : List AB).all isRowT && Nat.beq (abP [Md.val, Md.val] (xs.map (·.sa)) []).length (abC [Md.val, Md.val] (xs.map (·.sa))).length) with
  | false => rw [hc] at hS; cases hS
  | true =>
  rw [hc] at hS
  simp only [cond_true, Option.some.injEq] at hS
  subst hS
  have ho' : obls (xs.flatMap (·.ob)) = true ∧ obls [inR a (-1000000000000) 1000000000000, inR b (-1000000000000) 1000000000000] = true := by simpa [obls, List.all_append] using ho
  have h2 := ho'.2
  simp only [ob_cons] at h2
  have ha := inR_iff.1 h2.1
  have hb := inR_iff.1 h2.2.1
  have hS2 : specR [.val, .val] F_gcd avs H base = some { val := .v (i64 (gcdI a b)), rd := (ixC [Md.val, Md.val] xs).filterMap id, put := putC (ixC [Md.val, Md.val] xs) (abP [Md.val, Md.val] (xs.map (·.sa)) []), new := [], obl := xs.flatMap (·.ob) ++ [] } := by
    unfold specR
    rw [hxs]
    simp only [hx, F_gcd, shA, gcdF_eq ha hb]
    rw [hx] at hc
    simp only [hc]
    rfl
  refine (ok_gcd.2 avs H base _ ν vals w hS2 (by simpa [obls, List.all_append] using ho'.1) hv hr hlt hf hsep).mono ?_
  rintro e w' ⟨v, ν', rfl, d⟩
  exact ⟨v, ν', rfl, d.le, d.dom, d.val, d.put, d.new, d.os, d.tape, d.output, d.size, d.block, d.fresh, d.apart⟩

abbrev lvGd : Ex → List Nat := lv3 [0, 1] [0] [4]
theorem rndGd (a b : Int) : execC Try.prog g0 100 noLam (loopAt 0 Try.f100) (mkT 0 15 ((lvGd .normal).zip [.v (i64 a), .v (i64 b)])) [] (leafV 15 lvGd 0)
    = bif b != (0 : Int) then needs [!decide (b = (0 : Int))] (Res.out Ex.normal [AV.v (Value.int IntKind.i64 b), AV.v (Value.int IntKind.i64 (Int.tmod a b))] []) else Res.out (Ex.exit (0 : Nat)) [AV.v (Value.int IntKind.i64 a)] [] := by kernel_rfl

noncomputable abbrev lamGd (a b c : Int) : Nat → Option Sum := oneL 0 (atS 15 (lvGd .normal) 0 [.v (i64 a), .v (i64 b)] [] (fun K => K .normal (mkT 0 15 [(0, .v (i64 c))]) []))
theorem treeGd (a b c : Int) : execF Try.prog g0 (lamGd a b c) 100 Try.f100 [.v (i64 a), .v (i64 b)] [] (packK 0)
    = needs [chk ([AV.v (Value.int IntKind.i64 a), AV.v (Value.int IntKind.i64 b)] = [AV.v (Value.int IntKind.i64 a), AV.v (Value.int IntKind.i64 b)] ∧ Hsim [] [])] (Res.out Ex.ret [AV.v (Value.int IntKind.i64 (if IntKind.wrap IntKind.i64 ((0 : Int) - c) > c then IntKind.wrap IntKind.i64 ((0 : Int) - c) else c))] []) := by kernel_rfl

theorem sumGd (a b : Int) : SumOk Try.prog 0 (.block 0 (.loop (loopAt 0 Try.f100))) (atS 15 (lvGd .normal) 0 [.v (i64 a), .v (i64 b)] [] (fun K => K .normal (mkT 0 15 [(0, .v (i64 (gcdE (b.natAbs + 1) a b)))]) [])) := by
  refine loop_at g0_ok (n := 100) (m := 0) (lv := lvGd) (σ := Nat × Int × Int) (fun s => [.v (i64 s.2.1), .v (i64 s.2.2)]) (fun _ => []) (fun s => s.2.2.natAbs < s.1 ∧ gcdE s.1 s.2.1 s.2.2 = gcdE (b.natAbs + 1) a b) (fun s => s.1) (b.natAbs + 1, a, b) (fun _ => noLam) (lv3_ris rfl rfl rfl) (Nat.le_refl _) ⟨Nat.lt_succ_self _, rfl⟩ fun K Q hk s hs => ⟨noLam_ok _ _ _, ?_⟩
  obtain ⟨n, x, y⟩ := s
  obtain ⟨h1, h2⟩ := hs
  rw [rndGd]
  cases n with
  | zero => exact absurd h1 (Nat.not_lt_zero _)
  | succ n =>
    refine good_cond (fun c => ?_) fun c => ?_
    · have c : y ≠ 0 := by simpa using c
      have h2 : gcdE n y (x.tmod y) = gcdE (b.natAbs + 1) a b := by
        rw [← h2]
        show _ = if y = 0 then x else gcdE n y (x.tmod y)
        rw [if_neg c]
      have h1 : y.natAbs < n + 1 := h1
      have h3 : (x.tmod y).natAbs < y.natAbs := by
        rw [Int.natAbs_tmod]
        exact Nat.mod_lt _ (by omega)
      exact good_needs (by simp [obls, c]) (good_out ⟨(n, y, x.tmod y), ⟨⟨by show (x.tmod y).natAbs < n; omega, h2⟩, Nat.lt_succ_self _⟩, rfl, .nil⟩)
    · have c : y = 0 := by simpa using c
      have h2 : x = gcdE (b.natAbs + 1) a b := by
        rw [← h2]
        show _ = if y = 0 then x else gcdE n y (x.tmod y)
        rw [if_pos c]
      refine good_out ⟨_, .nil, ?_⟩
      rw [if_pos rfl]
      rw [← h2] at hk
      exact hk


theorem ok_gdI : SpecOk Try.prog 100 (specR [.val, .val] (FgdO gcdI)) := by
  refine specR_hr g0_ok Try.func100 rfl fun sas fr hF ho => ?_
  unfold FgdO at hF
  split at hF
  · rename_i a b
    cases hF
    simp only [ob_cons] at ho
    obtain ⟨ha, hb, _⟩ := ho
    have e := gcdF_eq (inR_iff.1 ha) (inR_iff.1 hb)
    refine ⟨[], lamGd a b (gcdE (b.natAbs + 1) a b), 100, .nil, lam1 (by kernel_rfl) (sumGd a b), ?_⟩
    show GoodQ (execF Try.prog g0 (lamGd a b (gcdE (b.natAbs + 1) a b)) 100 Try.f100 [.v (i64 a), .v (i64 b)] [] (packK 0)) _
    rw [treeGd]
    refine good_needs (by rw [ob_cons]; exact ⟨chk_of ⟨rfl, .nil⟩, rfl⟩) (good_out ⟨_, rfl, ?_, .nil⟩)
    show [AV.v (i64 (gcdF a b))] = [AV.v (i64 (gcdI a b))]
    rw [e]
    rfl
  · cases hF

end Go.Proofs.Ytakimbknciffnaa

/- DesignPeriod and DesignFold of both: trees. Conditions: a list of wheels. -/
namespace Go.Proofs.Ytakimbknciffnaa
open Go.RowKit
set_option maxRecDepth 100000

def gmPr (gf : Int → Int → Int) : Gam := ext (ext g0 100 (specR [.val, .val] (FgdO gf))) 101 (specR [.val, .val] (FgdO gf))
def gmPt (yI : List Wh → Bool) (tI : List Wh → List Wh) : Gam := ext (ext g0 19 (specU md_ws (UO0 yI tI))) 71 (specR md_ws (FOw yI tI))
noncomputable abbrev fPI : Func := Try.f52
noncomputable abbrev fPS : Func := Try.f53
abbrev hpPI (m : Nat) (f : Nat → Nat → Int) (k : Nat) (g : Nat → Nat → Int) : List AB := [.row false m 9 (row9 f) 58, .row false k 9 (row9 g) 58]
abbrev hpPS (m : Nat) (f : Nat → Nat → Int) (k : Nat) (g : Nat → Nat → Int) : List AB := [.row false m 9 (row9 f) 58, .row true k 9 (row9 g) 58]
abbrev hpP1 (m : Nat) (f : Nat → Nat → Int) : List AB := [.row false m 9 (row9 f) 58]
abbrev lvPI : Ex → List Nat := lv3 [5, 15, 16, 17] [5] [2]
abbrev stPI (k : Nat) (x : Int) (i : Nat) : List AV := [.v (i64 x), .sl 1 9 0 0 k (some k), .v (i64 k), .v (i64 i)]
theorem rndPI (gf : Int → Int → Int) (m : Nat) (f : Nat → Nat → Int) (k : Nat) (g : Nat → Nat → Int) (x : Int) (i : Nat) : execC Try.prog (gmPr gf) 100 noLam (loopAt 0 fPI) (mkT 0 27 ((lvPI .normal).zip (stPI k x i))) (hpPI m f k g) (leafV 27 lvPI 1)
    = bif decide ((↑i : Int) < (↑k : Int)) then needs [decide ((↑i : Int) < (↑k : Int)), decide ((0 : Nat) + Int.toNat (↑i : Int) < k), inR x (-1000000000000 : Int) (1000000000000 : Int), inR (g ((0 : Nat) + Int.toNat (↑i : Int)) (0 : Nat)) (-1000000000000 : Int) (1000000000000 : Int)] (Res.out Ex.normal [AV.v (Value.int IntKind.i64 (gf x (g ((0 : Nat) + Int.toNat (↑i : Int)) (0 : Nat)))), AV.sl (1 : Nat) (9 : Nat) (0 : Nat) (0 : Nat) k (some k), AV.v (Value.int IntKind.i64 (↑k : Int)), AV.v (Value.int IntKind.i64 (IntKind.wrap IntKind.i64 ((↑i : Int) + (1 : Int))))] [AB.row false m (9 : Nat) (row9 f) (58 : TypeId), AB.row false k (9 : Nat) (row9 g) (58 : TypeId)]) else Res.out (Ex.exit (0 : Nat)) [AV.v (Value.int IntKind.i64 x)] [AB.row false m (9 : Nat) (row9 f) (58 : TypeId)] := by kernel_rfl

noncomputable abbrev lamPI (m : Nat) (f : Nat → Nat → Int) (k : Nat) (g : Nat → Nat → Int) (x : Int) : Nat → Option Sum := oneL 0 (atS 27 (lvPI .normal) 1 (stPI k 0 0) (hpPI m f k g) (fun K => K .normal (mkT 0 27 [(5, .v (i64 x))]) (hpP1 m f)))
theorem treePI (yI : List Wh → Bool) (tI : List Wh → List Wh) (m : Nat) (f : Nat → Nat → Int) (k : Nat) (g : Nat → Nat → Int) (x : Int) : execF Try.prog (gmPt yI tI) (lamPI m f k g x) 100 fPI [.sl 0 9 0 0 m none] (hpP1 m f) (packK 1)
    = needs [Nat.ble ((0 : Nat) + m) m, allW m fun q ↦ row9 f ((0 : Nat) + q), decide (m ≤ (274877906944 : Nat))] (bif !yI (listW (itW fun q ↦ row9 f ((0 : Nat) + q)) m) then Res.out Ex.ret [AV.v (Value.int IntKind.i64 (-1 : Int))] [AB.row false m (9 : Nat) (row9 f) (58 : TypeId)] else needs [chk ([AV.v (Value.int IntKind.i64 (0 : Int)), AV.sl (1 : Nat) (9 : Nat) (0 : Nat) (0 : Nat) (List.length (tI (listW (itW fun q ↦ row9 f ((0 : Nat) + q)) m))) (some (List.length (tI (listW (itW fun q ↦ row9 f ((0 : Nat) + q)) m)))), AV.v (Value.int IntKind.i64 (↑(List.length (tI (listW (itW fun q ↦ row9 f ((0 : Nat) + q)) m))) : Int)), AV.v (Value.int IntKind.i64 (0 : Int))] = stPI k (0 : Int) (0 : Nat) ∧ Hsim [AB.row false m (9 : Nat) (row9 f) (58 : TypeId), AB.row false (List.length (tI (listW (itW fun q ↦ row9 f ((0 : Nat) + q)) m))) (9 : Nat) (row9 (wfun (tI (listW (itW fun q ↦ row9 f ((0 : Nat) + q)) m)))) (58 : TypeId)] (hpPI m f k g))] (Res.out Ex.ret [AV.v (Value.int IntKind.i64 x)] [AB.row false m (9 : Nat) (row9 f) (58 : TypeId)])) := by kernel_rfl

abbrev lvPS : Ex → List Nat := lv3 [3, 5, 6] [5] [2]
abbrev stPS (k : Nat) (x : Int) (i : Nat) : List AV := [.own 1 k, .v (i64 x), .v (i64 i)]
theorem rndPS (gf : Int → Int → Int) (m : Nat) (f : Nat → Nat → Int) (k : Nat) (g : Nat → Nat → Int) (x : Int) (i : Nat) : execC Try.prog (gmPr gf) 100 noLam (loopAt 0 fPS) (mkT 0 28 ((lvPS .normal).zip (stPS k x i))) (hpPS m f k g) (leafV 28 lvPS 1)
    = bif decide ((↑i : Int) < (↑k : Int)) then needs [decide ((↑i : Int) < (↑k : Int)), decide (Int.toNat (↑i : Int) < k), inR x (-1000000000000 : Int) (1000000000000 : Int), inR (g (Int.toNat (↑i : Int)) (0 : Nat)) (-1000000000000 : Int) (1000000000000 : Int)] (Res.out Ex.normal [AV.own (1 : Nat) k, AV.v (Value.int IntKind.i64 (gf x (g (Int.toNat (↑i : Int)) (0 : Nat)))), AV.v (Value.int IntKind.i64 (IntKind.wrap IntKind.i64 ((↑i : Int) + (1 : Int))))] [AB.row false m (9 : Nat) (row9 f) (58 : TypeId), AB.row true k (9 : Nat) (row9 g) (58 : TypeId)]) else Res.out (Ex.exit (0 : Nat)) [AV.v (Value.int IntKind.i64 x)] [AB.row false m (9 : Nat) (row9 f) (58 : TypeId)] := by kernel_rfl

noncomputable abbrev lamPS (m : Nat) (f : Nat → Nat → Int) (k : Nat) (g : Nat → Nat → Int) (x : Int) : Nat → Option Sum := oneL 0 (atS 28 (lvPS .normal) 1 (stPS k 0 0) (hpPS m f k g) (fun K => K .normal (mkT 0 28 [(5, .v (i64 x))]) (hpP1 m f)))
theorem treePS (yI : List Wh → Bool) (tI : List Wh → List Wh) (m : Nat) (f : Nat → Nat → Int) (k : Nat) (g : Nat → Nat → Int) (x : Int) : execF Try.prog (gmPt yI tI) (lamPS m f k g x) 100 fPS [.sl 0 9 0 0 m none] (hpP1 m f) (packK 1)
    = needs [Nat.ble ((0 : Nat) + m) m, allW m fun q ↦ row9 f ((0 : Nat) + q), decide (m ≤ (274877906944 : Nat))] (bif !yI (listW (itW fun q ↦ row9 f ((0 : Nat) + q)) m) then Res.out Ex.ret [AV.v (Value.int IntKind.i64 (-1 : Int))] [AB.row false m (9 : Nat) (row9 f) (58 : TypeId)] else needs [chk ([AV.own (1 : Nat) (List.length (tI (listW (itW fun q ↦ row9 f ((0 : Nat) + q)) m))), AV.v (Value.int IntKind.i64 (0 : Int)), AV.v (Value.int IntKind.i64 (0 : Int))] = stPS k (0 : Int) (0 : Nat) ∧ Hsim [AB.row false m (9 : Nat) (row9 f) (58 : TypeId), AB.row true (List.length (tI (listW (itW fun q ↦ row9 f ((0 : Nat) + q)) m))) (9 : Nat) (row9 (wfun (tI (listW (itW fun q ↦ row9 f ((0 : Nat) + q)) m)))) (58 : TypeId)] (hpPS m f k g))] (Res.out Ex.ret [AV.v (Value.int IntKind.i64 x)] [AB.row false m (9 : Nat) (row9 f) (58 : TypeId)])) := by kernel_rfl

noncomputable abbrev fQI : Func := Try.f55
noncomputable abbrev fQS : Func := Try.f56
abbrev lvQI : Ex → List Nat := lv3 [3, 5, 15, 16, 17] [5] [2]
abbrev stQI (k : Nat) (x : Int) (i : Nat) : List AV := [.sl 1 9 0 0 k (some k), .v (i64 x), .sl 1 9 0 0 k (some k), .v (i64 k), .v (i64 i)]
theorem rndQI (gf : Int → Int → Int) (m : Nat) (f : Nat → Nat → Int) (k : Nat) (g : Nat → Nat → Int) (x : Int) (i : Nat) : execC Try.prog (gmPr gf) 100 noLam (loopAt 0 fQI) (mkT 0 32 ((lvQI .normal).zip (stQI k x i))) (hpPI m f k g) (leafV 32 lvQI 1)
    = bif decide ((↑i : Int) < (↑k : Int)) then needs [decide ((↑i : Int) < (↑k : Int)), decide ((0 : Nat) + Int.toNat (↑i : Int) < k), decide ((0 : Int) < (↑k : Int)), decide ((0 : Nat) < k), inR x (-1000000000000 : Int) (1000000000000 : Int), inR (IntKind.wrap IntKind.i64 (g ((0 : Nat) + Int.toNat (↑i : Int)) (0 : Nat) - g (0 : Nat) (0 : Nat))) (-1000000000000 : Int) (1000000000000 : Int)] (Res.out Ex.normal [AV.sl (1 : Nat) (9 : Nat) (0 : Nat) (0 : Nat) k (some k), AV.v (Value.int IntKind.i64 (gf x (IntKind.wrap IntKind.i64 (g ((0 : Nat) + Int.toNat (↑i : Int)) (0 : Nat) - g (0 : Nat) (0 : Nat))))), AV.sl (1 : Nat) (9 : Nat) (0 : Nat) (0 : Nat) k (some k), AV.v (Value.int IntKind.i64 (↑k : Int)), AV.v (Value.int IntKind.i64 (IntKind.wrap IntKind.i64 ((↑i : Int) + (1 : Int))))] [AB.row false m (9 : Nat) (row9 f) (58 : TypeId), AB.row false k (9 : Nat) (row9 g) (58 : TypeId)]) else Res.out (Ex.exit (0 : Nat)) [AV.v (Value.int IntKind.i64 x)] [AB.row false m (9 : Nat) (row9 f) (58 : TypeId)] := by kernel_rfl

noncomputable abbrev lamQI (m : Nat) (f : Nat → Nat → Int) (k : Nat) (g : Nat → Nat → Int) (x : Int) : Nat → Option Sum := oneL 0 (atS 32 (lvQI .normal) 1 (stQI k 0 0) (hpPI m f k g) (fun K => K .normal (mkT 0 32 [(5, .v (i64 x))]) (hpP1 m f)))
theorem treeQI (yI : List Wh → Bool) (tI : List Wh → List Wh) (m : Nat) (f : Nat → Nat → Int) (k : Nat) (g : Nat → Nat → Int) (x : Int) : execF Try.prog (gmPt yI tI) (lamQI m f k g x) 100 fQI [.sl 0 9 0 0 m none] (hpP1 m f) (packK 1)
    = needs [Nat.ble ((0 : Nat) + m) m, allW m fun q ↦ row9 f ((0 : Nat) + q), decide (m ≤ (274877906944 : Nat))] (bif !yI (listW (itW fun q ↦ row9 f ((0 : Nat) + q)) m) then Res.out Ex.ret [AV.v (Value.int IntKind.i64 (-1 : Int))] [AB.row false m (9 : Nat) (row9 f) (58 : TypeId)] else needs [chk ([AV.sl (1 : Nat) (9 : Nat) (0 : Nat) (0 : Nat) (List.length (tI (listW (itW fun q ↦ row9 f ((0 : Nat) + q)) m))) (some (List.length (tI (listW (itW fun q ↦ row9 f ((0 : Nat) + q)) m)))), AV.v (Value.int IntKind.i64 (0 : Int)), AV.sl (1 : Nat) (9 : Nat) (0 : Nat) (0 : Nat) (List.length (tI (listW (itW fun q ↦ row9 f ((0 : Nat) + q)) m))) (some (List.length (tI (listW (itW fun q ↦ row9 f ((0 : Nat) + q)) m)))), AV.v (Value.int IntKind.i64 (↑(List.length (tI (listW (itW fun q ↦ row9 f ((0 : Nat) + q)) m))) : Int)), AV.v (Value.int IntKind.i64 (0 : Int))] = stQI k (0 : Int) (0 : Nat) ∧ Hsim [AB.row false m (9 : Nat) (row9 f) (58 : TypeId), AB.row false (List.length (tI (listW (itW fun q ↦ row9 f ((0 : Nat) + q)) m))) (9 : Nat) (row9 (wfun (tI (listW (itW fun q ↦ row9 f ((0 : Nat) + q)) m)))) (58 : TypeId)] (hpPI m f k g))] (Res.out Ex.ret [AV.v (Value.int IntKind.i64 x)] [AB.row false m (9 : Nat) (row9 f) (58 : TypeId)])) := by kernel_rfl

abbrev lvQS : Ex → List Nat := lv3 [3, 5, 6] [5] [2]
abbrev stQS (k : Nat) (x : Int) (i : Nat) : List AV := [.own 1 k, .v (i64 x), .v (i64 ((i : Int) + 1))]
theorem rndQS (gf : Int → Int → Int) (m : Nat) (f : Nat → Nat → Int) (k : Nat) (g : Nat → Nat → Int) (x : Int) (i : Nat) : execC Try.prog (gmPr gf) 100 noLam (loopAt 0 fQS) (mkT 0 33 ((lvQS .normal).zip (stQS k x i))) (hpPS m f k g) (leafV 33 lvQS 1)
    = bif decide ((↑i : Int) + (1 : Int) < (↑k : Int)) then needs [decide ((↑i : Int) + (1 : Int) < (↑k : Int)), decide (Int.toNat ((↑i : Int) + (1 : Int)) < k), decide ((0 : Int) < (↑k : Int)), decide ((0 : Nat) < k), inR x (-1000000000000 : Int) (1000000000000 : Int), inR (IntKind.wrap IntKind.i64 (g (Int.toNat ((↑i : Int) + (1 : Int))) (0 : Nat) - g (0 : Nat) (0 : Nat))) (-1000000000000 : Int) (1000000000000 : Int)] (Res.out Ex.normal [AV.own (1 : Nat) k, AV.v (Value.int IntKind.i64 (gf x (IntKind.wrap IntKind.i64 (g (Int.toNat ((↑i : Int) + (1 : Int))) (0 : Nat) - g (0 : Nat) (0 : Nat))))), AV.v (Value.int IntKind.i64 (IntKind.wrap IntKind.i64 ((↑i : Int) + (1 : Int) + (1 : Int))))] [AB.row false m (9 : Nat) (row9 f) (58 : TypeId), AB.row true k (9 : Nat) (row9 g) (58 : TypeId)]) else Res.out (Ex.exit (0 : Nat)) [AV.v (Value.int IntKind.i64 x)] [AB.row false m (9 : Nat) (row9 f) (58 : TypeId)] := by kernel_rfl

noncomputable abbrev lamQS (m : Nat) (f : Nat → Nat → Int) (k : Nat) (g : Nat → Nat → Int) (x : Int) : Nat → Option Sum := oneL 0 (atS 33 (lvQS .normal) 1 (stQS k 0 0) (hpPS m f k g) (fun K => K .normal (mkT 0 33 [(5, .v (i64 x))]) (hpP1 m f)))
theorem treeQS0 (yI : List Wh → Bool) (tI : List Wh → List Wh) (m : Nat) (f : Nat → Nat → Int) (k : Nat) (g : Nat → Nat → Int) (x : Int) : execF Try.prog (gmPt yI tI) (lamQS m f k g x) 100 fQS [.sl 0 9 0 0 m none] (hpP1 m f) (packK 1)
    = needs [Nat.ble ((0 : Nat) + m) m, allW m fun q ↦ row9 f ((0 : Nat) + q), decide (m ≤ (274877906944 : Nat))] (bif !yI (listW (itW fun q ↦ row9 f ((0 : Nat) + q)) m) then Res.out Ex.ret [AV.v (Value.int IntKind.i64 (-1 : Int))] [AB.row false m (9 : Nat) (row9 f) (58 : TypeId)] else needs [chk ([AV.own (1 : Nat) (List.length (tI (listW (itW fun q ↦ row9 f ((0 : Nat) + q)) m))), AV.v (Value.int IntKind.i64 (0 : Int)), AV.v (Value.int IntKind.i64 (1 : Int))] = stQS k (0 : Int) (0 : Nat) ∧ Hsim [AB.row false m (9 : Nat) (row9 f) (58 : TypeId), AB.row true (List.length (tI (listW (itW fun q ↦ row9 f ((0 : Nat) + q)) m))) (9 : Nat) (row9 (wfun (tI (listW (itW fun q ↦ row9 f ((0 : Nat) + q)) m)))) (58 : TypeId)] (hpPS m f k g))] (Res.out Ex.ret [AV.v (Value.int IntKind.i64 x)] [AB.row false m (9 : Nat) (row9 f) (58 : TypeId)])) := by kernel_rfl

end Go.Proofs.Ytakimbknciffnaa

/- DesignPeriod and DesignFold of both: their words. Conditions: a list of wheels. -/
namespace Go.Proofs.Ytakimbknciffnaa
open Go.RowKit
set_option maxRecDepth 100000

/-- The greatest common divisor of the first numbers. -/
def pgF (h : Nat → Int) : Nat → Int
  | 0 => 0
  | i + 1 => gcdI (pgF h i) (h i)
theorem gcdI_zero (a : Int) : gcdI 0 a = a.natAbs := by
  unfold gcdI
  rw [show (0 : Int).natAbs = 0 from rfl, Nat.gcd_zero_left]
theorem pgF_in {h : Nat → Int} {k : Nat} (hh : ∀ i, i < k → -2000 ≤ h i ∧ h i ≤ 2000) : ∀ i, i ≤ k → 0 ≤ pgF h i ∧ pgF h i ≤ 2000
  | 0, _ => by show 0 ≤ (0 : Int) ∧ (0 : Int) ≤ 2000; omega
  | i + 1, hi => by
    have ih := pgF_in hh i (by omega)
    have hb := hh i (by omega)
    show 0 ≤ (Nat.gcd (pgF h i).natAbs (h i).natAbs : Int) ∧ (Nat.gcd (pgF h i).natAbs (h i).natAbs : Int) ≤ 2000
    refine ⟨by omega, ?_⟩
    by_cases h0 : (pgF h i).natAbs = 0
    · rw [h0, Nat.gcd_zero_left]
      omega
    · have := Nat.gcd_le_left (h i).natAbs (show 0 < (pgF h i).natAbs by omega)
      omega
theorem gmPr_ok : GamOk Try.prog (gmPr gcdI) := ext_ok (ext_ok g0_ok ok_gdI) ok_gdS
theorem gmPt_ok : GamOk Try.prog (gmPt yI tI) := ext_ok (ext_ok g0_ok ok_UTi) ok_tiS
def spH (T : List Wh) : Nat → Int := fun i => wfun T i 0
def dfH (T : List Wh) : Nat → Int := fun i => IntKind.wrap IntKind.i64 (wfun T i 0 - wfun T 0 0)
theorem spH_at {T : List Wh} {i : Nat} (hi : i < T.length) : spH T i = T[i].s := by
  unfold spH
  rw [wfun_get hi]
  rfl
theorem tidy_sp {T : List Wh} (h : isTidy T) {i : Nat} (hi : i < T.length) : -1000 ≤ wfun T i 0 ∧ wfun T i 0 ≤ 1000 := by
  have e : wfun T i 0 = T[i].s := spH_at hi
  rw [e]
  exact (okD_all (tidy_okD h) (List.getElem_mem hi)).1
theorem sumPI (m : Nat) (f : Nat → Nat → Int) (T : List Wh) (hT : isTidy T) :
    SumOk Try.prog 1 (.block 0 (.loop (loopAt 0 fPI))) (atS 27 (lvPI .normal) 1 (stPI T.length 0 0) (hpPI m f T.length (wfun T)) (fun K => K .normal (mkT 0 27 [(5, .v (i64 (pgF (spH T) T.length)))]) (hpP1 m f))) := by
  refine for_at gmPr_ok (n := 100) (m := 1) (lv := lvPI) (fun i => stPI T.length (pgF (spH T) i) i) (fun _ => hpPI m f T.length (wfun T)) (fun _ => True) T.length (fun _ => noLam) (lv3_ris rfl rfl rfl) (Nat.le_refl _) trivial fun K Q hk i _ hi => ⟨noLam_ok _ _ _, ?_⟩
  have hlen := okD_len (tidy_okD hT)
  rw [rndPI]
  refine good_cond (fun c1 => ?_) fun c1 => ?_
  · have c1 := of_decide_eq_true c1
    have c1' : i < T.length := by omega
    rw [show 0 + Int.toNat (i : Int) = i by omega, wr_in (x := (i : Int) + 1) (by omega)]
    have h1 := pgF_in (h := spH T) (k := T.length) (fun j hj => by have := tidy_sp hT hj; show -2000 ≤ wfun T j 0 ∧ wfun T j 0 ≤ 2000; omega) i (by omega)
    have h2 := tidy_sp hT c1'
    refine good_needs (by simp only [ob_cons, ob_nil, and_true, decide_eq_true_eq]; exact ⟨by omega, by omega, inR_iff.2 (by omega), inR_iff.2 (by omega)⟩) (good_out ⟨i + 1, ⟨rfl, c1', trivial⟩, rfl, Hsim.refl _⟩)
  · have c1 := of_decide_eq_false c1
    have : i = T.length := by omega
    subst this
    refine good_out ⟨_, Hsim.refl _, ?_⟩
    rw [if_pos rfl]
    exact hk
theorem sumPS (m : Nat) (f : Nat → Nat → Int) (T : List Wh) (hT : isTidy T) :
    SumOk Try.prog 1 (.block 0 (.loop (loopAt 0 fPS))) (atS 28 (lvPS .normal) 1 (stPS T.length 0 0) (hpPS m f T.length (wfun T)) (fun K => K .normal (mkT 0 28 [(5, .v (i64 (pgF (spH T) T.length)))]) (hpP1 m f))) := by
  refine for_at gmPr_ok (n := 100) (m := 1) (lv := lvPS) (fun i => stPS T.length (pgF (spH T) i) i) (fun _ => hpPS m f T.length (wfun T)) (fun _ => True) T.length (fun _ => noLam) (lv3_ris rfl rfl rfl) (Nat.le_refl _) trivial fun K Q hk i _ hi => ⟨noLam_ok _ _ _, ?_⟩
  have hlen := okD_len (tidy_okD hT)
  rw [rndPS]
  refine good_cond (fun c1 => ?_) fun c1 => ?_
  · have c1 := of_decide_eq_true c1
    have c1' : i < T.length := by omega
    rw [show Int.toNat (i : Int) = i by omega, wr_in (x := (i : Int) + 1) (by omega)]
    have h1 := pgF_in (h := spH T) (k := T.length) (fun j hj => by have := tidy_sp hT hj; show -2000 ≤ wfun T j 0 ∧ wfun T j 0 ≤ 2000; omega) i (by omega)
    have h2 := tidy_sp hT c1'
    refine good_needs (by simp only [ob_cons, ob_nil, and_true, decide_eq_true_eq]; exact ⟨by omega, by omega, inR_iff.2 (by omega), inR_iff.2 (by omega)⟩) (good_out ⟨i + 1, ⟨rfl, c1', trivial⟩, rfl, Hsim.refl _⟩)
  · have c1 := of_decide_eq_false c1
    have : i = T.length := by omega
    subst this
    refine good_out ⟨_, Hsim.refl _, ?_⟩
    rw [if_pos rfl]
    exact hk
theorem dfH_in {T : List Wh} (hT : isTidy T) {i : Nat} (hi : i < T.length) : -2000 ≤ dfH T i ∧ dfH T i ≤ 2000 := by
  have h1 := tidy_sp hT hi
  have h0 := tidy_sp hT (i := 0) (by omega)
  unfold dfH
  rw [wr_in (by omega)]
  omega
theorem sumQI (m : Nat) (f : Nat → Nat → Int) (T : List Wh) (hT : isTidy T) :
    SumOk Try.prog 1 (.block 0 (.loop (loopAt 0 fQI))) (atS 32 (lvQI .normal) 1 (stQI T.length 0 0) (hpPI m f T.length (wfun T)) (fun K => K .normal (mkT 0 32 [(5, .v (i64 (pgF (dfH T) T.length)))]) (hpP1 m f))) := by
  refine for_at gmPr_ok (n := 100) (m := 1) (lv := lvQI) (fun i => stQI T.length (pgF (dfH T) i) i) (fun _ => hpPI m f T.length (wfun T)) (fun _ => True) T.length (fun _ => noLam) (lv3_ris rfl rfl rfl) (Nat.le_refl _) trivial fun K Q hk i _ hi => ⟨noLam_ok _ _ _, ?_⟩
  have hlen := okD_len (tidy_okD hT)
  rw [rndQI]
  refine good_cond (fun c1 => ?_) fun c1 => ?_
  · have c1 := of_decide_eq_true c1
    have c1' : i < T.length := by omega
    rw [show 0 + Int.toNat (i : Int) = i by omega, wr_in (x := (i : Int) + 1) (by omega)]
    have h1 := pgF_in (h := dfH T) (k := T.length) (fun j hj => dfH_in hT hj) i (by omega)
    have h2 : -2000 ≤ IntKind.wrap IntKind.i64 (wfun T i 0 - wfun T 0 0) ∧ IntKind.wrap IntKind.i64 (wfun T i 0 - wfun T 0 0) ≤ 2000 := dfH_in hT c1'
    refine good_needs (by simp only [ob_cons, ob_nil, and_true, decide_eq_true_eq]; exact ⟨by omega, by omega, by omega, by omega, inR_iff.2 (by omega), inR_iff.2 (by omega)⟩) (good_out ⟨i + 1, ⟨rfl, c1', trivial⟩, rfl, Hsim.refl _⟩)
  · have c1 := of_decide_eq_false c1
    have : i = T.length := by omega
    subst this
    refine good_out ⟨_, Hsim.refl _, ?_⟩
    rw [if_pos rfl]
    exact hk
theorem dfH_first {T : List Wh} : pgF (dfH T) 1 = 0 := by
  show gcdI 0 (dfH T 0) = 0
  rw [gcdI_zero]
  unfold dfH
  rw [Int.sub_self]
  rfl
theorem sumQS (m : Nat) (f : Nat → Nat → Int) (T : List Wh) (hT : isTidy T) :
    SumOk Try.prog 1 (.block 0 (.loop (loopAt 0 fQS))) (atS 33 (lvQS .normal) 1 (stQS T.length 0 0) (hpPS m f T.length (wfun T)) (fun K => K .normal (mkT 0 33 [(5, .v (i64 (pgF (dfH T) T.length)))]) (hpP1 m f))) := by
  have e0 : stQS T.length 0 0 = stQS T.length (pgF (dfH T) (0 + 1)) 0 := by rw [Nat.zero_add, dfH_first]
  rw [e0]
  refine for_at gmPr_ok (n := 100) (m := 1) (lv := lvQS) (fun i => stQS T.length (pgF (dfH T) (i + 1)) i) (fun _ => hpPS m f T.length (wfun T)) (fun i => i = 0 ∨ i < T.length) T.length (fun _ => noLam) (lv3_ris rfl rfl rfl) (Nat.le_refl _) (.inl rfl) fun K Q hk i hi0 hi => ⟨noLam_ok _ _ _, ?_⟩
  have hlen := okD_len (tidy_okD hT)
  rw [rndQS]
  refine good_cond (fun c1 => ?_) fun c1 => ?_
  · have c1 := of_decide_eq_true c1
    have c1' : i + 1 < T.length := by omega
    rw [show Int.toNat ((i : Int) + 1) = i + 1 by omega, wr_in (x := (i : Int) + 1 + 1) (by omega)]
    have h1 := pgF_in (h := dfH T) (k := T.length) (fun j hj => dfH_in hT hj) (i + 1) (by omega)
    have h2 : -2000 ≤ IntKind.wrap IntKind.i64 (wfun T (i + 1) 0 - wfun T 0 0) ∧ IntKind.wrap IntKind.i64 (wfun T (i + 1) 0 - wfun T 0 0) ≤ 2000 := dfH_in hT c1'
    refine good_needs (by simp only [ob_cons, ob_nil, and_true, decide_eq_true_eq]; exact ⟨by omega, by omega, by omega, by omega, inR_iff.2 (by omega), inR_iff.2 (by omega)⟩) (good_out ⟨i + 1, ⟨rfl, by omega, .inr c1'⟩, rfl, Hsim.refl _⟩)
  · have c1 := of_decide_eq_false c1
    have e : pgF (dfH T) (i + 1) = pgF (dfH T) T.length := by
      by_cases h0 : T.length = 0
      · have : i = 0 := by omega
        subst this
        rw [h0, Nat.zero_add, dfH_first]
        rfl
      · have : i + 1 = T.length := by omega
        rw [this]
    refine good_out ⟨_, Hsim.refl _, ?_⟩
    rw [if_pos rfl]
    rw [← e] at hk
    exact hk

def perV (L : List Wh) : Int := bif yI L then pgF (spH (tI L)) (tI L).length else -1
def fldV (L : List Wh) : Int := bif yI L then pgF (dfH (tI L)) (tI L).length else -1
/-- A number of a list of wheels. -/
def FnmO (v : List Wh → Int) : List SA → Option FR
  | [.row m g] => some { val := .v (.int .i64 (v (listW (itW g) m))), obl := [allW m g, decide (m ≤ 2 ^ 38)] }
  | _ => none
theorem nm_fin {m : Nat} {g : Nat → List Value} {v : List Wh → Int} {x : Int} {ob : List Bool} {fn : Func} {Λ : Nat → Option Sum} (h1 : allW m g = true) (hm : m ≤ 2 ^ 38) {P : Prop} (c : P) (hob : P → obls ob = true) (h0 : yI (listW (itW g) m) = false → v (listW (itW g) m) = -1) (hx : yI (listW (itW g) m) = true → v (listW (itW g) m) = x)
    (ht : execF Try.prog (gmPt yI tI) Λ 100 fn [.sl 0 9 0 0 m none] (hpP1 m (itW g)) (packK 1) = needs [Nat.ble (0 + m) m, allW m fun q => row9 (itW g) (0 + q), decide (m ≤ 274877906944)] (bif !yI (listW (itW fun q => row9 (itW g) (0 + q)) m) then .out .ret [.v (i64 (-1))] [.row false m 9 (row9 (itW g)) 58] else needs ob (.out .ret [.v (i64 x)] [.row false m 9 (row9 (itW g)) 58]))) :
    GoodQ (execF Try.prog (gmPt yI tI) Λ 100 fn [.sl 0 9 0 0 m none] (hpP1 m (itW g)) (packK 1)) (GivR (abP md_ws [.row m g] []) { val := .v (.int .i64 (v (listW (itW g) m))), obl := [allW m g, decide (m ≤ 2 ^ 38)] }) := by
  rw [ht]
  simp only [row0, listW_itW]
  refine good_needs (by simp only [ob_cons, ob_nil, and_true, decide_eq_true_eq, Nat.ble_eq, allW_row, true_and]; omega) (good_cond (fun q => ?_) fun q => ?_)
  · have q2 : yI (listW (itW g) m) = false := by simpa using q
    exact good_out ⟨_, rfl, by rw [h0 q2], .cons (ABeq.row fun j hj => (allW_get h1 j hj).symm) .nil⟩
  · have q2 : yI (listW (itW g) m) = true := by simpa using q
    exact good_needs (hob c) (good_out ⟨_, rfl, by rw [hx q2], .cons (ABeq.row fun j hj => (allW_get h1 j hj).symm) .nil⟩)
theorem ok_peI : SpecOk Try.prog 52 (specR md_ws (FnmO perV)) := by
  refine specR_hr gmPt_ok Try.func52 rfl fun sas fr hF ho => ?_
  unfold FnmO at hF
  split at hF
  · rename_i m g
    cases hF
    simp only [ob_cons] at ho
    obtain ⟨h1, h2, _⟩ := ho
    have hm := of_decide_eq_true h2
    refine ⟨hpP1 m (itW g), _, 100, .cons (ABeq.row fun j hj => allW_get h1 j hj) .nil, lam1 (by kernel_rfl) (sumPI m (itW g) (tI (listW (itW g) m)) (tI_tidy _)), ?_⟩
    refine nm_fin h1 hm trivial (fun _ => ?_) (fun q => by rw [perV, q]; rfl) (fun q => by rw [perV, q]; rfl) (treePI yI tI m (itW g) _ _ _)
    simp only [row0, listW_itW, ob_cons, ob_nil, and_true]
    exact chk_of ⟨rfl, Hsim.refl _⟩
  · cases hF
theorem ok_peS : SpecOk Try.prog 53 (specR md_ws (FnmO perV)) := by
  refine specR_hr gmPt_ok Try.func53 rfl fun sas fr hF ho => ?_
  unfold FnmO at hF
  split at hF
  · rename_i m g
    cases hF
    simp only [ob_cons] at ho
    obtain ⟨h1, h2, _⟩ := ho
    have hm := of_decide_eq_true h2
    refine ⟨hpP1 m (itW g), _, 100, .cons (ABeq.row fun j hj => allW_get h1 j hj) .nil, lam1 (by kernel_rfl) (sumPS m (itW g) (tI (listW (itW g) m)) (tI_tidy _)), ?_⟩
    refine nm_fin h1 hm trivial (fun _ => ?_) (fun q => by rw [perV, q]; rfl) (fun q => by rw [perV, q]; rfl) (treePS yI tI m (itW g) _ _ _)
    simp only [row0, listW_itW, ob_cons, ob_nil, and_true]
    exact chk_of ⟨rfl, Hsim.refl _⟩
  · cases hF
theorem ok_foI : SpecOk Try.prog 55 (specR md_ws (FnmO fldV)) := by
  refine specR_hr gmPt_ok Try.func55 rfl fun sas fr hF ho => ?_
  unfold FnmO at hF
  split at hF
  · rename_i m g
    cases hF
    simp only [ob_cons] at ho
    obtain ⟨h1, h2, _⟩ := ho
    have hm := of_decide_eq_true h2
    refine ⟨hpP1 m (itW g), _, 100, .cons (ABeq.row fun j hj => allW_get h1 j hj) .nil, lam1 (by kernel_rfl) (sumQI m (itW g) (tI (listW (itW g) m)) (tI_tidy _)), ?_⟩
    refine nm_fin h1 hm trivial (fun _ => ?_) (fun q => by rw [fldV, q]; rfl) (fun q => by rw [fldV, q]; rfl) (treeQI yI tI m (itW g) _ _ _)
    simp only [row0, listW_itW, ob_cons, ob_nil, and_true]
    exact chk_of ⟨rfl, Hsim.refl _⟩
  · cases hF
theorem ok_foS : SpecOk Try.prog 56 (specR md_ws (FnmO fldV)) := by
  refine specR_hr gmPt_ok Try.func56 rfl fun sas fr hF ho => ?_
  unfold FnmO at hF
  split at hF
  · rename_i m g
    cases hF
    simp only [ob_cons] at ho
    obtain ⟨h1, h2, _⟩ := ho
    have hm := of_decide_eq_true h2
    refine ⟨hpP1 m (itW g), _, 100, .cons (ABeq.row fun j hj => allW_get h1 j hj) .nil, lam1 (by kernel_rfl) (sumQS m (itW g) (tI (listW (itW g) m)) (tI_tidy _)), ?_⟩
    refine nm_fin h1 hm trivial (fun _ => ?_) (fun q => by rw [fldV, q]; rfl) (fun q => by rw [fldV, q]; rfl) (treeQS0 yI tI m (itW g) _ _ _)
    simp only [row0, listW_itW, ob_cons, ob_nil, and_true]
    exact chk_of ⟨rfl, Hsim.refl _⟩
  · cases hF

end Go.Proofs.Ytakimbknciffnaa

/- Plain laws of designs: periods and folds. No program, no conditions. -/
namespace Go.Proofs.Ytakimbknciffnaa
open Go.RowKit

theorem pgF_dvd (h : Nat → Int) : ∀ (k i : Nat), i < k → pgF h k ∣ h i
  | 0, i, hi => absurd hi (Nat.not_lt_zero _)
  | k + 1, i, hi => by
    show ((Nat.gcd (pgF h k).natAbs (h k).natAbs : Nat) : Int) ∣ h i
    by_cases e : i = k
    · subst e
      exact Int.ofNat_dvd_left.2 (Nat.gcd_dvd_right _ _)
    · exact Int.dvd_trans (Int.ofNat_dvd_left.2 (Nat.gcd_dvd_left _ _)) (pgF_dvd h k i (by omega))
theorem spH_mem {T : List Wh} {w : Wh} (hw : w ∈ T) : ∃ i, i < T.length ∧ spH T i = w.s := by
  obtain ⟨i, hi, e⟩ := List.mem_iff_getElem.1 hw
  exact ⟨i, hi, by rw [spH_at hi, e]⟩
theorem tidy_sub0 {A B : List Wh} (hA : rising A) (hz : ∀ w ∈ A, w.r ≠ cyZ) (hB : rising B) (h : ∀ s k, k < 8 → linS (atSp s k) A = linS (atSp s k) B) : ∀ w ∈ A, w ∈ B := fun w hw => by
  have hne : ∃ k, k < 8 ∧ w.r.f k ≠ 0 := by
    refine Classical.byContradiction fun hn => hz w hw (cy_ext fun k hk => ?_)
    have : w.r.f k = 0 := Classical.byContradiction fun h0 => hn ⟨k, hk, h0⟩
    rw [this]
    rcases (by omega : k = 0 ∨ k = 1 ∨ k = 2 ∨ k = 3 ∨ k = 4 ∨ k = 5 ∨ k = 6 ∨ k = 7) with rfl | rfl | rfl | rfl | rfl | rfl | rfl | rfl <;> rfl
  obtain ⟨k, hk, h0⟩ := hne
  have hex : ∃ x ∈ B, x.s = w.s := by
    refine Classical.byContradiction fun hn => h0 ?_
    rw [← atSp_of hA hw, h w.s k hk]
    exact atSp_none fun x hx e => hn ⟨x, hx, e⟩
  obtain ⟨x, hx, e⟩ := hex
  have hr : x.r = w.r := cy_ext fun j hj => by
    rw [← atSp_of hA hw, h w.s j hj, ← e]
    exact (atSp_of hB hx).symm
  have : x = w := by
    cases x
    cases w
    simp_all
  rw [← this]
  exact hx
theorem tidy_unique0 {A B : List Wh} (hA : rising A) (zA : ∀ w ∈ A, w.r ≠ cyZ) (hB : rising B) (zB : ∀ w ∈ B, w.r ≠ cyZ) (h : ∀ s k, k < 8 → linS (atSp s k) A = linS (atSp s k) B) : A = B :=
  rising_ext hA hB fun w => ⟨tidy_sub0 hA zA hB h w, tidy_sub0 hB zB hA (fun s k hk => (h s k hk).symm) w⟩

/-- Later by a part of a whole turn that the period has: nothing changes. -/
theorem law_period {L : List Wh} {n q : Int} (hq : q * n % 24 = 0) (hn : n ∣ pgF (spH (tI L)) (tI L).length) (hy : yI L = true) (hL : eachOk 1 0 q false L = true) : eachL 1 0 q false L = tI L := by
  obtain ⟨_, hT, hl⟩ := tI_spec hy
  refine tidy_unique (each_tidy (by omega) hL) hT fun s k hk => ?_
  rw [each_lin (by omega) hL (atSp_lin s k) (atSp_loc s hk), ← hl _ (lin_tn (atSp_lin s k) (fun s => 1 * s) fun s => 0 + q * s)]
  refine linS_congr fun w hw => ?_
  obtain ⟨i, hi, e⟩ := spH_mem hw
  have hd := Int.dvd_trans hn (pgF_dvd (spH (tI L)) _ i hi)
  rw [e] at hd
  obtain ⟨c, hc⟩ := hd
  show atSp s k (1 * w.s) (tnI w.r.f (0 + q * w.s)) = atSp s k w.s w.r.f
  rw [Int.one_mul]
  refine atSp_loc s hk _ _ _ fun j hj => tnI_24 _ ?_ j hj
  rw [Int.zero_add, hc, ← Int.mul_assoc, Int.mul_emod, hq, Int.zero_mul]
  rfl
/-- Twice as fast. -/
def dbl (w : Wh) : Wh := ⟨2 * w.s, w.r⟩
theorem dbl_all {L : List Wh} (hy : yI L = true) (hF : yF 2 L = true) : tF 2 L = (tI L).map dbl := by
  rw [yF, Bool.and_eq_true] at hF
  obtain ⟨_, hT, hl⟩ := tI_spec hy
  have e : tF 2 L = eachL 2 0 0 false L := rfl
  have hM := each_tidy (by omega) hF.2
  rw [e]
  refine tidy_unique0 hM.1 hM.2.1 ?_ ?_ fun s k hk => ?_
  · refine List.pairwise_map.2 (List.Pairwise.imp (fun {a c} h => ?_) hT.1)
    show 2 * a.s < 2 * c.s
    omega
  · intro w hw
    obtain ⟨x, hx, rfl⟩ := List.mem_map.1 hw
    exact hT.2.1 x hx
  · rw [each_lin (by omega) hF.2 (atSp_lin s k) (atSp_loc s hk), ← hl _ (lin_tn (atSp_lin s k) (fun s => 2 * s) fun s => 0 + 0 * s)]
    refine (linS_map (ψ := fun s' f => atSp s k (2 * s') (tnI f (0 + 0 * s'))) fun w hw => ?_).symm
    show atSp s k (2 * w.s) w.r.f = atSp s k (2 * w.s) (tnI w.r.f (0 + 0 * w.s))
    rw [show 0 + 0 * w.s = 0 by omega]
    rfl
theorem gcdI_two (a b : Int) : gcdI (2 * a) (2 * b) = 2 * gcdI a b := by
  unfold gcdI
  rw [Int.natAbs_mul, Int.natAbs_mul, show (2 : Int).natAbs = 2 from rfl, Nat.gcd_mul_left]
  omega
theorem pgF_dbl (T : List Wh) : ∀ i, i ≤ T.length → pgF (spH (T.map dbl)) i = 2 * pgF (spH T) i
  | 0, _ => rfl
  | i + 1, hi => by
    show gcdI (pgF (spH (T.map dbl)) i) (spH (T.map dbl) i) = 2 * gcdI (pgF (spH T) i) (spH T i)
    have e : spH (T.map dbl) i = 2 * spH T i := by
      rw [spH_at (T := T) (by omega), spH_at (T := T.map dbl) (by rw [List.length_map]; omega), List.getElem_map]
      rfl
    rw [pgF_dbl T i (by omega), e, gcdI_two]
theorem law_period2 {L : List Wh} (hy : yI L = true) (hF : yF 2 L = true) : perV (tF 2 L) = 2 * perV L := by
  have hM : isTidy (tF 2 L) := by
    rw [yF, Bool.and_eq_true] at hF
    exact each_tidy (by omega) hF.2
  rw [perV, perV, yI_self hM, hy, cond_true, cond_true, tI_self hM, dbl_all hy hF, List.length_map]
  exact pgF_dbl _ _ (Nat.le_refl _)

end Go.Proofs.Ytakimbknciffnaa

/- DesignCentre of both: trees. Conditions: a list of wheels. -/
namespace Go.Proofs.Ytakimbknciffnaa
open Go.RowKit
set_option maxRecDepth 100000

noncomputable abbrev fCI : Func := Try.f59
noncomputable abbrev fCS : Func := Try.f60
abbrev hpCI (m : Nat) (f : Nat → Nat → Int) (k : Nat) (g : Nat → Nat → Int) : List AB := [.row false m 9 (row9 f) 58, .cells (cyC fun _ => 0) 35, .row false k 9 (row9 g) 58]
abbrev hpCS (m : Nat) (f : Nat → Nat → Int) (k : Nat) (g : Nat → Nat → Int) : List AB := [.row false m 9 (row9 f) 58, .cells (cyC fun _ => 0) 35, .row true k 9 (row9 g) 58]
abbrev hpCO (m : Nat) (f : Nat → Nat → Int) (a : Nat → Int) : List AB := [.row false m 9 (row9 f) 58, .cells (cyC a) 35]
abbrev lvCI : Ex → List Nat := lv3 [2, 16, 17, 18] [2] [2, 3]
abbrev stCI (k i : Nat) : List AV := [.ptr 1 0 0 0, .sl 2 9 0 0 k (some k), .v (i64 k), .v (i64 i)]
theorem rndCI (m : Nat) (f : Nat → Nat → Int) (k : Nat) (g : Nat → Nat → Int) (i : Nat) : execC Try.prog g0 100 noLam (loopAt 0 fCI) (mkT 0 29 ((lvCI .normal).zip (stCI k i))) (hpCI m f k g) (leafV 29 lvCI 1)
    = bif decide ((↑i : Int) < (↑k : Int)) then needs [decide ((↑i : Int) < (↑k : Int)), decide ((0 : Nat) + Int.toNat (↑i : Int) < k)] (bif g ((0 : Nat) + Int.toNat (↑i : Int)) (0 : Nat) == (0 : Int) then Res.out Ex.ret [AV.ptr (1 : Nat) (0 : Nat) (0 : Nat) (0 : Nat), AV.v (Value.bool true)] [AB.row false m (9 : Nat) (row9 f) (58 : TypeId), AB.cells [AV.v (Value.int IntKind.i64 (g ((0 : Nat) + Int.toNat (↑i : Int)) (1 : Nat))), AV.v (Value.int IntKind.i64 (g ((0 : Nat) + Int.toNat (↑i : Int)) (2 : Nat))), AV.v (Value.int IntKind.i64 (g ((0 : Nat) + Int.toNat (↑i : Int)) (3 : Nat))), AV.v (Value.int IntKind.i64 (g ((0 : Nat) + Int.toNat (↑i : Int)) (4 : Nat))), AV.v (Value.int IntKind.i64 (g ((0 : Nat) + Int.toNat (↑i : Int)) (5 : Nat))), AV.v (Value.int IntKind.i64 (g ((0 : Nat) + Int.toNat (↑i : Int)) (6 : Nat))), AV.v (Value.int IntKind.i64 (g ((0 : Nat) + Int.toNat (↑i : Int)) (7 : Nat))), AV.v (Value.int IntKind.i64 (g ((0 : Nat) + Int.toNat (↑i : Int)) (8 : Nat)))] (35 : TypeId)] else Res.out Ex.normal [AV.ptr (1 : Nat) (0 : Nat) (0 : Nat) (0 : Nat), AV.sl (2 : Nat) (9 : Nat) (0 : Nat) (0 : Nat) k (some k), AV.v (Value.int IntKind.i64 (↑k : Int)), AV.v (Value.int IntKind.i64 (IntKind.wrap IntKind.i64 ((↑i : Int) + (1 : Int))))] [AB.row false m (9 : Nat) (row9 f) (58 : TypeId), AB.cells [AV.v (Value.int IntKind.i64 (0 : Int)), AV.v (Value.int IntKind.i64 (0 : Int)), AV.v (Value.int IntKind.i64 (0 : Int)), AV.v (Value.int IntKind.i64 (0 : Int)), AV.v (Value.int IntKind.i64 (0 : Int)), AV.v (Value.int IntKind.i64 (0 : Int)), AV.v (Value.int IntKind.i64 (0 : Int)), AV.v (Value.int IntKind.i64 (0 : Int))] (35 : TypeId), AB.row false k (9 : Nat) (row9 g) (58 : TypeId)]) else Res.out (Ex.exit (0 : Nat)) [AV.ptr (1 : Nat) (0 : Nat) (0 : Nat) (0 : Nat)] [AB.row false m (9 : Nat) (row9 f) (58 : TypeId), AB.cells [AV.v (Value.int IntKind.i64 (0 : Int)), AV.v (Value.int IntKind.i64 (0 : Int)), AV.v (Value.int IntKind.i64 (0 : Int)), AV.v (Value.int IntKind.i64 (0 : Int)), AV.v (Value.int IntKind.i64 (0 : Int)), AV.v (Value.int IntKind.i64 (0 : Int)), AV.v (Value.int IntKind.i64 (0 : Int)), AV.v (Value.int IntKind.i64 (0 : Int))] (35 : TypeId)] := by kernel_rfl

noncomputable abbrev lamCI (m : Nat) (f : Nat → Nat → Int) (k : Nat) (g : Nat → Nat → Int) (c : Bool) (a : Nat → Int) : Nat → Option Sum := oneL 0 (atS 29 (lvCI .normal) 1 (stCI k 0) (hpCI m f k g) (fun K => cond c (K .normal (mkT 0 29 [(2, .ptr 1 0 0 0)]) (hpCO m f fun _ => 0)) (K .ret (mkT 0 29 [(2, .ptr 1 0 0 0), (3, .v (.bool true))]) (hpCO m f a))))
theorem treeCI (yI : List Wh → Bool) (tI : List Wh → List Wh) (m : Nat) (f : Nat → Nat → Int) (k : Nat) (g : Nat → Nat → Int) (c : Bool) (a : Nat → Int) : execF Try.prog (gmPt yI tI) (lamCI m f k g c a) 100 fCI [.sl 0 9 0 0 m none] (hpP1 m f) (packK 1)
    = needs [Nat.ble ((0 : Nat) + m) m, allW m fun q ↦ row9 f ((0 : Nat) + q), decide (m ≤ (274877906944 : Nat))] (bif !yI (listW (itW fun q ↦ row9 f ((0 : Nat) + q)) m) then Res.out Ex.ret [AV.tup [AV.agg [AV.v (Value.int IntKind.i64 (0 : Int)), AV.v (Value.int IntKind.i64 (0 : Int)), AV.v (Value.int IntKind.i64 (0 : Int)), AV.v (Value.int IntKind.i64 (0 : Int)), AV.v (Value.int IntKind.i64 (0 : Int)), AV.v (Value.int IntKind.i64 (0 : Int)), AV.v (Value.int IntKind.i64 (0 : Int)), AV.v (Value.int IntKind.i64 (0 : Int))], AV.v (Value.bool false)]] [AB.row false m (9 : Nat) (row9 f) (58 : TypeId)] else needs [chk ([AV.ptr (1 : Nat) (0 : Nat) (0 : Nat) (0 : Nat), AV.sl (2 : Nat) (9 : Nat) (0 : Nat) (0 : Nat) (List.length (tI (listW (itW fun q ↦ row9 f ((0 : Nat) + q)) m))) (some (List.length (tI (listW (itW fun q ↦ row9 f ((0 : Nat) + q)) m)))), AV.v (Value.int IntKind.i64 (↑(List.length (tI (listW (itW fun q ↦ row9 f ((0 : Nat) + q)) m))) : Int)), AV.v (Value.int IntKind.i64 (0 : Int))] = stCI k (0 : Nat) ∧ Hsim [AB.row false m (9 : Nat) (row9 f) (58 : TypeId), AB.cells [AV.v (Value.int IntKind.i64 (0 : Int)), AV.v (Value.int IntKind.i64 (0 : Int)), AV.v (Value.int IntKind.i64 (0 : Int)), AV.v (Value.int IntKind.i64 (0 : Int)), AV.v (Value.int IntKind.i64 (0 : Int)), AV.v (Value.int IntKind.i64 (0 : Int)), AV.v (Value.int IntKind.i64 (0 : Int)), AV.v (Value.int IntKind.i64 (0 : Int))] (35 : Nat), AB.row false (List.length (tI (listW (itW fun q ↦ row9 f ((0 : Nat) + q)) m))) (9 : Nat) (row9 (wfun (tI (listW (itW fun q ↦ row9 f ((0 : Nat) + q)) m)))) (58 : TypeId)] (hpCI m f k g))] (bif c then Res.out Ex.ret [AV.tup [AV.agg [AV.v (Value.int IntKind.i64 (0 : Int)), AV.v (Value.int IntKind.i64 (0 : Int)), AV.v (Value.int IntKind.i64 (0 : Int)), AV.v (Value.int IntKind.i64 (0 : Int)), AV.v (Value.int IntKind.i64 (0 : Int)), AV.v (Value.int IntKind.i64 (0 : Int)), AV.v (Value.int IntKind.i64 (0 : Int)), AV.v (Value.int IntKind.i64 (0 : Int))], AV.v (Value.bool true)]] [AB.row false m (9 : Nat) (row9 f) (58 : TypeId)] else Res.out Ex.ret [AV.tup [AV.agg [AV.v (Value.int IntKind.i64 (a (0 : Nat))), AV.v (Value.int IntKind.i64 (a (1 : Nat))), AV.v (Value.int IntKind.i64 (a (2 : Nat))), AV.v (Value.int IntKind.i64 (a (3 : Nat))), AV.v (Value.int IntKind.i64 (a (4 : Nat))), AV.v (Value.int IntKind.i64 (a (5 : Nat))), AV.v (Value.int IntKind.i64 (a (6 : Nat))), AV.v (Value.int IntKind.i64 (a (7 : Nat)))], AV.v (Value.bool true)]] [AB.row false m (9 : Nat) (row9 f) (58 : TypeId)])) := by kernel_rfl

abbrev lvCS : Ex → List Nat := lv3 [2, 4, 6] [2] [2, 3]
abbrev stCS (k i : Nat) : List AV := [.ptr 1 0 0 0, .own 2 k, .v (i64 i)]
theorem rndCS (m : Nat) (f : Nat → Nat → Int) (k : Nat) (g : Nat → Nat → Int) (i : Nat) : execC Try.prog g0 100 noLam (loopAt 0 fCS) (mkT 0 33 ((lvCS .normal).zip (stCS k i))) (hpCS m f k g) (leafV 33 lvCS 1)
    = bif decide ((↑i : Int) < (↑k : Int)) then needs [decide ((↑i : Int) < (↑k : Int)), decide (Int.toNat (↑i : Int) < k)] (bif g (Int.toNat (↑i : Int)) (0 : Nat) == (0 : Int) then needs [decide ((↑i : Int) < (↑k : Int)), decide (Int.toNat (↑i : Int) < k)] (Res.out Ex.ret [AV.ptr (1 : Nat) (0 : Nat) (0 : Nat) (0 : Nat), AV.v (Value.bool true)] [AB.row false m (9 : Nat) (row9 f) (58 : TypeId), AB.cells [AV.v (Value.int IntKind.i64 (g (Int.toNat (↑i : Int)) (1 : Nat))), AV.v (Value.int IntKind.i64 (g (Int.toNat (↑i : Int)) (2 : Nat))), AV.v (Value.int IntKind.i64 (g (Int.toNat (↑i : Int)) (3 : Nat))), AV.v (Value.int IntKind.i64 (g (Int.toNat (↑i : Int)) (4 : Nat))), AV.v (Value.int IntKind.i64 (g (Int.toNat (↑i : Int)) (5 : Nat))), AV.v (Value.int IntKind.i64 (g (Int.toNat (↑i : Int)) (6 : Nat))), AV.v (Value.int IntKind.i64 (g (Int.toNat (↑i : Int)) (7 : Nat))), AV.v (Value.int IntKind.i64 (g (Int.toNat (↑i : Int)) (8 : Nat)))] (35 : TypeId)]) else Res.out Ex.normal [AV.ptr (1 : Nat) (0 : Nat) (0 : Nat) (0 : Nat), AV.own (2 : Nat) k, AV.v (Value.int IntKind.i64 (IntKind.wrap IntKind.i64 ((↑i : Int) + (1 : Int))))] [AB.row false m (9 : Nat) (row9 f) (58 : TypeId), AB.cells [AV.v (Value.int IntKind.i64 (0 : Int)), AV.v (Value.int IntKind.i64 (0 : Int)), AV.v (Value.int IntKind.i64 (0 : Int)), AV.v (Value.int IntKind.i64 (0 : Int)), AV.v (Value.int IntKind.i64 (0 : Int)), AV.v (Value.int IntKind.i64 (0 : Int)), AV.v (Value.int IntKind.i64 (0 : Int)), AV.v (Value.int IntKind.i64 (0 : Int))] (35 : TypeId), AB.row true k (9 : Nat) (row9 g) (58 : TypeId)]) else Res.out (Ex.exit (0 : Nat)) [AV.ptr (1 : Nat) (0 : Nat) (0 : Nat) (0 : Nat)] [AB.row false m (9 : Nat) (row9 f) (58 : TypeId), AB.cells [AV.v (Value.int IntKind.i64 (0 : Int)), AV.v (Value.int IntKind.i64 (0 : Int)), AV.v (Value.int IntKind.i64 (0 : Int)), AV.v (Value.int IntKind.i64 (0 : Int)), AV.v (Value.int IntKind.i64 (0 : Int)), AV.v (Value.int IntKind.i64 (0 : Int)), AV.v (Value.int IntKind.i64 (0 : Int)), AV.v (Value.int IntKind.i64 (0 : Int))] (35 : TypeId)] := by kernel_rfl

noncomputable abbrev lamCS (m : Nat) (f : Nat → Nat → Int) (k : Nat) (g : Nat → Nat → Int) (c : Bool) (a : Nat → Int) : Nat → Option Sum := oneL 0 (atS 33 (lvCS .normal) 1 (stCS k 0) (hpCS m f k g) (fun K => cond c (K .normal (mkT 0 33 [(2, .ptr 1 0 0 0)]) (hpCO m f fun _ => 0)) (K .ret (mkT 0 33 [(2, .ptr 1 0 0 0), (3, .v (.bool true))]) (hpCO m f a))))
theorem treeCS (yI : List Wh → Bool) (tI : List Wh → List Wh) (m : Nat) (f : Nat → Nat → Int) (k : Nat) (g : Nat → Nat → Int) (c : Bool) (a : Nat → Int) : execF Try.prog (gmPt yI tI) (lamCS m f k g c a) 100 fCS [.sl 0 9 0 0 m none] (hpP1 m f) (packK 1)
    = needs [Nat.ble ((0 : Nat) + m) m, allW m fun q ↦ row9 f ((0 : Nat) + q), decide (m ≤ (274877906944 : Nat))] (bif !yI (listW (itW fun q ↦ row9 f ((0 : Nat) + q)) m) then Res.out Ex.ret [AV.tup [AV.agg [AV.v (Value.int IntKind.i64 (0 : Int)), AV.v (Value.int IntKind.i64 (0 : Int)), AV.v (Value.int IntKind.i64 (0 : Int)), AV.v (Value.int IntKind.i64 (0 : Int)), AV.v (Value.int IntKind.i64 (0 : Int)), AV.v (Value.int IntKind.i64 (0 : Int)), AV.v (Value.int IntKind.i64 (0 : Int)), AV.v (Value.int IntKind.i64 (0 : Int))], AV.v (Value.bool false)]] [AB.row false m (9 : Nat) (row9 f) (58 : TypeId)] else needs [chk ([AV.ptr (1 : Nat) (0 : Nat) (0 : Nat) (0 : Nat), AV.own (2 : Nat) (List.length (tI (listW (itW fun q ↦ row9 f ((0 : Nat) + q)) m))), AV.v (Value.int IntKind.i64 (0 : Int))] = stCS k (0 : Nat) ∧ Hsim [AB.row false m (9 : Nat) (row9 f) (58 : TypeId), AB.cells [AV.v (Value.int IntKind.i64 (0 : Int)), AV.v (Value.int IntKind.i64 (0 : Int)), AV.v (Value.int IntKind.i64 (0 : Int)), AV.v (Value.int IntKind.i64 (0 : Int)), AV.v (Value.int IntKind.i64 (0 : Int)), AV.v (Value.int IntKind.i64 (0 : Int)), AV.v (Value.int IntKind.i64 (0 : Int)), AV.v (Value.int IntKind.i64 (0 : Int))] (35 : Nat), AB.row true (List.length (tI (listW (itW fun q ↦ row9 f ((0 : Nat) + q)) m))) (9 : Nat) (row9 (wfun (tI (listW (itW fun q ↦ row9 f ((0 : Nat) + q)) m)))) (58 : TypeId)] (hpCS m f k g))] (bif c then Res.out Ex.ret [AV.tup [AV.agg [AV.v (Value.int IntKind.i64 (0 : Int)), AV.v (Value.int IntKind.i64 (0 : Int)), AV.v (Value.int IntKind.i64 (0 : Int)), AV.v (Value.int IntKind.i64 (0 : Int)), AV.v (Value.int IntKind.i64 (0 : Int)), AV.v (Value.int IntKind.i64 (0 : Int)), AV.v (Value.int IntKind.i64 (0 : Int)), AV.v (Value.int IntKind.i64 (0 : Int))], AV.v (Value.bool true)]] [AB.row false m (9 : Nat) (row9 f) (58 : TypeId)] else Res.out Ex.ret [AV.tup [AV.agg [AV.v (Value.int IntKind.i64 (a (0 : Nat))), AV.v (Value.int IntKind.i64 (a (1 : Nat))), AV.v (Value.int IntKind.i64 (a (2 : Nat))), AV.v (Value.int IntKind.i64 (a (3 : Nat))), AV.v (Value.int IntKind.i64 (a (4 : Nat))), AV.v (Value.int IntKind.i64 (a (5 : Nat))), AV.v (Value.int IntKind.i64 (a (6 : Nat))), AV.v (Value.int IntKind.i64 (a (7 : Nat)))], AV.v (Value.bool true)]] [AB.row false m (9 : Nat) (row9 f) (58 : TypeId)])) := by kernel_rfl

end Go.Proofs.Ytakimbknciffnaa

/- DesignCentre of both: its word. Conditions: a list of wheels. -/
namespace Go.Proofs.Ytakimbknciffnaa
open Go.RowKit
set_option maxRecDepth 100000

/-- The radius that stands. -/
def cenT (T : List Wh) : Nat → Int := fun k => linS (atSp 0 k) T
def cenV (L : List Wh) : Nat → Int := cenT (tI L)
def badC (T : List Wh) (i : Nat) : Bool := wfun T i 0 == 0
theorem cenT_at {T : List Wh} (hT : isTidy T) {i : Nat} (hi : i < T.length) (h : badC T i = true) : cyC (cenT T) = [.v (i64 (wfun T i 1)), .v (i64 (wfun T i 2)), .v (i64 (wfun T i 3)), .v (i64 (wfun T i 4)), .v (i64 (wfun T i 5)), .v (i64 (wfun T i 6)), .v (i64 (wfun T i 7)), .v (i64 (wfun T i 8))] := by
  have hs : T[i].s = 0 := by
    rw [← spH_at hi]
    exact beq_iff_eq.1 h
  have e : ∀ k, cenT T k = T[i].r.f k := fun k => by
    show linS (atSp 0 k) T = _
    rw [← hs]
    exact atSp_of hT.1 (List.getElem_mem hi)
  show [AV.v (i64 (cenT T 0)), .v (i64 (cenT T 1)), .v (i64 (cenT T 2)), .v (i64 (cenT T 3)), .v (i64 (cenT T 4)), .v (i64 (cenT T 5)), .v (i64 (cenT T 6)), .v (i64 (cenT T 7))] = _
  rw [e, e, e, e, e, e, e, e, wfun_get hi]
  rfl
theorem cenT_no {T : List Wh} (h : noneTo (badC T) T.length = true) : cenT T = fun _ => 0 := by
  funext k
  refine atSp_none fun w hw hs => ?_
  obtain ⟨i, hi, e⟩ := spH_mem hw
  have := noneTo_iff.1 h i hi
  have hb : badC T i = true := by
    unfold badC
    rw [show wfun T i 0 = w.s from e, hs]
    rfl
  rw [hb] at this
  cases this
theorem sumCI (m : Nat) (f : Nat → Nat → Int) (T : List Wh) (hT : isTidy T) :
    SumOk Try.prog 1 (.block 0 (.loop (loopAt 0 fCI))) (atS 29 (lvCI .normal) 1 (stCI T.length 0) (hpCI m f T.length (wfun T)) (fun K => cond (noneTo (badC T) T.length) (K .normal (mkT 0 29 [(2, .ptr 1 0 0 0)]) (hpCO m f fun _ => 0)) (K .ret (mkT 0 29 [(2, .ptr 1 0 0 0), (3, .v (.bool true))]) (hpCO m f (cenT T))))) := by
  refine for_at g0_ok (n := 100) (m := 1) (lv := lvCI) (fun i => stCI T.length i) (fun _ => hpCI m f T.length (wfun T)) (fun i => noneTo (badC T) i = true) T.length (fun _ => noLam) (lv3_ris rfl rfl rfl) (Nat.le_refl _) rfl fun K Q hk i hno hi => ⟨noLam_ok _ _ _, ?_⟩
  have hlen := okD_len (tidy_okD hT)
  rw [rndCI]
  refine good_cond (fun c1 => ?_) fun c1 => ?_
  · have c1 := of_decide_eq_true c1
    have c1' : i < T.length := by omega
    rw [show 0 + Int.toNat (i : Int) = i by omega, wr_in (x := (i : Int) + 1) (by omega)]
    refine good_needs (by simp only [ob_cons, ob_nil, and_true, decide_eq_true_eq]; omega) (good_cond (fun q => ?_) fun q => ?_)
    · refine good_out ⟨hpCO m f (cenT T), ?_, ?_⟩
      · unfold hpCO
        rw [cenT_at hT c1' q]
        exact Hsim.refl _
      · rw [noneTo_no c1' q] at hk
        exact hk
    · exact good_out ⟨i + 1, ⟨rfl, c1', noneTo_succ hno q⟩, rfl, Hsim.refl _⟩
  · have c1 := of_decide_eq_false c1
    have : i = T.length := by omega
    subst this
    refine good_out ⟨_, Hsim.refl _, ?_⟩
    rw [if_pos rfl]
    rw [hno] at hk
    exact hk
theorem sumCS (m : Nat) (f : Nat → Nat → Int) (T : List Wh) (hT : isTidy T) :
    SumOk Try.prog 1 (.block 0 (.loop (loopAt 0 fCS))) (atS 33 (lvCS .normal) 1 (stCS T.length 0) (hpCS m f T.length (wfun T)) (fun K => cond (noneTo (badC T) T.length) (K .normal (mkT 0 33 [(2, .ptr 1 0 0 0)]) (hpCO m f fun _ => 0)) (K .ret (mkT 0 33 [(2, .ptr 1 0 0 0), (3, .v (.bool true))]) (hpCO m f (cenT T))))) := by
  refine for_at g0_ok (n := 100) (m := 1) (lv := lvCS) (fun i => stCS T.length i) (fun _ => hpCS m f T.length (wfun T)) (fun i => noneTo (badC T) i = true) T.length (fun _ => noLam) (lv3_ris rfl rfl rfl) (Nat.le_refl _) rfl fun K Q hk i hno hi => ⟨noLam_ok _ _ _, ?_⟩
  have hlen := okD_len (tidy_okD hT)
  rw [rndCS]
  refine good_cond (fun c1 => ?_) fun c1 => ?_
  · have c1 := of_decide_eq_true c1
    have c1' : i < T.length := by omega
    rw [show Int.toNat (i : Int) = i by omega, wr_in (x := (i : Int) + 1) (by omega)]
    have ob : obls [decide ((i : Int) < T.length), decide (i < T.length)] = true := by simp only [ob_cons, ob_nil, and_true, decide_eq_true_eq]; omega
    refine good_needs ob (good_cond (fun q => ?_) fun q => ?_)
    · refine good_needs ob (good_out ⟨hpCO m f (cenT T), ?_, ?_⟩)
      · unfold hpCO
        rw [cenT_at hT c1' q]
        exact Hsim.refl _
      · rw [noneTo_no c1' q] at hk
        exact hk
    · exact good_out ⟨i + 1, ⟨rfl, c1', noneTo_succ hno q⟩, rfl, Hsim.refl _⟩
  · have c1 := of_decide_eq_false c1
    have : i = T.length := by omega
    subst this
    refine good_out ⟨_, Hsim.refl _, ?_⟩
    rw [if_pos rfl]
    rw [hno] at hk
    exact hk
/-- A point of a list of wheels, and whether there is one. -/
def FptO (v : List Wh → Nat → Int) (yI : List Wh → Bool) : List SA → Option FR
  | [.row m g] => some { val := .tup [.agg (cyC (v (listW (itW g) m))), .v (.bool (yI (listW (itW g) m)))], obl := [allW m g, decide (m ≤ 2 ^ 38)] }
  | _ => none
theorem cenV_no {L : List Wh} (h : yI L = false) : cenV L = fun _ => 0 := by
  rw [cenV, tI_no h]
  rfl
theorem ok_ceI : SpecOk Try.prog 59 (specR md_ws (FptO cenV yI)) := by
  refine specR_hr gmPt_ok Try.func59 rfl fun sas fr hF ho => ?_
  unfold FptO at hF
  split at hF
  · rename_i m g
    cases hF
    simp only [ob_cons] at ho
    obtain ⟨h1, h2, _⟩ := ho
    have hm := of_decide_eq_true h2
    refine ⟨hpP1 m (itW g), _, 100, .cons (ABeq.row fun j hj => allW_get h1 j hj) .nil, lam1 (by kernel_rfl) (sumCI m (itW g) (tI (listW (itW g) m)) (tI_tidy _)), ?_⟩
    show GoodQ (execF Try.prog (gmPt yI tI) (lamCI m (itW g) (tI (listW (itW g) m)).length (wfun (tI (listW (itW g) m))) (noneTo (badC (tI (listW (itW g) m))) (tI (listW (itW g) m)).length) (cenT (tI (listW (itW g) m)))) 100 fCI [.sl 0 9 0 0 m none] (hpP1 m (itW g)) (packK 1)) _
    rw [treeCI]
    simp only [row0, listW_itW]
    refine good_needs (by simp only [ob_cons, ob_nil, and_true, decide_eq_true_eq, Nat.ble_eq, allW_row, true_and]; omega) (good_cond (fun q => ?_) fun q => good_needs ?_ (good_cond (fun q2 => ?_) fun q2 => ?_))
    · have q2 : yI (listW (itW g) m) = false := by simpa using q
      exact good_out ⟨_, rfl, by rw [cenV_no q2, q2], .cons (ABeq.row fun j hj => (allW_get h1 j hj).symm) .nil⟩
    · simp only [ob_cons, ob_nil, and_true]
      exact chk_of ⟨rfl, Hsim.refl _⟩
    · have q' : yI (listW (itW g) m) = true := by simpa using q
      exact good_out ⟨_, rfl, by rw [cenV, cenT_no q2, q'], .cons (ABeq.row fun j hj => (allW_get h1 j hj).symm) .nil⟩
    · have q' : yI (listW (itW g) m) = true := by simpa using q
      exact good_out ⟨_, rfl, by rw [q']; rfl, .cons (ABeq.row fun j hj => (allW_get h1 j hj).symm) .nil⟩
  · cases hF
theorem ok_ceS : SpecOk Try.prog 60 (specR md_ws (FptO cenV yI)) := by
  refine specR_hr gmPt_ok Try.func60 rfl fun sas fr hF ho => ?_
  unfold FptO at hF
  split at hF
  · rename_i m g
    cases hF
    simp only [ob_cons] at ho
    obtain ⟨h1, h2, _⟩ := ho
    have hm := of_decide_eq_true h2
    refine ⟨hpP1 m (itW g), _, 100, .cons (ABeq.row fun j hj => allW_get h1 j hj) .nil, lam1 (by kernel_rfl) (sumCS m (itW g) (tI (listW (itW g) m)) (tI_tidy _)), ?_⟩
    show GoodQ (execF Try.prog (gmPt yI tI) (lamCS m (itW g) (tI (listW (itW g) m)).length (wfun (tI (listW (itW g) m))) (noneTo (badC (tI (listW (itW g) m))) (tI (listW (itW g) m)).length) (cenT (tI (listW (itW g) m)))) 100 fCS [.sl 0 9 0 0 m none] (hpP1 m (itW g)) (packK 1)) _
    rw [treeCS]
    simp only [row0, listW_itW]
    refine good_needs (by simp only [ob_cons, ob_nil, and_true, decide_eq_true_eq, Nat.ble_eq, allW_row, true_and]; omega) (good_cond (fun q => ?_) fun q => good_needs ?_ (good_cond (fun q2 => ?_) fun q2 => ?_))
    · have q2 : yI (listW (itW g) m) = false := by simpa using q
      exact good_out ⟨_, rfl, by rw [cenV_no q2, q2], .cons (ABeq.row fun j hj => (allW_get h1 j hj).symm) .nil⟩
    · simp only [ob_cons, ob_nil, and_true]
      exact chk_of ⟨rfl, Hsim.refl _⟩
    · have q' : yI (listW (itW g) m) = true := by simpa using q
      exact good_out ⟨_, rfl, by rw [cenV, cenT_no q2, q'], .cons (ABeq.row fun j hj => (allW_get h1 j hj).symm) .nil⟩
    · have q' : yI (listW (itW g) m) = true := by simpa using q
      exact good_out ⟨_, rfl, by rw [q']; rfl, .cons (ABeq.row fun j hj => (allW_get h1 j hj).symm) .nil⟩
  · cases hF

end Go.Proofs.Ytakimbknciffnaa

/- Plain laws of designs: the sum over all turns. No program, no conditions. -/
namespace Go.Proofs.Ytakimbknciffnaa
open Go.RowKit

theorem linS_add {φ ψ : Int → (Nat → Int) → Int} : ∀ L : List Wh, linS (fun s f => φ s f + ψ s f) L = linS φ L + linS ψ L
  | [] => rfl
  | w :: l => by
    show φ w.s w.r.f + ψ w.s w.r.f + linS (fun s f => φ s f + ψ s f) l = φ w.s w.r.f + linS φ l + (ψ w.s w.r.f + linS ψ l)
    rw [linS_add l]
    omega
/-- The points of some turns, summed. -/
def sumD (L : List Wh) : Nat → Nat → Int
  | 0 => fun _ => 0
  | t + 1 => fun k => sumD L t k + dAt L t k
def tsum (f : Nat → Int) (s : Int) : Nat → Nat → Int
  | 0 => fun _ => 0
  | t + 1 => fun k => tsum f s t k + tnI f ((t : Int) * s) k
theorem linS_zero : ∀ L : List Wh, linS (fun _ _ => 0) L = 0
  | [] => rfl
  | w :: l => by
    show 0 + linS (fun _ _ => 0) l = 0
    rw [linS_zero l]
    rfl
theorem sumD_lin (L : List Wh) (k : Nat) : ∀ t, sumD L t k = linS (fun s f => tsum f s t k) L
  | 0 => (linS_zero L).symm
  | t + 1 => by
    show sumD L t k + linS (atT t k) L = linS (fun s f => tsum f s t k + atT t k s f) L
    rw [linS_add, sumD_lin L k t]
theorem tsum_lin (k : Nat) : ∀ t, Lin fun s f => tsum f s t k
  | 0 => fun _ _ _ => rfl
  | t + 1 => fun s f g => by
    show tsum (fun k => f k + g k) s t k + tnI (fun k => f k + g k) ((t : Int) * s) k = tsum f s t k + tnI f ((t : Int) * s) k + (tsum g s t k + tnI g ((t : Int) * s) k)
    have ih : tsum (fun k => f k + g k) s t k = tsum f s t k + tsum g s t k := tsum_lin k t s f g
    rw [ih, tnI_add]
    show tsum f s t k + tsum g s t k + (tnI f ((t : Int) * s) k + tnI g ((t : Int) * s) k) = _
    omega
def eB (j : Nat) : Nat → Int := fun i => if i = j then 1 else 0
theorem tnZ_basis (f : Nat → Int) : ∀ (n k : Nat), k < 8 → tnZ f n k = f 0 * tnZ (eB 0) n k + f 1 * tnZ (eB 1) n k + f 2 * tnZ (eB 2) n k + f 3 * tnZ (eB 3) n k + f 4 * tnZ (eB 4) n k + f 5 * tnZ (eB 5) n k + f 6 * tnZ (eB 6) n k + f 7 * tnZ (eB 7) n k
  | 0 => by
    refine forall8 ?_ ?_ ?_ ?_ ?_ ?_ ?_ ?_ <;> simp [tnZ, eB]
  | n + 1 => by
    have ih := tnZ_basis f n
    have s0 : ∀ g : Nat → Int, tnZ g (n + 1) 0 = - tnZ g n 7 := fun _ => rfl
    have s1 : ∀ g : Nat → Int, tnZ g (n + 1) 1 = tnZ g n 0 := fun _ => rfl
    have s2 : ∀ g : Nat → Int, tnZ g (n + 1) 2 = tnZ g n 1 := fun _ => rfl
    have s3 : ∀ g : Nat → Int, tnZ g (n + 1) 3 = tnZ g n 2 := fun _ => rfl
    have s4 : ∀ g : Nat → Int, tnZ g (n + 1) 4 = tnZ g n 3 + tnZ g n 7 := fun _ => rfl
    have s5 : ∀ g : Nat → Int, tnZ g (n + 1) 5 = tnZ g n 4 := fun _ => rfl
    have s6 : ∀ g : Nat → Int, tnZ g (n + 1) 6 = tnZ g n 5 := fun _ => rfl
    have s7 : ∀ g : Nat → Int, tnZ g (n + 1) 7 = tnZ g n 6 := fun _ => rfl
    refine forall8 ?_ ?_ ?_ ?_ ?_ ?_ ?_ ?_
    · simp only [s0, ih 7 (by omega), Int.mul_neg]; omega
    · simp only [s1, ih 0 (by omega)]
    · simp only [s2, ih 1 (by omega)]
    · simp only [s3, ih 2 (by omega)]
    · simp only [s4, ih 3 (by omega), ih 7 (by omega), Int.mul_add]; omega
    · simp only [s5, ih 4 (by omega)]
    · simp only [s6, ih 5 (by omega)]
    · simp only [s7, ih 6 (by omega)]
theorem tsum_basis (f : Nat → Int) (s : Int) (k : Nat) (hk : k < 8) : ∀ t, tsum f s t k = f 0 * tsum (eB 0) s t k + f 1 * tsum (eB 1) s t k + f 2 * tsum (eB 2) s t k + f 3 * tsum (eB 3) s t k + f 4 * tsum (eB 4) s t k + f 5 * tsum (eB 5) s t k + f 6 * tsum (eB 6) s t k + f 7 * tsum (eB 7) s t k
  | 0 => by simp [tsum]
  | t + 1 => by
    have ih := tsum_basis f s k hk t
    have e : ∀ g : Nat → Int, tsum g s (t + 1) k = tsum g s t k + tnZ g (((t : Int) * s) % 24).toNat k := fun _ => rfl
    simp only [e, Int.mul_add, ih, tnZ_basis f (((t : Int) * s) % 24).toNat k hk]
    omega
theorem tsum_mod (f : Nat → Int) (s : Int) (k : Nat) : ∀ t, tsum f s t k = tsum f (s % 24) t k
  | 0 => rfl
  | t + 1 => by
    show tsum f s t k + tnI f ((t : Int) * s) k = tsum f (s % 24) t k + tnI f ((t : Int) * (s % 24)) k
    rw [tsum_mod f s k t, Int.mul_comm (t : Int) (s % 24), tnI_mulmod, Int.mul_comm s]
set_option maxRecDepth 100000 in
theorem tsum_decide : ∀ s, s < 24 → s ≠ 0 → ∀ j, j < 8 → ∀ k, k < 8 → tsum (eB j) ((s : Nat) : Int) 24 k = 0 := by
  decide +kernel
theorem tsum_none {f : Nat → Int} {s : Int} (h : s % 24 ≠ 0) {k : Nat} (hk : k < 8) : tsum f s 24 k = 0 := by
  rw [tsum_mod]
  obtain ⟨n, hn⟩ : ∃ n : Nat, (n : Int) = s % 24 := ⟨(s % 24).toNat, by omega⟩
  have d := fun j hj => tsum_decide n (by omega) (by omega) j hj k hk
  rw [← hn, tsum_basis f _ k hk, d 0 (by omega), d 1 (by omega), d 2 (by omega), d 3 (by omega), d 4 (by omega), d 5 (by omega), d 6 (by omega), d 7 (by omega)]
  simp
theorem tsum_stand (f : Nat → Int) (k : Nat) : ∀ t : Nat, tsum f 0 t k = (t : Int) * f k
  | 0 => by simp [tsum]
  | t + 1 => by
    show tsum f 0 t k + tnI f ((t : Int) * 0) k = _
    rw [tsum_stand f k t, Int.mul_zero, tnI_zero]
    rw [show ((t + 1 : Nat) : Int) = (t : Int) + 1 by omega, Int.add_mul, Int.one_mul]
theorem linS_smul {φ : Int → (Nat → Int) → Int} (c : Int) : ∀ L : List Wh, linS (fun s f => c * φ s f) L = c * linS φ L
  | [] => by show (0 : Int) = c * 0; omega
  | w :: l => by
    show c * φ w.s w.r.f + linS (fun s f => c * φ s f) l = c * (φ w.s w.r.f + linS φ l)
    rw [linS_smul c l, Int.mul_add]
/-- The points of all turns add up to the radius that stands, 24 times. -/
theorem law_centre {L : List Wh} (hy : yI L = true) (hs : ∀ w ∈ tI L, -23 ≤ w.s ∧ w.s ≤ 23) {k : Nat} (hk : k < 8) : sumD L 24 k = 24 * cenV L k := by
  rw [sumD_lin, ← (tI_spec hy).2.2 _ (tsum_lin k 24)]
  show _ = 24 * linS (atSp 0 k) (tI L)
  rw [← linS_smul]
  refine linS_congr fun w hw => ?_
  have := hs w hw
  show tsum w.r.f w.s 24 k = 24 * atSp 0 k w.s w.r.f
  unfold atSp
  by_cases h0 : w.s = 0
  · rw [if_pos h0, h0, tsum_stand]
    rfl
  · rw [if_neg h0, tsum_none (by omega) hk]
    rfl

end Go.Proofs.Ytakimbknciffnaa

/- l92Design: its trees. Conditions: those of pick. -/
namespace Go.Proofs.Ytakimbknciffnaa
open Go.RowKit
set_option maxRecDepth 100000

noncomputable abbrev fD2 : Func := Try.f99
def gmD2 (pk : Nat → (Nat → Int) → Int → Int → Int) (cf : Nat → (Nat → Int) → Int → Nat → Int) (cp : Nat → (Nat → Int) → Int → Int) : Gam := ext (gmPk pk) 110 (specK [] (FcyO cf cp))
abbrev lvD2 : Ex → List Nat := lv3 [0, 5, 6, 7, 8, 9] [7] [2]
abbrev stD2 (st fi : Int) (n : Nat) (i : Nat) : List AV := [.ptr 0 0 0 0, .v (i64 st), .v (i64 fi), .own 2 i, .v (i64 n), .v (i64 i)]
theorem rndD2 (pk : Nat → (Nat → Int) → Int → Int → Int) (cf : Nat → (Nat → Int) → Int → Nat → Int) (cp : Nat → (Nat → Int) → Int → Int) (l : Nat) (c : Option Nat) (p : Int) (m : Nat) (b : Nat → Int) (tr tb : TypeId) (h : Nat → Nat → Int) (st fi : Int) (n : Nat) (i : Nat) : execC Try.prog (gmD2 pk cf cp) 100 noLam (loopAt 1 fD2) (mkT 0 65 ((lvD2 .normal).zip (stD2 st fi n i))) (hpDs l c p m b tr tb i h) (leafV 65 lvD2 2)
    = bif decide ((↑i : Int) < (↑n : Int)) then needs [okB m (rowB b), decide (l ≤ m), decide ((0 : Int) ≤ p), decide (p ≤ (1073741824 : Int)), decide ((0 : Nat) < m), okB m (rowB b), decide (l ≤ m), decide ((0 : Int) ≤ p + (1 : Int)), decide (p + (1 : Int) ≤ (536870912 : Int)), decide ((0 : Nat) < m), decide ((0 : Nat) < m), Nat.ble i i, Nat.ble (i + (1 : Nat)) (549755813888 : Nat)] (Res.out Ex.normal [AV.ptr (0 : Nat) (0 : Nat) (0 : Nat) (0 : Nat), AV.v (Value.int IntKind.i64 st), AV.v (Value.int IntKind.i64 fi), AV.own (2 : Nat) (i + (1 : Nat)), AV.v (Value.int IntKind.i64 (↑n : Int)), AV.v (Value.int IntKind.i64 (IntKind.wrap IntKind.i64 ((↑i : Int) + (1 : Int))))] [AB.cells [AV.sl (1 : Nat) (1 : Nat) (0 : Nat) (0 : Nat) l c, AV.v (Value.int IntKind.i64 (cp l (itB (rowB b)) (p + (1 : Int))))] tr, AB.row false m (1 : Nat) (rowB b) tb, AB.row true (i + (1 : Nat)) (9 : Nat) (fun q ↦ [Value.int IntKind.i64 (bif Nat.blt q i then h q (0 : Nat) else IntKind.wrap IntKind.i64 (fi + IntKind.wrap IntKind.i64 (st * IntKind.wrap IntKind.i64 (pk l (itB (rowB b)) p (5 : Int) - (2 : Int))))), Value.int IntKind.i64 (bif Nat.blt q i then h q (1 : Nat) else cf l (itB (rowB b)) (p + (1 : Int)) (0 : Nat)), Value.int IntKind.i64 (bif Nat.blt q i then h q (2 : Nat) else cf l (itB (rowB b)) (p + (1 : Int)) (1 : Nat)), Value.int IntKind.i64 (bif Nat.blt q i then h q (3 : Nat) else cf l (itB (rowB b)) (p + (1 : Int)) (2 : Nat)), Value.int IntKind.i64 (bif Nat.blt q i then h q (4 : Nat) else cf l (itB (rowB b)) (p + (1 : Int)) (3 : Nat)), Value.int IntKind.i64 (bif Nat.blt q i then h q (5 : Nat) else cf l (itB (rowB b)) (p + (1 : Int)) (4 : Nat)), Value.int IntKind.i64 (bif Nat.blt q i then h q (6 : Nat) else cf l (itB (rowB b)) (p + (1 : Int)) (5 : Nat)), Value.int IntKind.i64 (bif Nat.blt q i then h q (7 : Nat) else cf l (itB (rowB b)) (p + (1 : Int)) (6 : Nat)), Value.int IntKind.i64 (bif Nat.blt q i then h q (8 : Nat) else cf l (itB (rowB b)) (p + (1 : Int)) (7 : Nat))]) (58 : Nat)]) else Res.out (Ex.exit (1 : Nat)) [AV.own (2 : Nat) i] [AB.cells [AV.sl (1 : Nat) (1 : Nat) (0 : Nat) (0 : Nat) l c, AV.v (Value.int IntKind.i64 p)] tr, AB.row false m (1 : Nat) (rowB b) tb, AB.row true i (9 : Nat) (row9 h) (58 : TypeId)] := by kernel_rfl

noncomputable abbrev lamD2 (l : Nat) (c : Option Nat) (m : Nat) (b : Nat → Int) (tr tb : TypeId) (st fi : Int) (n : Nat) (p1 p2 : Int) (h : Nat → Nat → Int) : Nat → Option Sum := oneL 1 (atS 65 (lvD2 .normal) 2 (stD2 st fi n 0) (hpDs l c p1 m b tr tb 0 (wfun [])) (fun K => K .normal (mkT 0 65 [(7, .own 2 n)]) (hpDs l c p2 m b tr tb n h)))
def gmE2D (pk : Nat → (Nat → Int) → Int → Int → Int) (dl : Nat → (Nat → Int) → Int → List Wh) (dp : Nat → (Nat → Int) → Int → Int) (rd : Int → Int → Bool → Int → List Wh) (ro : Int → Int → Bool → Int → Bool) : Gam := ext (ext (gmPk pk) 70 (specK [] (FdgO dl dp))) 130 (specR [.val, .val, .val, .val] (FrdO rd ro))
theorem treeD2 (pk : Nat → (Nat → Int) → Int → Int → Int) (dl : Nat → (Nat → Int) → Int → List Wh) (dp : Nat → (Nat → Int) → Int → Int) (rd : Int → Int → Bool → Int → List Wh) (ro : Int → Int → Bool → Int → Bool) (l : Nat) (c : Option Nat) (p : Int) (m : Nat) (b : Nat → Int) (tr tb : TypeId) (st fi : Int) (n : Nat) (p1 p2 : Int) (h : Nat → Nat → Int) : execF Try.prog (gmE2D pk dl dp rd ro) (lamD2 l c m b tr tb st fi n p1 p2 h) 100 fD2 [.ptr 0 0 0 0] (hpRd l c p m b tr tb) (packK 2)
    = needs [okB m (rowB b), decide (l ≤ m), decide ((0 : Int) ≤ p), decide (p ≤ (1073741824 : Int)), decide ((0 : Nat) < m)] (bif pk l (itB (rowB b)) p (4 : Int) == (0 : Int) then needs [okB m (rowB b), decide (l ≤ m), decide ((0 : Int) ≤ p + (1 : Int)), decide (p + (1 : Int) ≤ (134217728 : Int)), decide ((0 : Nat) < m), decide ((0 : Nat) < m)] (Res.out Ex.ret [AV.own (2 : Nat) (List.length (dl l (itB (rowB b)) (p + (1 : Int))))] [AB.cells [AV.sl (1 : Nat) (1 : Nat) (0 : Nat) (0 : Nat) l c, AV.v (Value.int IntKind.i64 (dp l (itB (rowB b)) (p + (1 : Int))))] tr, AB.row false m (1 : Nat) (rowB b) tb, AB.row true (List.length (dl l (itB (rowB b)) (p + (1 : Int)))) (9 : Nat) (row9 (wfun (dl l (itB (rowB b)) (p + (1 : Int))))) (58 : TypeId)]) else bif pk l (itB (rowB b)) p (4 : Int) == (1 : Int) then needs [okB m (rowB b), decide (l ≤ m), decide ((0 : Int) ≤ p + (1 : Int)), decide (p + (1 : Int) ≤ (1073741824 : Int)), decide ((0 : Nat) < m), okB m (rowB b), decide (l ≤ m), decide ((0 : Int) ≤ p + (1 : Int) + (1 : Int)), decide (p + (1 : Int) + (1 : Int) ≤ (1073741824 : Int)), decide ((0 : Nat) < m), okB m (rowB b), decide (l ≤ m), decide ((0 : Int) ≤ p + (1 : Int) + (1 : Int) + (1 : Int)), decide (p + (1 : Int) + (1 : Int) + (1 : Int) ≤ (1073741824 : Int)), decide ((0 : Nat) < m), okB m (rowB b), decide (l ≤ m), decide ((0 : Int) ≤ p + (1 : Int) + (1 : Int) + (1 : Int) + (1 : Int)), decide (p + (1 : Int) + (1 : Int) + (1 : Int) + (1 : Int) ≤ (1073741824 : Int)), decide ((0 : Nat) < m)] (bif ro (IntKind.wrap IntKind.i64 ((6 : Int) + pk l (itB (rowB b)) (p + (1 : Int)) (30 : Int))) (IntKind.wrap IntKind.i64 ((6 : Int) + pk l (itB (rowB b)) (p + (1 : Int) + (1 : Int)) (12 : Int))) (pk l (itB (rowB b)) (p + (1 : Int) + (1 : Int) + (1 : Int)) (2 : Int) == (0 : Int)) (IntKind.wrap IntKind.i64 (pk l (itB (rowB b)) (p + (1 : Int) + (1 : Int) + (1 : Int) + (1 : Int)) (20 : Int) - (10 : Int))) then Res.out Ex.ret [AV.own (2 : Nat) (List.length (rd (IntKind.wrap IntKind.i64 ((6 : Int) + pk l (itB (rowB b)) (p + (1 : Int)) (30 : Int))) (IntKind.wrap IntKind.i64 ((6 : Int) + pk l (itB (rowB b)) (p + (1 : Int) + (1 : Int)) (12 : Int))) (pk l (itB (rowB b)) (p + (1 : Int) + (1 : Int) + (1 : Int)) (2 : Int) == (0 : Int)) (IntKind.wrap IntKind.i64 (pk l (itB (rowB b)) (p + (1 : Int) + (1 : Int) + (1 : Int) + (1 : Int)) (20 : Int) - (10 : Int)))))] [AB.cells [AV.sl (1 : Nat) (1 : Nat) (0 : Nat) (0 : Nat) l c, AV.v (Value.int IntKind.i64 (p + (1 : Int) + (1 : Int) + (1 : Int) + (1 : Int) + (1 : Int)))] tr, AB.row false m (1 : Nat) (rowB b) tb, AB.row true (List.length (rd (IntKind.wrap IntKind.i64 ((6 : Int) + pk l (itB (rowB b)) (p + (1 : Int)) (30 : Int))) (IntKind.wrap IntKind.i64 ((6 : Int) + pk l (itB (rowB b)) (p + (1 : Int) + (1 : Int)) (12 : Int))) (pk l (itB (rowB b)) (p + (1 : Int) + (1 : Int) + (1 : Int)) (2 : Int) == (0 : Int)) (IntKind.wrap IntKind.i64 (pk l (itB (rowB b)) (p + (1 : Int) + (1 : Int) + (1 : Int) + (1 : Int)) (20 : Int) - (10 : Int))))) (9 : Nat) (row9 (wfun (rd (IntKind.wrap IntKind.i64 ((6 : Int) + pk l (itB (rowB b)) (p + (1 : Int)) (30 : Int))) (IntKind.wrap IntKind.i64 ((6 : Int) + pk l (itB (rowB b)) (p + (1 : Int) + (1 : Int)) (12 : Int))) (pk l (itB (rowB b)) (p + (1 : Int) + (1 : Int) + (1 : Int)) (2 : Int) == (0 : Int)) (IntKind.wrap IntKind.i64 (pk l (itB (rowB b)) (p + (1 : Int) + (1 : Int) + (1 : Int) + (1 : Int)) (20 : Int) - (10 : Int)))))) (58 : TypeId)] else needs [okB m (rowB b), decide (l ≤ m), decide ((0 : Int) ≤ p + (1 : Int) + (1 : Int) + (1 : Int) + (1 : Int) + (1 : Int)), decide (p + (1 : Int) + (1 : Int) + (1 : Int) + (1 : Int) + (1 : Int) ≤ (1073741824 : Int)), decide ((0 : Nat) < m), okB m (rowB b), decide (l ≤ m), decide ((0 : Int) ≤ p + (1 : Int) + (1 : Int) + (1 : Int) + (1 : Int) + (1 : Int) + (1 : Int)), decide (p + (1 : Int) + (1 : Int) + (1 : Int) + (1 : Int) + (1 : Int) + (1 : Int) ≤ (1073741824 : Int)), decide ((0 : Nat) < m), okB m (rowB b), decide (l ≤ m), decide ((0 : Int) ≤ p + (1 : Int) + (1 : Int) + (1 : Int) + (1 : Int) + (1 : Int) + (1 : Int) + (1 : Int)), decide (p + (1 : Int) + (1 : Int) + (1 : Int) + (1 : Int) + (1 : Int) + (1 : Int) + (1 : Int) ≤ (1073741824 : Int)), decide ((0 : Nat) < m), chk ([AV.ptr (0 : Nat) (0 : Nat) (0 : Nat) (0 : Nat), AV.v (Value.int IntKind.i64 (IntKind.wrap IntKind.i64 ((1 : Int) + pk l (itB (rowB b)) (p + (1 : Int) + (1 : Int) + (1 : Int) + (1 : Int) + (1 : Int)) (4 : Int)))), AV.v (Value.int IntKind.i64 (IntKind.wrap IntKind.i64 (pk l (itB (rowB b)) (p + (1 : Int) + (1 : Int) + (1 : Int) + (1 : Int) + (1 : Int) + (1 : Int)) (5 : Int) - (2 : Int)))), AV.own (2 : Nat) (0 : Nat), AV.v (Value.int IntKind.i64 (IntKind.wrap IntKind.i64 ((1 : Int) + pk l (itB (rowB b)) (p + (1 : Int) + (1 : Int) + (1 : Int) + (1 : Int) + (1 : Int) + (1 : Int) + (1 : Int)) (3 : Int)))), AV.v (Value.int IntKind.i64 (0 : Int))] = stD2 st fi n (0 : Nat) ∧ Hsim [AB.cells [AV.sl (1 : Nat) (1 : Nat) (0 : Nat) (0 : Nat) l c, AV.v (Value.int IntKind.i64 (p + (1 : Int) + (1 : Int) + (1 : Int) + (1 : Int) + (1 : Int) + (1 : Int) + (1 : Int) + (1 : Int)))] tr, AB.row false m (1 : Nat) (rowB b) tb, AB.row true (0 : Nat) (9 : Nat) (fun _ ↦ []) (58 : Nat)] (hpDs l c p1 m b tr tb (0 : Nat) (wfun [])))] (Res.out Ex.ret [AV.own (2 : Nat) n] [AB.cells [AV.sl (1 : Nat) (1 : Nat) (0 : Nat) (0 : Nat) l c, AV.v (Value.int IntKind.i64 p2)] tr, AB.row false m (1 : Nat) (rowB b) tb, AB.row true n (9 : Nat) (row9 h) (58 : TypeId)])) else needs [okB m (rowB b), decide (l ≤ m), decide ((0 : Int) ≤ p + (1 : Int)), decide (p + (1 : Int) ≤ (1073741824 : Int)), decide ((0 : Nat) < m), okB m (rowB b), decide (l ≤ m), decide ((0 : Int) ≤ p + (1 : Int) + (1 : Int)), decide (p + (1 : Int) + (1 : Int) ≤ (1073741824 : Int)), decide ((0 : Nat) < m), okB m (rowB b), decide (l ≤ m), decide ((0 : Int) ≤ p + (1 : Int) + (1 : Int) + (1 : Int)), decide (p + (1 : Int) + (1 : Int) + (1 : Int) ≤ (1073741824 : Int)), decide ((0 : Nat) < m), chk ([AV.ptr (0 : Nat) (0 : Nat) (0 : Nat) (0 : Nat), AV.v (Value.int IntKind.i64 (IntKind.wrap IntKind.i64 ((1 : Int) + pk l (itB (rowB b)) (p + (1 : Int)) (4 : Int)))), AV.v (Value.int IntKind.i64 (IntKind.wrap IntKind.i64 (pk l (itB (rowB b)) (p + (1 : Int) + (1 : Int)) (5 : Int) - (2 : Int)))), AV.own (2 : Nat) (0 : Nat), AV.v (Value.int IntKind.i64 (IntKind.wrap IntKind.i64 ((1 : Int) + pk l (itB (rowB b)) (p + (1 : Int) + (1 : Int) + (1 : Int)) (3 : Int)))), AV.v (Value.int IntKind.i64 (0 : Int))] = stD2 st fi n (0 : Nat) ∧ Hsim [AB.cells [AV.sl (1 : Nat) (1 : Nat) (0 : Nat) (0 : Nat) l c, AV.v (Value.int IntKind.i64 (p + (1 : Int) + (1 : Int) + (1 : Int) + (1 : Int)))] tr, AB.row false m (1 : Nat) (rowB b) tb, AB.row true (0 : Nat) (9 : Nat) (fun _ ↦ []) (58 : Nat)] (hpDs l c p1 m b tr tb (0 : Nat) (wfun [])))] (Res.out Ex.ret [AV.own (2 : Nat) n] [AB.cells [AV.sl (1 : Nat) (1 : Nat) (0 : Nat) (0 : Nat) l c, AV.v (Value.int IntKind.i64 p2)] tr, AB.row false m (1 : Nat) (rowB b) tb, AB.row true n (9 : Nat) (row9 h) (58 : TypeId)])) := by kernel_rfl

end Go.Proofs.Ytakimbknciffnaa

/- l92Design: a list of wheels, whatever the bytes are. Conditions: those of pick. -/
namespace Go.Proofs.Ytakimbknciffnaa
open Go.RowKit
set_option maxRecDepth 100000

/-- Where the reader is after some wheels, and these. -/
noncomputable def d2L (st fi : Int) (l : Nat) (b : Nat → Int) (p : Int) : Nat → List Wh
  | 0 => []
  | i + 1 => d2L st fi l b p i ++ [⟨W (fi + W (st * W (pkV l b (dsP l b p i) 5 - 2))), cyOf (cyF l b (dsP l b p i + 1))⟩]
theorem d2L_len (st fi : Int) (l : Nat) (b : Nat → Int) (p : Int) : ∀ i : Nat, (d2L st fi l b p i).length = i
  | 0 => rfl
  | i + 1 => by
    show (d2L st fi l b p i ++ [_]).length = i + 1
    rw [List.length_append, d2L_len st fi l b p i]
    rfl
theorem gmD2_ok : GamOk Try.prog (gmD2 pkV cyF cyP) := ext_ok (ext_ok g0_ok ok_pick) ok_cyc
theorem gmE2D_ok : GamOk Try.prog (gmE2D pkV dgL dgP rnL rnO) := ext_ok (ext_ok (ext_ok g0_ok ok_pick) ok_design) ok_rd
theorem sumD2 (l : Nat) (c : Option Nat) (p : Int) (m : Nat) (b : Nat → Int) (tr tb : TypeId) (st fi : Int) (N : Nat) (hN : N ≤ 3) (hb : okB m (rowB b) = true) (hl : l ≤ m) (h0 : 0 ≤ p) (h1 : p ≤ 2 ^ 28) (hm : 0 < m) :
    SumOk Try.prog 2 (.block 1 (.loop (loopAt 1 fD2))) (atS 65 (lvD2 .normal) 2 (stD2 st fi N 0) (hpDs l c p m b tr tb 0 (wfun [])) (fun K => K .normal (mkT 0 65 [(7, .own 2 N)]) (hpDs l c (dsP l b p N) m b tr tb N (wfun (d2L st fi l b p N))))) := by
  refine for_at gmD2_ok (n := 100) (m := 2) (lv := lvD2) (fun i => stD2 st fi N i) (fun i => hpDs l c (dsP l b p i) m b tr tb i (wfun (d2L st fi l b p i))) (fun _ => True) N (fun _ => noLam) (lv3_ris rfl rfl rfl) (Nat.le_refl _) trivial fun K Q hk i _ hi => ⟨noLam_ok _ _ _, ?_⟩
  rw [rndD2]
  have hp := dsP_in l b p i
  refine good_cond (fun c1 => ?_) fun c1 => ?_
  · have c1 := of_decide_eq_true c1
    refine good_needs ?_ (good_out ⟨i + 1, ⟨rfl, by omega, trivial⟩, ?_, ?_⟩)
    · simp only [ob_cons, ob_nil, and_true, decide_eq_true_eq, Nat.ble_eq, hb, true_and]
      omega
    · rw [wr_in (x := (i : Int) + 1) (by omega)]
      rfl
    · refine .cons (ABeq.refl _) (.cons (ABeq.refl _) (.cons (ABeq.row fun q hq => ?_) .nil))
      exact ch_row (d2L st fi l b p i) ⟨W (fi + W (st * W (pkV l b (dsP l b p i) 5 - 2))), cyOf (cyF l b (dsP l b p i + 1))⟩ i (d2L_len st fi l b p i) q hq
  · have c1 := of_decide_eq_false c1
    have : i = N := by omega
    subst this
    refine good_out ⟨_, Hsim.refl _, ?_⟩
    rw [if_pos rfl]
    exact hk

theorem d2_ex (l : Nat) (b : Nat → Int) (p : Int) : ∃ (L : List Wh) (p' : Int), (p ≤ p' ∧ p' ≤ p + 70) ∧ L.length ≤ 12 ∧ ∀ (c : Option Nat) (m : Nat) (tr tb : TypeId), okB m (rowB b) = true → l ≤ m → 0 ≤ p → p ≤ 2 ^ 26 → 0 < m → ∃ Λ, (∀ cc, fD2.body = some cc → LamOk Try.prog 2 Λ cc) ∧
    GoodQ (execF Try.prog (gmE2D pkV dgL dgP rnL rnO) Λ 100 fD2 [.ptr 0 0 0 0] (hpRd l c p m b tr tb) (packK 2)) (fun _ vs He => vs = [.own 2 L.length] ∧ Hsim He (hpDs l c p' m b tr tb L.length (wfun L))) := by
  have pn := fun q n => pkV_nn l b q n
  have num : ∀ q : Int, ∃ N : Nat, (N : Int) = 1 + pkV l b q 3 ∧ N ≤ 3 := fun q => by
    have := pn q 3
    have := pkV_lt l b q (n := 3) (by omega)
    exact ⟨(1 + pkV l b q 3).toNat, by omega, by omega⟩
  have lam : ∀ (q : Int) (st fi : Int) (N : Nat), N ≤ 3 → p ≤ q → q ≤ p + 20 → ∀ (c : Option Nat) (m : Nat) (tr tb : TypeId), okB m (rowB b) = true → l ≤ m → 0 ≤ p → p ≤ 2 ^ 26 → 0 < m → (∀ cc, fD2.body = some cc → LamOk Try.prog 2 (lamD2 l c m b tr tb st fi N q (dsP l b q N) (wfun (d2L st fi l b q N))) cc) :=
    fun q st fi N hN h1 h2 c m tr tb hb hl h0 h3 hm => lam1 (by kernel_rfl) (sumD2 l c q m b tr tb st fi N hN hb hl (by omega) (by omega) hm)
  have n0 := pn p 4
  by_cases c0 : pkV l b p 4 = 0
  · have hp := dgP_in l b (p + 1)
    refine ⟨dgL l b (p + 1), dgP l b (p + 1), by omega, dgL_len _ _ _, fun c m tr tb hb hl h0 h1 hm => ⟨_, lam p 0 0 0 (by omega) (by omega) (by omega) c m tr tb hb hl h0 h1 hm, ?_⟩⟩
    rw [treeD2]
    exact good_needs (obP hb hl hm h0 (by omega)) (good_true (beq_iff_eq.2 c0) (good_needs (by simp only [ob_cons, ob_nil, and_true, decide_eq_true_eq, itB_row, hb, true_and]; omega) (good_out ⟨rfl, Hsim.refl _⟩)))
  · -- the steps, from q on
    have steps : ∀ (q : Int), p + 1 ≤ q → q ≤ p + 5 → ∃ (N : Nat) (L : List Wh) (p' : Int), N ≤ 3 ∧ (N : Int) = 1 + pkV l b (q + 1 + 1) 3 ∧ L = d2L (W (1 + pkV l b q 4)) (W (pkV l b (q + 1) 5 - 2)) l b (q + 1 + 1 + 1) N ∧ p' = dsP l b (q + 1 + 1 + 1) N ∧ (p ≤ p' ∧ p' ≤ p + 70) ∧ L.length = N := fun q h1 h2 => by
      obtain ⟨N, e1, e2⟩ := num (q + 1 + 1)
      have hp := dsP_in l b (q + 1 + 1 + 1) N
      exact ⟨N, _, _, e2, e1, rfl, rfl, by omega, d2L_len _ _ _ _ _ _⟩
    have ob : ∀ (q : Int) (c : Option Nat) (m : Nat) (tr tb : TypeId) (N : Nat), (N : Int) = 1 + pkV l b (q + 1 + 1) 3 → p + 1 ≤ q → q ≤ p + 5 → okB m (rowB b) = true → l ≤ m → 0 ≤ p → p ≤ 2 ^ 26 → 0 < m → obls [okB m (rowB b), decide (l ≤ m), decide (0 ≤ q), decide (q ≤ 1073741824), decide (0 < m), okB m (rowB b), decide (l ≤ m), decide (0 ≤ q + 1), decide (q + 1 ≤ 1073741824), decide (0 < m), okB m (rowB b), decide (l ≤ m), decide (0 ≤ q + 1 + 1), decide (q + 1 + 1 ≤ 1073741824), decide (0 < m), chk ([AV.ptr 0 0 0 0, AV.v (i64 (W (1 + pkV l b q 4))), AV.v (i64 (W (pkV l b (q + 1) 5 - 2))), AV.own 2 0, AV.v (i64 (W (1 + pkV l b (q + 1 + 1) 3))), AV.v (i64 0)] = stD2 (W (1 + pkV l b q 4)) (W (pkV l b (q + 1) 5 - 2)) N 0 ∧ Hsim [AB.cells [AV.sl 1 1 0 0 l c, AV.v (i64 (q + 1 + 1 + 1))] tr, AB.row false m 1 (rowB b) tb, AB.row true 0 9 (fun _ => []) 58] (hpDs l c (q + 1 + 1 + 1) m b tr tb 0 (wfun [])))] = true := fun q c m tr tb N e1 h1 h2 hb hl h0 h3 hm => by
      have := pn (q + 1 + 1) 3
      have := pkV_lt l b (q + 1 + 1) (n := 3) (by omega)
      simp only [ob_cons, ob_nil, and_true, decide_eq_true_eq, hb, true_and]
      refine ⟨by omega, by omega, by omega, by omega, by omega, by omega, by omega, by omega, by omega, by omega, by omega, by omega, chk_of ⟨?_, .cons (ABeq.refl _) (.cons (ABeq.refl _) (.cons (ABeq.row fun j hj => absurd hj (Nat.not_lt_zero _)) .nil))⟩⟩
      rw [w64_in (x := 1 + pkV l b (q + 1 + 1) 3) (by omega) (by omega), ← e1]
      rfl
    by_cases c1 : pkV l b p 4 = 1
    · have a1 := pn (p + 1) 30
      have a1' := pkV_lt l b (p + 1) (n := 30) (by omega)
      have a2 := pn (p + 1 + 1) 12
      have a2' := pkV_lt l b (p + 1 + 1) (n := 12) (by omega)
      have a3 := pn (p + 1 + 1 + 1 + 1) 20
      have a3' := pkV_lt l b (p + 1 + 1 + 1 + 1) (n := 20) (by omega)
      have ob5 : ∀ (m : Nat), okB m (rowB b) = true → l ≤ m → 0 ≤ p → p ≤ 2 ^ 26 → 0 < m → obls [okB m (rowB b), decide (l ≤ m), decide (0 ≤ p + 1), decide (p + 1 ≤ 1073741824), decide (0 < m), okB m (rowB b), decide (l ≤ m), decide (0 ≤ p + 1 + 1), decide (p + 1 + 1 ≤ 1073741824), decide (0 < m), okB m (rowB b), decide (l ≤ m), decide (0 ≤ p + 1 + 1 + 1), decide (p + 1 + 1 + 1 ≤ 1073741824), decide (0 < m), okB m (rowB b), decide (l ≤ m), decide (0 ≤ p + 1 + 1 + 1 + 1), decide (p + 1 + 1 + 1 + 1 ≤ 1073741824), decide (0 < m)] = true := fun m hb hl h0 h1 hm => by
        simp only [ob_cons, ob_nil, and_true, decide_eq_true_eq, hb, true_and]
        omega
      cases hr : rnO (W (6 + pkV l b (p + 1) 30)) (W (6 + pkV l b (p + 1 + 1) 12)) (pkV l b (p + 1 + 1 + 1) 2 == 0) (W (pkV l b (p + 1 + 1 + 1 + 1) 20 - 10)) with
      | true =>
        refine ⟨rnL (W (6 + pkV l b (p + 1) 30)) (W (6 + pkV l b (p + 1 + 1) 12)) (pkV l b (p + 1 + 1 + 1) 2 == 0) (W (pkV l b (p + 1 + 1 + 1 + 1) 20 - 10)), p + 1 + 1 + 1 + 1 + 1, by omega, rnL_len _ _ _ _, fun c m tr tb hb hl h0 h1 hm => ⟨_, lam p 0 0 0 (by omega) (by omega) (by omega) c m tr tb hb hl h0 h1 hm, ?_⟩⟩
        rw [treeD2]
        exact good_needs (obP hb hl hm h0 (by omega)) (good_false (beq_eq_false_iff_ne.2 c0) (good_true (beq_iff_eq.2 c1) (good_needs (ob5 m hb hl h0 h1 hm) (good_true hr (good_out ⟨rfl, Hsim.refl _⟩)))))
      | false =>
        obtain ⟨N, L, p', e2, e1, rfl, rfl, hp, hlen⟩ := steps (p + 1 + 1 + 1 + 1 + 1) (by omega) (by omega)
        refine ⟨d2L (W (1 + pkV l b (p + 1 + 1 + 1 + 1 + 1) 4)) (W (pkV l b (p + 1 + 1 + 1 + 1 + 1 + 1) 5 - 2)) l b (p + 1 + 1 + 1 + 1 + 1 + 1 + 1 + 1) N, _, hp, by omega, fun c m tr tb hb hl h0 h1 hm => ⟨_, lam (p + 1 + 1 + 1 + 1 + 1 + 1 + 1 + 1) (W (1 + pkV l b (p + 1 + 1 + 1 + 1 + 1) 4)) (W (pkV l b (p + 1 + 1 + 1 + 1 + 1 + 1) 5 - 2)) N e2 (by omega) (by omega) c m tr tb hb hl h0 h1 hm, ?_⟩⟩
        rw [treeD2, hlen]
        exact good_needs (obP hb hl hm h0 (by omega)) (good_false (beq_eq_false_iff_ne.2 c0) (good_true (beq_iff_eq.2 c1) (good_needs (ob5 m hb hl h0 h1 hm) (good_false hr (good_needs (ob _ c m tr tb N e1 (by omega) (by omega) hb hl h0 h1 hm) (good_out ⟨rfl, Hsim.refl _⟩))))))
    · obtain ⟨N, L, p', e2, e1, rfl, rfl, hp, hlen⟩ := steps (p + 1) (by omega) (by omega)
      refine ⟨d2L (W (1 + pkV l b (p + 1) 4)) (W (pkV l b (p + 1 + 1) 5 - 2)) l b (p + 1 + 1 + 1 + 1) N, _, hp, by omega, fun c m tr tb hb hl h0 h1 hm => ⟨_, lam (p + 1 + 1 + 1 + 1) (W (1 + pkV l b (p + 1) 4)) (W (pkV l b (p + 1 + 1) 5 - 2)) N e2 (by omega) (by omega) c m tr tb hb hl h0 h1 hm, ?_⟩⟩
      rw [treeD2, hlen]
      exact good_needs (obP hb hl hm h0 (by omega)) (good_false (beq_eq_false_iff_ne.2 c0) (good_false (beq_eq_false_iff_ne.2 c1) (good_needs (ob _ c m tr tb N e1 (by omega) (by omega) hb hl h0 h1 hm) (good_out ⟨rfl, Hsim.refl _⟩))))
noncomputable def ehL (l : Nat) (b : Nat → Int) (p : Int) : List Wh := (d2_ex l b p).choose
noncomputable def ehP (l : Nat) (b : Nat → Int) (p : Int) : Int := (d2_ex l b p).choose_spec.choose
theorem ehP_in (l : Nat) (b : Nat → Int) (p : Int) : p ≤ ehP l b p ∧ ehP l b p ≤ p + 70 := (d2_ex l b p).choose_spec.choose_spec.1
theorem ehL_len (l : Nat) (b : Nat → Int) (p : Int) : (ehL l b p).length ≤ 12 := (d2_ex l b p).choose_spec.choose_spec.2.1
def FehO (dl : Nat → (Nat → Int) → Int → List Wh) (dp : Nat → (Nat → Int) → Int → Int) : List AV → List AB → Option HR
  | [.ptr 0 0 0 0], [.cells [.sl 1 1 0 0 l c, .v (.int .i64 p)] tr, .row false m 1 g tb] => some { val := .own 2 (dl l (itB g) p).length, out := [.cells [.sl 1 1 0 0 l c, .v (.int .i64 (dp l (itB g) p))] tr, .row false m 1 g tb], new := [.row true (dl l (itB g) p).length 9 (row9 (wfun (dl l (itB g) p))) 58], obl := [okB m g, decide (l ≤ m), decide (0 ≤ p), decide (p ≤ 2 ^ 26), decide (0 < m)] }
  | _, _ => none
theorem ok_design2 : SpecOk Try.prog 99 (specK [] (FehO ehL ehP)) := by
  refine specK_ok gmE2D_ok Try.func99 rfl fun avs H hr hF ho => ?_
  unfold FehO at hF
  split at hF
  · rename_i l c p tr m g tb
    cases hF
    simp only [ob_cons, decide_eq_true_eq] at ho
    obtain ⟨h1, h2, h3, h4, h5, _⟩ := ho
    obtain ⟨Λ, e1, e2⟩ := (d2_ex l (itB g) p).choose_spec.choose_spec.2.2 c m tr tb (okB_it h1) h2 h3 h4 h5
    refine ⟨hpRd l c p m (itB g) tr tb, Λ, 100, rd_sim h1, e1, ⟨res_mono (fun e vs He hq => ?_) e2.out⟩⟩
    refine ⟨hq.1, hq.2.trans' (.cons (ABeq.refl _) (.cons (ABeq.row fun j hj => (okB_get h1 hj).1.symm) (Hsim.refl _)))⟩
  · cases hF

end Go.Proofs.Ytakimbknciffnaa

/- What is drawn: designs with some symmetry. No conditions. -/
namespace Go.Proofs.Ytakimbknciffnaa
open Go.RowKit
set_option maxRecDepth 100000

/-- A design, drawn from bytes. -/
noncomputable def bEx (m : Nat) (b : Nat → Int) : List Wh := if m = 0 then noneL else ehL (lnB m) b 0
theorem bEx_len (m : Nat) (b : Nat → Int) : (bEx m b).length ≤ 12 := by
  unfold bEx
  split
  · show 1 ≤ 12; omega
  · exact ehL_len _ _ _
def gmDrE (dl : Nat → (Nat → Int) → Int → List Wh) (dp : Nat → (Nat → Int) → Int → Int) (pk : Nat → (Nat → Int) → Int → Int → Int) : Gam := ext (gmPk pk) 99 (specK [] (FehO dl dp))
theorem gmDrE_ok : GamOk Try.prog (gmDrE ehL ehP pkV) := ext_ok (ext_ok g0_ok ok_pick) ok_design2

end Go.Proofs.Ytakimbknciffnaa

/- DrawDesignCentre: a list of wheels. Conditions: bytes, at most 2^21. -/
namespace Go.Proofs.Ytakimbknciffnaa
open Go.RowKit
set_option maxRecDepth 100000

theorem treeRCe (dl : Nat → (Nat → Int) → Int → List Wh) (dp : Nat → (Nat → Int) → Int → Int) (pk : Nat → (Nat → Int) → Int → Int → Int) (m : Nat) (b : Nat → Int) : execF Try.prog (gmDrE dl dp pk) noLam 100 Try.f58 [.sl 0 1 0 0 m none] [.row false m 1 (rowB b) 5] (packK 1)
    = bif decide ((↑m : Int) > (2000 : Int)) then needs [decide ((2000 : Int) ≤ (↑m : Int)), decide ((↑m : Int) ≤ (↑m : Int)), okB m (rowB b), decide (Int.toNat ((2000 : Int) - (0 : Int)) ≤ m), decide ((0 : Nat) < m), decide ((0 : Nat) < m)] (Res.out Ex.ret [AV.own (1 : Nat) (List.length (dl (Int.toNat ((2000 : Int) - (0 : Int))) (itB (rowB b)) (0 : Int)))] [AB.row false m (1 : Nat) (rowB b) (5 : TypeId), AB.row true (List.length (dl (Int.toNat ((2000 : Int) - (0 : Int))) (itB (rowB b)) (0 : Int))) (9 : Nat) (row9 (wfun (dl (Int.toNat ((2000 : Int) - (0 : Int))) (itB (rowB b)) (0 : Int)))) (58 : TypeId)]) else needs [okB m (rowB b), decide (m ≤ m), decide ((0 : Nat) < m), decide ((0 : Nat) < m)] (Res.out Ex.ret [AV.own (1 : Nat) (List.length (dl m (itB (rowB b)) (0 : Int)))] [AB.row false m (1 : Nat) (rowB b) (5 : TypeId), AB.row true (List.length (dl m (itB (rowB b)) (0 : Int))) (9 : Nat) (row9 (wfun (dl m (itB (rowB b)) (0 : Int)))) (58 : TypeId)]) := by kernel_rfl

theorem treeRCe0 (q : Option Addr) (c : Nat) (g : Nat → List Value) : execF Try.prog g0 noLam 100 Try.f58 [.v (.slice q 0 c)] [.row false 0 1 g 5] (packK 1)
    = Res.out Ex.ret [AV.own (1 : Nat) (1 : Nat)] [AB.row false (0 : Nat) (1 : Nat) g (5 : TypeId), AB.row true (1 : Nat) (9 : Nat) (fun _ ↦ [Value.int IntKind.i64 (1001 : Int), Value.int IntKind.i64 (0 : Int), Value.int IntKind.i64 (0 : Int), Value.int IntKind.i64 (0 : Int), Value.int IntKind.i64 (0 : Int), Value.int IntKind.i64 (0 : Int), Value.int IntKind.i64 (0 : Int), Value.int IntKind.i64 (0 : Int), Value.int IntKind.i64 (0 : Int)]) (58 : Nat)] := by kernel_rfl

theorem ok_drCe : SpecOk Try.prog 58 (specR md_co (FdrO fun m b => frL (bEx m b))) := by
  refine draw_ok Try.func58 rfl (fun m b h0 hm hb => ⟨_, gmDrE_ok, ?_⟩) fun q c g b => ⟨g0, g0_ok, ?_⟩
  · rw [treeRCe, itB_row]
    have e : bEx m b = ehL (lnB m) b 0 := by unfold bEx; rw [if_neg (by omega)]
    have hp := ehP_in (lnB m) b 0
    have hp2 := ehP_in (lnB m) b (ehP (lnB m) b 0)
    rw [e]
    refine good_ln (fun e1 hc => ?_) fun e1 hc => ?_
    · rw [e1] at hp hp2 ⊢
      rw [show Int.toNat ((2000 : Int) - 0) = 2000 from rfl]
      exact ⟨by simp only [ob_cons, ob_nil, and_true, decide_eq_true_eq, hb, true_and]; omega, good_out ⟨_, rfl, rfl, Hsim.refl _⟩⟩
    · rw [e1] at hp hp2 ⊢
      exact ⟨by simp only [ob_cons, ob_nil, and_true, decide_eq_true_eq, hb, true_and]; omega, good_out ⟨_, rfl, rfl, Hsim.refl _⟩⟩
  · rw [treeRCe0]
    exact good_out ⟨_, rfl, rfl, .cons (ABeq.refl _) (.cons (ABeq.row fun j hj => none_row j hj) .nil)⟩

end Go.Proofs.Ytakimbknciffnaa

/- The program's DesignSpeeds, of what is a design. Conditions: a list of wheels. -/
namespace Go.Proofs.Ytakimbknciffnaa
open Go.RowKit
set_option maxRecDepth 100000

noncomputable abbrev fSI : Func := Try.f57
abbrev lvSI : Ex → List Nat := lv3 [6, 19, 20, 21] [6] [2, 3]
abbrev stSI (k i : Nat) : List AV := [.own 1 i, .sl 2 9 0 0 k (some k), .v (i64 k), .v (i64 i)]
abbrev hpSI (m : Nat) (f : Nat → Nat → Int) (k : Nat) (g : Nat → Nat → Int) (n : Nat) (o : Nat → Int) : List AB := [.row false m 9 (row9 f) 58, .row true n 1 (rowI o) 3, .row false k 9 (row9 g) 58]
abbrev hpSO (m : Nat) (f : Nat → Nat → Int) (n : Nat) (o : Nat → Int) : List AB := [.row false m 9 (row9 f) 58, .row true n 1 (rowI o) 3]
theorem rndSI (m : Nat) (f : Nat → Nat → Int) (k : Nat) (g : Nat → Nat → Int) (o : Nat → Int) (i : Nat) : execC Try.prog g0 100 noLam (loopAt 0 fSI) (mkT 0 32 ((lvSI .normal).zip (stSI k i))) (hpSI m f k g i o) (leafV 32 lvSI 1)
    = bif decide ((↑i : Int) < (↑k : Int)) then needs [decide ((↑i : Int) < (↑k : Int)), decide ((0 : Nat) + Int.toNat (↑i : Int) < k), Nat.ble i i, Nat.ble (i + (1 : Nat)) (549755813888 : Nat)] (Res.out Ex.normal [AV.own (1 : Nat) (i + (1 : Nat)), AV.sl (2 : Nat) (9 : Nat) (0 : Nat) (0 : Nat) k (some k), AV.v (Value.int IntKind.i64 (↑k : Int)), AV.v (Value.int IntKind.i64 (IntKind.wrap IntKind.i64 ((↑i : Int) + (1 : Int))))] [AB.row false m (9 : Nat) (row9 f) (58 : TypeId), AB.row true (i + (1 : Nat)) (1 : Nat) (fun q ↦ [Value.int IntKind.i64 (bif Nat.blt q i then o q else g ((0 : Nat) + Int.toNat (↑i : Int)) (0 : Nat))]) (3 : Nat), AB.row false k (9 : Nat) (row9 g) (58 : TypeId)]) else Res.out (Ex.exit (0 : Nat)) [AV.own (1 : Nat) i] [AB.row false m (9 : Nat) (row9 f) (58 : TypeId), AB.row true i (1 : Nat) (rowI o) (3 : TypeId)] := by kernel_rfl

noncomputable abbrev lamSI (m : Nat) (f : Nat → Nat → Int) (k : Nat) (g : Nat → Nat → Int) (o : Nat → Int) : Nat → Option Sum := oneL 0 (atS 32 (lvSI .normal) 1 (stSI k 0) (hpSI m f k g 0 fun _ => 0) (fun K => K .normal (mkT 0 32 [(6, .own 1 k)]) (hpSO m f k o)))
theorem treeSI (yI : List Wh → Bool) (tI : List Wh → List Wh) (m : Nat) (f : Nat → Nat → Int) (k : Nat) (g : Nat → Nat → Int) (o : Nat → Int) : execF Try.prog (gmPt yI tI) (lamSI m f k g o) 100 fSI [.sl 0 9 0 0 m none] (hpP1 m f) (packK 1)
    = needs [Nat.ble ((0 : Nat) + m) m, allW m fun q ↦ row9 f ((0 : Nat) + q), decide (m ≤ (274877906944 : Nat))] (bif !yI (listW (itW fun q ↦ row9 f ((0 : Nat) + q)) m) then Res.out Ex.ret [AV.tup [AV.v (Value.slice none (0 : Nat) (0 : Nat)), AV.v (Value.bool false)]] [AB.row false m (9 : Nat) (row9 f) (58 : TypeId)] else needs [decide ((↑(List.length (tI (listW (itW fun q ↦ row9 f ((0 : Nat) + q)) m))) : Int) ≤ (1099511627776 : Int)), chk ([AV.own (1 : Nat) (0 : Nat), AV.sl (2 : Nat) (9 : Nat) (0 : Nat) (0 : Nat) (List.length (tI (listW (itW fun q ↦ row9 f ((0 : Nat) + q)) m))) (some (List.length (tI (listW (itW fun q ↦ row9 f ((0 : Nat) + q)) m)))), AV.v (Value.int IntKind.i64 (↑(List.length (tI (listW (itW fun q ↦ row9 f ((0 : Nat) + q)) m))) : Int)), AV.v (Value.int IntKind.i64 (0 : Int))] = stSI k (0 : Nat) ∧ Hsim [AB.row false m (9 : Nat) (row9 f) (58 : TypeId), AB.row true (0 : Nat) (1 : Nat) (fun _ ↦ [Value.int IntKind.i64 (0 : Int)]) (3 : Nat), AB.row false (List.length (tI (listW (itW fun q ↦ row9 f ((0 : Nat) + q)) m))) (9 : Nat) (row9 (wfun (tI (listW (itW fun q ↦ row9 f ((0 : Nat) + q)) m)))) (58 : TypeId)] (hpSI m f k g (0 : Nat) fun _ ↦ (0 : Int)))] (Res.out Ex.ret [AV.tup [AV.own (1 : Nat) k, AV.v (Value.bool true)]] [AB.row false m (9 : Nat) (row9 f) (58 : TypeId), AB.row true k (1 : Nat) (rowI o) (3 : TypeId)])) := by kernel_rfl

/-- The speeds of a design. -/
def FspY (yI : List Wh → Bool) (tI : List Wh → List Wh) (sp : List Wh → Nat → Int) : List SA → Option FR
  | [.row m g] => some { val := .tup [.own 0 (tI (listW (itW g) m)).length, .v (.bool true)], new := [.row true (tI (listW (itW g) m)).length 1 (rowI (sp (tI (listW (itW g) m)))) 3], obl := [allW m g, decide (m ≤ 2 ^ 38), yI (listW (itW g) m)] }
  | _ => none
theorem sumSI (m : Nat) (f : Nat → Nat → Int) (T : List Wh) (hT : T.length ≤ 12) :
    SumOk Try.prog 1 (.block 0 (.loop (loopAt 0 fSI))) (atS 32 (lvSI .normal) 1 (stSI T.length 0) (hpSI m f T.length (wfun T) 0 fun _ => 0) (fun K => K .normal (mkT 0 32 [(6, .own 1 T.length)]) (hpSO m f T.length (spH T)))) := by
  refine for_at g0_ok (n := 100) (m := 1) (lv := lvSI) (fun i => stSI T.length i) (fun i => hpSI m f T.length (wfun T) i (bif Nat.beq i 0 then fun _ => 0 else spH T)) (fun _ => True) T.length (fun _ => noLam) (lv3_ris rfl rfl rfl) (Nat.le_refl _) trivial fun K Q hk i _ hi => ⟨noLam_ok _ _ _, ?_⟩
  have ho : ∀ j, j < i → (bif Nat.beq i 0 then (fun _ => (0 : Int)) else spH T) j = spH T j := by
    intro j hj
    cases i with
    | zero => exact absurd hj (Nat.not_lt_zero _)
    | succ i => rfl
  rw [rndSI]
  refine good_cond (fun c1 => ?_) fun c1 => ?_
  · have c1 := of_decide_eq_true c1
    have c1' : i < T.length := by omega
    rw [show 0 + Int.toNat (i : Int) = i by omega, wr_in (x := (i : Int) + 1) (by omega)]
    refine good_needs (by simp only [ob_cons, ob_nil, and_true, decide_eq_true_eq, Nat.ble_eq]; omega) (good_out ⟨i + 1, ⟨rfl, c1', trivial⟩, rfl, .cons (ABeq.refl _) (.cons (ABeq.row fun j hj => ?_) (Hsim.refl _))⟩)
    show [i64 (bif Nat.blt j i then (bif Nat.beq i 0 then (fun _ => (0 : Int)) else spH T) j else wfun T i 0)] = [i64 (spH T j)]
    by_cases hj2 : j < i
    · rw [blt_yes hj2, cond_true, ho j hj2]
    · have : j = i := by omega
      subst this
      rw [blt_no, cond_false]
      rfl
  · have c1 := of_decide_eq_false c1
    have : i = T.length := by omega
    subst this
    refine good_out ⟨hpSO m f T.length (spH T), .cons (ABeq.refl _) (.cons (ABeq.row fun j hj => ?_) .nil), ?_⟩
    · show [i64 _] = [i64 _]
      rw [ho j hj]
    · rw [if_pos rfl]
      exact hk
theorem ok_spY : SpecOk Try.prog 57 (specR md_ws (FspY yI tI spH)) := by
  refine specR_hr gmPt_ok Try.func57 rfl fun sas fr hF ho => ?_
  unfold FspY at hF
  split at hF
  · rename_i m g
    cases hF
    simp only [ob_cons] at ho
    obtain ⟨h1, h2, h3, _⟩ := ho
    have hm := of_decide_eq_true h2
    have hl := tI_len (listW (itW g) m)
    refine ⟨hpP1 m (itW g), _, 100, .cons (ABeq.row fun j hj => allW_get h1 j hj) .nil, lam1 (by kernel_rfl) (sumSI m (itW g) (tI (listW (itW g) m)) hl), ?_⟩
    show GoodQ (execF Try.prog (gmPt yI tI) (lamSI m (itW g) (tI (listW (itW g) m)).length (wfun (tI (listW (itW g) m))) (spH (tI (listW (itW g) m)))) 100 fSI [.sl 0 9 0 0 m none] (hpP1 m (itW g)) (packK 1)) _
    rw [treeSI]
    simp only [row0, listW_itW]
    refine good_needs (by simp only [ob_cons, ob_nil, and_true, decide_eq_true_eq, Nat.ble_eq, allW_row, true_and]; omega) (good_false (by rw [h3]; rfl) (good_needs ?_ (good_out ⟨_, rfl, rfl, .cons (ABeq.row fun j hj => (allW_get h1 j hj).symm) (Hsim.refl _)⟩)))
    simp only [ob_cons, ob_nil, and_true, decide_eq_true_eq]
    exact ⟨by omega, chk_of ⟨rfl, Hsim.refl _⟩⟩
  · cases hF

end Go.Proofs.Ytakimbknciffnaa

/- The program's CycAdd. Conditions: two points. -/
namespace Go.Proofs.Ytakimbknciffnaa
open Go.RowKit
set_option maxRecDepth 100000

def gmO3 (ok : (Nat → Int) → Bool) (ad : (Nat → Int) → (Nat → Int) → Nat → Int) : Gam := ext (ext g0 83 (specV (fOkc ok))) 84 (specV (fAdd2 ad))
theorem treeO3 (ok : (Nat → Int) → Bool) (ad : (Nat → Int) → (Nat → Int) → Nat → Int) (a b : Nat → Int) : execF Try.prog (gmO3 ok ad) noLam 100 Try.f30 [.v (cyv a), .v (cyv b)] [] (packK 0)
    = bif !ok (w8 a) then Res.out Ex.ret [AV.tup [AV.agg [AV.v (Value.int IntKind.i64 (0 : Int)), AV.v (Value.int IntKind.i64 (0 : Int)), AV.v (Value.int IntKind.i64 (0 : Int)), AV.v (Value.int IntKind.i64 (0 : Int)), AV.v (Value.int IntKind.i64 (0 : Int)), AV.v (Value.int IntKind.i64 (0 : Int)), AV.v (Value.int IntKind.i64 (0 : Int)), AV.v (Value.int IntKind.i64 (0 : Int))], AV.v (Value.bool false)]] [] else bif !ok (w8 b) then Res.out Ex.ret [AV.tup [AV.agg [AV.v (Value.int IntKind.i64 (0 : Int)), AV.v (Value.int IntKind.i64 (0 : Int)), AV.v (Value.int IntKind.i64 (0 : Int)), AV.v (Value.int IntKind.i64 (0 : Int)), AV.v (Value.int IntKind.i64 (0 : Int)), AV.v (Value.int IntKind.i64 (0 : Int)), AV.v (Value.int IntKind.i64 (0 : Int)), AV.v (Value.int IntKind.i64 (0 : Int))], AV.v (Value.bool false)]] [] else bif !ok (w8 (ad (w8 a) (w8 b))) then Res.out Ex.ret [AV.tup [AV.agg [AV.v (Value.int IntKind.i64 (0 : Int)), AV.v (Value.int IntKind.i64 (0 : Int)), AV.v (Value.int IntKind.i64 (0 : Int)), AV.v (Value.int IntKind.i64 (0 : Int)), AV.v (Value.int IntKind.i64 (0 : Int)), AV.v (Value.int IntKind.i64 (0 : Int)), AV.v (Value.int IntKind.i64 (0 : Int)), AV.v (Value.int IntKind.i64 (0 : Int))], AV.v (Value.bool false)]] [] else Res.out Ex.ret [AV.tup [AV.agg [AV.v (Value.int IntKind.i64 (ad (w8 a) (w8 b) (0 : Nat))), AV.v (Value.int IntKind.i64 (ad (w8 a) (w8 b) (1 : Nat))), AV.v (Value.int IntKind.i64 (ad (w8 a) (w8 b) (2 : Nat))), AV.v (Value.int IntKind.i64 (ad (w8 a) (w8 b) (3 : Nat))), AV.v (Value.int IntKind.i64 (ad (w8 a) (w8 b) (4 : Nat))), AV.v (Value.int IntKind.i64 (ad (w8 a) (w8 b) (5 : Nat))), AV.v (Value.int IntKind.i64 (ad (w8 a) (w8 b) (6 : Nat))), AV.v (Value.int IntKind.i64 (ad (w8 a) (w8 b) (7 : Nat)))], AV.v (Value.bool true)]] [] := by kernel_rfl

theorem gmO3_ok : GamOk Try.prog (gmO3 (fun v => cyOk (cyOf v)) plusF) := by
  unfold gmO3
  rw [fOkc_eq, fAdd2_eq]
  exact ext_ok (ext_ok g0_ok ok_cvI) ok_plus
/-- Two points: a point, and whether it is one. -/
def FcrO (v : (Nat → Int) → (Nat → Int) → Nat → Int) (ok : (Nat → Int) → (Nat → Int) → Bool) : List SA → Option FR
  | [.v (.agg ⟨[.int .i64 a0, .int .i64 a1, .int .i64 a2, .int .i64 a3, .int .i64 a4, .int .i64 a5, .int .i64 a6, .int .i64 a7]⟩), .v (.agg ⟨[.int .i64 b0, .int .i64 b1, .int .i64 b2, .int .i64 b3, .int .i64 b4, .int .i64 b5, .int .i64 b6, .int .i64 b7]⟩)] => some { val := .tup [.agg (cyC (v (v8 a0 a1 a2 a3 a4 a5 a6 a7) (v8 b0 b1 b2 b3 b4 b5 b6 b7))), .v (.bool (ok (v8 a0 a1 a2 a3 a4 a5 a6 a7) (v8 b0 b1 b2 b3 b4 b5 b6 b7)))] }
  | _ => none
def okAd (a b : Nat → Int) : Bool := (cyOk (cyOf a) && cyOk (cyOf b)) && cyOk (cyOf (plusF a b))
def vAd (a b : Nat → Int) : Nat → Int := bif okAd a b then plusF a b else fun _ => 0
theorem ok_cAd : SpecOk Try.prog 30 (specR [.val, .val] (FcrO vAd okAd)) := by
  refine specR_hr gmO3_ok Try.func30 rfl fun sas fr hF ho => ?_
  unfold FcrO at hF
  split at hF
  · rename_i a0 a1 a2 a3 a4 a5 a6 a7 b0 b1 b2 b3 b4 b5 b6 b7
    cases hF
    refine ⟨[], noLam, 100, .nil, noLam' _, ?_⟩
    show GoodQ (execF Try.prog (gmO3 (fun v => cyOk (cyOf v)) plusF) noLam 100 Try.f30 [.v (cyv (v8 a0 a1 a2 a3 a4 a5 a6 a7)), .v (cyv (v8 b0 b1 b2 b3 b4 b5 b6 b7))] [] (packK 0)) _
    rw [treeO3]
    generalize hA : v8 a0 a1 a2 a3 a4 a5 a6 a7 = a
    generalize hB : v8 b0 b1 b2 b3 b4 b5 b6 b7 = b
    have hw : w8 a = a := by subst hA; rfl
    have hv : w8 b = b := by subst hB; rfl
    rw [hw, hv]
    have fin : ∀ (v : Nat → Int) (o : Bool), vAd a b = v → okAd a b = o → GoodQ (.out .ret [.tup [.agg (cyC v), .v (.bool o)]] []) (GivR (abP [.val, .val] [.v (.agg ⟨[.int .i64 a0, .int .i64 a1, .int .i64 a2, .int .i64 a3, .int .i64 a4, .int .i64 a5, .int .i64 a6, .int .i64 a7]⟩), .v (.agg ⟨[.int .i64 b0, .int .i64 b1, .int .i64 b2, .int .i64 b3, .int .i64 b4, .int .i64 b5, .int .i64 b6, .int .i64 b7]⟩)] []) { val := .tup [.agg (cyC (vAd a b)), .v (.bool (okAd a b))] }) := by
      rintro v o rfl rfl
      exact good_out ⟨_, rfl, rfl, .nil⟩
    have bad : okAd a b = false → GoodQ (.out .ret [.tup [.agg (cyC fun _ => 0), .v (.bool false)]] []) _ := fun e => fin _ _ (by rw [vAd, e]; rfl) e
    refine good_cond (fun q => ?_) fun q => ?_
    · have q' : (!cyOk (cyOf a)) = true := q
      exact bad (by rw [okAd, show cyOk (cyOf a) = false by simpa using q']; rfl)
    · have q' : (!cyOk (cyOf a)) = false := q
      have qa : cyOk (cyOf a) = true := by simpa using q'
      refine good_cond (fun q => ?_) fun q => ?_
      · have q' : (!cyOk (cyOf b)) = true := q
        exact bad (by rw [okAd, qa, show cyOk (cyOf b) = false by simpa using q']; rfl)
      · have q' : (!cyOk (cyOf b)) = false := q
        have qb : cyOk (cyOf b) = true := by simpa using q'
        refine good_cond (fun q => ?_) fun q => ?_
        · have q' : (!cyOk (cyOf (plusF a b))) = true := q
          exact bad (by rw [okAd, qa, qb, show cyOk (cyOf (plusF a b)) = false by simpa using q']; rfl)
        · have q' : (!cyOk (cyOf (plusF a b))) = false := q
          have qm : cyOk (cyOf (plusF a b)) = true := by simpa using q'
          have e : okAd a b = true := by rw [okAd, qa, qb, qm]; rfl
          exact fin (plusF a b) true (by rw [vAd, e]; rfl) e
  · cases hF

end Go.Proofs.Ytakimbknciffnaa

/- The program's CycScale. Conditions: a point, a number. -/
namespace Go.Proofs.Ytakimbknciffnaa
open Go.RowKit
set_option maxRecDepth 100000

def fScO (sc : (Nat → Int) → Int → Nat → Int) : List Value → Option (Value × List Bool)
  | [.agg ⟨[.int .i64 a0, .int .i64 a1, .int .i64 a2, .int .i64 a3, .int .i64 a4, .int .i64 a5, .int .i64 a6, .int .i64 a7]⟩, .int .i64 n] => some (cyv (sc (v8 a0 a1 a2 a3 a4 a5 a6 a7) n), [])
  | _ => none
theorem ok_scl : SpecOk Try.prog 102 (specV (fScO scaledF)) := by
  refine mkV (n := 100) g0_ok Try.func102 rfl fun vs x ob hF ho => ?_
  unfold fScO at hF
  split at hF
  · rename_i a0 a1 a2 a3 a4 a5 a6 a7 n
    simp only [Option.some.injEq, Prod.mk.injEq] at hF
    obtain ⟨rfl, rfl⟩ := hF
    exact one (by kernel_rfl)
  · cases hF
def gmO4 (ok : (Nat → Int) → Bool) (sc : (Nat → Int) → Int → Nat → Int) : Gam := ext (ext gm_within 83 (specV (fOkc ok))) 102 (specV (fScO sc))
theorem treeO4 (ok : (Nat → Int) → Bool) (sc : (Nat → Int) → Int → Nat → Int) (a : Nat → Int) (n : Int) : execF Try.prog (gmO4 ok sc) noLam 100 Try.f61 [.v (cyv a), .v (i64 n)] [] (packK 0)
    = bif !ok (w8 a) then Res.out Ex.ret [AV.tup [AV.agg [AV.v (Value.int IntKind.i64 (0 : Int)), AV.v (Value.int IntKind.i64 (0 : Int)), AV.v (Value.int IntKind.i64 (0 : Int)), AV.v (Value.int IntKind.i64 (0 : Int)), AV.v (Value.int IntKind.i64 (0 : Int)), AV.v (Value.int IntKind.i64 (0 : Int)), AV.v (Value.int IntKind.i64 (0 : Int)), AV.v (Value.int IntKind.i64 (0 : Int))], AV.v (Value.bool false)]] [] else bif !inR n (-1000000 : Int) (1000000 : Int) then Res.out Ex.ret [AV.tup [AV.agg [AV.v (Value.int IntKind.i64 (0 : Int)), AV.v (Value.int IntKind.i64 (0 : Int)), AV.v (Value.int IntKind.i64 (0 : Int)), AV.v (Value.int IntKind.i64 (0 : Int)), AV.v (Value.int IntKind.i64 (0 : Int)), AV.v (Value.int IntKind.i64 (0 : Int)), AV.v (Value.int IntKind.i64 (0 : Int)), AV.v (Value.int IntKind.i64 (0 : Int))], AV.v (Value.bool false)]] [] else bif !ok (w8 (sc (w8 a) n)) then Res.out Ex.ret [AV.tup [AV.agg [AV.v (Value.int IntKind.i64 (0 : Int)), AV.v (Value.int IntKind.i64 (0 : Int)), AV.v (Value.int IntKind.i64 (0 : Int)), AV.v (Value.int IntKind.i64 (0 : Int)), AV.v (Value.int IntKind.i64 (0 : Int)), AV.v (Value.int IntKind.i64 (0 : Int)), AV.v (Value.int IntKind.i64 (0 : Int)), AV.v (Value.int IntKind.i64 (0 : Int))], AV.v (Value.bool false)]] [] else Res.out Ex.ret [AV.tup [AV.agg [AV.v (Value.int IntKind.i64 (sc (w8 a) n (0 : Nat))), AV.v (Value.int IntKind.i64 (sc (w8 a) n (1 : Nat))), AV.v (Value.int IntKind.i64 (sc (w8 a) n (2 : Nat))), AV.v (Value.int IntKind.i64 (sc (w8 a) n (3 : Nat))), AV.v (Value.int IntKind.i64 (sc (w8 a) n (4 : Nat))), AV.v (Value.int IntKind.i64 (sc (w8 a) n (5 : Nat))), AV.v (Value.int IntKind.i64 (sc (w8 a) n (6 : Nat))), AV.v (Value.int IntKind.i64 (sc (w8 a) n (7 : Nat)))], AV.v (Value.bool true)]] [] := by kernel_rfl

theorem gmO4_ok : GamOk Try.prog (gmO4 (fun v => cyOk (cyOf v)) scaledF) := by
  unfold gmO4
  rw [fOkc_eq]
  exact ext_ok (ext_ok gm_within_ok ok_cvI) ok_scl
/-- A point and a number: a point, and whether it is one. -/
def FcsO (v : (Nat → Int) → Int → Nat → Int) (ok : (Nat → Int) → Int → Bool) : List SA → Option FR
  | [.v (.agg ⟨[.int .i64 a0, .int .i64 a1, .int .i64 a2, .int .i64 a3, .int .i64 a4, .int .i64 a5, .int .i64 a6, .int .i64 a7]⟩), .v (.int .i64 n)] => some { val := .tup [.agg (cyC (v (v8 a0 a1 a2 a3 a4 a5 a6 a7) n)), .v (.bool (ok (v8 a0 a1 a2 a3 a4 a5 a6 a7) n))] }
  | _ => none
def okSc (a : Nat → Int) (n : Int) : Bool := (cyOk (cyOf a) && inR n (-1000000) 1000000) && cyOk (cyOf (scaledF a n))
def vSc (a : Nat → Int) (n : Int) : Nat → Int := bif okSc a n then scaledF a n else fun _ => 0
theorem ok_cSc : SpecOk Try.prog 61 (specR [.val, .val] (FcsO vSc okSc)) := by
  refine specR_hr gmO4_ok Try.func61 rfl fun sas fr hF ho => ?_
  unfold FcsO at hF
  split at hF
  · rename_i a0 a1 a2 a3 a4 a5 a6 a7 n
    cases hF
    refine ⟨[], noLam, 100, .nil, noLam' _, ?_⟩
    show GoodQ (execF Try.prog (gmO4 (fun v => cyOk (cyOf v)) scaledF) noLam 100 Try.f61 [.v (cyv (v8 a0 a1 a2 a3 a4 a5 a6 a7)), .v (i64 n)] [] (packK 0)) _
    rw [treeO4]
    generalize hA : v8 a0 a1 a2 a3 a4 a5 a6 a7 = a
    have hw : w8 a = a := by subst hA; rfl
    rw [hw]
    have fin : ∀ (v : Nat → Int) (o : Bool), vSc a n = v → okSc a n = o → GoodQ (.out .ret [.tup [.agg (cyC v), .v (.bool o)]] []) (GivR (abP [.val, .val] [.v (.agg ⟨[.int .i64 a0, .int .i64 a1, .int .i64 a2, .int .i64 a3, .int .i64 a4, .int .i64 a5, .int .i64 a6, .int .i64 a7]⟩), .v (.int .i64 n)] []) { val := .tup [.agg (cyC (vSc a n)), .v (.bool (okSc a n))] }) := by
      rintro v o rfl rfl
      exact good_out ⟨_, rfl, rfl, .nil⟩
    have bad : okSc a n = false → GoodQ (.out .ret [.tup [.agg (cyC fun _ => 0), .v (.bool false)]] []) _ := fun e => fin _ _ (by rw [vSc, e]; rfl) e
    refine good_cond (fun q => ?_) fun q => ?_
    · have q' : (!cyOk (cyOf a)) = true := q
      exact bad (by rw [okSc, show cyOk (cyOf a) = false by simpa using q']; rfl)
    · have q' : (!cyOk (cyOf a)) = false := q
      have qa : cyOk (cyOf a) = true := by simpa using q'
      refine good_cond (fun q => ?_) fun q => ?_
      · have q' : (!inR n (-1000000) 1000000) = true := q
        exact bad (by rw [okSc, qa, show inR n (-1000000) 1000000 = false by simpa using q']; rfl)
      · have q' : (!inR n (-1000000) 1000000) = false := q
        have qb : inR n (-1000000) 1000000 = true := by simpa using q'
        refine good_cond (fun q => ?_) fun q => ?_
        · have q' : (!cyOk (cyOf (scaledF a n))) = true := q
          exact bad (by rw [okSc, qa, qb, show cyOk (cyOf (scaledF a n)) = false by simpa using q']; rfl)
        · have q' : (!cyOk (cyOf (scaledF a n))) = false := q
          have qm : cyOk (cyOf (scaledF a n)) = true := by simpa using q'
          have e : okSc a n = true := by rw [okSc, qa, qb, qm]; rfl
          exact fin (scaledF a n) true (by rw [vSc, e]; rfl) e
  · cases hF

end Go.Proofs.Ytakimbknciffnaa

/- The abstract machine, 29: words for more than one loop. No conditions. -/
namespace Go.Proofs.Ytakimbknciffnaa
open Go.RowKit

def addL (id : Nat) (S : Sum) (Λ : Nat → Option Sum) : Nat → Option Sum := fun j => bif Nat.beq j id then some S else Λ j
theorem lamAdd {P : Program} {m0 id : Nat} {fn : Func} {S : Sum} {c : Code} {Λ : Nat → Option Sum} (h : codeAt id (fn.body.getD .skip) = [.block id (.loop c)]) (hS : SumOk P m0 (.block id (.loop c)) S) (hΛ : ∀ cc, fn.body = some cc → LamOk P m0 Λ cc) : ∀ cc, fn.body = some cc → LamOk P m0 (addL id S Λ) cc := by
  intro cc hcc j S' hj b hb
  unfold addL at hj
  cases hjb : Nat.beq j id with
  | false =>
    rw [hjb] at hj
    exact hΛ cc hcc j S' hj b hb
  | true =>
    rw [hjb] at hj
    cases hj
    rw [Nat.eq_of_beq_eq_true hjb] at hb
    rw [hcc] at h
    simp only [Option.getD_some] at h
    rw [h] at hb
    simp at hb
    subst hb
    exact hS
theorem lamAddC {P : Program} {m0 id : Nat} {S : Sum} {c cc : Code} {Λ : Nat → Option Sum} (h : codeAt id cc = [.block id (.loop c)]) (hS : SumOk P m0 (.block id (.loop c)) S) (hΛ : LamOk P m0 Λ cc) : LamOk P m0 (addL id S Λ) cc := by
  intro j S' hj b hb
  unfold addL at hj
  cases hjb : Nat.beq j id with
  | false =>
    rw [hjb] at hj
    exact hΛ j S' hj b hb
  | true =>
    rw [hjb] at hj
    cases hj
    rw [Nat.eq_of_beq_eq_true hjb] at hb
    rw [h] at hb
    simp at hb
    subst hb
    exact hS

end Go.Proofs.Ytakimbknciffnaa

/- FnCentre: its trees. Conditions: bytes. -/
namespace Go.Proofs.Ytakimbknciffnaa
open Go.RowKit
set_option maxRecDepth 100000

noncomputable abbrev fCe : Func := Try.f14
abbrev lvC0 : Ex → List Nat := lv3 [3, 4, 8, 9, 10] [3, 4, 9] [2]
abbrev lvC2 : Ex → List Nat := lv3 [3, 4, 9, 11, 12] [4, 9, 11] [2]
abbrev stC0 (n k : Nat) (p : Bool) (i : Nat) : List AV := [.own 1 n, .ptr 2 0 0 0, .own 3 k, .v (.bool p), .v (i64 i)]
abbrev stC2 (n : Nat) (p : Bool) (i : Nat) : List AV := [.own 1 n, .ptr 2 0 0 0, .v (.bool p), .ptr 3 0 0 0, .v (i64 i)]
abbrev hpC0 (m : Nat) (b : Nat → Int) (n : Nat) (f : Nat → Nat → Int) (a : Nat → Int) (k : Nat) (o : Nat → Int) : List AB := [.row false m 1 (rowB b) 5, .row true n 9 (row9 f) 58, .cells (cyC a) 35, .row true k 1 (rowI o) 3]
abbrev hpC2 (m : Nat) (b : Nat → Int) (n : Nat) (f : Nat → Nat → Int) (a s : Nat → Int) : List AB := [.row false m 1 (rowB b) 5, .row true n 9 (row9 f) 58, .cells (cyC a) 35, .cells (cyC s) 35]
theorem rndC0 (m : Nat) (b : Nat → Int) (n : Nat) (f : Nat → Nat → Int) (a : Nat → Int) (k : Nat) (o : Nat → Int) (p : Bool) (i : Nat) : execC Try.prog g0 100 noLam (loopAt 0 fCe) (mkT 0 118 ((lvC0 .normal).zip (stC0 n k p i))) (hpC0 m b n f a k o) (leafV 118 lvC0 1)
    = bif decide ((↑i : Int) < (↑k : Int)) then needs [decide ((↑i : Int) < (↑k : Int)), decide (Int.toNat (↑i : Int) < k)] (bif decide (o (Int.toNat (↑i : Int)) < (-23 : Int)) then Res.out Ex.ret [AV.v (Value.bool p)] [AB.row false m (1 : Nat) (rowB b) (5 : TypeId)] else needs [decide ((↑i : Int) < (↑k : Int)), decide (Int.toNat (↑i : Int) < k)] (bif decide (o (Int.toNat (↑i : Int)) > (23 : Int)) then Res.out Ex.ret [AV.v (Value.bool p)] [AB.row false m (1 : Nat) (rowB b) (5 : TypeId)] else Res.out Ex.normal [AV.own (1 : Nat) n, AV.ptr (2 : Nat) (0 : Nat) (0 : Nat) (0 : Nat), AV.own (3 : Nat) k, AV.v (Value.bool p), AV.v (Value.int IntKind.i64 (IntKind.wrap IntKind.i64 ((↑i : Int) + (1 : Int))))] [AB.row false m (1 : Nat) (rowB b) (5 : TypeId), AB.row true n (9 : Nat) (row9 f) (58 : TypeId), AB.cells [AV.v (Value.int IntKind.i64 (a (0 : Nat))), AV.v (Value.int IntKind.i64 (a (1 : Nat))), AV.v (Value.int IntKind.i64 (a (2 : Nat))), AV.v (Value.int IntKind.i64 (a (3 : Nat))), AV.v (Value.int IntKind.i64 (a (4 : Nat))), AV.v (Value.int IntKind.i64 (a (5 : Nat))), AV.v (Value.int IntKind.i64 (a (6 : Nat))), AV.v (Value.int IntKind.i64 (a (7 : Nat)))] (35 : TypeId), AB.row true k (1 : Nat) (rowI o) (3 : TypeId)])) else Res.out (Ex.exit (0 : Nat)) [AV.own (1 : Nat) n, AV.ptr (2 : Nat) (0 : Nat) (0 : Nat) (0 : Nat), AV.v (Value.bool p)] [AB.row false m (1 : Nat) (rowB b) (5 : TypeId), AB.row true n (9 : Nat) (row9 f) (58 : TypeId), AB.cells [AV.v (Value.int IntKind.i64 (a (0 : Nat))), AV.v (Value.int IntKind.i64 (a (1 : Nat))), AV.v (Value.int IntKind.i64 (a (2 : Nat))), AV.v (Value.int IntKind.i64 (a (3 : Nat))), AV.v (Value.int IntKind.i64 (a (4 : Nat))), AV.v (Value.int IntKind.i64 (a (5 : Nat))), AV.v (Value.int IntKind.i64 (a (6 : Nat))), AV.v (Value.int IntKind.i64 (a (7 : Nat)))] (35 : TypeId)] := by kernel_rfl

def gmC2 (dv : (Nat → Nat → Int) → Int → Nat → Nat → Int) (dk : (Nat → Nat → Int) → Int → Nat → Bool) (av : (Nat → Int) → (Nat → Int) → Nat → Int) (ak : (Nat → Int) → (Nat → Int) → Bool) : Gam := ext (ext g0 23 (specR md_wv (FDAo dv dk))) 30 (specR [.val, .val] (FcrO av ak))
theorem rndC2 (dv : (Nat → Nat → Int) → Int → Nat → Nat → Int) (dk : (Nat → Nat → Int) → Int → Nat → Bool) (av : (Nat → Int) → (Nat → Int) → Nat → Int) (ak : (Nat → Int) → (Nat → Int) → Bool) (m : Nat) (b : Nat → Int) (n : Nat) (f : Nat → Nat → Int) (a s : Nat → Int) (p : Bool) (i : Nat) : execC Try.prog (gmC2 dv dk av ak) 100 noLam (loopAt 2 fCe) (mkT 0 118 ((lvC2 .normal).zip (stC2 n p i))) (hpC2 m b n f a s) (leafV 118 lvC2 1)
    = bif decide ((↑i : Int) < (24 : Int)) then needs [Nat.ble n n, allW n (row9 f), decide (n ≤ (274877906944 : Nat))] (bif !dk (itW (row9 f)) (↑i : Int) n then Res.out Ex.ret [AV.v (Value.bool p)] [AB.row false m (1 : Nat) (rowB b) (5 : TypeId)] else bif !ak (w8 s) (w8 (dv (itW (row9 f)) (↑i : Int) n)) then Res.out Ex.ret [AV.v (Value.bool p)] [AB.row false m (1 : Nat) (rowB b) (5 : TypeId)] else Res.out Ex.normal [AV.own (1 : Nat) n, AV.ptr (2 : Nat) (0 : Nat) (0 : Nat) (0 : Nat), AV.v (Value.bool p), AV.ptr (3 : Nat) (0 : Nat) (0 : Nat) (0 : Nat), AV.v (Value.int IntKind.i64 (IntKind.wrap IntKind.i64 ((↑i : Int) + (1 : Int))))] [AB.row false m (1 : Nat) (rowB b) (5 : TypeId), AB.row true n (9 : Nat) (row9 f) (58 : TypeId), AB.cells [AV.v (Value.int IntKind.i64 (a (0 : Nat))), AV.v (Value.int IntKind.i64 (a (1 : Nat))), AV.v (Value.int IntKind.i64 (a (2 : Nat))), AV.v (Value.int IntKind.i64 (a (3 : Nat))), AV.v (Value.int IntKind.i64 (a (4 : Nat))), AV.v (Value.int IntKind.i64 (a (5 : Nat))), AV.v (Value.int IntKind.i64 (a (6 : Nat))), AV.v (Value.int IntKind.i64 (a (7 : Nat)))] (35 : TypeId), AB.cells [AV.v (Value.int IntKind.i64 (av (w8 s) (w8 (dv (itW (row9 f)) (↑i : Int) n)) (0 : Nat))), AV.v (Value.int IntKind.i64 (av (w8 s) (w8 (dv (itW (row9 f)) (↑i : Int) n)) (1 : Nat))), AV.v (Value.int IntKind.i64 (av (w8 s) (w8 (dv (itW (row9 f)) (↑i : Int) n)) (2 : Nat))), AV.v (Value.int IntKind.i64 (av (w8 s) (w8 (dv (itW (row9 f)) (↑i : Int) n)) (3 : Nat))), AV.v (Value.int IntKind.i64 (av (w8 s) (w8 (dv (itW (row9 f)) (↑i : Int) n)) (4 : Nat))), AV.v (Value.int IntKind.i64 (av (w8 s) (w8 (dv (itW (row9 f)) (↑i : Int) n)) (5 : Nat))), AV.v (Value.int IntKind.i64 (av (w8 s) (w8 (dv (itW (row9 f)) (↑i : Int) n)) (6 : Nat))), AV.v (Value.int IntKind.i64 (av (w8 s) (w8 (dv (itW (row9 f)) (↑i : Int) n)) (7 : Nat)))] (35 : TypeId)]) else Res.out (Ex.exit (2 : Nat)) [AV.ptr (1 : Nat) (0 : Nat) (0 : Nat) (0 : Nat), AV.v (Value.bool p), AV.ptr (2 : Nat) (0 : Nat) (0 : Nat) (0 : Nat)] [AB.row false m (1 : Nat) (rowB b) (5 : TypeId), AB.cells [AV.v (Value.int IntKind.i64 (a (0 : Nat))), AV.v (Value.int IntKind.i64 (a (1 : Nat))), AV.v (Value.int IntKind.i64 (a (2 : Nat))), AV.v (Value.int IntKind.i64 (a (3 : Nat))), AV.v (Value.int IntKind.i64 (a (4 : Nat))), AV.v (Value.int IntKind.i64 (a (5 : Nat))), AV.v (Value.int IntKind.i64 (a (6 : Nat))), AV.v (Value.int IntKind.i64 (a (7 : Nat)))] (35 : TypeId), AB.cells [AV.v (Value.int IntKind.i64 (s (0 : Nat))), AV.v (Value.int IntKind.i64 (s (1 : Nat))), AV.v (Value.int IntKind.i64 (s (2 : Nat))), AV.v (Value.int IntKind.i64 (s (3 : Nat))), AV.v (Value.int IntKind.i64 (s (4 : Nat))), AV.v (Value.int IntKind.i64 (s (5 : Nat))), AV.v (Value.int IntKind.i64 (s (6 : Nat))), AV.v (Value.int IntKind.i64 (s (7 : Nat)))] (35 : TypeId)] := by kernel_rfl

noncomputable abbrev lamCe (m : Nat) (b : Nat → Int) (n : Nat) (f : Nat → Nat → Int) (a : Nat → Int) (k : Nat) (o : Nat → Int) (p c0 c2 : Bool) (s : Nat → Int) : Nat → Option Sum :=
  addL 0 (atS 118 (lvC0 .normal) 1 (stC0 n k p 0) (hpC0 m b n f a k o) (fun K => cond c0 (K .normal (mkT 0 118 [(3, .own 1 n), (4, .ptr 2 0 0 0), (9, .v (.bool p))]) [.row false m 1 (rowB b) 5, .row true n 9 (row9 f) 58, .cells (cyC a) 35]) (K .ret (mkT 0 118 [(2, .v (.bool p))]) [.row false m 1 (rowB b) 5])))
    (oneL 2 (atS 118 (lvC2 .normal) 1 (stC2 n p 0) (hpC2 m b n f a fun _ => 0) (fun K => cond c2 (K .normal (mkT 0 118 [(4, .ptr 1 0 0 0), (9, .v (.bool p)), (11, .ptr 2 0 0 0)]) [.row false m 1 (rowB b) 5, .cells (cyC a) 35, .cells (cyC s) 35]) (K .ret (mkT 0 118 [(2, .v (.bool p))]) [.row false m 1 (rowB b) 5]))))
def gmLCe (dl : Nat → (Nat → Int) → List Wh) (cv : List Wh → Nat → Int) (yI : List Wh → Bool) (tI : List Wh → List Wh) (sp : List Wh → Nat → Int) (sv : (Nat → Int) → Int → Nat → Int) (sk : (Nat → Int) → Int → Bool) : Gam :=
  ext (ext (ext (ext (ext g0 58 (specR md_co (FdrO fun m b => frL (dl m b)))) 59 (specR md_ws (FptO cv yI))) 60 (specR md_ws (FptO cv yI))) 57 (specR md_ws (FspY yI tI sp))) 61 (specR [.val, .val] (FcsO sv sk))
theorem lawCe (dl : Nat → (Nat → Int) → List Wh) (cv : List Wh → Nat → Int) (yI : List Wh → Bool) (tI : List Wh → List Wh) (sp : List Wh → Nat → Int) (sv : (Nat → Int) → Int → Nat → Int) (sk : (Nat → Int) → Int → Bool) (m : Nat) (b : Nat → Int) (n : Nat) (f : Nat → Nat → Int) (a : Nat → Int) (k : Nat) (o : Nat → Int) (p c0 c2 : Bool) (s : Nat → Int) : execF Try.prog (gmLCe dl cv yI tI sp sv sk) (lamCe m b n f a k o p c0 c2 s) 100 fCe [.sl 0 1 0 0 m none] [.row false m 1 (rowB b) 5] (packK 1)
    = bif decide ((↑m : Int) > (1048576 : Int)) then Res.out Ex.ret [AV.v (Value.bool true)] [AB.row false m (1 : Nat) (rowB b) (5 : TypeId)] else needs [Nat.ble ((0 : Nat) + m) m, okB m fun q ↦ rowB b ((0 : Nat) + q), decide (m ≤ (2097152 : Nat)), Nat.ble (List.length (dl m (itB fun q ↦ rowB b ((0 : Nat) + q)))) (List.length (dl m (itB fun q ↦ rowB b ((0 : Nat) + q)))), allW (List.length (dl m (itB fun q ↦ rowB b ((0 : Nat) + q)))) (row9 (wfun (dl m (itB fun q ↦ rowB b ((0 : Nat) + q))))), decide (List.length (dl m (itB fun q ↦ rowB b ((0 : Nat) + q))) ≤ (274877906944 : Nat)), Nat.ble (List.length (dl m (itB fun q ↦ rowB b ((0 : Nat) + q)))) (List.length (dl m (itB fun q ↦ rowB b ((0 : Nat) + q)))), allW (List.length (dl m (itB fun q ↦ rowB b ((0 : Nat) + q)))) (row9 (wfun (dl m (itB fun q ↦ rowB b ((0 : Nat) + q))))), decide (List.length (dl m (itB fun q ↦ rowB b ((0 : Nat) + q))) ≤ (274877906944 : Nat))] (bif !yI (listW (itW (row9 (wfun (dl m (itB fun q ↦ rowB b ((0 : Nat) + q)))))) (List.length (dl m (itB fun q ↦ rowB b ((0 : Nat) + q))))) == yI (listW (itW (row9 (wfun (dl m (itB fun q ↦ rowB b ((0 : Nat) + q)))))) (List.length (dl m (itB fun q ↦ rowB b ((0 : Nat) + q))))) then bif yI (listW (itW (row9 (wfun (dl m (itB fun q ↦ rowB b ((0 : Nat) + q)))))) (List.length (dl m (itB fun q ↦ rowB b ((0 : Nat) + q))))) == yI (listW (itW (row9 (wfun (dl m (itB fun q ↦ rowB b ((0 : Nat) + q)))))) (List.length (dl m (itB fun q ↦ rowB b ((0 : Nat) + q))))) then Res.out Ex.ret [AV.v (Value.bool (cv (listW (itW (row9 (wfun (dl m (itB fun q ↦ rowB b ((0 : Nat) + q)))))) (List.length (dl m (itB fun q ↦ rowB b ((0 : Nat) + q))))) (0 : Nat) == cv (listW (itW (row9 (wfun (dl m (itB fun q ↦ rowB b ((0 : Nat) + q)))))) (List.length (dl m (itB fun q ↦ rowB b ((0 : Nat) + q))))) (0 : Nat) && (cv (listW (itW (row9 (wfun (dl m (itB fun q ↦ rowB b ((0 : Nat) + q)))))) (List.length (dl m (itB fun q ↦ rowB b ((0 : Nat) + q))))) (1 : Nat) == cv (listW (itW (row9 (wfun (dl m (itB fun q ↦ rowB b ((0 : Nat) + q)))))) (List.length (dl m (itB fun q ↦ rowB b ((0 : Nat) + q))))) (1 : Nat) && (cv (listW (itW (row9 (wfun (dl m (itB fun q ↦ rowB b ((0 : Nat) + q)))))) (List.length (dl m (itB fun q ↦ rowB b ((0 : Nat) + q))))) (2 : Nat) == cv (listW (itW (row9 (wfun (dl m (itB fun q ↦ rowB b ((0 : Nat) + q)))))) (List.length (dl m (itB fun q ↦ rowB b ((0 : Nat) + q))))) (2 : Nat) && (cv (listW (itW (row9 (wfun (dl m (itB fun q ↦ rowB b ((0 : Nat) + q)))))) (List.length (dl m (itB fun q ↦ rowB b ((0 : Nat) + q))))) (3 : Nat) == cv (listW (itW (row9 (wfun (dl m (itB fun q ↦ rowB b ((0 : Nat) + q)))))) (List.length (dl m (itB fun q ↦ rowB b ((0 : Nat) + q))))) (3 : Nat) && (cv (listW (itW (row9 (wfun (dl m (itB fun q ↦ rowB b ((0 : Nat) + q)))))) (List.length (dl m (itB fun q ↦ rowB b ((0 : Nat) + q))))) (4 : Nat) == cv (listW (itW (row9 (wfun (dl m (itB fun q ↦ rowB b ((0 : Nat) + q)))))) (List.length (dl m (itB fun q ↦ rowB b ((0 : Nat) + q))))) (4 : Nat) && (cv (listW (itW (row9 (wfun (dl m (itB fun q ↦ rowB b ((0 : Nat) + q)))))) (List.length (dl m (itB fun q ↦ rowB b ((0 : Nat) + q))))) (5 : Nat) == cv (listW (itW (row9 (wfun (dl m (itB fun q ↦ rowB b ((0 : Nat) + q)))))) (List.length (dl m (itB fun q ↦ rowB b ((0 : Nat) + q))))) (5 : Nat) && (cv (listW (itW (row9 (wfun (dl m (itB fun q ↦ rowB b ((0 : Nat) + q)))))) (List.length (dl m (itB fun q ↦ rowB b ((0 : Nat) + q))))) (6 : Nat) == cv (listW (itW (row9 (wfun (dl m (itB fun q ↦ rowB b ((0 : Nat) + q)))))) (List.length (dl m (itB fun q ↦ rowB b ((0 : Nat) + q))))) (6 : Nat) && (cv (listW (itW (row9 (wfun (dl m (itB fun q ↦ rowB b ((0 : Nat) + q)))))) (List.length (dl m (itB fun q ↦ rowB b ((0 : Nat) + q))))) (7 : Nat) == cv (listW (itW (row9 (wfun (dl m (itB fun q ↦ rowB b ((0 : Nat) + q)))))) (List.length (dl m (itB fun q ↦ rowB b ((0 : Nat) + q))))) (7 : Nat) && true))))))) && true))] [AB.row false m (1 : Nat) (rowB b) (5 : TypeId)] else Res.out Ex.ret [AV.v (Value.bool false)] [AB.row false m (1 : Nat) (rowB b) (5 : TypeId)] else bif !(cv (listW (itW (row9 (wfun (dl m (itB fun q ↦ rowB b ((0 : Nat) + q)))))) (List.length (dl m (itB fun q ↦ rowB b ((0 : Nat) + q))))) (0 : Nat) == cv (listW (itW (row9 (wfun (dl m (itB fun q ↦ rowB b ((0 : Nat) + q)))))) (List.length (dl m (itB fun q ↦ rowB b ((0 : Nat) + q))))) (0 : Nat) && (cv (listW (itW (row9 (wfun (dl m (itB fun q ↦ rowB b ((0 : Nat) + q)))))) (List.length (dl m (itB fun q ↦ rowB b ((0 : Nat) + q))))) (1 : Nat) == cv (listW (itW (row9 (wfun (dl m (itB fun q ↦ rowB b ((0 : Nat) + q)))))) (List.length (dl m (itB fun q ↦ rowB b ((0 : Nat) + q))))) (1 : Nat) && (cv (listW (itW (row9 (wfun (dl m (itB fun q ↦ rowB b ((0 : Nat) + q)))))) (List.length (dl m (itB fun q ↦ rowB b ((0 : Nat) + q))))) (2 : Nat) == cv (listW (itW (row9 (wfun (dl m (itB fun q ↦ rowB b ((0 : Nat) + q)))))) (List.length (dl m (itB fun q ↦ rowB b ((0 : Nat) + q))))) (2 : Nat) && (cv (listW (itW (row9 (wfun (dl m (itB fun q ↦ rowB b ((0 : Nat) + q)))))) (List.length (dl m (itB fun q ↦ rowB b ((0 : Nat) + q))))) (3 : Nat) == cv (listW (itW (row9 (wfun (dl m (itB fun q ↦ rowB b ((0 : Nat) + q)))))) (List.length (dl m (itB fun q ↦ rowB b ((0 : Nat) + q))))) (3 : Nat) && (cv (listW (itW (row9 (wfun (dl m (itB fun q ↦ rowB b ((0 : Nat) + q)))))) (List.length (dl m (itB fun q ↦ rowB b ((0 : Nat) + q))))) (4 : Nat) == cv (listW (itW (row9 (wfun (dl m (itB fun q ↦ rowB b ((0 : Nat) + q)))))) (List.length (dl m (itB fun q ↦ rowB b ((0 : Nat) + q))))) (4 : Nat) && (cv (listW (itW (row9 (wfun (dl m (itB fun q ↦ rowB b ((0 : Nat) + q)))))) (List.length (dl m (itB fun q ↦ rowB b ((0 : Nat) + q))))) (5 : Nat) == cv (listW (itW (row9 (wfun (dl m (itB fun q ↦ rowB b ((0 : Nat) + q)))))) (List.length (dl m (itB fun q ↦ rowB b ((0 : Nat) + q))))) (5 : Nat) && (cv (listW (itW (row9 (wfun (dl m (itB fun q ↦ rowB b ((0 : Nat) + q)))))) (List.length (dl m (itB fun q ↦ rowB b ((0 : Nat) + q))))) (6 : Nat) == cv (listW (itW (row9 (wfun (dl m (itB fun q ↦ rowB b ((0 : Nat) + q)))))) (List.length (dl m (itB fun q ↦ rowB b ((0 : Nat) + q))))) (6 : Nat) && (cv (listW (itW (row9 (wfun (dl m (itB fun q ↦ rowB b ((0 : Nat) + q)))))) (List.length (dl m (itB fun q ↦ rowB b ((0 : Nat) + q))))) (7 : Nat) == cv (listW (itW (row9 (wfun (dl m (itB fun q ↦ rowB b ((0 : Nat) + q)))))) (List.length (dl m (itB fun q ↦ rowB b ((0 : Nat) + q))))) (7 : Nat) && true))))))) && true) then bif yI (listW (itW (row9 (wfun (dl m (itB fun q ↦ rowB b ((0 : Nat) + q)))))) (List.length (dl m (itB fun q ↦ rowB b ((0 : Nat) + q))))) == yI (listW (itW (row9 (wfun (dl m (itB fun q ↦ rowB b ((0 : Nat) + q)))))) (List.length (dl m (itB fun q ↦ rowB b ((0 : Nat) + q))))) then Res.out Ex.ret [AV.v (Value.bool (cv (listW (itW (row9 (wfun (dl m (itB fun q ↦ rowB b ((0 : Nat) + q)))))) (List.length (dl m (itB fun q ↦ rowB b ((0 : Nat) + q))))) (0 : Nat) == cv (listW (itW (row9 (wfun (dl m (itB fun q ↦ rowB b ((0 : Nat) + q)))))) (List.length (dl m (itB fun q ↦ rowB b ((0 : Nat) + q))))) (0 : Nat) && (cv (listW (itW (row9 (wfun (dl m (itB fun q ↦ rowB b ((0 : Nat) + q)))))) (List.length (dl m (itB fun q ↦ rowB b ((0 : Nat) + q))))) (1 : Nat) == cv (listW (itW (row9 (wfun (dl m (itB fun q ↦ rowB b ((0 : Nat) + q)))))) (List.length (dl m (itB fun q ↦ rowB b ((0 : Nat) + q))))) (1 : Nat) && (cv (listW (itW (row9 (wfun (dl m (itB fun q ↦ rowB b ((0 : Nat) + q)))))) (List.length (dl m (itB fun q ↦ rowB b ((0 : Nat) + q))))) (2 : Nat) == cv (listW (itW (row9 (wfun (dl m (itB fun q ↦ rowB b ((0 : Nat) + q)))))) (List.length (dl m (itB fun q ↦ rowB b ((0 : Nat) + q))))) (2 : Nat) && (cv (listW (itW (row9 (wfun (dl m (itB fun q ↦ rowB b ((0 : Nat) + q)))))) (List.length (dl m (itB fun q ↦ rowB b ((0 : Nat) + q))))) (3 : Nat) == cv (listW (itW (row9 (wfun (dl m (itB fun q ↦ rowB b ((0 : Nat) + q)))))) (List.length (dl m (itB fun q ↦ rowB b ((0 : Nat) + q))))) (3 : Nat) && (cv (listW (itW (row9 (wfun (dl m (itB fun q ↦ rowB b ((0 : Nat) + q)))))) (List.length (dl m (itB fun q ↦ rowB b ((0 : Nat) + q))))) (4 : Nat) == cv (listW (itW (row9 (wfun (dl m (itB fun q ↦ rowB b ((0 : Nat) + q)))))) (List.length (dl m (itB fun q ↦ rowB b ((0 : Nat) + q))))) (4 : Nat) && (cv (listW (itW (row9 (wfun (dl m (itB fun q ↦ rowB b ((0 : Nat) + q)))))) (List.length (dl m (itB fun q ↦ rowB b ((0 : Nat) + q))))) (5 : Nat) == cv (listW (itW (row9 (wfun (dl m (itB fun q ↦ rowB b ((0 : Nat) + q)))))) (List.length (dl m (itB fun q ↦ rowB b ((0 : Nat) + q))))) (5 : Nat) && (cv (listW (itW (row9 (wfun (dl m (itB fun q ↦ rowB b ((0 : Nat) + q)))))) (List.length (dl m (itB fun q ↦ rowB b ((0 : Nat) + q))))) (6 : Nat) == cv (listW (itW (row9 (wfun (dl m (itB fun q ↦ rowB b ((0 : Nat) + q)))))) (List.length (dl m (itB fun q ↦ rowB b ((0 : Nat) + q))))) (6 : Nat) && (cv (listW (itW (row9 (wfun (dl m (itB fun q ↦ rowB b ((0 : Nat) + q)))))) (List.length (dl m (itB fun q ↦ rowB b ((0 : Nat) + q))))) (7 : Nat) == cv (listW (itW (row9 (wfun (dl m (itB fun q ↦ rowB b ((0 : Nat) + q)))))) (List.length (dl m (itB fun q ↦ rowB b ((0 : Nat) + q))))) (7 : Nat) && true))))))) && true))] [AB.row false m (1 : Nat) (rowB b) (5 : TypeId)] else Res.out Ex.ret [AV.v (Value.bool false)] [AB.row false m (1 : Nat) (rowB b) (5 : TypeId)] else bif !yI (listW (itW (row9 (wfun (dl m (itB fun q ↦ rowB b ((0 : Nat) + q)))))) (List.length (dl m (itB fun q ↦ rowB b ((0 : Nat) + q))))) then bif yI (listW (itW (row9 (wfun (dl m (itB fun q ↦ rowB b ((0 : Nat) + q)))))) (List.length (dl m (itB fun q ↦ rowB b ((0 : Nat) + q))))) == yI (listW (itW (row9 (wfun (dl m (itB fun q ↦ rowB b ((0 : Nat) + q)))))) (List.length (dl m (itB fun q ↦ rowB b ((0 : Nat) + q))))) then Res.out Ex.ret [AV.v (Value.bool (cv (listW (itW (row9 (wfun (dl m (itB fun q ↦ rowB b ((0 : Nat) + q)))))) (List.length (dl m (itB fun q ↦ rowB b ((0 : Nat) + q))))) (0 : Nat) == cv (listW (itW (row9 (wfun (dl m (itB fun q ↦ rowB b ((0 : Nat) + q)))))) (List.length (dl m (itB fun q ↦ rowB b ((0 : Nat) + q))))) (0 : Nat) && (cv (listW (itW (row9 (wfun (dl m (itB fun q ↦ rowB b ((0 : Nat) + q)))))) (List.length (dl m (itB fun q ↦ rowB b ((0 : Nat) + q))))) (1 : Nat) == cv (listW (itW (row9 (wfun (dl m (itB fun q ↦ rowB b ((0 : Nat) + q)))))) (List.length (dl m (itB fun q ↦ rowB b ((0 : Nat) + q))))) (1 : Nat) && (cv (listW (itW (row9 (wfun (dl m (itB fun q ↦ rowB b ((0 : Nat) + q)))))) (List.length (dl m (itB fun q ↦ rowB b ((0 : Nat) + q))))) (2 : Nat) == cv (listW (itW (row9 (wfun (dl m (itB fun q ↦ rowB b ((0 : Nat) + q)))))) (List.length (dl m (itB fun q ↦ rowB b ((0 : Nat) + q))))) (2 : Nat) && (cv (listW (itW (row9 (wfun (dl m (itB fun q ↦ rowB b ((0 : Nat) + q)))))) (List.length (dl m (itB fun q ↦ rowB b ((0 : Nat) + q))))) (3 : Nat) == cv (listW (itW (row9 (wfun (dl m (itB fun q ↦ rowB b ((0 : Nat) + q)))))) (List.length (dl m (itB fun q ↦ rowB b ((0 : Nat) + q))))) (3 : Nat) && (cv (listW (itW (row9 (wfun (dl m (itB fun q ↦ rowB b ((0 : Nat) + q)))))) (List.length (dl m (itB fun q ↦ rowB b ((0 : Nat) + q))))) (4 : Nat) == cv (listW (itW (row9 (wfun (dl m (itB fun q ↦ rowB b ((0 : Nat) + q)))))) (List.length (dl m (itB fun q ↦ rowB b ((0 : Nat) + q))))) (4 : Nat) && (cv (listW (itW (row9 (wfun (dl m (itB fun q ↦ rowB b ((0 : Nat) + q)))))) (List.length (dl m (itB fun q ↦ rowB b ((0 : Nat) + q))))) (5 : Nat) == cv (listW (itW (row9 (wfun (dl m (itB fun q ↦ rowB b ((0 : Nat) + q)))))) (List.length (dl m (itB fun q ↦ rowB b ((0 : Nat) + q))))) (5 : Nat) && (cv (listW (itW (row9 (wfun (dl m (itB fun q ↦ rowB b ((0 : Nat) + q)))))) (List.length (dl m (itB fun q ↦ rowB b ((0 : Nat) + q))))) (6 : Nat) == cv (listW (itW (row9 (wfun (dl m (itB fun q ↦ rowB b ((0 : Nat) + q)))))) (List.length (dl m (itB fun q ↦ rowB b ((0 : Nat) + q))))) (6 : Nat) && (cv (listW (itW (row9 (wfun (dl m (itB fun q ↦ rowB b ((0 : Nat) + q)))))) (List.length (dl m (itB fun q ↦ rowB b ((0 : Nat) + q))))) (7 : Nat) == cv (listW (itW (row9 (wfun (dl m (itB fun q ↦ rowB b ((0 : Nat) + q)))))) (List.length (dl m (itB fun q ↦ rowB b ((0 : Nat) + q))))) (7 : Nat) && true))))))) && true))] [AB.row false m (1 : Nat) (rowB b) (5 : TypeId)] else Res.out Ex.ret [AV.v (Value.bool false)] [AB.row false m (1 : Nat) (rowB b) (5 : TypeId)] else needs [Nat.ble (List.length (dl m (itB fun q ↦ rowB b ((0 : Nat) + q)))) (List.length (dl m (itB fun q ↦ rowB b ((0 : Nat) + q)))), allW (List.length (dl m (itB fun q ↦ rowB b ((0 : Nat) + q)))) (row9 (wfun (dl m (itB fun q ↦ rowB b ((0 : Nat) + q))))), decide (List.length (dl m (itB fun q ↦ rowB b ((0 : Nat) + q))) ≤ (274877906944 : Nat)), yI (listW (itW (row9 (wfun (dl m (itB fun q ↦ rowB b ((0 : Nat) + q)))))) (List.length (dl m (itB fun q ↦ rowB b ((0 : Nat) + q))))), chk ([AV.own (1 : Nat) (List.length (dl m (itB fun q ↦ rowB b ((0 : Nat) + q)))), AV.ptr (2 : Nat) (0 : Nat) (0 : Nat) (0 : Nat), AV.own (3 : Nat) (List.length (tI (listW (itW (row9 (wfun (dl m (itB fun q ↦ rowB b ((0 : Nat) + q)))))) (List.length (dl m (itB fun q ↦ rowB b ((0 : Nat) + q))))))), AV.v (Value.bool true), AV.v (Value.int IntKind.i64 (0 : Int))] = stC0 n k p (0 : Nat) ∧ Hsim [AB.row false m (1 : Nat) (rowB b) (5 : TypeId), AB.row true (List.length (dl m (itB fun q ↦ rowB b ((0 : Nat) + q)))) (9 : Nat) (row9 (wfun (dl m (itB fun q ↦ rowB b ((0 : Nat) + q))))) (58 : TypeId), AB.cells [AV.v (Value.int IntKind.i64 (cv (listW (itW (row9 (wfun (dl m (itB fun q ↦ rowB b ((0 : Nat) + q)))))) (List.length (dl m (itB fun q ↦ rowB b ((0 : Nat) + q))))) (0 : Nat))), AV.v (Value.int IntKind.i64 (cv (listW (itW (row9 (wfun (dl m (itB fun q ↦ rowB b ((0 : Nat) + q)))))) (List.length (dl m (itB fun q ↦ rowB b ((0 : Nat) + q))))) (1 : Nat))), AV.v (Value.int IntKind.i64 (cv (listW (itW (row9 (wfun (dl m (itB fun q ↦ rowB b ((0 : Nat) + q)))))) (List.length (dl m (itB fun q ↦ rowB b ((0 : Nat) + q))))) (2 : Nat))), AV.v (Value.int IntKind.i64 (cv (listW (itW (row9 (wfun (dl m (itB fun q ↦ rowB b ((0 : Nat) + q)))))) (List.length (dl m (itB fun q ↦ rowB b ((0 : Nat) + q))))) (3 : Nat))), AV.v (Value.int IntKind.i64 (cv (listW (itW (row9 (wfun (dl m (itB fun q ↦ rowB b ((0 : Nat) + q)))))) (List.length (dl m (itB fun q ↦ rowB b ((0 : Nat) + q))))) (4 : Nat))), AV.v (Value.int IntKind.i64 (cv (listW (itW (row9 (wfun (dl m (itB fun q ↦ rowB b ((0 : Nat) + q)))))) (List.length (dl m (itB fun q ↦ rowB b ((0 : Nat) + q))))) (5 : Nat))), AV.v (Value.int IntKind.i64 (cv (listW (itW (row9 (wfun (dl m (itB fun q ↦ rowB b ((0 : Nat) + q)))))) (List.length (dl m (itB fun q ↦ rowB b ((0 : Nat) + q))))) (6 : Nat))), AV.v (Value.int IntKind.i64 (cv (listW (itW (row9 (wfun (dl m (itB fun q ↦ rowB b ((0 : Nat) + q)))))) (List.length (dl m (itB fun q ↦ rowB b ((0 : Nat) + q))))) (7 : Nat)))] (35 : Nat), AB.row true (List.length (tI (listW (itW (row9 (wfun (dl m (itB fun q ↦ rowB b ((0 : Nat) + q)))))) (List.length (dl m (itB fun q ↦ rowB b ((0 : Nat) + q))))))) (1 : Nat) (rowI (sp (tI (listW (itW (row9 (wfun (dl m (itB fun q ↦ rowB b ((0 : Nat) + q)))))) (List.length (dl m (itB fun q ↦ rowB b ((0 : Nat) + q)))))))) (3 : TypeId)] (hpC0 m b n f a k o))] (bif c0 then needs [chk ([AV.own (1 : Nat) n, AV.ptr (2 : Nat) (0 : Nat) (0 : Nat) (0 : Nat), AV.v (Value.bool p), AV.ptr (3 : Nat) (0 : Nat) (0 : Nat) (0 : Nat), AV.v (Value.int IntKind.i64 (0 : Int))] = stC2 n p (0 : Nat) ∧ Hsim [AB.row false m (1 : Nat) (rowB b) (5 : TypeId), AB.row true n (9 : Nat) (row9 f) (58 : TypeId), AB.cells [AV.v (Value.int IntKind.i64 (a (0 : Nat))), AV.v (Value.int IntKind.i64 (a (1 : Nat))), AV.v (Value.int IntKind.i64 (a (2 : Nat))), AV.v (Value.int IntKind.i64 (a (3 : Nat))), AV.v (Value.int IntKind.i64 (a (4 : Nat))), AV.v (Value.int IntKind.i64 (a (5 : Nat))), AV.v (Value.int IntKind.i64 (a (6 : Nat))), AV.v (Value.int IntKind.i64 (a (7 : Nat)))] (35 : TypeId), AB.cells [AV.v (Value.int IntKind.i64 (0 : Int)), AV.v (Value.int IntKind.i64 (0 : Int)), AV.v (Value.int IntKind.i64 (0 : Int)), AV.v (Value.int IntKind.i64 (0 : Int)), AV.v (Value.int IntKind.i64 (0 : Int)), AV.v (Value.int IntKind.i64 (0 : Int)), AV.v (Value.int IntKind.i64 (0 : Int)), AV.v (Value.int IntKind.i64 (0 : Int))] (35 : Nat)] (hpC2 m b n f a fun _ ↦ (0 : Int)))] (bif c2 then bif p then bif !sk (w8 a) (24 : Int) then Res.out Ex.ret [AV.v (Value.bool true)] [AB.row false m (1 : Nat) (rowB b) (5 : TypeId)] else Res.out Ex.ret [AV.v (Value.bool (sv (w8 a) (24 : Int) (0 : Nat) == s (0 : Nat) && (sv (w8 a) (24 : Int) (1 : Nat) == s (1 : Nat) && (sv (w8 a) (24 : Int) (2 : Nat) == s (2 : Nat) && (sv (w8 a) (24 : Int) (3 : Nat) == s (3 : Nat) && (sv (w8 a) (24 : Int) (4 : Nat) == s (4 : Nat) && (sv (w8 a) (24 : Int) (5 : Nat) == s (5 : Nat) && (sv (w8 a) (24 : Int) (6 : Nat) == s (6 : Nat) && (sv (w8 a) (24 : Int) (7 : Nat) == s (7 : Nat) && true))))))) && true))] [AB.row false m (1 : Nat) (rowB b) (5 : TypeId)] else Res.out Ex.ret [AV.v (Value.bool false)] [AB.row false m (1 : Nat) (rowB b) (5 : TypeId)] else Res.out Ex.ret [AV.v (Value.bool p)] [AB.row false m (1 : Nat) (rowB b) (5 : TypeId)]) else Res.out Ex.ret [AV.v (Value.bool p)] [AB.row false m (1 : Nat) (rowB b) (5 : TypeId)])) := by kernel_rfl

end Go.Proofs.Ytakimbknciffnaa
