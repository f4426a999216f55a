/- Rows have the points of the design: FnRowOf returns true, whatever the bytes are, and they read as before. No conditions. -/
import Derived.Test.YtakimbknciffnaaZD0
import Derived.Test.YtakimbknciffnaaZD1
import Derived.Test.YtakimbknciffnaaZD2
import Derived.Test.YtakimbknciffnaaZD3
import Derived.Test.YtakimbknciffnaaZD4
import Derived.Test.YtakimbknciffnaaZD5
import Derived.Test.YtakimbknciffnaaZD6
/- The program's CycMirror. Conditions: a point. -/
namespace Go.Proofs.Ytakimbknciffnaa
open Go.RowKit
set_option maxRecDepth 100000

def gmO2 (ok : (Nat → Int) → Bool) (mi : (Nat → Int) → Nat → Int) : Gam := ext (ext g0 83 (specV (fOkc ok))) 94 (specV (fMirO mi))
theorem treeO2 (ok : (Nat → Int) → Bool) (mi : (Nat → Int) → Nat → Int) (a : Nat → Int) : execF Try.prog (gmO2 ok mi) noLam 100 Try.f43 [.v (cyv a)] [] (packK 0)
    = bif !ok (w8 a) then Res.out Ex.ret [AV.tup [AV.agg [AV.v (Value.int IntKind.i64 (0 : Int)), AV.v (Value.int IntKind.i64 (0 : Int)), AV.v (Value.int IntKind.i64 (0 : Int)), AV.v (Value.int IntKind.i64 (0 : Int)), AV.v (Value.int IntKind.i64 (0 : Int)), AV.v (Value.int IntKind.i64 (0 : Int)), AV.v (Value.int IntKind.i64 (0 : Int)), AV.v (Value.int IntKind.i64 (0 : Int))], AV.v (Value.bool false)]] [] else bif !ok (w8 (mi (w8 a))) then Res.out Ex.ret [AV.tup [AV.agg [AV.v (Value.int IntKind.i64 (0 : Int)), AV.v (Value.int IntKind.i64 (0 : Int)), AV.v (Value.int IntKind.i64 (0 : Int)), AV.v (Value.int IntKind.i64 (0 : Int)), AV.v (Value.int IntKind.i64 (0 : Int)), AV.v (Value.int IntKind.i64 (0 : Int)), AV.v (Value.int IntKind.i64 (0 : Int)), AV.v (Value.int IntKind.i64 (0 : Int))], AV.v (Value.bool false)]] [] else Res.out Ex.ret [AV.tup [AV.agg [AV.v (Value.int IntKind.i64 (mi (w8 a) (0 : Nat))), AV.v (Value.int IntKind.i64 (mi (w8 a) (1 : Nat))), AV.v (Value.int IntKind.i64 (mi (w8 a) (2 : Nat))), AV.v (Value.int IntKind.i64 (mi (w8 a) (3 : Nat))), AV.v (Value.int IntKind.i64 (mi (w8 a) (4 : Nat))), AV.v (Value.int IntKind.i64 (mi (w8 a) (5 : Nat))), AV.v (Value.int IntKind.i64 (mi (w8 a) (6 : Nat))), AV.v (Value.int IntKind.i64 (mi (w8 a) (7 : Nat)))], AV.v (Value.bool true)]] [] := by kernel_rfl

theorem gmO2_ok : GamOk Try.prog (gmO2 (fun v => cyOk (cyOf v)) mirF) := by
  unfold gmO2
  rw [fOkc_eq, fMirO_eq]
  exact ext_ok (ext_ok g0_ok ok_cvI) ok_mirror
/-- A point: a point, and whether it is one. -/
def FcqO (v : (Nat → Int) → Nat → Int) (ok : (Nat → Int) → Bool) : List SA → Option FR
  | [.v (.agg ⟨[.int .i64 a0, .int .i64 a1, .int .i64 a2, .int .i64 a3, .int .i64 a4, .int .i64 a5, .int .i64 a6, .int .i64 a7]⟩)] => some { val := .tup [.agg (cyC (v (v8 a0 a1 a2 a3 a4 a5 a6 a7))), .v (.bool (ok (v8 a0 a1 a2 a3 a4 a5 a6 a7)))] }
  | _ => none
def okMi (a : Nat → Int) : Bool := cyOk (cyOf a) && cyOk (cyOf (mirF a))
def vMi (a : Nat → Int) : Nat → Int := bif okMi a then mirF a else fun _ => 0
theorem ok_cMi : SpecOk Try.prog 43 (specR [.val] (FcqO vMi okMi)) := by
  refine specR_hr gmO2_ok Try.func43 rfl fun sas fr hF ho => ?_
  unfold FcqO at hF
  split at hF
  · rename_i a0 a1 a2 a3 a4 a5 a6 a7
    cases hF
    refine ⟨[], noLam, 100, .nil, noLam' _, ?_⟩
    show GoodQ (execF Try.prog (gmO2 (fun v => cyOk (cyOf v)) mirF) noLam 100 Try.f43 [.v (cyv (v8 a0 a1 a2 a3 a4 a5 a6 a7))] [] (packK 0)) _
    rw [treeO2]
    generalize hA : v8 a0 a1 a2 a3 a4 a5 a6 a7 = a
    have hw : w8 a = a := by subst hA; rfl
    rw [hw]
    have fin : ∀ (v : Nat → Int) (o : Bool), vMi a = v → okMi a = o → GoodQ (.out .ret [.tup [.agg (cyC v), .v (.bool o)]] []) (GivR (abP [.val] [.v (.agg ⟨[.int .i64 a0, .int .i64 a1, .int .i64 a2, .int .i64 a3, .int .i64 a4, .int .i64 a5, .int .i64 a6, .int .i64 a7]⟩)] []) { val := .tup [.agg (cyC (vMi a)), .v (.bool (okMi a))] }) := by
      rintro v o rfl rfl
      exact good_out ⟨_, rfl, rfl, .nil⟩
    have bad : okMi a = false → GoodQ (.out .ret [.tup [.agg (cyC fun _ => 0), .v (.bool false)]] []) _ := fun e => fin _ _ (by rw [vMi, e]; rfl) e
    refine good_cond (fun q => ?_) fun q => ?_
    · have q' : (!cyOk (cyOf a)) = true := q
      exact bad (by rw [okMi, show cyOk (cyOf a) = false by simpa using q']; rfl)
    · have q' : (!cyOk (cyOf a)) = false := q
      have qa : cyOk (cyOf a) = true := by simpa using q'
      refine good_cond (fun q => ?_) fun q => ?_
      · have q' : (!cyOk (cyOf (mirF a))) = true := q
        exact bad (by rw [okMi, qa, show cyOk (cyOf (mirF a)) = false by simpa using q']; rfl)
      · have q' : (!cyOk (cyOf (mirF a))) = false := q
        have qm : cyOk (cyOf (mirF a)) = true := by simpa using q'
        have e : okMi a = true := by rw [okMi, qa, qm]; rfl
        exact fin (mirF a) true (by rw [vMi, e]; rfl) e
  · cases hF

end Go.Proofs.Ytakimbknciffnaa

/- 'changed', for DesignFaster: trees. Conditions: a list of wheels. -/
namespace Go.Proofs.Ytakimbknciffnaa
open Go.RowKit
set_option maxRecDepth 100000

abbrev fnFa : AV := .fn 86 [.ptr 1 0 0 0]
abbrev hpCFa (m : Nat) (f : Nat → Nat → Int) (t : TypeId) (x : Int) (n : Nat) (h : Nat → Nat → Int) : List AB := [.row false m 9 (row9 f) t, .cells [.v (i64 x)] 3, .row true n 9 (row9 h) 58]
abbrev stCFa (m n i : Nat) : List AV := [fnFa, .own 2 n, .sl 0 9 0 0 m none, .v (i64 m), .v (i64 i)]
theorem rndCFa (mi : (Nat → Int) → Nat → Int) (tu : (Nat → Int) → Int → Nat → Int) (m : Nat) (f : Nat → Nat → Int) (t : TypeId) (x : Int) (n : Nat) (h : Nat → Nat → Int) (i : Nat) : execC Try.prog (gmC mi tu) 100 noLam (loopAt 0 Try.f64) (mkT 0 32 ((lvCh .normal).zip (stCFa m n i))) (hpCFa m f t x n h) (leafV 32 lvCh 2)
    = bif decide ((↑i : Int) < (↑m : Int)) then needs [decide ((↑i : Int) < (↑m : Int)), decide ((0 : Nat) + Int.toNat (↑i : Int) < m), Nat.ble n n, Nat.ble (n + (1 : Nat)) (549755813888 : Nat)] (Res.out Ex.normal [AV.fn (86 : FuncId) [AV.ptr (1 : Nat) (0 : Nat) (0 : Nat) (0 : Nat)], AV.own (2 : Nat) (n + (1 : Nat)), AV.sl (0 : Nat) (9 : Nat) (0 : Nat) (0 : Nat) m none, AV.v (Value.int IntKind.i64 (↑m : Int)), AV.v (Value.int IntKind.i64 (IntKind.wrap IntKind.i64 ((↑i : Int) + (1 : Int))))] [AB.row false m (9 : Nat) (row9 f) t, AB.cells [AV.v (Value.int IntKind.i64 x)] (3 : TypeId), AB.row true (n + (1 : Nat)) (9 : Nat) (fun q ↦ [Value.int IntKind.i64 (bif Nat.blt q n then h q (0 : Nat) else IntKind.wrap IntKind.i64 (x * f ((0 : Nat) + Int.toNat (↑i : Int)) (0 : Nat))), Value.int IntKind.i64 (bif Nat.blt q n then h q (1 : Nat) else f ((0 : Nat) + Int.toNat (↑i : Int)) (1 : Nat)), Value.int IntKind.i64 (bif Nat.blt q n then h q (2 : Nat) else f ((0 : Nat) + Int.toNat (↑i : Int)) (2 : Nat)), Value.int IntKind.i64 (bif Nat.blt q n then h q (3 : Nat) else f ((0 : Nat) + Int.toNat (↑i : Int)) (3 : Nat)), Value.int IntKind.i64 (bif Nat.blt q n then h q (4 : Nat) else f ((0 : Nat) + Int.toNat (↑i : Int)) (4 : Nat)), Value.int IntKind.i64 (bif Nat.blt q n then h q (5 : Nat) else f ((0 : Nat) + Int.toNat (↑i : Int)) (5 : Nat)), Value.int IntKind.i64 (bif Nat.blt q n then h q (6 : Nat) else f ((0 : Nat) + Int.toNat (↑i : Int)) (6 : Nat)), Value.int IntKind.i64 (bif Nat.blt q n then h q (7 : Nat) else f ((0 : Nat) + Int.toNat (↑i : Int)) (7 : Nat)), Value.int IntKind.i64 (bif Nat.blt q n then h q (8 : Nat) else f ((0 : Nat) + Int.toNat (↑i : Int)) (8 : Nat))]) (58 : Nat)]) else Res.out (Ex.exit (0 : Nat)) [AV.own (2 : Nat) n] [AB.row false m (9 : Nat) (row9 f) t, AB.cells [AV.v (Value.int IntKind.i64 x)] (3 : TypeId), AB.row true n (9 : Nat) (row9 h) (58 : TypeId)] := by kernel_rfl

noncomputable abbrev lamCFa (m : Nat) (f : Nat → Nat → Int) (t : TypeId) (x : Int) (n : Nat) (h : Nat → Nat → Int) : Nat → Option Sum := oneL 0 (atS 32 (lvCh .normal) 2 (stCFa m 0 0) (hpCFa m f t x 0 (wfun [])) (fun K => K .normal (mkT 0 32 [(6, .own 2 n)]) (hpCFa m f t x n h)))
theorem treeYFa (okd : List Wh → Bool) (ti : List Wh → List Wh) (okt inw : List Wh → Bool) (m : Nat) (f : Nat → Nat → Int) (t : TypeId) (x : Int) (n : Nat) (h : Nat → Nat → Int) : execF Try.prog (gmChY okd ti okt inw) (lamCFa m f t x n h) 100 Try.f64 [.sl 0 9 0 0 m none, fnFa] [.row false m 9 (row9 f) t, .cells [.v (i64 x)] 3] (packK 2)
    = needs [Nat.ble ((0 : Nat) + m) m, allW m fun q ↦ row9 f ((0 : Nat) + q), decide (m ≤ (549755813888 : Nat))] (bif !okd (listW (itW fun q ↦ row9 f ((0 : Nat) + q)) m) then Res.out Ex.ret [AV.tup [AV.v (Value.slice none (0 : Nat) (0 : Nat)), AV.v (Value.bool false)]] [AB.row false m (9 : Nat) (row9 f) t, AB.cells [AV.v (Value.int IntKind.i64 x)] (3 : TypeId)] else needs [decide ((↑m : Int) ≤ (1099511627776 : Int)), chk ([AV.fn (86 : FuncId) [AV.ptr (1 : Nat) (0 : Nat) (0 : Nat) (0 : Nat)], AV.own (2 : Nat) (0 : Nat), AV.sl (0 : Nat) (9 : Nat) (0 : Nat) (0 : Nat) m none, AV.v (Value.int IntKind.i64 (↑m : Int)), AV.v (Value.int IntKind.i64 (0 : Int))] = stCFa m (0 : Nat) (0 : Nat) ∧ Hsim [AB.row false m (9 : Nat) (row9 f) t, AB.cells [AV.v (Value.int IntKind.i64 x)] (3 : TypeId), AB.row true (0 : Nat) (9 : Nat) (fun _ ↦ [Value.int IntKind.i64 (0 : Int), Value.int IntKind.i64 (0 : Int), Value.int IntKind.i64 (0 : Int), Value.int IntKind.i64 (0 : Int), Value.int IntKind.i64 (0 : Int), Value.int IntKind.i64 (0 : Int), Value.int IntKind.i64 (0 : Int), Value.int IntKind.i64 (0 : Int), Value.int IntKind.i64 (0 : Int)]) (58 : Nat)] (hpCFa m f t x (0 : Nat) (wfun []))), Nat.ble n n, allW n (row9 h), decide (n ≤ (274877906944 : Nat)), inw (listW (itW (row9 h)) n), okt (listW (itW (row9 h)) n)] (Res.out Ex.ret [AV.tup [AV.sl (2 : Nat) (9 : Nat) (0 : Nat) (0 : Nat) (List.length (ti (listW (itW (row9 h)) n))) (some (List.length (ti (listW (itW (row9 h)) n)))), AV.v (Value.bool true)]] [AB.row false m (9 : Nat) (row9 f) t, AB.cells [AV.v (Value.int IntKind.i64 x)] (3 : TypeId), AB.row true (List.length (ti (listW (itW (row9 h)) n))) (9 : Nat) (row9 (wfun (ti (listW (itW (row9 h)) n)))) (58 : TypeId)])) := by kernel_rfl

theorem treeNFa (okd : List Wh → Bool) (okt inw : List Wh → Bool) (m : Nat) (f : Nat → Nat → Int) (t : TypeId) (x : Int) (n : Nat) (h : Nat → Nat → Int) : execF Try.prog (gmChN okd okt inw) (lamCFa m f t x n h) 100 Try.f64 [.sl 0 9 0 0 m none, fnFa] [.row false m 9 (row9 f) t, .cells [.v (i64 x)] 3] (packK 2)
    = needs [Nat.ble ((0 : Nat) + m) m, allW m fun q ↦ row9 f ((0 : Nat) + q), decide (m ≤ (549755813888 : Nat))] (bif !okd (listW (itW fun q ↦ row9 f ((0 : Nat) + q)) m) then Res.out Ex.ret [AV.tup [AV.v (Value.slice none (0 : Nat) (0 : Nat)), AV.v (Value.bool false)]] [AB.row false m (9 : Nat) (row9 f) t, AB.cells [AV.v (Value.int IntKind.i64 x)] (3 : TypeId)] else needs [decide ((↑m : Int) ≤ (1099511627776 : Int)), chk ([AV.fn (86 : FuncId) [AV.ptr (1 : Nat) (0 : Nat) (0 : Nat) (0 : Nat)], AV.own (2 : Nat) (0 : Nat), AV.sl (0 : Nat) (9 : Nat) (0 : Nat) (0 : Nat) m none, AV.v (Value.int IntKind.i64 (↑m : Int)), AV.v (Value.int IntKind.i64 (0 : Int))] = stCFa m (0 : Nat) (0 : Nat) ∧ Hsim [AB.row false m (9 : Nat) (row9 f) t, AB.cells [AV.v (Value.int IntKind.i64 x)] (3 : TypeId), AB.row true (0 : Nat) (9 : Nat) (fun _ ↦ [Value.int IntKind.i64 (0 : Int), Value.int IntKind.i64 (0 : Int), Value.int IntKind.i64 (0 : Int), Value.int IntKind.i64 (0 : Int), Value.int IntKind.i64 (0 : Int), Value.int IntKind.i64 (0 : Int), Value.int IntKind.i64 (0 : Int), Value.int IntKind.i64 (0 : Int), Value.int IntKind.i64 (0 : Int)]) (58 : Nat)] (hpCFa m f t x (0 : Nat) (wfun []))), Nat.ble n n, allW n (row9 h), decide (n ≤ (274877906944 : Nat)), inw (listW (itW (row9 h)) n), !okt (listW (itW (row9 h)) n)] (Res.out Ex.ret [AV.tup [AV.v (Value.slice none (0 : Nat) (0 : Nat)), AV.v (Value.bool false)]] [AB.row false m (9 : Nat) (row9 f) t, AB.cells [AV.v (Value.int IntKind.i64 x)] (3 : TypeId)])) := by kernel_rfl

end Go.Proofs.Ytakimbknciffnaa

/- 'changed', for DesignFaster: its words. Conditions: a list of wheels. -/
namespace Go.Proofs.Ytakimbknciffnaa
open Go.RowKit
set_option maxRecDepth 100000

theorem treeEFa (okd : List Wh → Bool) (okt inw : List Wh → Bool) (m : Nat) (f : Nat → Nat → Int) (t : TypeId) (x : Int) : execF Try.prog (gmChN okd okt inw) (oneL 0 errS) 100 Try.f64 [.sl 0 9 0 0 m none, fnFa] [.row false m 9 (row9 f) t, .cells [.v (i64 x)] 3] (packK 2)
    = needs [Nat.ble ((0 : Nat) + m) m, allW m fun q ↦ row9 f ((0 : Nat) + q), decide (m ≤ (549755813888 : Nat))] (bif !okd (listW (itW fun q ↦ row9 f ((0 : Nat) + q)) m) then Res.out Ex.ret [AV.tup [AV.v (Value.slice none (0 : Nat) (0 : Nat)), AV.v (Value.bool false)]] [AB.row false m (9 : Nat) (row9 f) t, AB.cells [AV.v (Value.int IntKind.i64 x)] (3 : TypeId)] else needs [decide ((↑m : Int) ≤ (1099511627776 : Int))] Res.err) := by kernel_rfl

def chFa (x : Int) (w : Wh) : Wh := ⟨IntKind.wrap IntKind.i64 (x * w.s), w.r⟩
abbrev mpFa : Int → List Wh → List Wh := fun x L => L.map (chFa x)
theorem inwFa (x : Int) {L : List Wh} (h : okD L = true) : inW (L.map (chFa x)) := by
  intro w' hw'
  obtain ⟨w, hw, rfl⟩ := List.mem_map.1 hw'
  exact (valid_in h hw : cyIn w.r)
theorem sumCFa (m : Nat) (f : Nat → Nat → Int) (t : TypeId) (x : Int) (hm : m ≤ 2 ^ 38) (hok : ∀ w ∈ listW f m, inB w.r.f = true) :
    SumOk Try.prog 2 (.block 0 (.loop (loopAt 0 Try.f64))) (atS 32 (lvCh .normal) 2 (stCFa m 0 0) (hpCFa m f t x 0 (wfun [])) (fun K => K .normal (mkT 0 32 [(6, .own 2 m)]) (hpCFa m f t x m (wfun ((listW f m).map (chFa x)))))) := by
  refine for_at gmC_ok (n := 100) (m := 2) (lv := lvCh) (fun i => stCFa m i i) (fun i => hpCFa m f t x i (wfun ((listW f i).map (chFa x)))) (fun _ => True) m (fun _ => noLam) (lv3_ris rfl rfl rfl) (Nat.le_refl _) trivial fun K Q hk i hi him => ⟨noLam_ok _ _ _, ?_⟩
  rw [rndCFa]
  refine good_cond (fun c1 => ?_) fun c1 => ?_
  · have c1 := of_decide_eq_true c1
    have c1' : i < m := by omega
    rw [Int.toNat_natCast, Nat.zero_add, wr_in (x := (i : Int) + 1) (by omega)]
    refine good_needs (by simp only [ob_cons, ob_nil, and_true, decide_eq_true_eq, Nat.ble_eq]; omega) (good_out ⟨i + 1, ⟨rfl, c1', trivial⟩, rfl, ?_⟩)
    show Hsim _ (hpCFa m f t x (i + 1) (wfun ((listW f (i + 1)).map (chFa x))))
    rw [listW_succ, List.map_append]
    refine (.cons (ABeq.refl _) (.cons (ABeq.refl _) (.cons (ABeq.row fun q hq => ?_) .nil)))
    exact ch_row _ ((chFa x) (whOf (f i))) i (by rw [List.length_map, listW_length]) q hq
  · have c1 := of_decide_eq_false c1
    have : i = m := by omega
    subst this
    refine good_out ⟨_, Hsim.refl _, ?_⟩
    rw [if_pos rfl]
    exact hk

def FchYFa (okd : List Wh → Bool) (ti : List Wh → List Wh) (okt : List Wh → Bool) (mp : Int → List Wh → List Wh) : List AV → List AB → Option HR
  | [.sl 0 9 0 0 m none, .fn 86 [.ptr 1 0 0 0]], [.row false n 9 g t, .cells [.v (.int .i64 x)] 3] => some { val := .tup [.sl 2 9 0 0 (ti (mp x (listW (itW g) m))).length (some (ti (mp x (listW (itW g) m))).length), .v (.bool true)], out := [.row false n 9 g t, .cells [.v (.int .i64 x)] 3], new := newY (ti (mp x (listW (itW g) m))), obl := [Nat.beq n m, allW m g, decide (m ≤ 2 ^ 38), okd (listW (itW g) m) && okt (mp x (listW (itW g) m))] }
  | _, _ => none
def FchNFa (okd : List Wh → Bool) (okt : List Wh → Bool) (mp : Int → List Wh → List Wh) : List AV → List AB → Option HR
  | [.sl 0 9 0 0 m none, .fn 86 [.ptr 1 0 0 0]], [.row false n 9 g t, .cells [.v (.int .i64 x)] 3] => some { val := valN, out := [.row false n 9 g t, .cells [.v (.int .i64 x)] 3], obl := [Nat.beq n m, allW m g, decide (m ≤ 2 ^ 38), !(okd (listW (itW g) m) && okt (mp x (listW (itW g) m)))] }
  | _, _ => none
theorem ok_chYFa : SpecOk Try.prog 64 (specH [true] (FchYFa okD tidyL okT mpFa)) := by
  refine specH_ok gmChY_ok Try.func64 rfl fun avs H hr hF ho => ?_
  unfold FchYFa at hF
  split at hF
  · rename_i m n g t x
    cases hF
    simp only [ob_cons] at ho
    obtain ⟨h0, h1, h2, h3, _⟩ := ho
    have h0 := Nat.eq_of_beq_eq_true h0
    subst h0
    have hm := of_decide_eq_true h2
    rw [Bool.and_eq_true] at h3
    obtain ⟨hd, ht⟩ := h3
    have hin := inwFa x hd
    have hs := sumCFa n (itW g) t x hm (fun w hw => valid_inB hd hw)
    refine ⟨[.row false n 9 (row9 (itW g)) t, .cells [.v (i64 x)] 3], lamCFa n (itW g) t x n (wfun ((listW (itW g) n).map (chFa x))), 100, .cons (ABeq.row fun j hj => allW_get h1 j hj) (.cons rfl .nil), lam1 (by kernel_rfl) hs, ?_⟩
    show GoodQ (execF Try.prog (gmChY okD tidyL okT inWB) (lamCFa n (itW g) t x n (wfun ((listW (itW g) n).map (chFa x)))) 100 Try.f64 [.sl 0 9 0 0 n none, fnFa] [.row false n 9 (row9 (itW g)) t, .cells [.v (i64 x)] 3] (packK 2)) _
    rw [treeYFa, row0, listW_itW, listW_self ((listW (itW g) n).map (chFa x)) n (by rw [List.length_map, listW_length])]
    refine good_needs (by simp only [ob_cons, ob_nil, and_true, decide_eq_true_eq, Nat.ble_eq, allW_row, true_and]; omega) (good_false (by rw [hd]; rfl) (good_needs ?_ (good_out ⟨rfl, .cons (ABeq.row fun j hj => (allW_get h1 j hj).symm) (.cons rfl (Hsim.refl _))⟩)))
    simp only [ob_cons, ob_nil, and_true, allW_row]
    exact ⟨decide_eq_true (by omega), chk_of ⟨rfl, (.cons (ABeq.refl _) (.cons (ABeq.refl _) (.cons (ABeq.row fun j hj => absurd hj (Nat.not_lt_zero _)) .nil)))⟩, by simp, trivial, decide_eq_true (by omega), chk_of hin, ht⟩
  · cases hF
theorem ok_chNFa : SpecOk Try.prog 64 (specH [true] (FchNFa okD okT mpFa)) := by
  refine specH_ok gmChN_ok Try.func64 rfl fun avs H hr hF ho => ?_
  unfold FchNFa at hF
  split at hF
  · rename_i m n g t x
    cases hF
    simp only [ob_cons] at ho
    obtain ⟨h0, h1, h2, h3, _⟩ := ho
    have h0 := Nat.eq_of_beq_eq_true h0
    subst h0
    have hm := of_decide_eq_true h2
    cases hd : okD (listW (itW g) n) with
    | false =>
      have hz : SumOk Try.prog 2 (.block 0 (.loop (loopAt 0 Try.f64))) errS := errS_ok
      refine ⟨[.row false n 9 (row9 (itW g)) t, .cells [.v (i64 x)] 3], oneL 0 errS, 100, .cons (ABeq.row fun j hj => allW_get h1 j hj) (.cons rfl .nil), lam1 (by kernel_rfl) hz, ?_⟩
      show GoodQ (execF Try.prog (gmChN okD okT inWB) (oneL 0 errS) 100 Try.f64 [.sl 0 9 0 0 n none, fnFa] [.row false n 9 (row9 (itW g)) t, .cells [.v (i64 x)] 3] (packK 2)) _
      rw [treeEFa, row0, listW_itW]
      exact good_needs (by simp only [ob_cons, ob_nil, and_true, decide_eq_true_eq, Nat.ble_eq, allW_row, true_and]; omega) (good_true (by rw [hd]; rfl) (good_out ⟨rfl, .cons (ABeq.row fun j hj => (allW_get h1 j hj).symm) (.cons rfl .nil)⟩))
    | true =>
    rw [hd, Bool.true_and] at h3
    have ht : okT ((listW (itW g) n).map (chFa x)) = false := by simpa using h3
    have hin := inwFa x hd
    have hs := sumCFa n (itW g) t x hm (fun w hw => valid_inB hd hw)
    refine ⟨[.row false n 9 (row9 (itW g)) t, .cells [.v (i64 x)] 3], lamCFa n (itW g) t x n (wfun ((listW (itW g) n).map (chFa x))), 100, .cons (ABeq.row fun j hj => allW_get h1 j hj) (.cons rfl .nil), lam1 (by kernel_rfl) hs, ?_⟩
    show GoodQ (execF Try.prog (gmChN okD okT inWB) (lamCFa n (itW g) t x n (wfun ((listW (itW g) n).map (chFa x)))) 100 Try.f64 [.sl 0 9 0 0 n none, fnFa] [.row false n 9 (row9 (itW g)) t, .cells [.v (i64 x)] 3] (packK 2)) _
    rw [treeNFa, row0, listW_itW, listW_self ((listW (itW g) n).map (chFa x)) n (by rw [List.length_map, listW_length])]
    refine good_needs (by simp only [ob_cons, ob_nil, and_true, decide_eq_true_eq, Nat.ble_eq, allW_row, true_and]; omega) (good_false (by rw [hd]; rfl) (good_needs ?_ (good_out ⟨rfl, .cons (ABeq.row fun j hj => (allW_get h1 j hj).symm) (.cons rfl .nil)⟩)))
    simp only [ob_cons, ob_nil, and_true, allW_row]
    exact ⟨decide_eq_true (by omega), chk_of ⟨rfl, (.cons (ABeq.refl _) (.cons (ABeq.refl _) (.cons (ABeq.row fun j hj => absurd hj (Nat.not_lt_zero _)) .nil)))⟩, by simp, trivial, decide_eq_true (by omega), chk_of hin, by rw [ht]; rfl⟩
  · cases hF

end Go.Proofs.Ytakimbknciffnaa

/- The program's DesignFaster. Conditions: a list of wheels. -/
namespace Go.Proofs.Ytakimbknciffnaa
open Go.RowKit
set_option maxRecDepth 100000

/-- The list is a design, and what comes of it too. -/
def yesFa (x : Int) (L : List Wh) : Bool := inR x (-20) 20 && (okD L && okT (L.map (chFa x)))
def FdeYFa (yes : Int → List Wh → Bool) (ti : List Wh → List Wh) (mp : Int → List Wh → List Wh) : List SA → Option FR
  | [.row m g, .v (.int .i64 x)] => some { val := valY (ti (mp x (listW (itW g) m))), new := newY (ti (mp x (listW (itW g) m))), obl := [allW m g, decide (m ≤ 2 ^ 38), yes x (listW (itW g) m)] }
  | _ => none
def FdeNFa (yes : Int → List Wh → Bool) : List SA → Option FR
  | [.row m g, .v (.int .i64 x)] => some { val := valN, obl := [allW m g, decide (m ≤ 2 ^ 38), !yes x (listW (itW g) m)] }
  | _ => none
theorem treeDYFa (okd : List Wh → Bool) (ti : List Wh → List Wh) (okt : List Wh → Bool) (mp : Int → List Wh → List Wh) (m : Nat) (f : Nat → Nat → Int) (x : Int) : execF Try.prog (ext gm_within 64 (specH [true] (FchYFa okd ti okt mp))) noLam 100 Try.f32 [.sl 0 9 0 0 m none, .v (i64 x)] [.row false m 9 (row9 f) 58] (packK 1)
    = bif !inR x (-20 : Int) (20 : Int) then Res.out Ex.ret [AV.tup [AV.v (Value.slice none (0 : Nat) (0 : Nat)), AV.v (Value.bool false)]] [AB.row false m (9 : Nat) (row9 f) (58 : TypeId)] else needs [Nat.beq m m, allW m (row9 f), decide (m ≤ (274877906944 : Nat)), okd (listW (itW (row9 f)) m) && okt (mp x (listW (itW (row9 f)) m))] (Res.out Ex.ret [AV.tup [AV.sl (1 : Nat) (9 : Nat) (0 : Nat) (0 : Nat) (List.length (ti (mp x (listW (itW (row9 f)) m)))) (some (List.length (ti (mp x (listW (itW (row9 f)) m))))), AV.v (Value.bool true)]] [AB.row false m (9 : Nat) (row9 f) (58 : TypeId), AB.row true (List.length (ti (mp x (listW (itW (row9 f)) m)))) (9 : Nat) (row9 (wfun (ti (mp x (listW (itW (row9 f)) m))))) (58 : TypeId)]) := by kernel_rfl

theorem treeDNFa (okd : List Wh → Bool) (okt : List Wh → Bool) (mp : Int → List Wh → List Wh) (m : Nat) (f : Nat → Nat → Int) (x : Int) : execF Try.prog (ext gm_within 64 (specH [true] (FchNFa okd okt mp))) noLam 100 Try.f32 [.sl 0 9 0 0 m none, .v (i64 x)] [.row false m 9 (row9 f) 58] (packK 1)
    = bif !inR x (-20 : Int) (20 : Int) then Res.out Ex.ret [AV.tup [AV.v (Value.slice none (0 : Nat) (0 : Nat)), AV.v (Value.bool false)]] [AB.row false m (9 : Nat) (row9 f) (58 : TypeId)] else needs [Nat.beq m m, allW m (row9 f), decide (m ≤ (274877906944 : Nat)), !(okd (listW (itW (row9 f)) m) && okt (mp x (listW (itW (row9 f)) m)))] (Res.out Ex.ret [AV.tup [AV.v (Value.slice none (0 : Nat) (0 : Nat)), AV.v (Value.bool false)]] [AB.row false m (9 : Nat) (row9 f) (58 : TypeId)]) := by kernel_rfl

theorem ok_deYFa : SpecOk Try.prog 32 (specR md_wv (FdeYFa yesFa tidyL mpFa)) := by
  refine specR_hr (ext_ok gm_within_ok ok_chYFa) Try.func32 rfl fun sas fr hF ho => ?_
  unfold FdeYFa at hF
  split at hF
  · rename_i m g x
    cases hF
    simp only [ob_cons] at ho
    obtain ⟨h1, h2, h3, _⟩ := ho
    have hm := of_decide_eq_true h2
    refine ⟨[.row false m 9 (row9 (itW g)) 58], noLam, 100, .cons (ABeq.row fun j hj => allW_get h1 j hj) .nil, noLam' _, ?_⟩
    show GoodQ (execF Try.prog (ext gm_within 64 (specH [true] (FchYFa okD tidyL okT mpFa))) noLam 100 Try.f32 [.sl 0 9 0 0 m none, .v (i64 x)] [.row false m 9 (row9 (itW g)) 58] (packK 1)) _
    rw [treeDYFa]
    rw [yesFa, Bool.and_eq_true] at h3
    obtain ⟨hx, h3⟩ := h3
    have hx2 := inR_iff.1 hx
    exact good_false (by rw [hx]; rfl) (good_needs (by simp only [ob_cons, ob_nil, and_true, beq_me, allW_row, listW_itW, true_and]; exact ⟨decide_eq_true hm, h3⟩) (good_out ⟨_, rfl, rfl, .cons (ABeq.row fun j hj => (allW_get h1 j hj).symm) (Hsim.refl _)⟩))
  · cases hF
theorem ok_deNFa : SpecOk Try.prog 32 (specR md_wv (FdeNFa yesFa)) := by
  refine specR_hr (ext_ok gm_within_ok ok_chNFa) Try.func32 rfl fun sas fr hF ho => ?_
  unfold FdeNFa at hF
  split at hF
  · rename_i m g x
    cases hF
    simp only [ob_cons] at ho
    obtain ⟨h1, h2, h3, _⟩ := ho
    have hm := of_decide_eq_true h2
    refine ⟨[.row false m 9 (row9 (itW g)) 58], noLam, 100, .cons (ABeq.row fun j hj => allW_get h1 j hj) .nil, noLam' _, ?_⟩
    show GoodQ (execF Try.prog (ext gm_within 64 (specH [true] (FchNFa okD okT mpFa))) noLam 100 Try.f32 [.sl 0 9 0 0 m none, .v (i64 x)] [.row false m 9 (row9 (itW g)) 58] (packK 1)) _
    rw [treeDNFa]
    cases hx : inR x (-20) 20 with
    | false => exact good_true rfl (good_out ⟨_, rfl, rfl, .cons (ABeq.row fun j hj => (allW_get h1 j hj).symm) .nil⟩)
    | true =>
      rw [yesFa, hx, Bool.true_and] at h3
      have hx2 := inR_iff.1 hx
      exact good_false rfl (good_needs (by simp only [ob_cons, ob_nil, and_true, beq_me, allW_row, listW_itW, true_and]; exact ⟨decide_eq_true hm, h3⟩) (good_out ⟨_, rfl, rfl, .cons (ABeq.row fun j hj => (allW_get h1 j hj).symm) .nil⟩))
  · cases hF

end Go.Proofs.Ytakimbknciffnaa

/- The program's DesignFaster, as a list or none, read as one. Conditions: a list of wheels. -/
namespace Go.Proofs.Ytakimbknciffnaa
open Go.RowKit
set_option maxRecDepth 100000

theorem chFa_same {x : Int} {w : Wh} : chFa x w = chE x 0 0 false w := by
  have e2 : (IntKind.wrap IntKind.i64 ((0 : Int) + IntKind.wrap IntKind.i64 (0 * w.s)) % 24).toNat = 0 := by rw [Int.zero_mul]; rfl
  rw [chFa, chE, e2]
  rfl
def yF (x : Int) (L : List Wh) : Bool := inR x (-20) 20 && eachOk x 0 0 false L
def tF (x : Int) (L : List Wh) : List Wh := bif inR x (-20) 20 then eachL x 0 0 false L else []
theorem ok_UFa : SpecOk Try.prog 32 (specU md_wv (UO1 yF tF)) := by
  refine specU_ok rfl ok_deYFa ok_deNFa fun sas u hu ho => ?_
  unfold UO1 at hu
  split at hu
  · rename_i m g x
    cases hu
    simp only [ob_cons] at ho
    obtain ⟨h1, h2, _⟩ := ho
    refine ⟨rfl, ?_⟩
    have hM : (listW (itW g) m).map (chE x 0 0 false) = mpFa x (listW (itW g) m) := map_same fun w _ => chFa_same.symm
    cases hv : yesFa x (listW (itW g) m) with
    | true =>
      left
      have hv2 := hv
      rw [yesFa, Bool.and_eq_true, Bool.and_eq_true] at hv2
      obtain ⟨hx, hd, ht⟩ := hv2
      obtain ⟨hE, hO⟩ := each_yes (sp := x) (tn := 0) (la := 0) (mir := false) (by rw [eachP, hd]; rfl) hM ht
      refine ⟨by show yF x _ = true; rw [yF, hx, hO]; rfl, [allW m g, decide (m ≤ 2 ^ 38), yesFa x (listW (itW g) m)], ?_, ?_⟩
      · show FdeYFa yesFa tidyL mpFa [.row m g, .v (.int .i64 x)] = some { val := valY (tF x (listW (itW g) m)), new := newY (tF x (listW (itW g) m)), obl := [allW m g, decide (m ≤ 2 ^ 38), yesFa x (listW (itW g) m)] }
        rw [show tF x (listW (itW g) m) = tidyL (mpFa x (listW (itW g) m)) by rw [tF, hx]; exact hE]
        rfl
      · simp only [ob_cons, ob_nil, and_true]
        exact ⟨h1, h2, hv⟩
    | false =>
      right
      have key : yF x (listW (itW g) m) = false ∧ tF x (listW (itW g) m) = [] := by
        cases hx : inR x (-20) 20 with
        | false => exact ⟨by rw [yF, hx]; rfl, by rw [tF, hx]; rfl⟩
        | true =>
          obtain ⟨hE, hO⟩ := each_no (sp := x) (tn := 0) (la := 0) (mir := false) (L := listW (itW g) m) fun hp => by
            rw [eachP, Bool.and_eq_true] at hp
            rw [hM]
            rw [yesFa, hx, hp.1, Bool.true_and, Bool.true_and] at hv
            exact hv
          exact ⟨by rw [yF, hx, hO]; rfl, by rw [tF, hx]; exact hE⟩
      refine ⟨key.1, key.2, [allW m g, decide (m ≤ 2 ^ 38), !yesFa x (listW (itW g) m)], rfl, ?_⟩
      simp only [ob_cons, ob_nil, and_true]
      exact ⟨h1, h2, by rw [hv]; rfl⟩
  · cases hu

end Go.Proofs.Ytakimbknciffnaa

/- Plain laws of designs: turned, later, back, mirrored, faster. No program, no conditions. -/
namespace Go.Proofs.Ytakimbknciffnaa
open Go.RowKit

theorem lin_tn {φ : Int → (Nat → Int) → Int} (h : Lin φ) (g c : Int → Int) : Lin fun s f => φ (g s) (tnI f (c s)) := fun s f f' => by
  show φ (g s) (tnI (fun k => f k + f' k) (c s)) = _
  rw [tnI_add]
  exact h _ _ _
theorem loc_tn {φ : Int → (Nat → Int) → Int} (h : Loc φ) (g c : Int → Int) : Loc fun s f => φ (g s) (tnI f (c s)) := fun _ _ _ hf => h _ _ _ (tnI_congr hf _)
theorem tnI_mulmod (f : Nat → Int) (a s : Int) : tnI f (a % 24 * s) = tnI f (a * s) := tnI_mod f (by rw [Int.mul_emod, Int.emod_emod, ← Int.mul_emod])
theorem each_tidy {sp tn la : Int} {mir : Bool} {L : List Wh} (h1 : -20 ≤ sp ∧ sp ≤ 20) (h : eachOk sp tn la mir L = true) : isTidy (eachL sp tn la mir L) := (each_spec h1 h).2.2.2.1
theorem tnI_24 (f : Nat → Int) {n : Int} (h : n % 24 = 0) : ∀ k, k < 8 → tnI f n k = f k := fun k _ => by
  rw [tnI, h]
  rfl
/-- Turned on to a whole turn. -/
theorem law_turned {L : List Wh} {t x : Int} (hx : (t + x) % 24 = 0) (h1 : eachOk 1 t 0 false L = true) (h2 : eachOk 1 x 0 false (eachL 1 t 0 false L) = true) (h3 : yI L = true) : eachL 1 x 0 false (eachL 1 t 0 false L) = tI L := by
  refine tidy_unique (each_tidy (by omega) h2) (tI_spec h3).2.1 fun s k hk => ?_
  rw [(tI_spec h3).2.2 _ (atSp_lin s k), each_lin (by omega) h2 (atSp_lin s k) (atSp_loc s hk), each_lin (by omega) h1 (lin_tn (atSp_lin s k) (fun s => 1 * s) fun s => x + 0 * s) (loc_tn (atSp_loc s hk) (fun s => 1 * s) fun s => x + 0 * s)]
  refine linS_congr fun w _ => ?_
  show atSp s k (1 * (1 * w.s)) (tnI (tnI w.r.f (t + 0 * w.s)) (x + 0 * (1 * w.s))) = atSp s k w.s w.r.f
  rw [show (1 : Int) * (1 * w.s) = w.s by omega, show t + 0 * w.s = t by omega, show x + 0 * (1 * w.s) = x by omega]
  refine atSp_loc s hk _ _ _ fun j hj => ?_
  rw [tnI_tnI _ _ _ j hj, tnI_24 _ hx j hj]
/-- Later. -/
theorem law_later {L : List Wh} {t : Int} {k : Nat} (hk : k < 8) (h1 : eachOk 1 0 t false L = true) : dAt (eachL 1 0 t false L) 5 k = dAt L ((5 + t) % 24) k := by
  refine (each_lin (by omega) h1 (atT_lin 5 k) (atT_loc 5 hk)).trans (linS_congr fun w _ => ?_)
  show tnI (tnI w.r.f (0 + t * w.s)) (5 * (1 * w.s)) k = tnI w.r.f ((5 + t) % 24 * w.s) k
  rw [tnI_tnI _ _ _ k hk, tnI_mulmod, show 0 + t * w.s + 5 * (1 * w.s) = (5 + t) * w.s by rw [Int.add_mul]; omega]
/-- Back and back. -/
theorem law_back {L : List Wh} (h1 : eachOk (-1) 0 0 false L = true) (h2 : eachOk (-1) 0 0 false (eachL (-1) 0 0 false L) = true) (h3 : yI L = true) : eachL (-1) 0 0 false (eachL (-1) 0 0 false L) = tI L := by
  refine tidy_unique (each_tidy (by omega) h2) (tI_spec h3).2.1 fun s k hk => ?_
  rw [(tI_spec h3).2.2 _ (atSp_lin s k), each_lin (by omega) h2 (atSp_lin s k) (atSp_loc s hk), each_lin (by omega) h1 (lin_tn (atSp_lin s k) (fun s => -1 * s) fun s => 0 + 0 * s) (loc_tn (atSp_loc s hk) (fun s => -1 * s) fun s => 0 + 0 * s)]
  refine linS_congr fun w _ => ?_
  show atSp s k (-1 * (-1 * w.s)) (tnI (tnI w.r.f (0 + 0 * w.s)) (0 + 0 * (-1 * w.s))) = atSp s k w.s w.r.f
  rw [show (-1 : Int) * (-1 * w.s) = w.s by omega, show 0 + 0 * w.s = 0 by omega, show 0 + 0 * (-1 * w.s) = 0 by omega]
  rfl
theorem law_back_at {L : List Wh} {k : Nat} (hk : k < 8) (h1 : eachOk (-1) 0 0 false L = true) : dAt (eachL (-1) 0 0 false L) 5 k = dAt L 19 k := by
  refine (each_lin (by omega) h1 (atT_lin 5 k) (atT_loc 5 hk)).trans (linS_congr fun w _ => ?_)
  show tnI (tnI w.r.f (0 + 0 * w.s)) (5 * (-1 * w.s)) k = tnI w.r.f (19 * w.s) k
  rw [show 0 + 0 * w.s = 0 by omega, tnI_zero, tnI_mod w.r.f (m := 5 * (-1 * w.s)) (n := 19 * w.s) (by omega)]
/-- A mirrored point turned. -/
theorem mir_step (f : Nat → Int) : ∀ k, k < 8 → stZ (mirZ (stZ f)) k = mirZ f k := by
  refine forall8 ?_ ?_ ?_ ?_ ?_ ?_ ?_ ?_ <;> simp only [stZ, mirZ] <;> omega
theorem mir_tn (f : Nat → Int) : ∀ (n k : Nat), k < 8 → tnZ (mirZ (tnZ f n)) n k = mirZ f k
  | 0, _, _ => rfl
  | n + 1, k, hk => by
    have e : tnZ (mirZ (stZ (tnZ f n))) (n + 1) k = tnZ (stZ (mirZ (stZ (tnZ f n)))) n k := by
      rw [show n + 1 = 1 + n by omega, ← tnZ_tnZ]
      rfl
    show tnZ (mirZ (stZ (tnZ f n))) (n + 1) k = mirZ f k
    rw [e, tnZ_congr (mir_step (tnZ f n)) n k hk]
    exact mir_tn f n k hk
theorem mir_tnI (f : Nat → Int) (n : Int) (k : Nat) (hk : k < 8) : mirZ (tnI f n) k = tnI (mirZ f) (-n) k := by
  have h := tnI_congr (mir_tn f (n % 24).toNat) (-n) k hk
  rw [← h]
  show _ = tnI (tnZ (mirZ (tnI f n)) (n % 24).toNat) (-n) k
  have e : tnZ (mirZ (tnI f n)) (n % 24).toNat = tnI (mirZ (tnI f n)) n := rfl
  rw [e, tnI_tnI _ _ _ k hk, tnI_24 _ (by omega) k hk]
theorem linS_mir {φ : Nat → Int → (Nat → Int) → Int} : ∀ (L : List Wh) (k : Nat), mirZ (fun k => linS (φ k) L) k = linS (fun s f => mirZ (fun k => φ k s f) k) L
  | [], k => by
    show mirZ (fun _ => 0) k = 0
    unfold mirZ
    split <;> rfl
  | w :: l, k => by
    show mirZ (fun k => φ k w.s w.r.f + linS (φ k) l) k = _
    rw [mir_add]
    show mirZ (fun k => φ k w.s w.r.f) k + mirZ (fun k => linS (φ k) l) k = _
    rw [linS_mir l k]
    rfl
theorem law_mirror {L : List Wh} {k : Nat} (hk : k < 8) (h1 : eachOk (-1) 0 0 true L = true) : dAt (eachL (-1) 0 0 true L) 5 k = mirZ (dAt L 5) k := by
  refine (each_linM (by omega) h1 (atT_lin 5 k) (atT_loc 5 hk)).trans ?_
  refine Eq.trans (linS_congr fun w _ => ?_) (linS_mir (φ := atT 5) L k).symm
  show tnI (tnI (mirZ w.r.f) (0 + 0 * w.s)) (5 * (-1 * w.s)) k = mirZ (tnI w.r.f (5 * w.s)) k
  rw [mir_tnI _ _ k hk, show 0 + 0 * w.s = 0 by omega, tnI_zero, show 5 * (-1 * w.s) = -(5 * w.s) by omega]
theorem vMi_exact {a : Nat → Int} (h : okMi a = true) : ∀ k, k < 8 → vMi a k = mirZ a k := fun k hk => by
  rw [vMi, h, cond_true]
  rw [okMi, Bool.and_eq_true] at h
  have hb : bd8 1000000 a := fun k hk => by
    have := cyOk_bd h.1 k hk
    rwa [cyOf_f8 _ k hk] at this
  exact W8 (mir_bd hb) (by omega) k hk
/-- Faster. -/
theorem law_faster {L : List Wh} {n : Int} {k : Nat} (hk : k < 8) (h1 : yF n L = true) : dAt (tF n L) 1 k = dAt L (n % 24) k := by
  rw [yF, Bool.and_eq_true] at h1
  have hn := inR_iff.1 h1.1
  have e : tF n L = eachL n 0 0 false L := by rw [tF, h1.1]; rfl
  rw [e]
  refine (each_lin (by omega) h1.2 (atT_lin 1 k) (atT_loc 1 hk)).trans (linS_congr fun w _ => ?_)
  show tnI (tnI w.r.f (0 + 0 * w.s)) (1 * (n * w.s)) k = tnI w.r.f (n % 24 * w.s) k
  rw [tnI_mulmod, show 0 + 0 * w.s = 0 by omega, tnI_zero, Int.one_mul]

end Go.Proofs.Ytakimbknciffnaa

/- DrawRowOf: its trees. Conditions: bytes, at most 2^21. -/
namespace Go.Proofs.Ytakimbknciffnaa
open Go.RowKit
set_option maxRecDepth 100000

def gmDrJ (dl : Nat → (Nat → Int) → Int → List Wh) (dp : Nat → (Nat → Int) → Int → Int) (pk : Nat → (Nat → Int) → Int → Int → Int) (N q : Int) : Gam := ext (gmPJ pk N q) 70 (specK [] (FdgO dl dp))
theorem treeRRo0 (dl : Nat → (Nat → Int) → Int → List Wh) (dp : Nat → (Nat → Int) → Int → Int) (pk : Nat → (Nat → Int) → Int → Int → Int) (m : Nat) (b : Nat → Int) : execF Try.prog (gmDrJ dl dp pk 10 0) noLam 100 Try.f34 [.sl 0 1 0 0 m none] [.row false m 1 (rowB b) 5] (packK 1)
    = bif decide ((↑m : Int) > (2000 : Int)) then needs [decide ((2000 : Int) ≤ (↑m : Int)), decide ((↑m : Int) ≤ (↑m : Int)), okB m (rowB b), decide (Int.toNat ((2000 : Int) - (0 : Int)) ≤ m), decide ((0 : Nat) < m), decide ((0 : Nat) < m), okB m (rowB b), decide (Int.toNat ((2000 : Int) - (0 : Int)) ≤ m), decide ((0 : Int) ≤ dp (Int.toNat ((2000 : Int) - (0 : Int))) (itB (rowB b)) (0 : Int)), decide (dp (Int.toNat ((2000 : Int) - (0 : Int))) (itB (rowB b)) (0 : Int) ≤ (1073741824 : Int)), decide (pk (Int.toNat ((2000 : Int) - (0 : Int))) (itB (rowB b)) (dp (Int.toNat ((2000 : Int) - (0 : Int))) (itB (rowB b)) (0 : Int)) (10 : Int) = (0 : Int)), decide ((0 : Nat) < m)] (Res.out Ex.ret [AV.tup [AV.own (1 : Nat) (List.length (dl (Int.toNat ((2000 : Int) - (0 : Int))) (itB (rowB b)) (0 : Int))), AV.v (Value.int IntKind.i64 (1 : Int))]] [AB.row false m (1 : Nat) (rowB b) (5 : TypeId), AB.row true (List.length (dl (Int.toNat ((2000 : Int) - (0 : Int))) (itB (rowB b)) (0 : Int))) (9 : Nat) (row9 (wfun (dl (Int.toNat ((2000 : Int) - (0 : Int))) (itB (rowB b)) (0 : Int)))) (58 : TypeId)]) else needs [okB m (rowB b), decide (m ≤ m), decide ((0 : Nat) < m), decide ((0 : Nat) < m), okB m (rowB b), decide (m ≤ m), decide ((0 : Int) ≤ dp m (itB (rowB b)) (0 : Int)), decide (dp m (itB (rowB b)) (0 : Int) ≤ (1073741824 : Int)), decide (pk m (itB (rowB b)) (dp m (itB (rowB b)) (0 : Int)) (10 : Int) = (0 : Int)), decide ((0 : Nat) < m)] (Res.out Ex.ret [AV.tup [AV.own (1 : Nat) (List.length (dl m (itB (rowB b)) (0 : Int))), AV.v (Value.int IntKind.i64 (1 : Int))]] [AB.row false m (1 : Nat) (rowB b) (5 : TypeId), AB.row true (List.length (dl m (itB (rowB b)) (0 : Int))) (9 : Nat) (row9 (wfun (dl m (itB (rowB b)) (0 : Int)))) (58 : TypeId)]) := by kernel_rfl

theorem treeRRo1 (dl : Nat → (Nat → Int) → Int → List Wh) (dp : Nat → (Nat → Int) → Int → Int) (pk : Nat → (Nat → Int) → Int → Int → Int) (m : Nat) (b : Nat → Int) : execF Try.prog (gmDrJ dl dp pk 10 1) noLam 100 Try.f34 [.sl 0 1 0 0 m none] [.row false m 1 (rowB b) 5] (packK 1)
    = bif decide ((↑m : Int) > (2000 : Int)) then needs [decide ((2000 : Int) ≤ (↑m : Int)), decide ((↑m : Int) ≤ (↑m : Int)), okB m (rowB b), decide (Int.toNat ((2000 : Int) - (0 : Int)) ≤ m), decide ((0 : Nat) < m), decide ((0 : Nat) < m), okB m (rowB b), decide (Int.toNat ((2000 : Int) - (0 : Int)) ≤ m), decide ((0 : Int) ≤ dp (Int.toNat ((2000 : Int) - (0 : Int))) (itB (rowB b)) (0 : Int)), decide (dp (Int.toNat ((2000 : Int) - (0 : Int))) (itB (rowB b)) (0 : Int) ≤ (1073741824 : Int)), decide (pk (Int.toNat ((2000 : Int) - (0 : Int))) (itB (rowB b)) (dp (Int.toNat ((2000 : Int) - (0 : Int))) (itB (rowB b)) (0 : Int)) (10 : Int) = (1 : Int)), decide ((0 : Nat) < m)] (Res.out Ex.ret [AV.tup [AV.own (1 : Nat) (List.length (dl (Int.toNat ((2000 : Int) - (0 : Int))) (itB (rowB b)) (0 : Int))), AV.v (Value.int IntKind.i64 (2 : Int))]] [AB.row false m (1 : Nat) (rowB b) (5 : TypeId), AB.row true (List.length (dl (Int.toNat ((2000 : Int) - (0 : Int))) (itB (rowB b)) (0 : Int))) (9 : Nat) (row9 (wfun (dl (Int.toNat ((2000 : Int) - (0 : Int))) (itB (rowB b)) (0 : Int)))) (58 : TypeId)]) else needs [okB m (rowB b), decide (m ≤ m), decide ((0 : Nat) < m), decide ((0 : Nat) < m), okB m (rowB b), decide (m ≤ m), decide ((0 : Int) ≤ dp m (itB (rowB b)) (0 : Int)), decide (dp m (itB (rowB b)) (0 : Int) ≤ (1073741824 : Int)), decide (pk m (itB (rowB b)) (dp m (itB (rowB b)) (0 : Int)) (10 : Int) = (1 : Int)), decide ((0 : Nat) < m)] (Res.out Ex.ret [AV.tup [AV.own (1 : Nat) (List.length (dl m (itB (rowB b)) (0 : Int))), AV.v (Value.int IntKind.i64 (2 : Int))]] [AB.row false m (1 : Nat) (rowB b) (5 : TypeId), AB.row true (List.length (dl m (itB (rowB b)) (0 : Int))) (9 : Nat) (row9 (wfun (dl m (itB (rowB b)) (0 : Int)))) (58 : TypeId)]) := by kernel_rfl

theorem treeRRo2 (dl : Nat → (Nat → Int) → Int → List Wh) (dp : Nat → (Nat → Int) → Int → Int) (pk : Nat → (Nat → Int) → Int → Int → Int) (m : Nat) (b : Nat → Int) : execF Try.prog (gmDrJ dl dp pk 10 2) noLam 100 Try.f34 [.sl 0 1 0 0 m none] [.row false m 1 (rowB b) 5] (packK 1)
    = bif decide ((↑m : Int) > (2000 : Int)) then needs [decide ((2000 : Int) ≤ (↑m : Int)), decide ((↑m : Int) ≤ (↑m : Int)), okB m (rowB b), decide (Int.toNat ((2000 : Int) - (0 : Int)) ≤ m), decide ((0 : Nat) < m), decide ((0 : Nat) < m), okB m (rowB b), decide (Int.toNat ((2000 : Int) - (0 : Int)) ≤ m), decide ((0 : Int) ≤ dp (Int.toNat ((2000 : Int) - (0 : Int))) (itB (rowB b)) (0 : Int)), decide (dp (Int.toNat ((2000 : Int) - (0 : Int))) (itB (rowB b)) (0 : Int) ≤ (1073741824 : Int)), decide (pk (Int.toNat ((2000 : Int) - (0 : Int))) (itB (rowB b)) (dp (Int.toNat ((2000 : Int) - (0 : Int))) (itB (rowB b)) (0 : Int)) (10 : Int) = (2 : Int)), decide ((0 : Nat) < m)] (Res.out Ex.ret [AV.tup [AV.own (1 : Nat) (List.length (dl (Int.toNat ((2000 : Int) - (0 : Int))) (itB (rowB b)) (0 : Int))), AV.v (Value.int IntKind.i64 (3 : Int))]] [AB.row false m (1 : Nat) (rowB b) (5 : TypeId), AB.row true (List.length (dl (Int.toNat ((2000 : Int) - (0 : Int))) (itB (rowB b)) (0 : Int))) (9 : Nat) (row9 (wfun (dl (Int.toNat ((2000 : Int) - (0 : Int))) (itB (rowB b)) (0 : Int)))) (58 : TypeId)]) else needs [okB m (rowB b), decide (m ≤ m), decide ((0 : Nat) < m), decide ((0 : Nat) < m), okB m (rowB b), decide (m ≤ m), decide ((0 : Int) ≤ dp m (itB (rowB b)) (0 : Int)), decide (dp m (itB (rowB b)) (0 : Int) ≤ (1073741824 : Int)), decide (pk m (itB (rowB b)) (dp m (itB (rowB b)) (0 : Int)) (10 : Int) = (2 : Int)), decide ((0 : Nat) < m)] (Res.out Ex.ret [AV.tup [AV.own (1 : Nat) (List.length (dl m (itB (rowB b)) (0 : Int))), AV.v (Value.int IntKind.i64 (3 : Int))]] [AB.row false m (1 : Nat) (rowB b) (5 : TypeId), AB.row true (List.length (dl m (itB (rowB b)) (0 : Int))) (9 : Nat) (row9 (wfun (dl m (itB (rowB b)) (0 : Int)))) (58 : TypeId)]) := by kernel_rfl

theorem treeRRo3 (dl : Nat → (Nat → Int) → Int → List Wh) (dp : Nat → (Nat → Int) → Int → Int) (pk : Nat → (Nat → Int) → Int → Int → Int) (m : Nat) (b : Nat → Int) : execF Try.prog (gmDrJ dl dp pk 10 3) noLam 100 Try.f34 [.sl 0 1 0 0 m none] [.row false m 1 (rowB b) 5] (packK 1)
    = bif decide ((↑m : Int) > (2000 : Int)) then needs [decide ((2000 : Int) ≤ (↑m : Int)), decide ((↑m : Int) ≤ (↑m : Int)), okB m (rowB b), decide (Int.toNat ((2000 : Int) - (0 : Int)) ≤ m), decide ((0 : Nat) < m), decide ((0 : Nat) < m), okB m (rowB b), decide (Int.toNat ((2000 : Int) - (0 : Int)) ≤ m), decide ((0 : Int) ≤ dp (Int.toNat ((2000 : Int) - (0 : Int))) (itB (rowB b)) (0 : Int)), decide (dp (Int.toNat ((2000 : Int) - (0 : Int))) (itB (rowB b)) (0 : Int) ≤ (1073741824 : Int)), decide (pk (Int.toNat ((2000 : Int) - (0 : Int))) (itB (rowB b)) (dp (Int.toNat ((2000 : Int) - (0 : Int))) (itB (rowB b)) (0 : Int)) (10 : Int) = (3 : Int)), decide ((0 : Nat) < m)] (Res.out Ex.ret [AV.tup [AV.own (1 : Nat) (List.length (dl (Int.toNat ((2000 : Int) - (0 : Int))) (itB (rowB b)) (0 : Int))), AV.v (Value.int IntKind.i64 (4 : Int))]] [AB.row false m (1 : Nat) (rowB b) (5 : TypeId), AB.row true (List.length (dl (Int.toNat ((2000 : Int) - (0 : Int))) (itB (rowB b)) (0 : Int))) (9 : Nat) (row9 (wfun (dl (Int.toNat ((2000 : Int) - (0 : Int))) (itB (rowB b)) (0 : Int)))) (58 : TypeId)]) else needs [okB m (rowB b), decide (m ≤ m), decide ((0 : Nat) < m), decide ((0 : Nat) < m), okB m (rowB b), decide (m ≤ m), decide ((0 : Int) ≤ dp m (itB (rowB b)) (0 : Int)), decide (dp m (itB (rowB b)) (0 : Int) ≤ (1073741824 : Int)), decide (pk m (itB (rowB b)) (dp m (itB (rowB b)) (0 : Int)) (10 : Int) = (3 : Int)), decide ((0 : Nat) < m)] (Res.out Ex.ret [AV.tup [AV.own (1 : Nat) (List.length (dl m (itB (rowB b)) (0 : Int))), AV.v (Value.int IntKind.i64 (4 : Int))]] [AB.row false m (1 : Nat) (rowB b) (5 : TypeId), AB.row true (List.length (dl m (itB (rowB b)) (0 : Int))) (9 : Nat) (row9 (wfun (dl m (itB (rowB b)) (0 : Int)))) (58 : TypeId)]) := by kernel_rfl

theorem treeRRo4 (dl : Nat → (Nat → Int) → Int → List Wh) (dp : Nat → (Nat → Int) → Int → Int) (pk : Nat → (Nat → Int) → Int → Int → Int) (m : Nat) (b : Nat → Int) : execF Try.prog (gmDrJ dl dp pk 10 4) noLam 100 Try.f34 [.sl 0 1 0 0 m none] [.row false m 1 (rowB b) 5] (packK 1)
    = bif decide ((↑m : Int) > (2000 : Int)) then needs [decide ((2000 : Int) ≤ (↑m : Int)), decide ((↑m : Int) ≤ (↑m : Int)), okB m (rowB b), decide (Int.toNat ((2000 : Int) - (0 : Int)) ≤ m), decide ((0 : Nat) < m), decide ((0 : Nat) < m), okB m (rowB b), decide (Int.toNat ((2000 : Int) - (0 : Int)) ≤ m), decide ((0 : Int) ≤ dp (Int.toNat ((2000 : Int) - (0 : Int))) (itB (rowB b)) (0 : Int)), decide (dp (Int.toNat ((2000 : Int) - (0 : Int))) (itB (rowB b)) (0 : Int) ≤ (1073741824 : Int)), decide (pk (Int.toNat ((2000 : Int) - (0 : Int))) (itB (rowB b)) (dp (Int.toNat ((2000 : Int) - (0 : Int))) (itB (rowB b)) (0 : Int)) (10 : Int) = (4 : Int)), decide ((0 : Nat) < m)] (Res.out Ex.ret [AV.tup [AV.own (1 : Nat) (List.length (dl (Int.toNat ((2000 : Int) - (0 : Int))) (itB (rowB b)) (0 : Int))), AV.v (Value.int IntKind.i64 (6 : Int))]] [AB.row false m (1 : Nat) (rowB b) (5 : TypeId), AB.row true (List.length (dl (Int.toNat ((2000 : Int) - (0 : Int))) (itB (rowB b)) (0 : Int))) (9 : Nat) (row9 (wfun (dl (Int.toNat ((2000 : Int) - (0 : Int))) (itB (rowB b)) (0 : Int)))) (58 : TypeId)]) else needs [okB m (rowB b), decide (m ≤ m), decide ((0 : Nat) < m), decide ((0 : Nat) < m), okB m (rowB b), decide (m ≤ m), decide ((0 : Int) ≤ dp m (itB (rowB b)) (0 : Int)), decide (dp m (itB (rowB b)) (0 : Int) ≤ (1073741824 : Int)), decide (pk m (itB (rowB b)) (dp m (itB (rowB b)) (0 : Int)) (10 : Int) = (4 : Int)), decide ((0 : Nat) < m)] (Res.out Ex.ret [AV.tup [AV.own (1 : Nat) (List.length (dl m (itB (rowB b)) (0 : Int))), AV.v (Value.int IntKind.i64 (6 : Int))]] [AB.row false m (1 : Nat) (rowB b) (5 : TypeId), AB.row true (List.length (dl m (itB (rowB b)) (0 : Int))) (9 : Nat) (row9 (wfun (dl m (itB (rowB b)) (0 : Int)))) (58 : TypeId)]) := by kernel_rfl

theorem treeRRo5 (dl : Nat → (Nat → Int) → Int → List Wh) (dp : Nat → (Nat → Int) → Int → Int) (pk : Nat → (Nat → Int) → Int → Int → Int) (m : Nat) (b : Nat → Int) : execF Try.prog (gmDrJ dl dp pk 10 5) noLam 100 Try.f34 [.sl 0 1 0 0 m none] [.row false m 1 (rowB b) 5] (packK 1)
    = bif decide ((↑m : Int) > (2000 : Int)) then needs [decide ((2000 : Int) ≤ (↑m : Int)), decide ((↑m : Int) ≤ (↑m : Int)), okB m (rowB b), decide (Int.toNat ((2000 : Int) - (0 : Int)) ≤ m), decide ((0 : Nat) < m), decide ((0 : Nat) < m), okB m (rowB b), decide (Int.toNat ((2000 : Int) - (0 : Int)) ≤ m), decide ((0 : Int) ≤ dp (Int.toNat ((2000 : Int) - (0 : Int))) (itB (rowB b)) (0 : Int)), decide (dp (Int.toNat ((2000 : Int) - (0 : Int))) (itB (rowB b)) (0 : Int) ≤ (1073741824 : Int)), decide (pk (Int.toNat ((2000 : Int) - (0 : Int))) (itB (rowB b)) (dp (Int.toNat ((2000 : Int) - (0 : Int))) (itB (rowB b)) (0 : Int)) (10 : Int) = (5 : Int)), decide ((0 : Nat) < m)] (Res.out Ex.ret [AV.tup [AV.own (1 : Nat) (List.length (dl (Int.toNat ((2000 : Int) - (0 : Int))) (itB (rowB b)) (0 : Int))), AV.v (Value.int IntKind.i64 (8 : Int))]] [AB.row false m (1 : Nat) (rowB b) (5 : TypeId), AB.row true (List.length (dl (Int.toNat ((2000 : Int) - (0 : Int))) (itB (rowB b)) (0 : Int))) (9 : Nat) (row9 (wfun (dl (Int.toNat ((2000 : Int) - (0 : Int))) (itB (rowB b)) (0 : Int)))) (58 : TypeId)]) else needs [okB m (rowB b), decide (m ≤ m), decide ((0 : Nat) < m), decide ((0 : Nat) < m), okB m (rowB b), decide (m ≤ m), decide ((0 : Int) ≤ dp m (itB (rowB b)) (0 : Int)), decide (dp m (itB (rowB b)) (0 : Int) ≤ (1073741824 : Int)), decide (pk m (itB (rowB b)) (dp m (itB (rowB b)) (0 : Int)) (10 : Int) = (5 : Int)), decide ((0 : Nat) < m)] (Res.out Ex.ret [AV.tup [AV.own (1 : Nat) (List.length (dl m (itB (rowB b)) (0 : Int))), AV.v (Value.int IntKind.i64 (8 : Int))]] [AB.row false m (1 : Nat) (rowB b) (5 : TypeId), AB.row true (List.length (dl m (itB (rowB b)) (0 : Int))) (9 : Nat) (row9 (wfun (dl m (itB (rowB b)) (0 : Int)))) (58 : TypeId)]) := by kernel_rfl

theorem treeRRo6 (dl : Nat → (Nat → Int) → Int → List Wh) (dp : Nat → (Nat → Int) → Int → Int) (pk : Nat → (Nat → Int) → Int → Int → Int) (m : Nat) (b : Nat → Int) : execF Try.prog (gmDrJ dl dp pk 10 6) noLam 100 Try.f34 [.sl 0 1 0 0 m none] [.row false m 1 (rowB b) 5] (packK 1)
    = bif decide ((↑m : Int) > (2000 : Int)) then needs [decide ((2000 : Int) ≤ (↑m : Int)), decide ((↑m : Int) ≤ (↑m : Int)), okB m (rowB b), decide (Int.toNat ((2000 : Int) - (0 : Int)) ≤ m), decide ((0 : Nat) < m), decide ((0 : Nat) < m), okB m (rowB b), decide (Int.toNat ((2000 : Int) - (0 : Int)) ≤ m), decide ((0 : Int) ≤ dp (Int.toNat ((2000 : Int) - (0 : Int))) (itB (rowB b)) (0 : Int)), decide (dp (Int.toNat ((2000 : Int) - (0 : Int))) (itB (rowB b)) (0 : Int) ≤ (1073741824 : Int)), decide (pk (Int.toNat ((2000 : Int) - (0 : Int))) (itB (rowB b)) (dp (Int.toNat ((2000 : Int) - (0 : Int))) (itB (rowB b)) (0 : Int)) (10 : Int) = (6 : Int)), decide ((0 : Nat) < m)] (Res.out Ex.ret [AV.tup [AV.own (1 : Nat) (List.length (dl (Int.toNat ((2000 : Int) - (0 : Int))) (itB (rowB b)) (0 : Int))), AV.v (Value.int IntKind.i64 (12 : Int))]] [AB.row false m (1 : Nat) (rowB b) (5 : TypeId), AB.row true (List.length (dl (Int.toNat ((2000 : Int) - (0 : Int))) (itB (rowB b)) (0 : Int))) (9 : Nat) (row9 (wfun (dl (Int.toNat ((2000 : Int) - (0 : Int))) (itB (rowB b)) (0 : Int)))) (58 : TypeId)]) else needs [okB m (rowB b), decide (m ≤ m), decide ((0 : Nat) < m), decide ((0 : Nat) < m), okB m (rowB b), decide (m ≤ m), decide ((0 : Int) ≤ dp m (itB (rowB b)) (0 : Int)), decide (dp m (itB (rowB b)) (0 : Int) ≤ (1073741824 : Int)), decide (pk m (itB (rowB b)) (dp m (itB (rowB b)) (0 : Int)) (10 : Int) = (6 : Int)), decide ((0 : Nat) < m)] (Res.out Ex.ret [AV.tup [AV.own (1 : Nat) (List.length (dl m (itB (rowB b)) (0 : Int))), AV.v (Value.int IntKind.i64 (12 : Int))]] [AB.row false m (1 : Nat) (rowB b) (5 : TypeId), AB.row true (List.length (dl m (itB (rowB b)) (0 : Int))) (9 : Nat) (row9 (wfun (dl m (itB (rowB b)) (0 : Int)))) (58 : TypeId)]) := by kernel_rfl

theorem treeRRo7 (dl : Nat → (Nat → Int) → Int → List Wh) (dp : Nat → (Nat → Int) → Int → Int) (pk : Nat → (Nat → Int) → Int → Int → Int) (m : Nat) (b : Nat → Int) : execF Try.prog (gmDrJ dl dp pk 10 7) noLam 100 Try.f34 [.sl 0 1 0 0 m none] [.row false m 1 (rowB b) 5] (packK 1)
    = bif decide ((↑m : Int) > (2000 : Int)) then needs [decide ((2000 : Int) ≤ (↑m : Int)), decide ((↑m : Int) ≤ (↑m : Int)), okB m (rowB b), decide (Int.toNat ((2000 : Int) - (0 : Int)) ≤ m), decide ((0 : Nat) < m), decide ((0 : Nat) < m), okB m (rowB b), decide (Int.toNat ((2000 : Int) - (0 : Int)) ≤ m), decide ((0 : Int) ≤ dp (Int.toNat ((2000 : Int) - (0 : Int))) (itB (rowB b)) (0 : Int)), decide (dp (Int.toNat ((2000 : Int) - (0 : Int))) (itB (rowB b)) (0 : Int) ≤ (1073741824 : Int)), decide (pk (Int.toNat ((2000 : Int) - (0 : Int))) (itB (rowB b)) (dp (Int.toNat ((2000 : Int) - (0 : Int))) (itB (rowB b)) (0 : Int)) (10 : Int) = (7 : Int)), decide ((0 : Nat) < m)] (Res.out Ex.ret [AV.tup [AV.own (1 : Nat) (List.length (dl (Int.toNat ((2000 : Int) - (0 : Int))) (itB (rowB b)) (0 : Int))), AV.v (Value.int IntKind.i64 (24 : Int))]] [AB.row false m (1 : Nat) (rowB b) (5 : TypeId), AB.row true (List.length (dl (Int.toNat ((2000 : Int) - (0 : Int))) (itB (rowB b)) (0 : Int))) (9 : Nat) (row9 (wfun (dl (Int.toNat ((2000 : Int) - (0 : Int))) (itB (rowB b)) (0 : Int)))) (58 : TypeId)]) else needs [okB m (rowB b), decide (m ≤ m), decide ((0 : Nat) < m), decide ((0 : Nat) < m), okB m (rowB b), decide (m ≤ m), decide ((0 : Int) ≤ dp m (itB (rowB b)) (0 : Int)), decide (dp m (itB (rowB b)) (0 : Int) ≤ (1073741824 : Int)), decide (pk m (itB (rowB b)) (dp m (itB (rowB b)) (0 : Int)) (10 : Int) = (7 : Int)), decide ((0 : Nat) < m)] (Res.out Ex.ret [AV.tup [AV.own (1 : Nat) (List.length (dl m (itB (rowB b)) (0 : Int))), AV.v (Value.int IntKind.i64 (24 : Int))]] [AB.row false m (1 : Nat) (rowB b) (5 : TypeId), AB.row true (List.length (dl m (itB (rowB b)) (0 : Int))) (9 : Nat) (row9 (wfun (dl m (itB (rowB b)) (0 : Int)))) (58 : TypeId)]) := by kernel_rfl

theorem treeRRo8 (dl : Nat → (Nat → Int) → Int → List Wh) (dp : Nat → (Nat → Int) → Int → Int) (pk : Nat → (Nat → Int) → Int → Int → Int) (m : Nat) (b : Nat → Int) : execF Try.prog (gmDrJ dl dp pk 10 8) noLam 100 Try.f34 [.sl 0 1 0 0 m none] [.row false m 1 (rowB b) 5] (packK 1)
    = bif decide ((↑m : Int) > (2000 : Int)) then needs [decide ((2000 : Int) ≤ (↑m : Int)), decide ((↑m : Int) ≤ (↑m : Int)), okB m (rowB b), decide (Int.toNat ((2000 : Int) - (0 : Int)) ≤ m), decide ((0 : Nat) < m), decide ((0 : Nat) < m), okB m (rowB b), decide (Int.toNat ((2000 : Int) - (0 : Int)) ≤ m), decide ((0 : Int) ≤ dp (Int.toNat ((2000 : Int) - (0 : Int))) (itB (rowB b)) (0 : Int)), decide (dp (Int.toNat ((2000 : Int) - (0 : Int))) (itB (rowB b)) (0 : Int) ≤ (1073741824 : Int)), decide (pk (Int.toNat ((2000 : Int) - (0 : Int))) (itB (rowB b)) (dp (Int.toNat ((2000 : Int) - (0 : Int))) (itB (rowB b)) (0 : Int)) (10 : Int) = (8 : Int)), decide ((0 : Nat) < m)] (Res.out Ex.ret [AV.tup [AV.own (1 : Nat) (List.length (dl (Int.toNat ((2000 : Int) - (0 : Int))) (itB (rowB b)) (0 : Int))), AV.v (Value.int IntKind.i64 (5 : Int))]] [AB.row false m (1 : Nat) (rowB b) (5 : TypeId), AB.row true (List.length (dl (Int.toNat ((2000 : Int) - (0 : Int))) (itB (rowB b)) (0 : Int))) (9 : Nat) (row9 (wfun (dl (Int.toNat ((2000 : Int) - (0 : Int))) (itB (rowB b)) (0 : Int)))) (58 : TypeId)]) else needs [okB m (rowB b), decide (m ≤ m), decide ((0 : Nat) < m), decide ((0 : Nat) < m), okB m (rowB b), decide (m ≤ m), decide ((0 : Int) ≤ dp m (itB (rowB b)) (0 : Int)), decide (dp m (itB (rowB b)) (0 : Int) ≤ (1073741824 : Int)), decide (pk m (itB (rowB b)) (dp m (itB (rowB b)) (0 : Int)) (10 : Int) = (8 : Int)), decide ((0 : Nat) < m)] (Res.out Ex.ret [AV.tup [AV.own (1 : Nat) (List.length (dl m (itB (rowB b)) (0 : Int))), AV.v (Value.int IntKind.i64 (5 : Int))]] [AB.row false m (1 : Nat) (rowB b) (5 : TypeId), AB.row true (List.length (dl m (itB (rowB b)) (0 : Int))) (9 : Nat) (row9 (wfun (dl m (itB (rowB b)) (0 : Int)))) (58 : TypeId)]) := by kernel_rfl

theorem treeRRo9 (dl : Nat → (Nat → Int) → Int → List Wh) (dp : Nat → (Nat → Int) → Int → Int) (pk : Nat → (Nat → Int) → Int → Int → Int) (m : Nat) (b : Nat → Int) : execF Try.prog (gmDrJ dl dp pk 10 9) noLam 100 Try.f34 [.sl 0 1 0 0 m none] [.row false m 1 (rowB b) 5] (packK 1)
    = bif decide ((↑m : Int) > (2000 : Int)) then needs [decide ((2000 : Int) ≤ (↑m : Int)), decide ((↑m : Int) ≤ (↑m : Int)), okB m (rowB b), decide (Int.toNat ((2000 : Int) - (0 : Int)) ≤ m), decide ((0 : Nat) < m), decide ((0 : Nat) < m), okB m (rowB b), decide (Int.toNat ((2000 : Int) - (0 : Int)) ≤ m), decide ((0 : Int) ≤ dp (Int.toNat ((2000 : Int) - (0 : Int))) (itB (rowB b)) (0 : Int)), decide (dp (Int.toNat ((2000 : Int) - (0 : Int))) (itB (rowB b)) (0 : Int) ≤ (1073741824 : Int)), decide (pk (Int.toNat ((2000 : Int) - (0 : Int))) (itB (rowB b)) (dp (Int.toNat ((2000 : Int) - (0 : Int))) (itB (rowB b)) (0 : Int)) (10 : Int) = (9 : Int)), decide ((0 : Nat) < m)] (Res.out Ex.ret [AV.tup [AV.own (1 : Nat) (List.length (dl (Int.toNat ((2000 : Int) - (0 : Int))) (itB (rowB b)) (0 : Int))), AV.v (Value.int IntKind.i64 (0 : Int))]] [AB.row false m (1 : Nat) (rowB b) (5 : TypeId), AB.row true (List.length (dl (Int.toNat ((2000 : Int) - (0 : Int))) (itB (rowB b)) (0 : Int))) (9 : Nat) (row9 (wfun (dl (Int.toNat ((2000 : Int) - (0 : Int))) (itB (rowB b)) (0 : Int)))) (58 : TypeId)]) else needs [okB m (rowB b), decide (m ≤ m), decide ((0 : Nat) < m), decide ((0 : Nat) < m), okB m (rowB b), decide (m ≤ m), decide ((0 : Int) ≤ dp m (itB (rowB b)) (0 : Int)), decide (dp m (itB (rowB b)) (0 : Int) ≤ (1073741824 : Int)), decide (pk m (itB (rowB b)) (dp m (itB (rowB b)) (0 : Int)) (10 : Int) = (9 : Int)), decide ((0 : Nat) < m)] (Res.out Ex.ret [AV.tup [AV.own (1 : Nat) (List.length (dl m (itB (rowB b)) (0 : Int))), AV.v (Value.int IntKind.i64 (0 : Int))]] [AB.row false m (1 : Nat) (rowB b) (5 : TypeId), AB.row true (List.length (dl m (itB (rowB b)) (0 : Int))) (9 : Nat) (row9 (wfun (dl m (itB (rowB b)) (0 : Int)))) (58 : TypeId)]) := by kernel_rfl

theorem treePk0 (q : Option Addr) (c : Nat) (p n : Int) (tr : TypeId) : execF Try.prog g0 noLam 100 Try.f72 [.ptr 0 0 0 0, .v (i64 n)] [.cells [.v (.slice q 0 c), .v (i64 p)] tr] (packK 1)
    = bif decide (n < (1 : Int)) then Res.out Ex.ret [AV.v (Value.int IntKind.i64 (0 : Int))] [AB.cells [AV.v (Value.slice q (0 : Nat) c), AV.v (Value.int IntKind.i64 (IntKind.wrap IntKind.i64 (p + (1 : Int))))] tr] else Res.out Ex.ret [AV.v (Value.int IntKind.i64 (0 : Int))] [AB.cells [AV.v (Value.slice q (0 : Nat) c), AV.v (Value.int IntKind.i64 (IntKind.wrap IntKind.i64 (p + (1 : Int))))] tr] := by kernel_rfl

/-- pick, where there are no bytes. -/
def Fpk0 : List AV → List AB → Option HR
  | [.ptr 0 0 0 0, .v (.int .i64 n)], [.cells [.v (.slice q 0 c), .v (.int .i64 p)] tr] => some { val := .v (.int .i64 0), out := [.cells [.v (.slice q 0 c), .v (.int .i64 (p + 1))] tr], obl := [decide (0 ≤ p), decide (p ≤ 2 ^ 30)] }
  | _, _ => none
theorem ok_pick0 : SpecOk Try.prog 72 (specK [] Fpk0) := by
  refine specK_ok g0_ok Try.func72 rfl fun avs H hr hF ho => ?_
  unfold Fpk0 at hF
  split at hF
  · rename_i n q c p tr
    cases hF
    simp only [ob_cons, decide_eq_true_eq] at ho
    obtain ⟨h1, h2, _⟩ := ho
    refine ⟨[.cells [.v (.slice q 0 c), .v (i64 p)] tr], noLam, 100, Hsim.refl _, noLam' _, ?_⟩
    rw [show execF Try.prog g0 noLam 100 Try.f72 [.ptr 0 0 0 0, .v (.int .i64 n)] [.cells [.v (.slice q 0 c), .v (i64 p)] tr] (packK [AB.cells [AV.v (.slice q 0 c), .v (i64 p)] tr].length) = _ from treePk0 q c p n tr]
    rw [wr_in (x := p + 1) (by omega)]
    exact good_cond (fun _ => good_out ⟨rfl, Hsim.refl _⟩) fun _ => good_out ⟨rfl, Hsim.refl _⟩
  · cases hF
def gmPk0 : Gam := ext g0 72 (specK [] Fpk0)
theorem treeRRo (q : Option Addr) (c : Nat) (g : Nat → List Value) : execF Try.prog gmPk0 noLam 100 Try.f34 [.v (.slice q 0 c)] [.row false 0 1 g 5] (packK 1)
    = Res.out Ex.ret [AV.tup [AV.own (1 : Nat) (1 : Nat), AV.v (Value.int IntKind.i64 (1 : Int))]] [AB.row false (0 : Nat) (1 : Nat) g (5 : TypeId), AB.row true (1 : Nat) (9 : Nat) (fun _ ↦ [Value.int IntKind.i64 (1001 : Int), Value.int IntKind.i64 (0 : Int), Value.int IntKind.i64 (0 : Int), Value.int IntKind.i64 (0 : Int), Value.int IntKind.i64 (0 : Int), Value.int IntKind.i64 (0 : Int), Value.int IntKind.i64 (0 : Int), Value.int IntKind.i64 (0 : Int), Value.int IntKind.i64 (0 : Int)]) (58 : Nat)] := by kernel_rfl

def rowN (q : Int) : Int := if q = 0 then 1 else if q = 1 then 2 else if q = 2 then 3 else if q = 3 then 4 else if q = 4 then 6 else if q = 5 then 8 else if q = 6 then 12 else if q = 7 then 24 else if q = 8 then 5 else 0
/-- A design and a length. -/
noncomputable def bRow (m : Nat) (b : Nat → Int) : List Wh × Int := if m = 0 then (noneL, 1) else (dgL (lnB m) b 0, rowN (pkV (lnB m) b (dgP (lnB m) b 0) 10))
theorem bRow_len (m : Nat) (b : Nat → Int) : (bRow m b).1.length ≤ 12 := by
  unfold bRow
  split
  · show 1 ≤ 12; omega
  · exact dgL_len _ _ _
theorem gmPk0_ok : GamOk Try.prog gmPk0 := ext_ok g0_ok ok_pick0
theorem gmDrJ_ok (q : Int) : GamOk Try.prog (gmDrJ dgL dgP pkV 10 q) := ext_ok (ext_ok g0_ok (ok_pickJ _ _)) ok_design
theorem ok_drRo : SpecOk Try.prog 34 (specR md_co (FdrO fun m b => frLN (bRow m b).1 (bRow m b).2)) := by
  refine draw_ok Try.func34 rfl (fun m b h0 hm hb => ⟨_, gmDrJ_ok (pkV (lnB m) b (dgP (lnB m) b 0) 10), ?_⟩) fun q c g b => ⟨_, gmPk0_ok, ?_⟩
  · have e : (bRow m b) = (dgL (lnB m) b 0, rowN (pkV (lnB m) b (dgP (lnB m) b 0) 10)) := by unfold bRow; rw [if_neg (by omega)]
    have hp := dgP_in (lnB m) b 0
    have q0 := pkV_nn (lnB m) b (dgP (lnB m) b 0) 10
    have q1 := pkV_lt (lnB m) b (dgP (lnB m) b 0) (n := 10) (by omega)
    rw [e]
    generalize hq : pkV (lnB m) b (dgP (lnB m) b 0) 10 = q at q0 q1 ⊢
    rcases (by omega : q = 0 ∨ q = 1 ∨ q = 2 ∨ q = 3 ∨ q = 4 ∨ q = 5 ∨ q = 6 ∨ q = 7 ∨ q = 8 ∨ q = 9) with rfl | rfl | rfl | rfl | rfl | rfl | rfl | rfl | rfl | rfl
    all_goals first | rw [treeRRo0, itB_row] | rw [treeRRo1, itB_row] | rw [treeRRo2, itB_row] | rw [treeRRo3, itB_row] | rw [treeRRo4, itB_row] | rw [treeRRo5, itB_row] | rw [treeRRo6, itB_row] | rw [treeRRo7, itB_row] | rw [treeRRo8, itB_row] | rw [treeRRo9, itB_row]
    all_goals
      refine good_ln (fun e1 hc => ?_) fun e1 hc => ?_
      · rw [e1] at hp hq ⊢
        rw [show Int.toNat ((2000 : Int) - 0) = 2000 from rfl]
        exact ⟨by simp only [ob_cons, ob_nil, and_true, decide_eq_true_eq, hb, true_and]; omega, good_out ⟨_, rfl, rfl, Hsim.refl _⟩⟩
      · rw [e1] at hp hq ⊢
        exact ⟨by simp only [ob_cons, ob_nil, and_true, decide_eq_true_eq, hb, true_and]; omega, good_out ⟨_, rfl, rfl, Hsim.refl _⟩⟩
  · rw [treeRRo]
    exact good_out ⟨_, rfl, rfl, .cons (ABeq.refl _) (.cons (ABeq.row fun j hj => none_row j hj) .nil)⟩

end Go.Proofs.Ytakimbknciffnaa

/- Rows of points. No conditions. -/
namespace Go.Proofs.Ytakimbknciffnaa
open Go.RowKit
set_option maxRecDepth 100000

abbrev row8 (f : Nat → Nat → Int) : Nat → List Value := fun j => [i64 (f j 0), i64 (f j 1), i64 (f j 2), i64 (f j 3), i64 (f j 4), i64 (f j 5), i64 (f j 6), i64 (f j 7)]
def is8 : List Value → Bool
  | [.int .i64 _, .int .i64 _, .int .i64 _, .int .i64 _, .int .i64 _, .int .i64 _, .int .i64 _, .int .i64 _] => true
  | _ => false
def it8 (g : Nat → List Value) : Nat → Nat → Int := fun j k => intOf ((g j).getD k undef)
def all8 (m : Nat) (g : Nat → List Value) : Bool := (List.range m).all fun j => is8 (g j)
theorem all8_get {m : Nat} {g : Nat → List Value} (h : all8 m g = true) (j : Nat) (hj : j < m) : g j = row8 (it8 g) j := by
  have := List.all_eq_true.1 h j (by simpa using hj)
  simp only [row8, it8, i64]
  unfold is8 at this
  split at this
  · rename_i e; rw [e]; rfl
  · cases this
theorem all8_row (m : Nat) (f : Nat → Nat → Int) : all8 m (row8 f) = true := List.all_eq_true.2 fun _ _ => rfl
theorem row8_it8 (f : Nat → Nat → Int) : row8 (it8 (row8 f)) = row8 f := rfl
theorem row80 (f : Nat → Nat → Int) : (fun q => row8 f (0 + q)) = row8 f := by
  funext q
  rw [Nat.zero_add]
def listC (f : Nat → Nat → Int) (m : Nat) : List Cy := (List.range m).map fun j => cyOf (f j)
def cfun (L : List Cy) : Nat → Nat → Int := fun j k => match L[j]? with
  | some c => c.f k
  | none => 0
theorem listC_length (f : Nat → Nat → Int) (m : Nat) : (listC f m).length = m := by simp [listC]
theorem listC_get (f : Nat → Nat → Int) {m j : Nat} (hj : j < m) : (listC f m)[j]? = some (cyOf (f j)) := by simp [listC, hj]
theorem listC_fun (L : List Cy) : listC (cfun L) L.length = L := by
  apply List.ext_getElem?
  intro j
  by_cases hj : j < L.length
  · rw [listC_get _ hj, List.getElem?_eq_getElem hj]
    have : cfun L j = L[j].f := by
      funext k
      simp only [cfun, List.getElem?_eq_getElem hj]
    rw [this, cyOf_f]
  · rw [List.getElem?_eq_none (by rw [listC_length]; omega), List.getElem?_eq_none (by omega)]
theorem listC_it8 (f : Nat → Nat → Int) (m : Nat) : listC (it8 (row8 f)) m = listC f m := rfl
theorem listC_me (L : List Cy) : listC (it8 (row8 (cfun L))) L.length = L := by rw [listC_it8, listC_fun]
theorem listC_succ (f : Nat → Nat → Int) (m : Nat) : listC f (m + 1) = listC f m ++ [cyOf (f m)] := by simp [listC, List.range_succ]
theorem row8_congr {f g : Nat → Nat → Int} {j : Nat} (h : ∀ k, k < 8 → f j k = g j k) : row8 f j = row8 g j := by
  simp only [row8, h 0 (by omega), h 1 (by omega), h 2 (by omega), h 3 (by omega), h 4 (by omega), h 5 (by omega), h 6 (by omega), h 7 (by omega)]
theorem cfun_get {L : List Cy} {j : Nat} (hj : j < L.length) : cfun L j = L[j].f := by
  funext k
  simp only [cfun, List.getElem?_eq_getElem hj]
theorem row8_list (f : Nat → Nat → Int) {m j : Nat} (hj : j < m) : row8 (cfun (listC f m)) j = row8 f j := by
  refine row8_congr fun k hk => ?_
  simp only [cfun, listC_get f hj]
  rcases (by omega : k = 0 ∨ k = 1 ∨ k = 2 ∨ k = 3 ∨ k = 4 ∨ k = 5 ∨ k = 6 ∨ k = 7) with rfl | rfl | rfl | rfl | rfl | rfl | rfl | rfl <;> rfl

end Go.Proofs.Ytakimbknciffnaa

/- A word for a callee that hands back an own list of points or none: read as one. Conditions: those of its two cases. -/
namespace Go.Proofs.Ytakimbknciffnaa
open Go.RowKit
set_option maxRecDepth 100000

/-- The points, or none. -/
structure PtR where
  b : Bool
  T : List Cy
  obl : List Bool
abbrev newG (T : List Cy) : List AB := [.row true T.length 8 (row8 (cfun T)) 35]
abbrev valG (T : List Cy) : AV := .tup [.own 0 T.length, .v (.bool true)]
def specG (mds : List Md) (U : List SA → Option PtR) : Spec := fun avs H base =>
  match saAll H mds avs with
  | some xs => match U (xs.map (·.sa)) with
    | some u => some { val := .tup [.sl base 8 0 0 u.T.length none, .v (.bool u.b)], rd := (ixC mds xs).filterMap id, put := [], new := [.row false u.T.length 8 (row8 (cfun u.T)) 35], obl := xs.flatMap (·.ob) ++ u.obl }
    | none => none
  | none => none

theorem specG_ok {P : Program} {f : FuncId} {mds : List Md} {FY FN : List SA → Option FR} {U : List SA → Option PtR} (hw : hasWr mds = false) (hY : SpecOk P f (specR mds FY)) (hN : SpecOk P f (specR mds FN))
    (h : ∀ sas u, U sas = some u → obls u.obl = true → Nat.beq (abP mds sas []).length (abC mds sas).length = true ∧ ((u.b = true ∧ ∃ ob, FY sas = some { val := valG u.T, new := newG u.T, obl := ob } ∧ obls ob = true) ∨ (u.b = false ∧ u.T = [] ∧ ∃ ob, FN sas = some { val := valN, obl := ob } ∧ obls ob = true))) : SpecOk P f (specG mds U) := by
  refine ⟨hY.1, fun avs H base δ ν vals w hS ho hv hr hlt hfree hsep => ?_⟩
  unfold specG at hS
  split at hS
  case h_2 => cases hS
  rename_i xs hxs
  split at hS
  case h_2 => cases hS
  rename_i u hu
  simp only [Option.some.injEq] at hS
  subst hS
  have ho' : obls (xs.flatMap (·.ob)) = true ∧ obls u.obl = true := by simpa [obls, List.all_append] using ho
  obtain ⟨hl, hc⟩ := h _ _ hu ho'.2
  have hput : putC (ixC mds xs) (abP mds (xs.map (·.sa)) []) = [] := putC_nil _ _ fun b hb => abP_rd hw b hb
  rcases hc with ⟨hb, ob, e1, e2⟩ | ⟨hb, hT, ob, e1, e2⟩
  · have hS2 : specR mds FY avs H base = some { val := .tup [.own base u.T.length, .v (.bool true)], rd := (ixC mds xs).filterMap id, put := [], new := newG u.T, obl := xs.flatMap (·.ob) ++ ob } := by
      unfold specR
      rw [hxs]
      simp only [e1]
      show cond _ _ _ = _
      rw [hw, hl, hput]
      rfl
    refine (hY.2 avs H base _ ν vals w hS2 (by simpa [obls, List.all_append] using And.intro ho'.1 e2) hv hr hlt hfree (fun i o j b b' hp => by cases hp)).mono ?_
    rintro e w' ⟨v, ν', rfl, d⟩
    have hnew := d.new 0 _ rfl
    have hv2 : VR ν' (.tup [.sl base 8 0 0 u.T.length none, .v (.bool u.b)]) v := by
      have := d.val
      simp only [VR, VRs] at this ⊢
      obtain ⟨l, e1, e2⟩ := this
      match l, e2 with
      | [a, c], ⟨⟨b0, hb0, ha⟩, hbb, _⟩ =>
        refine ⟨[a, c], e1, ⟨some ⟨b0.n, b0.o, none⟩, b0.c, ha, fun c' hc' => (by cases hc'), ?_, fun _ => ⟨b0, hb0, by simp⟩⟩, by rw [hb]; exact hbb, trivial⟩
        rcases hnew with ⟨h1, _, _⟩ | ⟨k, l, t', fz, h1, _, _, h4, _⟩
        · cases h1
        · rw [Nat.add_zero] at h1
          rw [hb0] at h1
          cases h1
          exact h4
    refine ⟨v, ν', rfl, d.le, d.dom, hv2, fun i b hl => (by cases hl), fun j b hj => ?_, d.os, d.tape, d.output, d.size, d.block, d.fresh, d.apart⟩
    match j with
    | 0 =>
      simp only [List.getElem?_cons_zero, Option.some.injEq] at hj
      subst hj
      rcases hnew with ⟨h1, _, _⟩ | ⟨k, l, t', fz, h1, h2, _, h4, h5⟩
      · cases h1
      · exact .inr ⟨k, l, t', fz, h1, h2, fun h => (by cases h), h4, h5⟩
    | j + 1 => simp at hj
  · have hS2 : specR mds FN avs H base = some { val := valN, rd := (ixC mds xs).filterMap id, put := [], new := [], obl := xs.flatMap (·.ob) ++ ob } := by
      unfold specR
      rw [hxs]
      simp only [e1]
      show cond _ _ _ = _
      rw [hw, hl, hput]
      rfl
    refine (hN.2 avs H base _ ν vals w hS2 (by simpa [obls, List.all_append] using And.intro ho'.1 e2) hv hr hlt (fun j hj => absurd hj (Nat.not_lt_zero _)) (fun i o j b b' hp => by cases hp)).mono ?_
    rintro e w' ⟨v, ν', rfl, d⟩
    have hnone : ν' base = none := by
      have h0 : ν base = none := hfree 0 (Nat.zero_lt_one)
      cases hq : ν' base with
      | none => rfl
      | some b =>
        have := d.dom base h0 (by rw [hq]; simp)
        simp at this
    have hv0 : VR ν' (.tup [.sl base 8 0 0 0 none, .v (.bool false)]) v := by
      have := d.val
      simp only [VR, VRs] at this ⊢
      obtain ⟨l, e1, e2⟩ := this
      match l, e2 with
      | [a, b], ⟨ha, hbb, _⟩ => exact ⟨[a, b], e1, ⟨none, 0, ha, fun c' hc' => (by cases hc'), Nat.le_refl _, fun hc => absurd hc (Nat.lt_irrefl 0)⟩, hbb, trivial⟩
    refine ⟨v, ν', rfl, d.le, fun i h1 h2 => ?_, by rw [hb, hT]; exact hv0, fun i b hl => (by cases hl), fun j b hj => ?_, d.os, d.tape, d.output, d.size, d.block, fun j b hj hq => ?_, fun j j' b b' hne hj hj' => ?_⟩
    · have := d.dom i h1 h2
      simp at this
      omega
    · match j with
      | 0 =>
        simp only [List.getElem?_cons_zero, Option.some.injEq] at hj
        subst hj
        rw [hT]
        exact .inl ⟨rfl, rfl, hnone⟩
      | j + 1 => simp at hj
    · have hj : j < 1 := hj
      have : j = 0 := by omega
      subst this
      rw [Nat.add_zero, hnone] at hq
      cases hq
    · have hj : j < 1 := hj
      have hj' : j' < 1 := hj'
      omega

end Go.Proofs.Ytakimbknciffnaa

/- RowOf of both: trees. Conditions: a list of wheels, a number. -/
namespace Go.Proofs.Ytakimbknciffnaa
open Go.RowKit
set_option maxRecDepth 100000

noncomputable abbrev fRI : Func := Try.f35
noncomputable abbrev fRS : Func := Try.f36
def gmRO (dv : (Nat → Nat → Int) → Int → Nat → Nat → Int) (dk : (Nat → Nat → Int) → Int → Nat → Bool) : Gam := ext (ext g0 23 (specR md_wv (FDAo dv dk))) 90 (specR md_wv (FDAo dv dk))
def gmRV (okd : List Wh → Bool) : Gam := ext (ext gm_l6In 50 (specR md_ws (FdvO okd))) 81 (specR md_ws (FdvO okd))
abbrev hpRO (m : Nat) (f : Nat → Nat → Int) (i : Nat) (h : Nat → Nat → Int) : List AB := [.row false m 9 (row9 f) 58, .row true i 8 (row8 h) 35]
abbrev hpR1 (m : Nat) (f : Nat → Nat → Int) : List AB := [.row false m 9 (row9 f) 58]
abbrev lvRI : Ex → List Nat := lv3 [0, 1, 6, 20, 21] [6] [4, 5]
abbrev stRI (m n i : Nat) : List AV := [.sl 0 9 0 0 m none, .v (i64 n), .own 1 i, .v (i64 n), .v (i64 i)]
theorem rndRI (dv : (Nat → Nat → Int) → Int → Nat → Nat → Int) (dk : (Nat → Nat → Int) → Int → Nat → Bool) (m : Nat) (f : Nat → Nat → Int) (n : Nat) (h : Nat → Nat → Int) (i : Nat) : execC Try.prog (gmRO dv dk) 100 noLam (loopAt 0 fRI) (mkT 0 41 ((lvRI .normal).zip (stRI m n i))) (hpRO m f i h) (leafV 41 lvRI 1)
    = bif decide ((↑i : Int) < (↑n : Int)) then needs [!decide ((↑n : Int) = (0 : Int)), Nat.ble ((0 : Nat) + m) m, allW m fun q ↦ row9 f ((0 : Nat) + q), decide (m ≤ (274877906944 : Nat))] (bif !dk (itW fun q ↦ row9 f ((0 : Nat) + q)) (IntKind.wrap IntKind.i64 ((↑i : Int) * IntKind.wrap IntKind.i64 (Int.tdiv (24 : Int) (↑n : Int)))) m then Res.out Ex.ret [AV.v (Value.slice none (0 : Nat) (0 : Nat)), AV.v (Value.bool false)] [AB.row false m (9 : Nat) (row9 f) (58 : TypeId)] else needs [Nat.ble i i, Nat.ble (i + (1 : Nat)) (549755813888 : Nat)] (Res.out Ex.normal [AV.sl (0 : Nat) (9 : Nat) (0 : Nat) (0 : Nat) m none, AV.v (Value.int IntKind.i64 (↑n : Int)), AV.own (1 : Nat) (i + (1 : Nat)), AV.v (Value.int IntKind.i64 (↑n : Int)), AV.v (Value.int IntKind.i64 (IntKind.wrap IntKind.i64 ((↑i : Int) + (1 : Int))))] [AB.row false m (9 : Nat) (row9 f) (58 : TypeId), AB.row true (i + (1 : Nat)) (8 : Nat) (fun q ↦ [Value.int IntKind.i64 (bif Nat.blt q i then h q (0 : Nat) else dv (itW fun q ↦ row9 f ((0 : Nat) + q)) (IntKind.wrap IntKind.i64 ((↑i : Int) * IntKind.wrap IntKind.i64 (Int.tdiv (24 : Int) (↑n : Int)))) m (0 : Nat)), Value.int IntKind.i64 (bif Nat.blt q i then h q (1 : Nat) else dv (itW fun q ↦ row9 f ((0 : Nat) + q)) (IntKind.wrap IntKind.i64 ((↑i : Int) * IntKind.wrap IntKind.i64 (Int.tdiv (24 : Int) (↑n : Int)))) m (1 : Nat)), Value.int IntKind.i64 (bif Nat.blt q i then h q (2 : Nat) else dv (itW fun q ↦ row9 f ((0 : Nat) + q)) (IntKind.wrap IntKind.i64 ((↑i : Int) * IntKind.wrap IntKind.i64 (Int.tdiv (24 : Int) (↑n : Int)))) m (2 : Nat)), Value.int IntKind.i64 (bif Nat.blt q i then h q (3 : Nat) else dv (itW fun q ↦ row9 f ((0 : Nat) + q)) (IntKind.wrap IntKind.i64 ((↑i : Int) * IntKind.wrap IntKind.i64 (Int.tdiv (24 : Int) (↑n : Int)))) m (3 : Nat)), Value.int IntKind.i64 (bif Nat.blt q i then h q (4 : Nat) else dv (itW fun q ↦ row9 f ((0 : Nat) + q)) (IntKind.wrap IntKind.i64 ((↑i : Int) * IntKind.wrap IntKind.i64 (Int.tdiv (24 : Int) (↑n : Int)))) m (4 : Nat)), Value.int IntKind.i64 (bif Nat.blt q i then h q (5 : Nat) else dv (itW fun q ↦ row9 f ((0 : Nat) + q)) (IntKind.wrap IntKind.i64 ((↑i : Int) * IntKind.wrap IntKind.i64 (Int.tdiv (24 : Int) (↑n : Int)))) m (5 : Nat)), Value.int IntKind.i64 (bif Nat.blt q i then h q (6 : Nat) else dv (itW fun q ↦ row9 f ((0 : Nat) + q)) (IntKind.wrap IntKind.i64 ((↑i : Int) * IntKind.wrap IntKind.i64 (Int.tdiv (24 : Int) (↑n : Int)))) m (6 : Nat)), Value.int IntKind.i64 (bif Nat.blt q i then h q (7 : Nat) else dv (itW fun q ↦ row9 f ((0 : Nat) + q)) (IntKind.wrap IntKind.i64 ((↑i : Int) * IntKind.wrap IntKind.i64 (Int.tdiv (24 : Int) (↑n : Int)))) m (7 : Nat))]) (35 : Nat)])) else Res.out (Ex.exit (0 : Nat)) [AV.own (1 : Nat) i] [AB.row false m (9 : Nat) (row9 f) (58 : TypeId), AB.row true i (8 : Nat) (row8 h) (35 : TypeId)] := by kernel_rfl

noncomputable abbrev lamRI (m : Nat) (f : Nat → Nat → Int) (n : Nat) (c : Bool) (h : Nat → Nat → Int) : Nat → Option Sum := oneL 0 (atS 41 (lvRI .normal) 1 (stRI m n 0) (hpRO m f 0 fun _ _ => 0) (fun K => cond c (K .normal (mkT 0 41 [(6, .own 1 n)]) (hpRO m f n h)) (K .ret (mkT 0 41 [(4, .v (.slice none 0 0)), (5, .v (.bool false))]) (hpR1 m f))))
theorem treeRI (okd : List Wh → Bool) (m : Nat) (f : Nat → Nat → Int) (x : Int) (n : Nat) (c : Bool) (h : Nat → Nat → Int) : execF Try.prog (gmRV okd) (lamRI m f n c h) 100 fRI [.sl 0 9 0 0 m none, .v (i64 x)] (hpR1 m f) (packK 1)
    = bif decide (x ≥ (1 : Int)) then needs [!decide (x = (0 : Int))] (bif !Int.tmod (24 : Int) x == (0 : Int) then Res.out Ex.ret [AV.tup [AV.v (Value.slice none (0 : Nat) (0 : Nat)), AV.v (Value.bool false)]] [AB.row false m (9 : Nat) (row9 f) (58 : TypeId)] else needs [Nat.ble ((0 : Nat) + m) m, allW m fun q ↦ row9 f ((0 : Nat) + q), decide (m ≤ (549755813888 : Nat))] (bif !okd (listW (itW fun q ↦ row9 f ((0 : Nat) + q)) m) then Res.out Ex.ret [AV.tup [AV.v (Value.slice none (0 : Nat) (0 : Nat)), AV.v (Value.bool false)]] [AB.row false m (9 : Nat) (row9 f) (58 : TypeId)] else needs [decide ((0 : Int) ≤ x), decide (x ≤ (1099511627776 : Int)), chk ([AV.sl (0 : Nat) (9 : Nat) (0 : Nat) (0 : Nat) m none, AV.v (Value.int IntKind.i64 x), AV.own (1 : Nat) (0 : Nat), AV.v (Value.int IntKind.i64 x), AV.v (Value.int IntKind.i64 (0 : Int))] = stRI m n (0 : Nat) ∧ Hsim [AB.row false m (9 : Nat) (row9 f) (58 : TypeId), AB.row true (0 : Nat) (8 : Nat) (fun _ ↦ [Value.int IntKind.i64 (0 : Int), Value.int IntKind.i64 (0 : Int), Value.int IntKind.i64 (0 : Int), Value.int IntKind.i64 (0 : Int), Value.int IntKind.i64 (0 : Int), Value.int IntKind.i64 (0 : Int), Value.int IntKind.i64 (0 : Int), Value.int IntKind.i64 (0 : Int)]) (35 : Nat)] (hpRO m f (0 : Nat) fun x x_1 ↦ (0 : Int)))] (bif c then Res.out Ex.ret [AV.tup [AV.own (1 : Nat) n, AV.v (Value.bool true)]] [AB.row false m (9 : Nat) (row9 f) (58 : TypeId), AB.row true n (8 : Nat) (row8 h) (35 : TypeId)] else Res.out Ex.ret [AV.tup [AV.v (Value.slice none (0 : Nat) (0 : Nat)), AV.v (Value.bool false)]] [AB.row false m (9 : Nat) (row9 f) (58 : TypeId)]))) else Res.out Ex.ret [AV.tup [AV.v (Value.slice none (0 : Nat) (0 : Nat)), AV.v (Value.bool false)]] [AB.row false m (9 : Nat) (row9 f) (58 : TypeId)] := by kernel_rfl

abbrev lvRS : Ex → List Nat := lv3 [0, 1, 6, 7] [6] [4, 5]
abbrev stRS (m n i : Nat) : List AV := [.sl 0 9 0 0 m none, .v (i64 n), .own 1 i, .v (i64 i)]
theorem rndRS (dv : (Nat → Nat → Int) → Int → Nat → Nat → Int) (dk : (Nat → Nat → Int) → Int → Nat → Bool) (m : Nat) (f : Nat → Nat → Int) (n : Nat) (h : Nat → Nat → Int) (i : Nat) : execC Try.prog (gmRO dv dk) 100 noLam (loopAt 0 fRS) (mkT 0 42 ((lvRS .normal).zip (stRS m n i))) (hpRO m f i h) (leafV 42 lvRS 1)
    = bif decide ((↑i : Int) < (↑n : Int)) then needs [!decide ((↑n : Int) = (0 : Int)), Nat.ble ((0 : Nat) + m) m, allW m fun q ↦ row9 f ((0 : Nat) + q), decide (m ≤ (274877906944 : Nat))] (bif !dk (itW fun q ↦ row9 f ((0 : Nat) + q)) (IntKind.wrap IntKind.i64 ((↑i : Int) * IntKind.wrap IntKind.i64 (Int.tdiv (24 : Int) (↑n : Int)))) m then Res.out Ex.ret [AV.own (1 : Nat) (0 : Nat), AV.v (Value.bool false)] [AB.row false m (9 : Nat) (row9 f) (58 : TypeId), AB.row true (0 : Nat) (8 : Nat) (fun _ ↦ []) (35 : Nat)] else needs [Nat.ble i i, Nat.ble (i + (1 : Nat)) (549755813888 : Nat)] (Res.out Ex.normal [AV.sl (0 : Nat) (9 : Nat) (0 : Nat) (0 : Nat) m none, AV.v (Value.int IntKind.i64 (↑n : Int)), AV.own (1 : Nat) (i + (1 : Nat)), AV.v (Value.int IntKind.i64 (IntKind.wrap IntKind.i64 ((↑i : Int) + (1 : Int))))] [AB.row false m (9 : Nat) (row9 f) (58 : TypeId), AB.row true (i + (1 : Nat)) (8 : Nat) (fun q ↦ [Value.int IntKind.i64 (bif Nat.blt q i then h q (0 : Nat) else dv (itW fun q ↦ row9 f ((0 : Nat) + q)) (IntKind.wrap IntKind.i64 ((↑i : Int) * IntKind.wrap IntKind.i64 (Int.tdiv (24 : Int) (↑n : Int)))) m (0 : Nat)), Value.int IntKind.i64 (bif Nat.blt q i then h q (1 : Nat) else dv (itW fun q ↦ row9 f ((0 : Nat) + q)) (IntKind.wrap IntKind.i64 ((↑i : Int) * IntKind.wrap IntKind.i64 (Int.tdiv (24 : Int) (↑n : Int)))) m (1 : Nat)), Value.int IntKind.i64 (bif Nat.blt q i then h q (2 : Nat) else dv (itW fun q ↦ row9 f ((0 : Nat) + q)) (IntKind.wrap IntKind.i64 ((↑i : Int) * IntKind.wrap IntKind.i64 (Int.tdiv (24 : Int) (↑n : Int)))) m (2 : Nat)), Value.int IntKind.i64 (bif Nat.blt q i then h q (3 : Nat) else dv (itW fun q ↦ row9 f ((0 : Nat) + q)) (IntKind.wrap IntKind.i64 ((↑i : Int) * IntKind.wrap IntKind.i64 (Int.tdiv (24 : Int) (↑n : Int)))) m (3 : Nat)), Value.int IntKind.i64 (bif Nat.blt q i then h q (4 : Nat) else dv (itW fun q ↦ row9 f ((0 : Nat) + q)) (IntKind.wrap IntKind.i64 ((↑i : Int) * IntKind.wrap IntKind.i64 (Int.tdiv (24 : Int) (↑n : Int)))) m (4 : Nat)), Value.int IntKind.i64 (bif Nat.blt q i then h q (5 : Nat) else dv (itW fun q ↦ row9 f ((0 : Nat) + q)) (IntKind.wrap IntKind.i64 ((↑i : Int) * IntKind.wrap IntKind.i64 (Int.tdiv (24 : Int) (↑n : Int)))) m (5 : Nat)), Value.int IntKind.i64 (bif Nat.blt q i then h q (6 : Nat) else dv (itW fun q ↦ row9 f ((0 : Nat) + q)) (IntKind.wrap IntKind.i64 ((↑i : Int) * IntKind.wrap IntKind.i64 (Int.tdiv (24 : Int) (↑n : Int)))) m (6 : Nat)), Value.int IntKind.i64 (bif Nat.blt q i then h q (7 : Nat) else dv (itW fun q ↦ row9 f ((0 : Nat) + q)) (IntKind.wrap IntKind.i64 ((↑i : Int) * IntKind.wrap IntKind.i64 (Int.tdiv (24 : Int) (↑n : Int)))) m (7 : Nat))]) (35 : Nat)])) else Res.out (Ex.exit (0 : Nat)) [AV.own (1 : Nat) i] [AB.row false m (9 : Nat) (row9 f) (58 : TypeId), AB.row true i (8 : Nat) (row8 h) (35 : TypeId)] := by kernel_rfl

noncomputable abbrev lamRS (m : Nat) (f : Nat → Nat → Int) (n : Nat) (c : Bool) (h : Nat → Nat → Int) : Nat → Option Sum := oneL 0 (atS 42 (lvRS .normal) 1 (stRS m n 0) (hpRO m f 0 fun _ _ => 0) (fun K => cond c (K .normal (mkT 0 42 [(6, .own 1 n)]) (hpRO m f n h)) (K .ret (mkT 0 42 [(4, .own 1 0), (5, .v (.bool false))]) (hpRO m f 0 fun _ _ => 0))))
theorem treeRS (okd : List Wh → Bool) (m : Nat) (f : Nat → Nat → Int) (x : Int) (n : Nat) (c : Bool) (h : Nat → Nat → Int) : execF Try.prog (gmRV okd) (lamRS m f n c h) 100 fRS [.sl 0 9 0 0 m none, .v (i64 x)] (hpR1 m f) (packK 1)
    = bif decide (x ≥ (1 : Int)) then bif decide (x ≤ (24 : Int)) then needs [!decide (x = (0 : Int))] (bif !Int.tmod (24 : Int) x == (0 : Int) then Res.out Ex.ret [AV.tup [AV.own (1 : Nat) (0 : Nat), AV.v (Value.bool false)]] [AB.row false m (9 : Nat) (row9 f) (58 : TypeId), AB.row true (0 : Nat) (8 : Nat) (fun _ ↦ []) (35 : Nat)] else needs [Nat.ble ((0 : Nat) + m) m, allW m fun q ↦ row9 f ((0 : Nat) + q), decide (m ≤ (549755813888 : Nat))] (bif !okd (listW (itW fun q ↦ row9 f ((0 : Nat) + q)) m) then Res.out Ex.ret [AV.tup [AV.own (1 : Nat) (0 : Nat), AV.v (Value.bool false)]] [AB.row false m (9 : Nat) (row9 f) (58 : TypeId), AB.row true (0 : Nat) (8 : Nat) (fun _ ↦ []) (35 : Nat)] else needs [chk ([AV.sl (0 : Nat) (9 : Nat) (0 : Nat) (0 : Nat) m none, AV.v (Value.int IntKind.i64 x), AV.own (1 : Nat) (0 : Nat), AV.v (Value.int IntKind.i64 (0 : Int))] = stRS m n (0 : Nat) ∧ Hsim [AB.row false m (9 : Nat) (row9 f) (58 : TypeId), AB.row true (0 : Nat) (8 : Nat) (fun _ ↦ []) (35 : Nat)] (hpRO m f (0 : Nat) fun x x_1 ↦ (0 : Int)))] (bif c then Res.out Ex.ret [AV.tup [AV.own (1 : Nat) n, AV.v (Value.bool true)]] [AB.row false m (9 : Nat) (row9 f) (58 : TypeId), AB.row true n (8 : Nat) (row8 h) (35 : TypeId)] else Res.out Ex.ret [AV.tup [AV.own (1 : Nat) (0 : Nat), AV.v (Value.bool false)]] [AB.row false m (9 : Nat) (row9 f) (58 : TypeId), AB.row true (0 : Nat) (8 : Nat) (row8 fun x x_1 ↦ (0 : Int)) (35 : TypeId)]))) else Res.out Ex.ret [AV.tup [AV.own (1 : Nat) (0 : Nat), AV.v (Value.bool false)]] [AB.row false m (9 : Nat) (row9 f) (58 : TypeId), AB.row true (0 : Nat) (8 : Nat) (fun _ ↦ []) (35 : Nat)] else Res.out Ex.ret [AV.tup [AV.own (1 : Nat) (0 : Nat), AV.v (Value.bool false)]] [AB.row false m (9 : Nat) (row9 f) (58 : TypeId), AB.row true (0 : Nat) (8 : Nat) (fun _ ↦ []) (35 : Nat)] := by kernel_rfl

end Go.Proofs.Ytakimbknciffnaa

/- RowOf of both: its word. Conditions: a list of wheels, a number. -/
namespace Go.Proofs.Ytakimbknciffnaa
open Go.RowKit
set_option maxRecDepth 100000

/-- The points in turn. -/
def roF (f : Nat → Nat → Int) (m : Nat) (x : Int) : Nat → Nat → Int := fun j => daV f ((j : Int) * Int.tdiv 24 x) m
def rwB (f : Nat → Nat → Int) (m : Nat) (x : Int) (j : Nat) : Bool := !daOk f ((j : Int) * Int.tdiv 24 x) m
def roV (x : Int) : Bool := decide (x ≥ 1) && (decide (x ≤ 24) && (Int.tmod 24 x == 0))
def roK (f : Nat → Nat → Int) (m : Nat) (x : Int) : Bool := roV x && (okD (listW f m) && noneTo (rwB f m x) x.toNat)
def roT (f : Nat → Nat → Int) (m : Nat) (x : Int) : List Cy := bif roK f m x then listC (roF f m x) x.toNat else []
theorem roV_in {x : Int} (h : roV x = true) : 1 ≤ x ∧ x ≤ 24 := by
  rw [roV, Bool.and_eq_true, Bool.and_eq_true, decide_eq_true_eq, decide_eq_true_eq] at h
  exact ⟨h.1, h.2.1⟩
theorem tdiv24 {n : Nat} (h0 : 1 ≤ n) (h1 : n ≤ 24) : 0 ≤ Int.tdiv 24 (n : Int) ∧ Int.tdiv 24 (n : Int) ≤ 24 := by
  rw [Int.tdiv_eq_ediv_of_nonneg (by omega)]
  exact ⟨Int.ediv_nonneg (by omega) (by omega), Int.ediv_le_self _ (by omega)⟩
theorem ro_mul {i n : Nat} (hi : i < n) (hn : n ≤ 24) : IntKind.wrap IntKind.i64 ((i : Int) * IntKind.wrap IntKind.i64 (Int.tdiv 24 (n : Int))) = (i : Int) * Int.tdiv 24 (n : Int) := by
  have h := tdiv24 (n := n) (by omega) hn
  have hm := mul_bd (x := (i : Int)) (y := Int.tdiv 24 (n : Int)) (A := 24) (B := 24) (by omega) (by omega) (by omega) h.2
  rw [wr_in (x := Int.tdiv 24 (n : Int)) (by omega), wr_in (by omega)]
theorem gmRO_ok : GamOk Try.prog (gmRO daV daOk) := by
  refine ext_ok (ext_ok g0_ok ok_DAI) ?_
  rw [FDAo_eq]
  exact ok_DA
theorem gmRV_ok : GamOk Try.prog (gmRV okD) := by
  unfold gmRV
  rw [FdvO_eq]
  exact ext_ok (ext_ok gm_l6In_ok ok_dvI) ok_dv
theorem ro_row (f : Nat → Nat → Int) (m n i : Nat) (o : Nat → Nat → Int) (ho : ∀ j, j < i → o j = roF f m n j) (j : Nat) (hj : j < i + 1) : [i64 (bif Nat.blt j i then o j 0 else daV f ((i : Int) * Int.tdiv 24 (n : Int)) m 0), i64 (bif Nat.blt j i then o j 1 else daV f ((i : Int) * Int.tdiv 24 (n : Int)) m 1), i64 (bif Nat.blt j i then o j 2 else daV f ((i : Int) * Int.tdiv 24 (n : Int)) m 2), i64 (bif Nat.blt j i then o j 3 else daV f ((i : Int) * Int.tdiv 24 (n : Int)) m 3), i64 (bif Nat.blt j i then o j 4 else daV f ((i : Int) * Int.tdiv 24 (n : Int)) m 4), i64 (bif Nat.blt j i then o j 5 else daV f ((i : Int) * Int.tdiv 24 (n : Int)) m 5), i64 (bif Nat.blt j i then o j 6 else daV f ((i : Int) * Int.tdiv 24 (n : Int)) m 6), i64 (bif Nat.blt j i then o j 7 else daV f ((i : Int) * Int.tdiv 24 (n : Int)) m 7)] = row8 (roF f m n) j := by
  by_cases h : j < i
  · rw [blt_yes h]
    simp only [cond_true, ho j h]
  · have : j = i := by omega
    subst this
    rw [blt_no]
    rfl
theorem sumRI (m : Nat) (f : Nat → Nat → Int) (n : Nat) (hm : m ≤ 2 ^ 38) (hn : n ≤ 24) :
    SumOk Try.prog 1 (.block 0 (.loop (loopAt 0 fRI))) (atS 41 (lvRI .normal) 1 (stRI m n 0) (hpRO m f 0 fun _ _ => 0) (fun K => cond (noneTo (rwB f m n) n) (K .normal (mkT 0 41 [(6, .own 1 n)]) (hpRO m f n (roF f m n))) (K .ret (mkT 0 41 [(4, .v (.slice none 0 0)), (5, .v (.bool false))]) (hpR1 m f)))) := by
  refine for_at gmRO_ok (n := 100) (m := 1) (lv := lvRI) (fun i => stRI m n i) (fun i => hpRO m f i (bif Nat.beq i 0 then (fun _ _ => 0) else roF f m n)) (fun i => noneTo (rwB f m n) i = true) n (fun _ => noLam) (lv3_ris rfl rfl rfl) (Nat.le_refl _) rfl fun K Q hk i hno hi => ⟨noLam_ok _ _ _, ?_⟩
  have ho : ∀ j, j < i → (bif Nat.beq i 0 then (fun _ _ => (0 : Int)) else roF f m n) j = roF f m n j := by
    intro j hj
    cases i with
    | zero => exact absurd hj (Nat.not_lt_zero _)
    | succ i => rfl
  rw [rndRI]
  simp only [row0, daOk_row, daV_row]
  refine good_cond (fun c1 => ?_) fun c1 => ?_
  · have c1 := of_decide_eq_true c1
    have c1' : i < n := by omega
    rw [ro_mul c1' hn, wr_in (x := (i : Int) + 1) (by omega)]
    refine good_needs (by simp only [ob_cons, ob_nil, and_true, Bool.not_eq_true', decide_eq_false_iff_not, decide_eq_true_eq, Nat.ble_eq, allW_row, true_and]; omega) (good_cond (fun q => ?_) fun q => good_needs (by simp only [ob_cons, ob_nil, and_true, decide_eq_true_eq, Nat.ble_eq]; omega) (good_out ⟨i + 1, ⟨rfl, c1', noneTo_succ hno q⟩, rfl, .cons (ABeq.refl _) (.cons (ABeq.row fun j hj => ?_) .nil)⟩))
    · refine good_out ⟨_, Hsim.refl _, ?_⟩
      rw [noneTo_no c1' q] at hk
      exact hk
    · exact ro_row f m n i _ ho j hj
  · have c1 := of_decide_eq_false c1
    have : i = n := by omega
    subst this
    refine good_out ⟨hpRO m f i (roF f m i), .cons (ABeq.refl _) (.cons (ABeq.row fun j hj => row8_congr fun k _ => by rw [ho j hj]) .nil), ?_⟩
    rw [if_pos rfl]
    rw [hno] at hk
    exact hk
theorem sumRS (m : Nat) (f : Nat → Nat → Int) (n : Nat) (hm : m ≤ 2 ^ 38) (hn : n ≤ 24) :
    SumOk Try.prog 1 (.block 0 (.loop (loopAt 0 fRS))) (atS 42 (lvRS .normal) 1 (stRS m n 0) (hpRO m f 0 fun _ _ => 0) (fun K => cond (noneTo (rwB f m n) n) (K .normal (mkT 0 42 [(6, .own 1 n)]) (hpRO m f n (roF f m n))) (K .ret (mkT 0 42 [(4, .own 1 0), (5, .v (.bool false))]) (hpRO m f 0 fun _ _ => 0)))) := by
  refine for_at gmRO_ok (n := 100) (m := 1) (lv := lvRS) (fun i => stRS m n i) (fun i => hpRO m f i (bif Nat.beq i 0 then (fun _ _ => 0) else roF f m n)) (fun i => noneTo (rwB f m n) i = true) n (fun _ => noLam) (lv3_ris rfl rfl rfl) (Nat.le_refl _) rfl fun K Q hk i hno hi => ⟨noLam_ok _ _ _, ?_⟩
  have ho : ∀ j, j < i → (bif Nat.beq i 0 then (fun _ _ => (0 : Int)) else roF f m n) j = roF f m n j := by
    intro j hj
    cases i with
    | zero => exact absurd hj (Nat.not_lt_zero _)
    | succ i => rfl
  rw [rndRS]
  simp only [row0, daOk_row, daV_row]
  refine good_cond (fun c1 => ?_) fun c1 => ?_
  · have c1 := of_decide_eq_true c1
    have c1' : i < n := by omega
    rw [ro_mul c1' hn, wr_in (x := (i : Int) + 1) (by omega)]
    refine good_needs (by simp only [ob_cons, ob_nil, and_true, Bool.not_eq_true', decide_eq_false_iff_not, decide_eq_true_eq, Nat.ble_eq, allW_row, true_and]; omega) (good_cond (fun q => ?_) fun q => good_needs (by simp only [ob_cons, ob_nil, and_true, decide_eq_true_eq, Nat.ble_eq]; omega) (good_out ⟨i + 1, ⟨rfl, c1', noneTo_succ hno q⟩, rfl, .cons (ABeq.refl _) (.cons (ABeq.row fun j hj => ?_) .nil)⟩))
    · refine good_out ⟨hpRO m f 0 fun _ _ => 0, .cons (ABeq.refl _) (.cons (ABeq.row fun j hj => absurd hj (Nat.not_lt_zero _)) .nil), ?_⟩
      rw [noneTo_no c1' q] at hk
      exact hk
    · exact ro_row f m n i _ ho j hj
  · have c1 := of_decide_eq_false c1
    have : i = n := by omega
    subst this
    refine good_out ⟨hpRO m f i (roF f m i), .cons (ABeq.refl _) (.cons (ABeq.row fun j hj => row8_congr fun k _ => by rw [ho j hj]) .nil), ?_⟩
    rw [if_pos rfl]
    rw [hno] at hk
    exact hk

def FroY : List SA → Option FR
  | [.row m g, .v (.int .i64 x)] => some { val := valG (roT (itW g) m x), new := newG (roT (itW g) m x), obl := [allW m g, decide (m ≤ 2 ^ 38), roK (itW g) m x] }
  | _ => none
def FroN : List SA → Option FR
  | [.row m g, .v (.int .i64 x)] => some { val := valN, obl := [allW m g, decide (m ≤ 2 ^ 38), !roK (itW g) m x] }
  | _ => none
def UroO (rk : (Nat → Nat → Int) → Nat → Int → Bool) (rt : (Nat → Nat → Int) → Nat → Int → List Cy) : List SA → Option PtR
  | [.row m g, .v (.int .i64 x)] => some ⟨rk (itW g) m x, rt (itW g) m x, [allW m g, decide (m ≤ 2 ^ 38)]⟩
  | _ => none
def FroS (rk : (Nat → Nat → Int) → Nat → Int → Bool) (rt : (Nat → Nat → Int) → Nat → Int → List Cy) : List SA → Option FR
  | [.row m g, .v (.int .i64 x)] => some { val := .tup [.own 0 (rt (itW g) m x).length, .v (.bool (rk (itW g) m x))], new := newG (rt (itW g) m x), obl := [allW m g, decide (m ≤ 2 ^ 38)] }
  | _ => none
theorem roK_parts {f : Nat → Nat → Int} {m : Nat} {x : Int} (h : roK f m x = true) : roV x = true ∧ okD (listW f m) = true ∧ noneTo (rwB f m x) x.toNat = true := by
  rw [roK, Bool.and_eq_true, Bool.and_eq_true] at h
  exact ⟨h.1, h.2.1, h.2.2⟩
theorem roV_parts {x : Int} (h : roV x = true) : decide (x ≥ 1) = true ∧ decide (x ≤ 24) = true ∧ (Int.tmod 24 x == 0) = true := by
  rw [roV, Bool.and_eq_true, Bool.and_eq_true] at h
  exact ⟨h.1, h.2.1, h.2.2⟩
theorem roT_yes {f : Nat → Nat → Int} {m : Nat} {x : Int} (h : roK f m x = true) : roT f m x = listC (roF f m x) x.toNat := by rw [roT, h]; rfl
theorem roT_no {f : Nat → Nat → Int} {m : Nat} {x : Int} (h : roK f m x = false) : roT f m x = [] := by rw [roT, h]; rfl
theorem roT_len (f : Nat → Nat → Int) (m : Nat) (x : Int) : (roT f m x).length ≤ 24 := by
  cases h : roK f m x with
  | true =>
    have := roV_in (roK_parts h).1
    rw [roT_yes h, listC_length]
    omega
  | false => rw [roT_no h]; exact Nat.zero_le _
theorem rs_le {x : Int} (h0 : x ≥ 1) (h : Int.tmod 24 x = 0) : x ≤ 24 := by
  by_cases hx : x ≤ 24
  · exact hx
  · exfalso
    rw [Int.tmod_eq_emod_of_nonneg (by omega), Int.emod_eq_of_lt (by omega) (by omega)] at h
    omega
theorem roI_run {m : Nat} {f : Nat → Nat → Int} {x : Int} {Q : Ex → List AV → List AB → Prop} (n : Nat) (hn : n ≤ 24) (hx : roV x = true → x = n) (hm : m ≤ 2 ^ 38)
    (yes : roK f m x = true → GoodQ (.out .ret [.tup [.own 1 n, .v (.bool true)]] (hpRO m f n (roF f m n))) Q) (no : roK f m x = false → GoodQ (.out .ret [.tup [.v (.slice none 0 0), .v (.bool false)]] (hpR1 m f)) Q) :
    GoodQ (execF Try.prog (gmRV okD) (lamRI m f n (noneTo (rwB f m n) n) (roF f m n)) 100 fRI [.sl 0 9 0 0 m none, .v (i64 x)] (hpR1 m f) (packK 1)) Q := by
  rw [treeRI]
  simp only [row0, listW_itW]
  refine good_cond (fun c1 => ?_) fun c1 => no (by rw [roK, roV, c1]; rfl)
  have c1' := of_decide_eq_true c1
  refine good_needs (by simp only [ob_cons, ob_nil, and_true, Bool.not_eq_true', decide_eq_false_iff_not]; omega) (good_cond (fun c2 => no ?_) fun c2 => ?_)
  · have c2 : (Int.tmod 24 x == 0) = false := by simpa using c2
    rw [roK, roV, c2, Bool.and_false, Bool.and_false]
    rfl
  · have c2 : (Int.tmod 24 x == 0) = true := by simpa using c2
    have hv : roV x = true := by rw [roV, c1, c2, decide_eq_true (rs_le c1' (beq_iff_eq.1 c2))]; rfl
    have e := hx hv
    subst e
    refine good_needs (by simp only [ob_cons, ob_nil, and_true, decide_eq_true_eq, Nat.ble_eq, allW_row, true_and]; omega) (good_cond (fun c3 => no ?_) fun c3 => good_needs ?_ (good_cond (fun c4 => yes ?_) fun c4 => no ?_))
    · have c3 : okD (listW f m) = false := by simpa using c3
      rw [roK, c3, hv]
      rfl
    · simp only [ob_cons, ob_nil, and_true, decide_eq_true_eq]
      exact ⟨by omega, by omega, chk_of ⟨rfl, .cons (ABeq.refl _) (.cons (ABeq.row fun j hj => absurd hj (Nat.not_lt_zero _)) .nil)⟩⟩
    · have c3 : okD (listW f m) = true := by simpa using c3
      rw [roK, c3, hv, Int.toNat_natCast, c4]
      rfl
    · have c3 : okD (listW f m) = true := by simpa using c3
      rw [roK, c3, hv, Int.toNat_natCast, c4]
      rfl
theorem ro_fin {m : Nat} {g : Nat → List Value} {x : Int} {n : Nat} (h1 : allW m g = true) (hk : roK (itW g) m x = true) (hx : x = n) : Hsim (hpRO m (itW g) n (roF (itW g) m n)) ([.row false m 9 g 58] ++ newG (roT (itW g) m x)) ∧ (roT (itW g) m x).length = n := by
  subst hx
  have e := roT_yes hk
  rw [Int.toNat_natCast] at e
  have hl : (roT (itW g) m n).length = n := by rw [e, listC_length]
  refine ⟨.cons (ABeq.row fun j hj => (allW_get h1 j hj).symm) ?_, hl⟩
  show Hsim _ [.row true (roT (itW g) m n).length 8 (row8 (cfun (roT (itW g) m n))) 35]
  rw [hl, e]
  exact .cons (ABeq.row fun j hj => (row8_list _ hj).symm) .nil
theorem ok_roY : SpecOk Try.prog 35 (specR md_wv FroY) := by
  refine specR_hr gmRV_ok Try.func35 rfl fun sas fr hF ho => ?_
  unfold FroY at hF
  split at hF
  · rename_i m g x
    cases hF
    simp only [ob_cons] at ho
    obtain ⟨h1, h2, h3, _⟩ := ho
    have hm := of_decide_eq_true h2
    have hv := roV_in (roK_parts h3).1
    obtain ⟨n, hn⟩ : ∃ n : Nat, x = n := ⟨x.toNat, by omega⟩
    refine ⟨hpR1 m (itW g), lamRI m (itW g) n (noneTo (rwB (itW g) m n) n) (roF (itW g) m n), 100, .cons (ABeq.row fun j hj => allW_get h1 j hj) .nil, lam1 (by kernel_rfl) (sumRI m (itW g) n hm (by omega)), ?_⟩
    refine roI_run n (by omega) (fun _ => hn) hm (fun hk => ?_) fun hk => by rw [h3] at hk; cases hk
    obtain ⟨e1, e2⟩ := ro_fin h1 hk hn
    exact good_out ⟨_, rfl, by rw [e2]; rfl, e1⟩
  · cases hF
theorem ok_roN : SpecOk Try.prog 35 (specR md_wv FroN) := by
  refine specR_hr gmRV_ok Try.func35 rfl fun sas fr hF ho => ?_
  unfold FroN at hF
  split at hF
  · rename_i m g x
    cases hF
    simp only [ob_cons] at ho
    obtain ⟨h1, h2, h3, _⟩ := ho
    have hm := of_decide_eq_true h2
    have h3 : roK (itW g) m x = false := by simpa using h3
    obtain ⟨n, hn, hn2⟩ : ∃ n : Nat, n ≤ 24 ∧ (roV x = true → x = n) := by
      cases hv : roV x with
      | true => have := roV_in hv; exact ⟨x.toNat, by omega, fun _ => by omega⟩
      | false => exact ⟨0, by omega, fun h => by cases h⟩
    refine ⟨hpR1 m (itW g), lamRI m (itW g) n (noneTo (rwB (itW g) m n) n) (roF (itW g) m n), 100, .cons (ABeq.row fun j hj => allW_get h1 j hj) .nil, lam1 (by kernel_rfl) (sumRI m (itW g) n hm hn), ?_⟩
    refine roI_run n hn hn2 hm (fun hk => by rw [h3] at hk; cases hk) fun _ => ?_
    exact good_out ⟨_, rfl, rfl, .cons (ABeq.row fun j hj => (allW_get h1 j hj).symm) .nil⟩
  · cases hF
theorem ok_Uro : SpecOk Try.prog 35 (specG md_wv (UroO roK roT)) := by
  refine specG_ok rfl ok_roY ok_roN fun sas u hu ho => ?_
  unfold UroO at hu
  split at hu
  · rename_i m g x
    cases hu
    simp only [ob_cons] at ho
    obtain ⟨h1, h2, _⟩ := ho
    refine ⟨rfl, ?_⟩
    cases hv : roK (itW g) m x with
    | true =>
      left
      refine ⟨rfl, [allW m g, decide (m ≤ 2 ^ 38), roK (itW g) m x], rfl, ?_⟩
      simp only [ob_cons, ob_nil, and_true]
      exact ⟨h1, h2, hv⟩
    | false =>
      right
      refine ⟨rfl, roT_no hv, [allW m g, decide (m ≤ 2 ^ 38), !roK (itW g) m x], rfl, ?_⟩
      simp only [ob_cons, ob_nil, and_true]
      exact ⟨h1, h2, by rw [hv]; rfl⟩
  · cases hu
theorem ok_roS : SpecOk Try.prog 36 (specR md_wv (FroS roK roT)) := by
  refine specR_hr gmRV_ok Try.func36 rfl fun sas fr hF ho => ?_
  unfold FroS at hF
  split at hF
  · rename_i m g x
    cases hF
    simp only [ob_cons] at ho
    obtain ⟨h1, h2, _⟩ := ho
    have hm := of_decide_eq_true h2
    obtain ⟨n, hn, hn2⟩ : ∃ n : Nat, n ≤ 24 ∧ (roV x = true → x = n) := by
      cases hv : roV x with
      | true => have := roV_in hv; exact ⟨x.toNat, by omega, fun _ => by omega⟩
      | false => exact ⟨0, by omega, fun h => by cases h⟩
    refine ⟨hpR1 m (itW g), lamRS m (itW g) n (noneTo (rwB (itW g) m n) n) (roF (itW g) m n), 100, .cons (ABeq.row fun j hj => allW_get h1 j hj) .nil, lam1 (by kernel_rfl) (sumRS m (itW g) n hm hn), ?_⟩
    show GoodQ (execF Try.prog (gmRV okD) (lamRS m (itW g) n (noneTo (rwB (itW g) m n) n) (roF (itW g) m n)) 100 fRS [.sl 0 9 0 0 m none, .v (i64 x)] (hpR1 m (itW g)) (packK 1)) _
    rw [treeRS]
    simp only [row0, listW_itW]
    have no : ∀ (o : Nat → List Value), roK (itW g) m x = false → GoodQ (.out .ret [.tup [.own 1 0, .v (.bool false)]] [.row false m 9 (row9 (itW g)) 58, .row true 0 8 o 35]) (GivR (abP md_wv [.row m g, .v (.int .i64 x)] []) { val := .tup [.own 0 (roT (itW g) m x).length, .v (.bool (roK (itW g) m x))], new := newG (roT (itW g) m x), obl := [allW m g, decide (m ≤ 2 ^ 38)] }) := by
      intro o h
      rw [roT_no h, h]
      exact good_out ⟨_, rfl, rfl, .cons (ABeq.row fun j hj => (allW_get h1 j hj).symm) (.cons (ABeq.row fun j hj => absurd hj (Nat.not_lt_zero _)) .nil)⟩
    refine good_cond (fun c1 => good_cond (fun c0 => ?_) fun c0 => no _ (by rw [roK, roV, c0, Bool.false_and, Bool.and_false]; rfl)) fun c1 => no _ (by rw [roK, roV, c1]; rfl)
    have c1' := of_decide_eq_true c1
    refine good_needs (by simp only [ob_cons, ob_nil, and_true, Bool.not_eq_true', decide_eq_false_iff_not]; omega) (good_cond (fun c2 => no _ ?_) fun c2 => ?_)
    · have c2 : (Int.tmod 24 x == 0) = false := by simpa using c2
      rw [roK, roV, c2, Bool.and_false, Bool.and_false]
      rfl
    · have c2 : (Int.tmod 24 x == 0) = true := by simpa using c2
      have hv : roV x = true := by rw [roV, c1, c2, c0]; rfl
      have e := hn2 hv
      subst e
      refine good_needs (by simp only [ob_cons, ob_nil, and_true, decide_eq_true_eq, Nat.ble_eq, allW_row, true_and]; omega) (good_cond (fun c3 => no _ ?_) fun c3 => good_needs ?_ (good_cond (fun c4 => ?_) fun c4 => no _ ?_))
      · have c3 : okD (listW (itW g) m) = false := by simpa using c3
        rw [roK, c3, hv]
        rfl
      · simp only [ob_cons, ob_nil, and_true]
        exact chk_of ⟨rfl, .cons (ABeq.refl _) (.cons (ABeq.row fun j hj => absurd hj (Nat.not_lt_zero _)) .nil)⟩
      · have c3 : okD (listW (itW g) m) = true := by simpa using c3
        have hk : roK (itW g) m n = true := by
          rw [roK, c3, hv, Int.toNat_natCast, c4]
          rfl
        obtain ⟨e1, e2⟩ := ro_fin h1 hk rfl
        exact good_out ⟨_, rfl, by rw [e2, hk]; rfl, e1⟩
      · have c3 : okD (listW (itW g) m) = true := by simpa using c3
        rw [roK, c3, hv, Int.toNat_natCast, c4]
        rfl
  · cases hF

end Go.Proofs.Ytakimbknciffnaa

/- The program's RowShift, of a valid row. Conditions: a valid row, a number. -/
namespace Go.Proofs.Ytakimbknciffnaa
open Go.RowKit
set_option maxRecDepth 100000

noncomputable abbrev fIC : Func := Try.f138
abbrev fnIy : AV := .v (.func (.func 127) ⟨[]⟩ ⟨[]⟩)
abbrev lvIy : Ex → List Nat := lv3 [0, 1, 7, 8] [] [4]
abbrev hpIy (m : Nat) (f : Nat → Nat → Int) : List AB := [.row false m 8 (row8 f) 35]
def gmIy (ok : (Nat → Int) → Bool) : Gam := ext g0 83 (specV (fOkc ok))
theorem rndIy (ok : (Nat → Int) → Bool) (m : Nat) (f : Nat → Nat → Int) (i : Nat) : execC Try.prog (gmIy ok) 100 noLam (loopAt 0 fIC) (mkT 0 19 ((lvIy .normal).zip [.sl 0 8 0 0 m none, fnIy, .v (i64 m), .v (i64 i)])) (hpIy m f) (leafV 19 lvIy 1)
    = bif decide ((↑i : Int) < (↑m : Int)) then needs [decide ((↑i : Int) < (↑m : Int)), decide ((0 : Nat) + Int.toNat (↑i : Int) < m)] (bif !ok (w8 (f ((0 : Nat) + Int.toNat (↑i : Int)))) then Res.out Ex.ret [AV.v (Value.int IntKind.i64 (↑i : Int))] [AB.row false m (8 : Nat) (row8 f) (35 : TypeId)] else Res.out Ex.normal [AV.sl (0 : Nat) (8 : Nat) (0 : Nat) (0 : Nat) m none, AV.v (Value.func (Fn.func (127 : FuncId)) (Array.mk []) (Array.mk [])), AV.v (Value.int IntKind.i64 (↑m : Int)), AV.v (Value.int IntKind.i64 (IntKind.wrap IntKind.i64 ((↑i : Int) + (1 : Int))))] [AB.row false m (8 : Nat) (row8 f) (35 : TypeId)]) else Res.out (Ex.exit (0 : Nat)) [] [AB.row false m (8 : Nat) (row8 f) (35 : TypeId)] := by kernel_rfl

noncomputable abbrev lamIy (m : Nat) (f : Nat → Nat → Int) : Nat → Option Sum := oneL 0 (atS 19 (lvIy .normal) 1 [.sl 0 8 0 0 m none, fnIy, .v (i64 m), .v (i64 (0 : Nat))] (hpIy m f) (fun K => K .normal (mkT 0 19 []) (hpIy m f)))
theorem treeIy (m : Nat) (f : Nat → Nat → Int) : execF Try.prog g0 (lamIy m f) 100 fIC [.sl 0 8 0 0 m none, fnIy] (hpIy m f) (packK 1)
    = needs [chk ([AV.sl (0 : Nat) (8 : Nat) (0 : Nat) (0 : Nat) m none, AV.v (Value.func (Fn.func (127 : FuncId)) (Array.mk []) (Array.mk [])), AV.v (Value.int IntKind.i64 (↑m : Int)), AV.v (Value.int IntKind.i64 (0 : Int))] = [AV.sl (0 : Nat) (8 : Nat) (0 : Nat) (0 : Nat) m none, fnIy, AV.v (Value.int IntKind.i64 (↑m : Int)), AV.v (Value.int IntKind.i64 (0 : Int))] ∧ Hsim [AB.row false m (8 : Nat) (row8 f) (35 : TypeId)] (hpIy m f))] (Res.out Ex.ret [AV.v (Value.int IntKind.i64 (-1 : Int))] [AB.row false m (8 : Nat) (row8 f) (35 : TypeId)]) := by kernel_rfl

/-- Where all points are valid, none is found. -/
def FidY (ok : (Nat → Int) → Bool) : List SA → Option FR
  | [.row m g, .v (.func (.func f) ⟨[]⟩ ⟨[]⟩)] => some { val := .v (i64 (-1)), obl := [Nat.beq f 127, all8 m g, decide (m ≤ 2 ^ 38), (List.range m).all fun j => ok (it8 g j)] }
  | _ => none
def md_ic : List Md := [.rd 8 35, .val]
noncomputable abbrev fRh : Func := Try.f39
abbrev lvRh : Ex → List Nat := lv3 [0, 1, 6, 20, 21] [6] [4, 5]
abbrev stRh (m : Nat) (x : Int) (i : Nat) : List AV := [.sl 0 8 0 0 m none, .v (i64 x), .own 1 i, .v (i64 m), .v (i64 i)]
abbrev hpRh (m : Nat) (f : Nat → Nat → Int) (i : Nat) (h : Nat → Nat → Int) : List AB := [.row false m 8 (row8 f) 35, .row true i 8 (row8 h) 35]
theorem rndRh (m : Nat) (f : Nat → Nat → Int) (x : Int) (h : Nat → Nat → Int) (i : Nat) : execC Try.prog g0 100 noLam (loopAt 0 fRh) (mkT 0 38 ((lvRh .normal).zip (stRh m x i))) (hpRh m f i h) (leafV 38 lvRh 1)
    = bif decide ((↑i : Int) < (↑m : Int)) then needs [!decide ((↑m : Int) = (0 : Int)), decide ((0 : Int) ≤ Int.tmod (IntKind.wrap IntKind.i64 ((↑i : Int) + x)) (↑m : Int)), decide (Int.tmod (IntKind.wrap IntKind.i64 ((↑i : Int) + x)) (↑m : Int) < (↑m : Int)), decide ((0 : Nat) + Int.toNat (Int.tmod (IntKind.wrap IntKind.i64 ((↑i : Int) + x)) (↑m : Int)) < m), Nat.ble i i, Nat.ble (i + (1 : Nat)) (549755813888 : Nat)] (Res.out Ex.normal [AV.sl (0 : Nat) (8 : Nat) (0 : Nat) (0 : Nat) m none, AV.v (Value.int IntKind.i64 x), AV.own (1 : Nat) (i + (1 : Nat)), AV.v (Value.int IntKind.i64 (↑m : Int)), AV.v (Value.int IntKind.i64 (IntKind.wrap IntKind.i64 ((↑i : Int) + (1 : Int))))] [AB.row false m (8 : Nat) (row8 f) (35 : TypeId), AB.row true (i + (1 : Nat)) (8 : Nat) (fun q ↦ [Value.int IntKind.i64 (bif Nat.blt q i then h q (0 : Nat) else f ((0 : Nat) + Int.toNat (Int.tmod (IntKind.wrap IntKind.i64 ((↑i : Int) + x)) (↑m : Int))) (0 : Nat)), Value.int IntKind.i64 (bif Nat.blt q i then h q (1 : Nat) else f ((0 : Nat) + Int.toNat (Int.tmod (IntKind.wrap IntKind.i64 ((↑i : Int) + x)) (↑m : Int))) (1 : Nat)), Value.int IntKind.i64 (bif Nat.blt q i then h q (2 : Nat) else f ((0 : Nat) + Int.toNat (Int.tmod (IntKind.wrap IntKind.i64 ((↑i : Int) + x)) (↑m : Int))) (2 : Nat)), Value.int IntKind.i64 (bif Nat.blt q i then h q (3 : Nat) else f ((0 : Nat) + Int.toNat (Int.tmod (IntKind.wrap IntKind.i64 ((↑i : Int) + x)) (↑m : Int))) (3 : Nat)), Value.int IntKind.i64 (bif Nat.blt q i then h q (4 : Nat) else f ((0 : Nat) + Int.toNat (Int.tmod (IntKind.wrap IntKind.i64 ((↑i : Int) + x)) (↑m : Int))) (4 : Nat)), Value.int IntKind.i64 (bif Nat.blt q i then h q (5 : Nat) else f ((0 : Nat) + Int.toNat (Int.tmod (IntKind.wrap IntKind.i64 ((↑i : Int) + x)) (↑m : Int))) (5 : Nat)), Value.int IntKind.i64 (bif Nat.blt q i then h q (6 : Nat) else f ((0 : Nat) + Int.toNat (Int.tmod (IntKind.wrap IntKind.i64 ((↑i : Int) + x)) (↑m : Int))) (6 : Nat)), Value.int IntKind.i64 (bif Nat.blt q i then h q (7 : Nat) else f ((0 : Nat) + Int.toNat (Int.tmod (IntKind.wrap IntKind.i64 ((↑i : Int) + x)) (↑m : Int))) (7 : Nat))]) (35 : Nat)]) else Res.out (Ex.exit (0 : Nat)) [AV.own (1 : Nat) i] [AB.row false m (8 : Nat) (row8 f) (35 : TypeId), AB.row true i (8 : Nat) (row8 h) (35 : TypeId)] := by kernel_rfl

noncomputable abbrev lamRh (m : Nat) (f : Nat → Nat → Int) (x : Int) (h : Nat → Nat → Int) : Nat → Option Sum := oneL 0 (atS 38 (lvRh .normal) 1 (stRh m x 0) (hpRh m f 0 fun _ _ => 0) (fun K => K .normal (mkT 0 38 [(6, .own 1 m)]) (hpRh m f m h)))
def gmRh (ok : (Nat → Int) → Bool) : Gam := ext gm_within 138 (specR md_ic (FidY ok))
theorem treeRh (ok : (Nat → Int) → Bool) (m : Nat) (f : Nat → Nat → Int) (x : Int) (h : Nat → Nat → Int) : execF Try.prog (gmRh ok) (lamRh m f x h) 100 fRh [.sl 0 8 0 0 m none, .v (i64 x)] (hpIy m f) (packK 1)
    = bif decide ((↑m : Int) ≥ (1 : Int)) then needs [!decide ((↑m : Int) = (0 : Int))] (bif Int.tmod (24 : Int) (↑m : Int) == (0 : Int) then needs [Nat.ble ((0 : Nat) + m) m, all8 m fun q ↦ row8 f ((0 : Nat) + q), decide (m ≤ (274877906944 : Nat)), List.all (List.range m) fun j ↦ ok (it8 (fun q ↦ row8 f ((0 : Nat) + q)) j)] (bif !inR x (0 : Int) (23 : Int) then Res.out Ex.ret [AV.tup [AV.v (Value.slice none (0 : Nat) (0 : Nat)), AV.v (Value.bool false)]] [AB.row false m (8 : Nat) (row8 f) (35 : TypeId)] else needs [decide ((↑m : Int) ≤ (1099511627776 : Int)), chk ([AV.sl (0 : Nat) (8 : Nat) (0 : Nat) (0 : Nat) m none, AV.v (Value.int IntKind.i64 x), AV.own (1 : Nat) (0 : Nat), AV.v (Value.int IntKind.i64 (↑m : Int)), AV.v (Value.int IntKind.i64 (0 : Int))] = stRh m x (0 : Nat) ∧ Hsim [AB.row false m (8 : Nat) (row8 f) (35 : TypeId), AB.row true (0 : Nat) (8 : Nat) (fun _ ↦ [Value.int IntKind.i64 (0 : Int), Value.int IntKind.i64 (0 : Int), Value.int IntKind.i64 (0 : Int), Value.int IntKind.i64 (0 : Int), Value.int IntKind.i64 (0 : Int), Value.int IntKind.i64 (0 : Int), Value.int IntKind.i64 (0 : Int), Value.int IntKind.i64 (0 : Int)]) (35 : Nat)] (hpRh m f (0 : Nat) fun x x_1 ↦ (0 : Int)))] (Res.out Ex.ret [AV.tup [AV.own (1 : Nat) m, AV.v (Value.bool true)]] [AB.row false m (8 : Nat) (row8 f) (35 : TypeId), AB.row true m (8 : Nat) (row8 h) (35 : TypeId)])) else Res.out Ex.ret [AV.tup [AV.v (Value.slice none (0 : Nat) (0 : Nat)), AV.v (Value.bool false)]] [AB.row false m (8 : Nat) (row8 f) (35 : TypeId)]) else Res.out Ex.ret [AV.tup [AV.v (Value.slice none (0 : Nat) (0 : Nat)), AV.v (Value.bool false)]] [AB.row false m (8 : Nat) (row8 f) (35 : TypeId)] := by kernel_rfl

end Go.Proofs.Ytakimbknciffnaa

/- The program's RowShift, of a valid row: its word. Conditions: a valid row, a number. -/
namespace Go.Proofs.Ytakimbknciffnaa
open Go.RowKit
set_option maxRecDepth 100000

def cvB (f : Nat → Nat → Int) (m : Nat) : Bool := (List.range m).all fun j => cyOk (cyOf (f j))
theorem cvB_at {f : Nat → Nat → Int} {m i : Nat} (h : cvB f m = true) (hi : i < m) : cyOk (cyOf (f i)) = true := List.all_eq_true.1 h i (by simpa using hi)
theorem gmIy_ok : GamOk Try.prog (gmIy (fun v => cyOk (cyOf v))) := by
  unfold gmIy
  rw [fOkc_eq]
  exact ext_ok g0_ok ok_cvI
theorem sumIy (m : Nat) (f : Nat → Nat → Int) (hm : m ≤ 2 ^ 40) (hv : cvB f m = true) :
    SumOk Try.prog 1 (.block 0 (.loop (loopAt 0 fIC))) (atS 19 (lvIy .normal) 1 [.sl 0 8 0 0 m none, fnIy, .v (i64 m), .v (i64 (0 : Nat))] (hpIy m f) (fun K => K .normal (mkT 0 19 []) (hpIy m f))) := by
  refine for_at gmIy_ok (n := 100) (m := 1) (lv := lvIy) (fun i => [.sl 0 8 0 0 m none, fnIy, .v (i64 m), .v (i64 (i : Nat))]) (fun _ => hpIy m f) (fun _ => True) m (fun _ => noLam) (lv3_ris rfl rfl rfl) (Nat.le_refl _) trivial fun K Q hk i _ hi => ⟨noLam_ok _ _ _, ?_⟩
  rw [rndIy]
  refine good_cond (fun c1 => ?_) fun c1 => ?_
  · have c1 := of_decide_eq_true c1
    have c1' : i < m := by omega
    rw [show 0 + Int.toNat (i : Int) = i by omega, wr_in (x := (i : Int) + 1) (by omega)]
    refine good_needs (by simp only [ob_cons, ob_nil, and_true, decide_eq_true_eq]; omega) (good_false ?_ (good_out ⟨i + 1, ⟨rfl, c1', trivial⟩, rfl, Hsim.refl _⟩))
    have := cvB_at hv c1'
    show (!cyOk (cyOf (f i))) = false
    rw [this]
    rfl
  · have c1 := of_decide_eq_false c1
    have : i = m := by omega
    subst this
    refine good_out ⟨_, Hsim.refl _, ?_⟩
    rw [if_pos rfl]
    exact hk
theorem ok_idY : SpecOk Try.prog 138 (specR md_ic (FidY fun v => cyOk (cyOf v))) := by
  refine specR_hr g0_ok Try.func138 rfl fun sas fr hF ho => ?_
  unfold FidY at hF
  split at hF
  · rename_i m g fi
    cases hF
    simp only [ob_cons] at ho
    obtain ⟨h0, h1, h2, h3, _⟩ := ho
    have h0 := Nat.eq_of_beq_eq_true h0
    subst h0
    have hm := of_decide_eq_true h2
    refine ⟨hpIy m (it8 g), lamIy m (it8 g), 100, .cons (ABeq.row fun j hj => all8_get h1 j hj) .nil, lam1 (by kernel_rfl) (sumIy m (it8 g) (by omega) h3), ?_⟩
    show GoodQ (execF Try.prog g0 (lamIy m (it8 g)) 100 fIC [.sl 0 8 0 0 m none, fnIy] (hpIy m (it8 g)) (packK 1)) _
    rw [treeIy]
    exact good_needs (by rw [ob_cons]; exact ⟨chk_of ⟨rfl, Hsim.refl _⟩, rfl⟩) (good_out ⟨_, rfl, rfl, .cons (ABeq.row fun j hj => (all8_get h1 j hj).symm) .nil⟩)
  · cases hF
/-- The row that begins further on. -/
def rhF (f : Nat → Nat → Int) (m : Nat) (x : Int) : Nat → Nat → Int := fun j => f (Int.tmod ((j : Int) + x) m).toNat
theorem sumRh (m : Nat) (f : Nat → Nat → Int) (x : Int) (hm : m ≤ 24) (hx : 0 ≤ x ∧ x ≤ 23) :
    SumOk Try.prog 1 (.block 0 (.loop (loopAt 0 fRh))) (atS 38 (lvRh .normal) 1 (stRh m x 0) (hpRh m f 0 fun _ _ => 0) (fun K => K .normal (mkT 0 38 [(6, .own 1 m)]) (hpRh m f m (rhF f m x)))) := by
  refine for_at g0_ok (n := 100) (m := 1) (lv := lvRh) (fun i => stRh m x i) (fun i => hpRh m f i (bif Nat.beq i 0 then (fun _ _ => 0) else rhF f m x)) (fun _ => True) m (fun _ => noLam) (lv3_ris rfl rfl rfl) (Nat.le_refl _) trivial fun K Q hk i _ hi => ⟨noLam_ok _ _ _, ?_⟩
  have ho : ∀ j, j < i → (bif Nat.beq i 0 then (fun _ _ => (0 : Int)) else rhF f m x) j = rhF f m x j := by
    intro j hj
    cases i with
    | zero => exact absurd hj (Nat.not_lt_zero _)
    | succ i => rfl
  rw [rndRh]
  refine good_cond (fun c1 => ?_) fun c1 => ?_
  · have c1 := of_decide_eq_true c1
    have c1' : i < m := by omega
    have b1 := tmod_in (x := (i : Int) + x) (l := m) (by omega) (by omega)
    rw [wr_in (x := (i : Int) + x) (by omega), wr_in (x := (i : Int) + 1) (by omega), Nat.zero_add]
    refine good_needs (by simp only [ob_cons, ob_nil, and_true, Bool.not_eq_true', decide_eq_false_iff_not, decide_eq_true_eq, Nat.ble_eq]; omega) (good_out ⟨i + 1, ⟨rfl, c1', trivial⟩, rfl, .cons (ABeq.refl _) (.cons (ABeq.row fun j hj => ?_) .nil)⟩)
    by_cases h : j < i
    · rw [blt_yes h]
      simp only [cond_true, ho j h]
      rfl
    · have : j = i := by omega
      subst this
      rw [blt_no]
      rfl
  · have c1 := of_decide_eq_false c1
    have : i = m := by omega
    subst this
    refine good_out ⟨hpRh i f i (rhF f i x), .cons (ABeq.refl _) (.cons (ABeq.row fun j hj => row8_congr fun k _ => by rw [ho j hj]) .nil), ?_⟩
    rw [if_pos rfl]
    exact hk
/-- A valid row, shifted. -/
def FrhY (rv : (Nat → Nat → Int) → Nat → Bool) (rh : (Nat → Nat → Int) → Nat → Int → Nat → Nat → Int) : List SA → Option FR
  | [.row m g, .v (.int .i64 x)] => some { val := .tup [.own 0 m, .v (.bool true)], new := [.row true m 8 (row8 (rh (it8 g) m x)) 35], obl := [all8 m g, rv (it8 g) m, inR x 0 23] }
  | _ => none
def rvB (f : Nat → Nat → Int) (m : Nat) : Bool := roV m && cvB f m
def md_cv : List Md := [.rd 8 35, .val]
theorem gmRh_ok : GamOk Try.prog (gmRh (fun v => cyOk (cyOf v))) := ext_ok gm_within_ok ok_idY
theorem ok_rhY : SpecOk Try.prog 39 (specR md_cv (FrhY rvB rhF)) := by
  refine specR_hr gmRh_ok Try.func39 rfl fun sas fr hF ho => ?_
  unfold FrhY at hF
  split at hF
  · rename_i m g x
    cases hF
    simp only [ob_cons] at ho
    obtain ⟨h1, h2, h3, _⟩ := ho
    rw [rvB, Bool.and_eq_true] at h2
    have hv := roV_in h2.1
    have hx := inR_iff.1 h3
    refine ⟨hpIy m (it8 g), lamRh m (it8 g) x (rhF (it8 g) m x), 100, .cons (ABeq.row fun j hj => all8_get h1 j hj) .nil, lam1 (by kernel_rfl) (sumRh m (it8 g) x (by omega) hx), ?_⟩
    show GoodQ (execF Try.prog (gmRh fun v => cyOk (cyOf v)) (lamRh m (it8 g) x (rhF (it8 g) m x)) 100 fRh [.sl 0 8 0 0 m none, .v (i64 x)] (hpIy m (it8 g)) (packK 1)) _
    rw [treeRh]
    simp only [row80]
    have p := roV_parts h2.1
    refine good_true p.1 (good_needs (by simp only [ob_cons, ob_nil, and_true, Bool.not_eq_true', decide_eq_false_iff_not]; omega) (good_true p.2.2 (good_needs ?_ (good_false (by rw [h3]; rfl) (good_needs ?_ (good_out ⟨_, rfl, rfl, .cons (ABeq.row fun j hj => (all8_get h1 j hj).symm) (Hsim.refl _)⟩))))))
    · simp only [ob_cons, ob_nil, and_true, decide_eq_true_eq, Nat.ble_eq, all8_row, true_and]
      exact ⟨by omega, by omega, h2.2⟩
    · simp only [ob_cons, ob_nil, and_true, decide_eq_true_eq]
      exact ⟨by omega, chk_of ⟨rfl, .cons (ABeq.refl _) (.cons (ABeq.row fun j hj => absurd hj (Nat.not_lt_zero _)) .nil)⟩⟩
  · cases hF

end Go.Proofs.Ytakimbknciffnaa

/- laws.sameCycs. Conditions: two lists of points. -/
namespace Go.Proofs.Ytakimbknciffnaa
open Go.RowKit
set_option maxRecDepth 100000

def md_eqCS : List Md := [.rd 8 35, .rd 8 35]
def FeqP (eq : List Cy → List Cy → Bool) : List SA → Option FR
  | [.row m g, .row n g2] => some { val := .v (.bool (eq (listC (it8 g) m) (listC (it8 g2) n))), obl := [all8 m g, all8 n g2, decide (m ≤ 2 ^ 38)] }
  | _ => none
def eqC (A B : List Cy) : Bool := decide (A = B)
theorem eqC_me (A : List Cy) : eqC A A = true := decide_eq_true rfl
def badP (f h : Nat → Nat → Int) (i : Nat) : Bool := !decide (cyOf (f i) = cyOf (h i))
theorem eqC_list (f h : Nat → Nat → Int) (m : Nat) : eqC (listC f m) (listC h m) = noneTo (badP f h) m := by
  rw [Bool.eq_iff_iff, noneTo_iff, eqC, decide_eq_true_eq]
  refine ⟨fun e i hi => ?_, fun e => ?_⟩
  · have h1 := listC_get f hi
    rw [e, listC_get h hi, Option.some.injEq] at h1
    simp [badP, h1]
  · exact List.map_congr_left fun i hi => by
      have := e i (by simpa using hi)
      simpa [badP] using this
theorem eqC_len {A B : List Cy} (h : A.length ≠ B.length) : eqC A B = false := decide_eq_false fun e => h (by rw [e])
abbrev lvSc : Ex → List Nat := lv3 [0, 1, 5] [] [4]
abbrev hpSc (m : Nat) (f h : Nat → Nat → Int) : List AB := [.row false m 8 (row8 f) 35, .row false m 8 (row8 h) 35]
theorem rndSc (m : Nat) (f h : Nat → Nat → Int) (i : Nat) : execC Try.prog g0 100 noLam (loopAt 0 Try.f37) (mkT 0 26 ((lvSc .normal).zip [.sl 0 8 0 0 m none, .sl 1 8 0 0 m none, .v (i64 i)])) (hpSc m f h) (leafV 26 lvSc 2)
    = bif decide ((↑i : Int) < (↑m : Int)) then needs [decide ((↑i : Int) < (↑m : Int)), decide ((0 : Nat) + Int.toNat (↑i : Int) < m), decide ((↑i : Int) < (↑m : Int)), decide ((0 : Nat) + Int.toNat (↑i : Int) < m)] (bif !(f ((0 : Nat) + Int.toNat (↑i : Int)) (0 : Nat) == h ((0 : Nat) + Int.toNat (↑i : Int)) (0 : Nat) && (f ((0 : Nat) + Int.toNat (↑i : Int)) (1 : Nat) == h ((0 : Nat) + Int.toNat (↑i : Int)) (1 : Nat) && (f ((0 : Nat) + Int.toNat (↑i : Int)) (2 : Nat) == h ((0 : Nat) + Int.toNat (↑i : Int)) (2 : Nat) && (f ((0 : Nat) + Int.toNat (↑i : Int)) (3 : Nat) == h ((0 : Nat) + Int.toNat (↑i : Int)) (3 : Nat) && (f ((0 : Nat) + Int.toNat (↑i : Int)) (4 : Nat) == h ((0 : Nat) + Int.toNat (↑i : Int)) (4 : Nat) && (f ((0 : Nat) + Int.toNat (↑i : Int)) (5 : Nat) == h ((0 : Nat) + Int.toNat (↑i : Int)) (5 : Nat) && (f ((0 : Nat) + Int.toNat (↑i : Int)) (6 : Nat) == h ((0 : Nat) + Int.toNat (↑i : Int)) (6 : Nat) && (f ((0 : Nat) + Int.toNat (↑i : Int)) (7 : Nat) == h ((0 : Nat) + Int.toNat (↑i : Int)) (7 : Nat) && true))))))) && true) then Res.out Ex.ret [AV.v (Value.bool false)] [AB.row false m (8 : Nat) (row8 f) (35 : TypeId), AB.row false m (8 : Nat) (row8 h) (35 : TypeId)] else Res.out Ex.normal [AV.sl (0 : Nat) (8 : Nat) (0 : Nat) (0 : Nat) m none, AV.sl (1 : Nat) (8 : Nat) (0 : Nat) (0 : Nat) m none, AV.v (Value.int IntKind.i64 (IntKind.wrap IntKind.i64 ((↑i : Int) + (1 : Int))))] [AB.row false m (8 : Nat) (row8 f) (35 : TypeId), AB.row false m (8 : Nat) (row8 h) (35 : TypeId)]) else Res.out (Ex.exit (0 : Nat)) [] [AB.row false m (8 : Nat) (row8 f) (35 : TypeId), AB.row false m (8 : Nat) (row8 h) (35 : TypeId)] := by kernel_rfl

noncomputable abbrev lamSc (m : Nat) (f h : Nat → Nat → Int) (c : Bool) : Nat → Option Sum := oneL 0 (atS 26 (lvSc .normal) 2 [.sl 0 8 0 0 m none, .sl 1 8 0 0 m none, .v (i64 (0 : Nat))] (hpSc m f h) (fun K => cond c (K .normal (mkT 0 26 []) (hpSc m f h)) (K .ret (mkT 0 26 [(4, .v (.bool false))]) (hpSc m f h))))
theorem treeSc (m n : Nat) (f h : Nat → Nat → Int) (c : Bool) : execF Try.prog g0 (lamSc m f h c) 100 Try.f37 [.sl 0 8 0 0 m none, .sl 1 8 0 0 n none] [.row false m 8 (row8 f) 35, .row false n 8 (row8 h) 35] (packK 2)
    = bif (↑m : Int) != (↑n : Int) then Res.out Ex.ret [AV.v (Value.bool false)] [AB.row false m (8 : Nat) (row8 f) (35 : TypeId), AB.row false n (8 : Nat) (row8 h) (35 : TypeId)] else needs [chk ([AV.sl (0 : Nat) (8 : Nat) (0 : Nat) (0 : Nat) m none, AV.sl (1 : Nat) (8 : Nat) (0 : Nat) (0 : Nat) n none, AV.v (Value.int IntKind.i64 (0 : Int))] = [AV.sl (0 : Nat) (8 : Nat) (0 : Nat) (0 : Nat) m none, AV.sl (1 : Nat) (8 : Nat) (0 : Nat) (0 : Nat) m none, AV.v (Value.int IntKind.i64 (0 : Int))] ∧ Hsim [AB.row false m (8 : Nat) (row8 f) (35 : TypeId), AB.row false n (8 : Nat) (row8 h) (35 : TypeId)] (hpSc m f h))] (bif c then Res.out Ex.ret [AV.v (Value.bool true)] [AB.row false m (8 : Nat) (row8 f) (35 : TypeId), AB.row false m (8 : Nat) (row8 h) (35 : TypeId)] else Res.out Ex.ret [AV.v (Value.bool false)] [AB.row false m (8 : Nat) (row8 f) (35 : TypeId), AB.row false m (8 : Nat) (row8 h) (35 : TypeId)]) := by kernel_rfl

theorem sumSc (m : Nat) (f h : Nat → Nat → Int) (hm : m ≤ 2 ^ 40) :
    SumOk Try.prog 2 (.block 0 (.loop (loopAt 0 Try.f37))) (atS 26 (lvSc .normal) 2 [.sl 0 8 0 0 m none, .sl 1 8 0 0 m none, .v (i64 (0 : Nat))] (hpSc m f h) (fun K => cond (noneTo (badP f h) m) (K .normal (mkT 0 26 []) (hpSc m f h)) (K .ret (mkT 0 26 [(4, .v (.bool false))]) (hpSc m f h)))) := by
  refine for_at g0_ok (n := 100) (m := 2) (lv := lvSc) (fun i => [.sl 0 8 0 0 m none, .sl 1 8 0 0 m none, .v (i64 (i : Nat))]) (fun _ => hpSc m f h) (fun i => noneTo (badP f h) i = true) m (fun _ => noLam) (lv3_ris rfl rfl rfl) (Nat.le_refl _) rfl fun K Q hk i hi him => ⟨noLam_ok _ _ _, ?_⟩
  rw [rndSc]
  refine good_cond (fun c1 => ?_) fun c1 => ?_
  · have c1 := of_decide_eq_true c1
    have c1' : i < m := by omega
    rw [Int.toNat_natCast, Nat.zero_add, wr_in (x := (i : Int) + 1) (by omega)]
    refine good_needs (by simp only [ob_cons, ob_nil, and_true, decide_eq_true_eq]; omega) (good_cond (fun q => ?_) fun q => ?_)
    · have hb : badP f h i = true := by
        unfold badP
        rw [Bool.not_eq_true', decide_eq_false_iff_not]
        intro e
        simp only [cyOf, Cy.mk.injEq] at e
        obtain ⟨e0, e1, e2, e3, e4, e5, e6, e7⟩ := e
        simp [e0, e1, e2, e3, e4, e5, e6, e7] at q
      refine good_out ⟨_, Hsim.refl _, ?_⟩
      rw [noneTo_no c1' hb] at hk
      exact hk
    · have hb : badP f h i = false := by
        unfold badP
        rw [Bool.not_eq_false', decide_eq_true_eq]
        simp at q
        simp [cyOf, q]
      exact good_out ⟨i + 1, ⟨rfl, c1', noneTo_succ hi hb⟩, rfl, Hsim.refl _⟩
  · have c1 := of_decide_eq_false c1
    have : i = m := by omega
    subst this
    refine good_out ⟨_, Hsim.refl _, ?_⟩
    rw [if_pos rfl]
    rw [hi] at hk
    exact hk
theorem ok_sameC : SpecOk Try.prog 37 (specR md_eqCS (FeqP eqC)) := by
  refine specR_hr g0_ok Try.func37 rfl fun sas fr hF ho => ?_
  unfold FeqP at hF
  split at hF
  · rename_i m g n g2
    cases hF
    simp only [ob_cons] at ho
    obtain ⟨h1, h2, h3, _⟩ := ho
    have hm := of_decide_eq_true h3
    refine ⟨[.row false m 8 (row8 (it8 g)) 35, .row false n 8 (row8 (it8 g2)) 35], lamSc m (it8 g) (it8 g2) (noneTo (badP (it8 g) (it8 g2)) m), 100, .cons (ABeq.row fun j hj => all8_get h1 j hj) (.cons (ABeq.row fun j hj => all8_get h2 j hj) .nil), lam1 (by kernel_rfl) (sumSc m (it8 g) (it8 g2) (by omega)), ?_⟩
    show GoodQ (execF Try.prog g0 (lamSc m (it8 g) (it8 g2) (noneTo (badP (it8 g) (it8 g2)) m)) 100 Try.f37 [.sl 0 8 0 0 m none, .sl 1 8 0 0 n none] [.row false m 8 (row8 (it8 g)) 35, .row false n 8 (row8 (it8 g2)) 35] (packK 2)) _
    rw [treeSc]
    refine good_cond (fun q => ?_) fun q => ?_
    · have hne : m ≠ n := fun e => by
        subst e
        simp at q
      exact good_out ⟨_, rfl, by rw [eqC_len (by rw [listC_length, listC_length]; exact hne)], .cons (ABeq.row fun j hj => (all8_get h1 j hj).symm) (.cons (ABeq.row fun j hj => (all8_get h2 j hj).symm) .nil)⟩
    · have e : m = n := by
        have q2 : (m : Int) = n := by simpa using q
        omega
      subst e
      refine good_needs (by rw [ob_cons]; exact ⟨chk_of ⟨rfl, Hsim.refl _⟩, rfl⟩) (good_cond (fun q => ?_) fun q => ?_)
      · exact good_out ⟨_, rfl, by rw [eqC_list, q], .cons (ABeq.row fun j hj => (all8_get h1 j hj).symm) (.cons (ABeq.row fun j hj => (all8_get h2 j hj).symm) .nil)⟩
      · exact good_out ⟨_, rfl, by rw [eqC_list, q], .cons (ABeq.row fun j hj => (all8_get h1 j hj).symm) (.cons (ABeq.row fun j hj => (all8_get h2 j hj).symm) .nil)⟩
  · cases hF

end Go.Proofs.Ytakimbknciffnaa

/- The abstract machine, 29: words for more than one loop. No conditions. -/
namespace Go.Proofs.Ytakimbknciffnaa
open Go.RowKit

def addL (id : Nat) (S : Sum) (Λ : Nat → Option Sum) : Nat → Option Sum := fun j => bif Nat.beq j id then some S else Λ j
theorem lamAdd {P : Program} {m0 id : Nat} {fn : Func} {S : Sum} {c : Code} {Λ : Nat → Option Sum} (h : codeAt id (fn.body.getD .skip) = [.block id (.loop c)]) (hS : SumOk P m0 (.block id (.loop c)) S) (hΛ : ∀ cc, fn.body = some cc → LamOk P m0 Λ cc) : ∀ cc, fn.body = some cc → LamOk P m0 (addL id S Λ) cc := by
  intro cc hcc j S' hj b hb
  unfold addL at hj
  cases hjb : Nat.beq j id with
  | false =>
    rw [hjb] at hj
    exact hΛ cc hcc j S' hj b hb
  | true =>
    rw [hjb] at hj
    cases hj
    rw [Nat.eq_of_beq_eq_true hjb] at hb
    rw [hcc] at h
    simp only [Option.getD_some] at h
    rw [h] at hb
    simp at hb
    subst hb
    exact hS
theorem lamAddC {P : Program} {m0 id : Nat} {S : Sum} {c cc : Code} {Λ : Nat → Option Sum} (h : codeAt id cc = [.block id (.loop c)]) (hS : SumOk P m0 (.block id (.loop c)) S) (hΛ : LamOk P m0 Λ cc) : LamOk P m0 (addL id S Λ) cc := by
  intro j S' hj b hb
  unfold addL at hj
  cases hjb : Nat.beq j id with
  | false =>
    rw [hjb] at hj
    exact hΛ j S' hj b hb
  | true =>
    rw [hjb] at hj
    cases hj
    rw [Nat.eq_of_beq_eq_true hjb] at hb
    rw [h] at hb
    simp at hb
    subst hb
    exact hS

end Go.Proofs.Ytakimbknciffnaa

/- FnRowOf: its trees. Conditions: bytes. -/
namespace Go.Proofs.Ytakimbknciffnaa
open Go.RowKit
set_option maxRecDepth 100000

noncomputable abbrev fRo : Func := Try.f8
abbrev lvRo : Ex → List Nat := lv3 [3, 4, 5, 9] [3, 4, 5] [2]
abbrev stRo (n : Nat) (x : Int) (k i : Nat) : List AV := [.own 1 n, .v (i64 x), .sl 2 8 0 0 k none, .v (i64 i)]
abbrev hpLo (m : Nat) (b : Nat → Int) (n : Nat) (f : Nat → Nat → Int) (k : Nat) (h : Nat → Nat → Int) : List AB := [.row false m 1 (rowB b) 5, .row true n 9 (row9 f) 58, .row false k 8 (row8 h) 35]
def gmRo (dv : (Nat → Nat → Int) → Int → Nat → Nat → Int) (dk : (Nat → Nat → Int) → Int → Nat → Bool) : Gam := ext g0 23 (specR md_wv (FDAo dv dk))
theorem rndRo (dv : (Nat → Nat → Int) → Int → Nat → Nat → Int) (dk : (Nat → Nat → Int) → Int → Nat → Bool) (m : Nat) (b : Nat → Int) (n : Nat) (f : Nat → Nat → Int) (k : Nat) (h : Nat → Nat → Int) (x : Int) (i : Nat) : execC Try.prog (gmRo dv dk) 100 noLam (loopAt 0 fRo) (mkT 0 123 ((lvRo .normal).zip (stRo n x k i))) (hpLo m b n f k h) (leafV 123 lvRo 1)
    = bif decide ((↑i : Int) < x) then needs [!decide (x = (0 : Int)), Nat.ble n n, allW n (row9 f), decide (n ≤ (274877906944 : Nat))] (bif !dk (itW (row9 f)) (IntKind.wrap IntKind.i64 ((↑i : Int) * IntKind.wrap IntKind.i64 (Int.tdiv (24 : Int) x))) n then Res.out Ex.ret [AV.v (Value.bool false)] [AB.row false m (1 : Nat) (rowB b) (5 : TypeId)] else needs [decide ((↑i : Int) < (↑k : Int)), decide ((0 : Nat) + Int.toNat (↑i : Int) < k)] (bif !(dv (itW (row9 f)) (IntKind.wrap IntKind.i64 ((↑i : Int) * IntKind.wrap IntKind.i64 (Int.tdiv (24 : Int) x))) n (0 : Nat) == h ((0 : Nat) + Int.toNat (↑i : Int)) (0 : Nat) && (dv (itW (row9 f)) (IntKind.wrap IntKind.i64 ((↑i : Int) * IntKind.wrap IntKind.i64 (Int.tdiv (24 : Int) x))) n (1 : Nat) == h ((0 : Nat) + Int.toNat (↑i : Int)) (1 : Nat) && (dv (itW (row9 f)) (IntKind.wrap IntKind.i64 ((↑i : Int) * IntKind.wrap IntKind.i64 (Int.tdiv (24 : Int) x))) n (2 : Nat) == h ((0 : Nat) + Int.toNat (↑i : Int)) (2 : Nat) && (dv (itW (row9 f)) (IntKind.wrap IntKind.i64 ((↑i : Int) * IntKind.wrap IntKind.i64 (Int.tdiv (24 : Int) x))) n (3 : Nat) == h ((0 : Nat) + Int.toNat (↑i : Int)) (3 : Nat) && (dv (itW (row9 f)) (IntKind.wrap IntKind.i64 ((↑i : Int) * IntKind.wrap IntKind.i64 (Int.tdiv (24 : Int) x))) n (4 : Nat) == h ((0 : Nat) + Int.toNat (↑i : Int)) (4 : Nat) && (dv (itW (row9 f)) (IntKind.wrap IntKind.i64 ((↑i : Int) * IntKind.wrap IntKind.i64 (Int.tdiv (24 : Int) x))) n (5 : Nat) == h ((0 : Nat) + Int.toNat (↑i : Int)) (5 : Nat) && (dv (itW (row9 f)) (IntKind.wrap IntKind.i64 ((↑i : Int) * IntKind.wrap IntKind.i64 (Int.tdiv (24 : Int) x))) n (6 : Nat) == h ((0 : Nat) + Int.toNat (↑i : Int)) (6 : Nat) && (dv (itW (row9 f)) (IntKind.wrap IntKind.i64 ((↑i : Int) * IntKind.wrap IntKind.i64 (Int.tdiv (24 : Int) x))) n (7 : Nat) == h ((0 : Nat) + Int.toNat (↑i : Int)) (7 : Nat) && true))))))) && true) then Res.out Ex.ret [AV.v (Value.bool false)] [AB.row false m (1 : Nat) (rowB b) (5 : TypeId)] else Res.out Ex.normal [AV.own (1 : Nat) n, AV.v (Value.int IntKind.i64 x), AV.sl (2 : Nat) (8 : Nat) (0 : Nat) (0 : Nat) k none, AV.v (Value.int IntKind.i64 (IntKind.wrap IntKind.i64 ((↑i : Int) + (1 : Int))))] [AB.row false m (1 : Nat) (rowB b) (5 : TypeId), AB.row true n (9 : Nat) (row9 f) (58 : TypeId), AB.row false k (8 : Nat) (row8 h) (35 : TypeId)])) else Res.out (Ex.exit (0 : Nat)) [AV.own (1 : Nat) n, AV.v (Value.int IntKind.i64 x), AV.sl (2 : Nat) (8 : Nat) (0 : Nat) (0 : Nat) k none] [AB.row false m (1 : Nat) (rowB b) (5 : TypeId), AB.row true n (9 : Nat) (row9 f) (58 : TypeId), AB.row false k (8 : Nat) (row8 h) (35 : TypeId)] := by kernel_rfl

noncomputable abbrev lamRo (m : Nat) (b : Nat → Int) (n : Nat) (f : Nat → Nat → Int) (k : Nat) (h : Nat → Nat → Int) (x : Int) : Nat → Option Sum := oneL 0 (atS 123 (lvRo .normal) 1 (stRo n x k 0) (hpLo m b n f k h) (fun K => K .normal (mkT 0 123 [(3, .own 1 n), (4, .v (i64 x)), (5, .sl 2 8 0 0 k none)]) (hpLo m b n f k h)))
def gmLRo (dl : Nat → (Nat → Int) → List Wh) (dx : Nat → (Nat → Int) → Int) (rk : (Nat → Nat → Int) → Nat → Int → Bool) (rt : (Nat → Nat → Int) → Nat → Int → List Cy) (eq : List Cy → List Cy → Bool) (yL : Int → List Wh → Bool) (tL : Int → List Wh → List Wh) (rv : (Nat → Nat → Int) → Nat → Bool) (rh : (Nat → Nat → Int) → Nat → Int → Nat → Nat → Int) : Gam :=
  ext (ext (ext (ext (ext (ext g0 34 (specR md_co (FdrO fun m b => frLN (dl m b) (dx m b)))) 35 (specG md_wv (UroO rk rt))) 36 (specR md_wv (FroS rk rt))) 37 (specR md_eqCS (FeqP eq))) 38 (specU md_wv (UO1 yL tL))) 39 (specR md_cv (FrhY rv rh))
theorem lawRo (dl : Nat → (Nat → Int) → List Wh) (dx : Nat → (Nat → Int) → Int) (rk : (Nat → Nat → Int) → Nat → Int → Bool) (rt : (Nat → Nat → Int) → Nat → Int → List Cy) (eq : List Cy → List Cy → Bool) (yL : Int → List Wh → Bool) (tL : Int → List Wh → List Wh) (rv : (Nat → Nat → Int) → Nat → Bool) (rh : (Nat → Nat → Int) → Nat → Int → Nat → Nat → Int) (m : Nat) (b : Nat → Int) (n : Nat) (f : Nat → Nat → Int) (k : Nat) (h : Nat → Nat → Int) (x : Int) : execF Try.prog (gmLRo dl dx rk rt eq yL tL rv rh) (lamRo m b n f k h x) 100 fRo [.sl 0 1 0 0 m none] [.row false m 1 (rowB b) 5] (packK 1)
    = bif decide ((↑m : Int) > (1048576 : Int)) then Res.out Ex.ret [AV.v (Value.bool true)] [AB.row false m (1 : Nat) (rowB b) (5 : TypeId)] else needs [Nat.ble ((0 : Nat) + m) m, okB m fun q ↦ rowB b ((0 : Nat) + q), decide (m ≤ (2097152 : Nat)), Nat.ble (List.length (dl m (itB fun q ↦ rowB b ((0 : Nat) + q)))) (List.length (dl m (itB fun q ↦ rowB b ((0 : Nat) + q)))), allW (List.length (dl m (itB fun q ↦ rowB b ((0 : Nat) + q)))) (row9 (wfun (dl m (itB fun q ↦ rowB b ((0 : Nat) + q))))), decide (List.length (dl m (itB fun q ↦ rowB b ((0 : Nat) + q))) ≤ (274877906944 : Nat)), Nat.ble (List.length (dl m (itB fun q ↦ rowB b ((0 : Nat) + q)))) (List.length (dl m (itB fun q ↦ rowB b ((0 : Nat) + q)))), allW (List.length (dl m (itB fun q ↦ rowB b ((0 : Nat) + q)))) (row9 (wfun (dl m (itB fun q ↦ rowB b ((0 : Nat) + q))))), decide (List.length (dl m (itB fun q ↦ rowB b ((0 : Nat) + q))) ≤ (274877906944 : Nat))] (bif !rk (itW (row9 (wfun (dl m (itB fun q ↦ rowB b ((0 : Nat) + q)))))) (List.length (dl m (itB fun q ↦ rowB b ((0 : Nat) + q)))) (dx m (itB fun q ↦ rowB b ((0 : Nat) + q))) == rk (itW (row9 (wfun (dl m (itB fun q ↦ rowB b ((0 : Nat) + q)))))) (List.length (dl m (itB fun q ↦ rowB b ((0 : Nat) + q)))) (dx m (itB fun q ↦ rowB b ((0 : Nat) + q))) then bif rk (itW (row9 (wfun (dl m (itB fun q ↦ rowB b ((0 : Nat) + q)))))) (List.length (dl m (itB fun q ↦ rowB b ((0 : Nat) + q)))) (dx m (itB fun q ↦ rowB b ((0 : Nat) + q))) == rk (itW (row9 (wfun (dl m (itB fun q ↦ rowB b ((0 : Nat) + q)))))) (List.length (dl m (itB fun q ↦ rowB b ((0 : Nat) + q)))) (dx m (itB fun q ↦ rowB b ((0 : Nat) + q))) then needs [Nat.ble ((0 : Nat) + List.length (rt (itW (row9 (wfun (dl m (itB fun q ↦ rowB b ((0 : Nat) + q)))))) (List.length (dl m (itB fun q ↦ rowB b ((0 : Nat) + q)))) (dx m (itB fun q ↦ rowB b ((0 : Nat) + q))))) (List.length (rt (itW (row9 (wfun (dl m (itB fun q ↦ rowB b ((0 : Nat) + q)))))) (List.length (dl m (itB fun q ↦ rowB b ((0 : Nat) + q)))) (dx m (itB fun q ↦ rowB b ((0 : Nat) + q))))), Nat.ble (List.length (rt (itW (row9 (wfun (dl m (itB fun q ↦ rowB b ((0 : Nat) + q)))))) (List.length (dl m (itB fun q ↦ rowB b ((0 : Nat) + q)))) (dx m (itB fun q ↦ rowB b ((0 : Nat) + q))))) (List.length (rt (itW (row9 (wfun (dl m (itB fun q ↦ rowB b ((0 : Nat) + q)))))) (List.length (dl m (itB fun q ↦ rowB b ((0 : Nat) + q)))) (dx m (itB fun q ↦ rowB b ((0 : Nat) + q))))), all8 (List.length (rt (itW (row9 (wfun (dl m (itB fun q ↦ rowB b ((0 : Nat) + q)))))) (List.length (dl m (itB fun q ↦ rowB b ((0 : Nat) + q)))) (dx m (itB fun q ↦ rowB b ((0 : Nat) + q))))) fun q ↦ row8 (cfun (rt (itW (row9 (wfun (dl m (itB fun q ↦ rowB b ((0 : Nat) + q)))))) (List.length (dl m (itB fun q ↦ rowB b ((0 : Nat) + q)))) (dx m (itB fun q ↦ rowB b ((0 : Nat) + q))))) ((0 : Nat) + q), all8 (List.length (rt (itW (row9 (wfun (dl m (itB fun q ↦ rowB b ((0 : Nat) + q)))))) (List.length (dl m (itB fun q ↦ rowB b ((0 : Nat) + q)))) (dx m (itB fun q ↦ rowB b ((0 : Nat) + q))))) (row8 (cfun (rt (itW (row9 (wfun (dl m (itB fun q ↦ rowB b ((0 : Nat) + q)))))) (List.length (dl m (itB fun q ↦ rowB b ((0 : Nat) + q)))) (dx m (itB fun q ↦ rowB b ((0 : Nat) + q)))))), decide (List.length (rt (itW (row9 (wfun (dl m (itB fun q ↦ rowB b ((0 : Nat) + q)))))) (List.length (dl m (itB fun q ↦ rowB b ((0 : Nat) + q)))) (dx m (itB fun q ↦ rowB b ((0 : Nat) + q)))) ≤ (274877906944 : Nat))] (Res.out Ex.ret [AV.v (Value.bool (eq (listC (it8 fun q ↦ row8 (cfun (rt (itW (row9 (wfun (dl m (itB fun q ↦ rowB b ((0 : Nat) + q)))))) (List.length (dl m (itB fun q ↦ rowB b ((0 : Nat) + q)))) (dx m (itB fun q ↦ rowB b ((0 : Nat) + q))))) ((0 : Nat) + q)) (List.length (rt (itW (row9 (wfun (dl m (itB fun q ↦ rowB b ((0 : Nat) + q)))))) (List.length (dl m (itB fun q ↦ rowB b ((0 : Nat) + q)))) (dx m (itB fun q ↦ rowB b ((0 : Nat) + q)))))) (listC (it8 (row8 (cfun (rt (itW (row9 (wfun (dl m (itB fun q ↦ rowB b ((0 : Nat) + q)))))) (List.length (dl m (itB fun q ↦ rowB b ((0 : Nat) + q)))) (dx m (itB fun q ↦ rowB b ((0 : Nat) + q))))))) (List.length (rt (itW (row9 (wfun (dl m (itB fun q ↦ rowB b ((0 : Nat) + q)))))) (List.length (dl m (itB fun q ↦ rowB b ((0 : Nat) + q)))) (dx m (itB fun q ↦ rowB b ((0 : Nat) + q))))))))] [AB.row false m (1 : Nat) (rowB b) (5 : TypeId)]) else Res.out Ex.ret [AV.v (Value.bool false)] [AB.row false m (1 : Nat) (rowB b) (5 : TypeId)] else needs [Nat.ble ((0 : Nat) + List.length (rt (itW (row9 (wfun (dl m (itB fun q ↦ rowB b ((0 : Nat) + q)))))) (List.length (dl m (itB fun q ↦ rowB b ((0 : Nat) + q)))) (dx m (itB fun q ↦ rowB b ((0 : Nat) + q))))) (List.length (rt (itW (row9 (wfun (dl m (itB fun q ↦ rowB b ((0 : Nat) + q)))))) (List.length (dl m (itB fun q ↦ rowB b ((0 : Nat) + q)))) (dx m (itB fun q ↦ rowB b ((0 : Nat) + q))))), Nat.ble (List.length (rt (itW (row9 (wfun (dl m (itB fun q ↦ rowB b ((0 : Nat) + q)))))) (List.length (dl m (itB fun q ↦ rowB b ((0 : Nat) + q)))) (dx m (itB fun q ↦ rowB b ((0 : Nat) + q))))) (List.length (rt (itW (row9 (wfun (dl m (itB fun q ↦ rowB b ((0 : Nat) + q)))))) (List.length (dl m (itB fun q ↦ rowB b ((0 : Nat) + q)))) (dx m (itB fun q ↦ rowB b ((0 : Nat) + q))))), all8 (List.length (rt (itW (row9 (wfun (dl m (itB fun q ↦ rowB b ((0 : Nat) + q)))))) (List.length (dl m (itB fun q ↦ rowB b ((0 : Nat) + q)))) (dx m (itB fun q ↦ rowB b ((0 : Nat) + q))))) fun q ↦ row8 (cfun (rt (itW (row9 (wfun (dl m (itB fun q ↦ rowB b ((0 : Nat) + q)))))) (List.length (dl m (itB fun q ↦ rowB b ((0 : Nat) + q)))) (dx m (itB fun q ↦ rowB b ((0 : Nat) + q))))) ((0 : Nat) + q), all8 (List.length (rt (itW (row9 (wfun (dl m (itB fun q ↦ rowB b ((0 : Nat) + q)))))) (List.length (dl m (itB fun q ↦ rowB b ((0 : Nat) + q)))) (dx m (itB fun q ↦ rowB b ((0 : Nat) + q))))) (row8 (cfun (rt (itW (row9 (wfun (dl m (itB fun q ↦ rowB b ((0 : Nat) + q)))))) (List.length (dl m (itB fun q ↦ rowB b ((0 : Nat) + q)))) (dx m (itB fun q ↦ rowB b ((0 : Nat) + q)))))), decide (List.length (rt (itW (row9 (wfun (dl m (itB fun q ↦ rowB b ((0 : Nat) + q)))))) (List.length (dl m (itB fun q ↦ rowB b ((0 : Nat) + q)))) (dx m (itB fun q ↦ rowB b ((0 : Nat) + q)))) ≤ (274877906944 : Nat))] (bif !eq (listC (it8 fun q ↦ row8 (cfun (rt (itW (row9 (wfun (dl m (itB fun q ↦ rowB b ((0 : Nat) + q)))))) (List.length (dl m (itB fun q ↦ rowB b ((0 : Nat) + q)))) (dx m (itB fun q ↦ rowB b ((0 : Nat) + q))))) ((0 : Nat) + q)) (List.length (rt (itW (row9 (wfun (dl m (itB fun q ↦ rowB b ((0 : Nat) + q)))))) (List.length (dl m (itB fun q ↦ rowB b ((0 : Nat) + q)))) (dx m (itB fun q ↦ rowB b ((0 : Nat) + q)))))) (listC (it8 (row8 (cfun (rt (itW (row9 (wfun (dl m (itB fun q ↦ rowB b ((0 : Nat) + q)))))) (List.length (dl m (itB fun q ↦ rowB b ((0 : Nat) + q)))) (dx m (itB fun q ↦ rowB b ((0 : Nat) + q))))))) (List.length (rt (itW (row9 (wfun (dl m (itB fun q ↦ rowB b ((0 : Nat) + q)))))) (List.length (dl m (itB fun q ↦ rowB b ((0 : Nat) + q)))) (dx m (itB fun q ↦ rowB b ((0 : Nat) + q)))))) then bif rk (itW (row9 (wfun (dl m (itB fun q ↦ rowB b ((0 : Nat) + q)))))) (List.length (dl m (itB fun q ↦ rowB b ((0 : Nat) + q)))) (dx m (itB fun q ↦ rowB b ((0 : Nat) + q))) == rk (itW (row9 (wfun (dl m (itB fun q ↦ rowB b ((0 : Nat) + q)))))) (List.length (dl m (itB fun q ↦ rowB b ((0 : Nat) + q)))) (dx m (itB fun q ↦ rowB b ((0 : Nat) + q))) then needs [Nat.ble ((0 : Nat) + List.length (rt (itW (row9 (wfun (dl m (itB fun q ↦ rowB b ((0 : Nat) + q)))))) (List.length (dl m (itB fun q ↦ rowB b ((0 : Nat) + q)))) (dx m (itB fun q ↦ rowB b ((0 : Nat) + q))))) (List.length (rt (itW (row9 (wfun (dl m (itB fun q ↦ rowB b ((0 : Nat) + q)))))) (List.length (dl m (itB fun q ↦ rowB b ((0 : Nat) + q)))) (dx m (itB fun q ↦ rowB b ((0 : Nat) + q))))), Nat.ble (List.length (rt (itW (row9 (wfun (dl m (itB fun q ↦ rowB b ((0 : Nat) + q)))))) (List.length (dl m (itB fun q ↦ rowB b ((0 : Nat) + q)))) (dx m (itB fun q ↦ rowB b ((0 : Nat) + q))))) (List.length (rt (itW (row9 (wfun (dl m (itB fun q ↦ rowB b ((0 : Nat) + q)))))) (List.length (dl m (itB fun q ↦ rowB b ((0 : Nat) + q)))) (dx m (itB fun q ↦ rowB b ((0 : Nat) + q))))), all8 (List.length (rt (itW (row9 (wfun (dl m (itB fun q ↦ rowB b ((0 : Nat) + q)))))) (List.length (dl m (itB fun q ↦ rowB b ((0 : Nat) + q)))) (dx m (itB fun q ↦ rowB b ((0 : Nat) + q))))) fun q ↦ row8 (cfun (rt (itW (row9 (wfun (dl m (itB fun q ↦ rowB b ((0 : Nat) + q)))))) (List.length (dl m (itB fun q ↦ rowB b ((0 : Nat) + q)))) (dx m (itB fun q ↦ rowB b ((0 : Nat) + q))))) ((0 : Nat) + q), all8 (List.length (rt (itW (row9 (wfun (dl m (itB fun q ↦ rowB b ((0 : Nat) + q)))))) (List.length (dl m (itB fun q ↦ rowB b ((0 : Nat) + q)))) (dx m (itB fun q ↦ rowB b ((0 : Nat) + q))))) (row8 (cfun (rt (itW (row9 (wfun (dl m (itB fun q ↦ rowB b ((0 : Nat) + q)))))) (List.length (dl m (itB fun q ↦ rowB b ((0 : Nat) + q)))) (dx m (itB fun q ↦ rowB b ((0 : Nat) + q)))))), decide (List.length (rt (itW (row9 (wfun (dl m (itB fun q ↦ rowB b ((0 : Nat) + q)))))) (List.length (dl m (itB fun q ↦ rowB b ((0 : Nat) + q)))) (dx m (itB fun q ↦ rowB b ((0 : Nat) + q)))) ≤ (274877906944 : Nat))] (Res.out Ex.ret [AV.v (Value.bool (eq (listC (it8 fun q ↦ row8 (cfun (rt (itW (row9 (wfun (dl m (itB fun q ↦ rowB b ((0 : Nat) + q)))))) (List.length (dl m (itB fun q ↦ rowB b ((0 : Nat) + q)))) (dx m (itB fun q ↦ rowB b ((0 : Nat) + q))))) ((0 : Nat) + q)) (List.length (rt (itW (row9 (wfun (dl m (itB fun q ↦ rowB b ((0 : Nat) + q)))))) (List.length (dl m (itB fun q ↦ rowB b ((0 : Nat) + q)))) (dx m (itB fun q ↦ rowB b ((0 : Nat) + q)))))) (listC (it8 (row8 (cfun (rt (itW (row9 (wfun (dl m (itB fun q ↦ rowB b ((0 : Nat) + q)))))) (List.length (dl m (itB fun q ↦ rowB b ((0 : Nat) + q)))) (dx m (itB fun q ↦ rowB b ((0 : Nat) + q))))))) (List.length (rt (itW (row9 (wfun (dl m (itB fun q ↦ rowB b ((0 : Nat) + q)))))) (List.length (dl m (itB fun q ↦ rowB b ((0 : Nat) + q)))) (dx m (itB fun q ↦ rowB b ((0 : Nat) + q))))))))] [AB.row false m (1 : Nat) (rowB b) (5 : TypeId)]) else Res.out Ex.ret [AV.v (Value.bool false)] [AB.row false m (1 : Nat) (rowB b) (5 : TypeId)] else bif !rk (itW (row9 (wfun (dl m (itB fun q ↦ rowB b ((0 : Nat) + q)))))) (List.length (dl m (itB fun q ↦ rowB b ((0 : Nat) + q)))) (dx m (itB fun q ↦ rowB b ((0 : Nat) + q))) then bif rk (itW (row9 (wfun (dl m (itB fun q ↦ rowB b ((0 : Nat) + q)))))) (List.length (dl m (itB fun q ↦ rowB b ((0 : Nat) + q)))) (dx m (itB fun q ↦ rowB b ((0 : Nat) + q))) == rk (itW (row9 (wfun (dl m (itB fun q ↦ rowB b ((0 : Nat) + q)))))) (List.length (dl m (itB fun q ↦ rowB b ((0 : Nat) + q)))) (dx m (itB fun q ↦ rowB b ((0 : Nat) + q))) then needs [Nat.ble ((0 : Nat) + List.length (rt (itW (row9 (wfun (dl m (itB fun q ↦ rowB b ((0 : Nat) + q)))))) (List.length (dl m (itB fun q ↦ rowB b ((0 : Nat) + q)))) (dx m (itB fun q ↦ rowB b ((0 : Nat) + q))))) (List.length (rt (itW (row9 (wfun (dl m (itB fun q ↦ rowB b ((0 : Nat) + q)))))) (List.length (dl m (itB fun q ↦ rowB b ((0 : Nat) + q)))) (dx m (itB fun q ↦ rowB b ((0 : Nat) + q))))), Nat.ble (List.length (rt (itW (row9 (wfun (dl m (itB fun q ↦ rowB b ((0 : Nat) + q)))))) (List.length (dl m (itB fun q ↦ rowB b ((0 : Nat) + q)))) (dx m (itB fun q ↦ rowB b ((0 : Nat) + q))))) (List.length (rt (itW (row9 (wfun (dl m (itB fun q ↦ rowB b ((0 : Nat) + q)))))) (List.length (dl m (itB fun q ↦ rowB b ((0 : Nat) + q)))) (dx m (itB fun q ↦ rowB b ((0 : Nat) + q))))), all8 (List.length (rt (itW (row9 (wfun (dl m (itB fun q ↦ rowB b ((0 : Nat) + q)))))) (List.length (dl m (itB fun q ↦ rowB b ((0 : Nat) + q)))) (dx m (itB fun q ↦ rowB b ((0 : Nat) + q))))) fun q ↦ row8 (cfun (rt (itW (row9 (wfun (dl m (itB fun q ↦ rowB b ((0 : Nat) + q)))))) (List.length (dl m (itB fun q ↦ rowB b ((0 : Nat) + q)))) (dx m (itB fun q ↦ rowB b ((0 : Nat) + q))))) ((0 : Nat) + q), all8 (List.length (rt (itW (row9 (wfun (dl m (itB fun q ↦ rowB b ((0 : Nat) + q)))))) (List.length (dl m (itB fun q ↦ rowB b ((0 : Nat) + q)))) (dx m (itB fun q ↦ rowB b ((0 : Nat) + q))))) (row8 (cfun (rt (itW (row9 (wfun (dl m (itB fun q ↦ rowB b ((0 : Nat) + q)))))) (List.length (dl m (itB fun q ↦ rowB b ((0 : Nat) + q)))) (dx m (itB fun q ↦ rowB b ((0 : Nat) + q)))))), decide (List.length (rt (itW (row9 (wfun (dl m (itB fun q ↦ rowB b ((0 : Nat) + q)))))) (List.length (dl m (itB fun q ↦ rowB b ((0 : Nat) + q)))) (dx m (itB fun q ↦ rowB b ((0 : Nat) + q)))) ≤ (274877906944 : Nat))] (Res.out Ex.ret [AV.v (Value.bool (eq (listC (it8 fun q ↦ row8 (cfun (rt (itW (row9 (wfun (dl m (itB fun q ↦ rowB b ((0 : Nat) + q)))))) (List.length (dl m (itB fun q ↦ rowB b ((0 : Nat) + q)))) (dx m (itB fun q ↦ rowB b ((0 : Nat) + q))))) ((0 : Nat) + q)) (List.length (rt (itW (row9 (wfun (dl m (itB fun q ↦ rowB b ((0 : Nat) + q)))))) (List.length (dl m (itB fun q ↦ rowB b ((0 : Nat) + q)))) (dx m (itB fun q ↦ rowB b ((0 : Nat) + q)))))) (listC (it8 (row8 (cfun (rt (itW (row9 (wfun (dl m (itB fun q ↦ rowB b ((0 : Nat) + q)))))) (List.length (dl m (itB fun q ↦ rowB b ((0 : Nat) + q)))) (dx m (itB fun q ↦ rowB b ((0 : Nat) + q))))))) (List.length (rt (itW (row9 (wfun (dl m (itB fun q ↦ rowB b ((0 : Nat) + q)))))) (List.length (dl m (itB fun q ↦ rowB b ((0 : Nat) + q)))) (dx m (itB fun q ↦ rowB b ((0 : Nat) + q))))))))] [AB.row false m (1 : Nat) (rowB b) (5 : TypeId)]) else Res.out Ex.ret [AV.v (Value.bool false)] [AB.row false m (1 : Nat) (rowB b) (5 : TypeId)] else needs [chk ([AV.own (1 : Nat) (List.length (dl m (itB fun q ↦ rowB b ((0 : Nat) + q)))), AV.v (Value.int IntKind.i64 (dx m (itB fun q ↦ rowB b ((0 : Nat) + q)))), AV.sl (2 : Nat) (8 : Nat) (0 : Nat) (0 : Nat) (List.length (rt (itW (row9 (wfun (dl m (itB fun q ↦ rowB b ((0 : Nat) + q)))))) (List.length (dl m (itB fun q ↦ rowB b ((0 : Nat) + q)))) (dx m (itB fun q ↦ rowB b ((0 : Nat) + q))))) none, AV.v (Value.int IntKind.i64 (0 : Int))] = stRo n x k (0 : Nat) ∧ Hsim [AB.row false m (1 : Nat) (rowB b) (5 : TypeId), AB.row true (List.length (dl m (itB fun q ↦ rowB b ((0 : Nat) + q)))) (9 : Nat) (row9 (wfun (dl m (itB fun q ↦ rowB b ((0 : Nat) + q))))) (58 : TypeId), AB.row false (List.length (rt (itW (row9 (wfun (dl m (itB fun q ↦ rowB b ((0 : Nat) + q)))))) (List.length (dl m (itB fun q ↦ rowB b ((0 : Nat) + q)))) (dx m (itB fun q ↦ rowB b ((0 : Nat) + q))))) (8 : Nat) (row8 (cfun (rt (itW (row9 (wfun (dl m (itB fun q ↦ rowB b ((0 : Nat) + q)))))) (List.length (dl m (itB fun q ↦ rowB b ((0 : Nat) + q)))) (dx m (itB fun q ↦ rowB b ((0 : Nat) + q)))))) (35 : TypeId)] (hpLo m b n f k h)), !decide (x = (0 : Int)), Nat.ble n n, allW n (row9 f), decide (n ≤ (274877906944 : Nat)), Nat.ble ((0 : Nat) + List.length (tL (Int.tmod (IntKind.wrap IntKind.i64 (Int.tdiv (24 : Int) x)) (24 : Int)) (listW (itW (row9 f)) n))) (List.length (tL (Int.tmod (IntKind.wrap IntKind.i64 (Int.tdiv (24 : Int) x)) (24 : Int)) (listW (itW (row9 f)) n))), allW (List.length (tL (Int.tmod (IntKind.wrap IntKind.i64 (Int.tdiv (24 : Int) x)) (24 : Int)) (listW (itW (row9 f)) n))) fun q ↦ row9 (wfun (tL (Int.tmod (IntKind.wrap IntKind.i64 (Int.tdiv (24 : Int) x)) (24 : Int)) (listW (itW (row9 f)) n))) ((0 : Nat) + q), decide (List.length (tL (Int.tmod (IntKind.wrap IntKind.i64 (Int.tdiv (24 : Int) x)) (24 : Int)) (listW (itW (row9 f)) n)) ≤ (274877906944 : Nat)), Nat.ble ((0 : Nat) + k) k, all8 k fun q ↦ row8 h ((0 : Nat) + q), rv (it8 fun q ↦ row8 h ((0 : Nat) + q)) k] (bif (↑k : Int) == x then bif !yL (Int.tmod (IntKind.wrap IntKind.i64 (Int.tdiv (24 : Int) x)) (24 : Int)) (listW (itW (row9 f)) n) then Res.out Ex.ret [AV.v (Value.bool true)] [AB.row false m (1 : Nat) (rowB b) (5 : TypeId)] else bif !rk (itW fun q ↦ row9 (wfun (tL (Int.tmod (IntKind.wrap IntKind.i64 (Int.tdiv (24 : Int) x)) (24 : Int)) (listW (itW (row9 f)) n))) ((0 : Nat) + q)) (List.length (tL (Int.tmod (IntKind.wrap IntKind.i64 (Int.tdiv (24 : Int) x)) (24 : Int)) (listW (itW (row9 f)) n))) x then Res.out Ex.ret [AV.v (Value.bool true)] [AB.row false m (1 : Nat) (rowB b) (5 : TypeId)] else needs [Nat.ble ((0 : Nat) + List.length (rt (itW fun q ↦ row9 (wfun (tL (Int.tmod (IntKind.wrap IntKind.i64 (Int.tdiv (24 : Int) x)) (24 : Int)) (listW (itW (row9 f)) n))) ((0 : Nat) + q)) (List.length (tL (Int.tmod (IntKind.wrap IntKind.i64 (Int.tdiv (24 : Int) x)) (24 : Int)) (listW (itW (row9 f)) n))) x)) (List.length (rt (itW fun q ↦ row9 (wfun (tL (Int.tmod (IntKind.wrap IntKind.i64 (Int.tdiv (24 : Int) x)) (24 : Int)) (listW (itW (row9 f)) n))) ((0 : Nat) + q)) (List.length (tL (Int.tmod (IntKind.wrap IntKind.i64 (Int.tdiv (24 : Int) x)) (24 : Int)) (listW (itW (row9 f)) n))) x)), Nat.ble k k, all8 (List.length (rt (itW fun q ↦ row9 (wfun (tL (Int.tmod (IntKind.wrap IntKind.i64 (Int.tdiv (24 : Int) x)) (24 : Int)) (listW (itW (row9 f)) n))) ((0 : Nat) + q)) (List.length (tL (Int.tmod (IntKind.wrap IntKind.i64 (Int.tdiv (24 : Int) x)) (24 : Int)) (listW (itW (row9 f)) n))) x)) fun q ↦ row8 (cfun (rt (itW fun q ↦ row9 (wfun (tL (Int.tmod (IntKind.wrap IntKind.i64 (Int.tdiv (24 : Int) x)) (24 : Int)) (listW (itW (row9 f)) n))) ((0 : Nat) + q)) (List.length (tL (Int.tmod (IntKind.wrap IntKind.i64 (Int.tdiv (24 : Int) x)) (24 : Int)) (listW (itW (row9 f)) n))) x)) ((0 : Nat) + q), all8 k (row8 (rh (it8 fun q ↦ row8 h ((0 : Nat) + q)) k (1 : Int))), decide (List.length (rt (itW fun q ↦ row9 (wfun (tL (Int.tmod (IntKind.wrap IntKind.i64 (Int.tdiv (24 : Int) x)) (24 : Int)) (listW (itW (row9 f)) n))) ((0 : Nat) + q)) (List.length (tL (Int.tmod (IntKind.wrap IntKind.i64 (Int.tdiv (24 : Int) x)) (24 : Int)) (listW (itW (row9 f)) n))) x) ≤ (274877906944 : Nat))] (Res.out Ex.ret [AV.v (Value.bool (eq (listC (it8 fun q ↦ row8 (cfun (rt (itW fun q ↦ row9 (wfun (tL (Int.tmod (IntKind.wrap IntKind.i64 (Int.tdiv (24 : Int) x)) (24 : Int)) (listW (itW (row9 f)) n))) ((0 : Nat) + q)) (List.length (tL (Int.tmod (IntKind.wrap IntKind.i64 (Int.tdiv (24 : Int) x)) (24 : Int)) (listW (itW (row9 f)) n))) x)) ((0 : Nat) + q)) (List.length (rt (itW fun q ↦ row9 (wfun (tL (Int.tmod (IntKind.wrap IntKind.i64 (Int.tdiv (24 : Int) x)) (24 : Int)) (listW (itW (row9 f)) n))) ((0 : Nat) + q)) (List.length (tL (Int.tmod (IntKind.wrap IntKind.i64 (Int.tdiv (24 : Int) x)) (24 : Int)) (listW (itW (row9 f)) n))) x))) (listC (it8 (row8 (rh (it8 fun q ↦ row8 h ((0 : Nat) + q)) k (1 : Int)))) k)))] [AB.row false m (1 : Nat) (rowB b) (5 : TypeId)]) else Res.out Ex.ret [AV.v (Value.bool false)] [AB.row false m (1 : Nat) (rowB b) (5 : TypeId)]))) := by kernel_rfl

end Go.Proofs.Ytakimbknciffnaa

/- FnRowOf returns true, whatever the bytes are. Conditions: bytes. -/
namespace Go.Proofs.Ytakimbknciffnaa
open Go.RowKit
set_option maxRecDepth 100000

theorem cfun_list (f : Nat → Nat → Int) {m j : Nat} (hj : j < m) {k : Nat} (hk : k < 8) : cfun (listC f m) j k = f j k := by
  simp only [cfun, listC_get f hj]
  exact cyOf_f8 (f j) k hk
theorem it8_row (f : Nat → Nat → Int) (j : Nat) {k : Nat} (hk : k < 8) : it8 (row8 f) j k = f j k := by
  rcases (by omega : k = 0 ∨ k = 1 ∨ k = 2 ∨ k = 3 ∨ k = 4 ∨ k = 5 ∨ k = 6 ∨ k = 7) with rfl | rfl | rfl | rfl | rfl | rfl | rfl | rfl <;> rfl
theorem roK_row (f : Nat → Nat → Int) (m : Nat) (x : Int) : roK (itW (row9 f)) m x = roK f m x := by
  unfold roK
  rw [listW_itW, show rwB (itW (row9 f)) m x = rwB f m x from funext fun j => by unfold rwB; rw [daOk_row]]
theorem roT_row (f : Nat → Nat → Int) (m : Nat) (x : Int) : roT (itW (row9 f)) m x = roT f m x := by
  unfold roT
  rw [roK_row, show roF (itW (row9 f)) m x = roF f m x from funext fun j => by unfold roF; rw [daV_row]]
theorem gmRo_ok : GamOk Try.prog (gmRo daV daOk) := ext_ok g0_ok ok_DAI
theorem gmLRo_ok : GamOk Try.prog (gmLRo (fun m b => (bRow m b).1) (fun m b => (bRow m b).2) roK roT eqC yL tL rvB rhF) := ext_ok (ext_ok (ext_ok (ext_ok (ext_ok (ext_ok g0_ok ok_drRo) ok_Uro) ok_roS) ok_sameC) ok_ULa) ok_rhY
theorem ro_at {L : List Wh} {n : Nat} (hk : roK (wfun L) L.length n = true) {i : Nat} (hi : i < n) : daOk (wfun L) ((i : Int) * Int.tdiv 24 n) L.length = true ∧ ∀ k, k < 8 → cfun (roT (wfun L) L.length n) i k = dAt L ((i : Int) * Int.tdiv 24 n) k := by
  have hp := (roK_parts hk).2.2
  rw [Int.toNat_natCast] at hp
  have h1 := noneTo_iff.1 hp i hi
  have h2 : daOk (wfun L) ((i : Int) * Int.tdiv 24 n) L.length = true := by
    unfold rwB at h1
    simpa using h1
  refine ⟨h2, fun k hk8 => ?_⟩
  have e := roT_yes hk
  rw [Int.toNat_natCast] at e
  rw [e, cfun_list _ hi hk8]
  exact (da_list h2).2.2.1 k hk8
theorem sumRo (m : Nat) (b : Nat → Int) (L : List Wh) (hl : L.length ≤ 12) (n : Nat) (hk0 : roK (wfun L) L.length n = true) :
    SumOk Try.prog 1 (.block 0 (.loop (loopAt 0 fRo))) (atS 123 (lvRo .normal) 1 (stRo L.length n (roT (wfun L) L.length n).length 0) (hpLo m b L.length (wfun L) (roT (wfun L) L.length n).length (cfun (roT (wfun L) L.length n))) (fun K => K .normal (mkT 0 123 [(3, .own 1 L.length), (4, .v (i64 n)), (5, .sl 2 8 0 0 (roT (wfun L) L.length n).length none)]) (hpLo m b L.length (wfun L) (roT (wfun L) L.length n).length (cfun (roT (wfun L) L.length n))))) := by
  have hv := roV_in (roK_parts hk0).1
  have hn : n ≤ 24 := by omega
  have hlen : (roT (wfun L) L.length n).length = n := by rw [roT_yes hk0, listC_length, Int.toNat_natCast]
  refine for_at gmRo_ok (n := 100) (m := 1) (lv := lvRo) (fun i => stRo L.length n (roT (wfun L) L.length n).length i) (fun _ => hpLo m b L.length (wfun L) (roT (wfun L) L.length n).length (cfun (roT (wfun L) L.length n))) (fun _ => True) n (fun _ => noLam) (lv3_ris rfl rfl rfl) (Nat.le_refl _) trivial fun K Q hk i _ hi => ⟨noLam_ok _ _ _, ?_⟩
  rw [rndRo]
  simp only [daOk_row, daV_row]
  refine good_cond (fun c1 => ?_) fun c1 => ?_
  · have c1 := of_decide_eq_true c1
    have c1' : i < n := by omega
    obtain ⟨h1, h2⟩ := ro_at hk0 c1'
    rw [ro_mul c1' hn, show 0 + Int.toNat (i : Int) = i by omega, wr_in (x := (i : Int) + 1) (by omega), h1]
    refine good_needs (by simp only [ob_cons, ob_nil, and_true, Bool.not_eq_true', decide_eq_false_iff_not, decide_eq_true_eq, Nat.ble_eq, allW_row, true_and]; omega) (good_false rfl (good_needs (by simp only [ob_cons, ob_nil, and_true, decide_eq_true_eq, hlen]; omega) (good_cond (fun q => ?_) fun _ => good_out ⟨i + 1, ⟨rfl, c1', trivial⟩, rfl, Hsim.refl _⟩)))
    exact (not_eq8 (fun k hk8 => by rw [(da_list h1).2.2.1 k hk8, h2 k hk8]) q).elim
  · have c1 := of_decide_eq_false c1
    have : i = n := by omega
    subst this
    refine good_out ⟨_, Hsim.refl _, ?_⟩
    rw [if_pos rfl]
    exact hk
set_option maxRecDepth 100000 in
theorem turn_step : ∀ n, n < 25 → ∀ j, j < n → Int.tmod 24 ((n : Nat) : Int) = 0 → (Int.tmod (IntKind.wrap IntKind.i64 (Int.tdiv 24 ((n : Nat) : Int))) 24 + ((j : Nat) : Int) * Int.tdiv 24 ((n : Nat) : Int)) % 24 = (((Int.tmod (((j : Nat) : Int) + 1) ((n : Nat) : Int)).toNat : Int) * Int.tdiv 24 ((n : Nat) : Int)) % 24 := by
  decide +kernel
theorem tnI_cg (f : Nat → Int) {u v : Int} (s : Int) (h : u % 24 = v % 24) : tnI f (u * s) = tnI f (v * s) := tnI_mod f (by rw [Int.mul_emod, h, ← Int.mul_emod])
theorem law_row {L : List Wh} {n : Nat} {q : Int} (hq : q = Int.tmod (IntKind.wrap IntKind.i64 (Int.tdiv 24 (n : Int))) 24) (h1 : roK (wfun L) L.length n = true) (h2 : eachOk 1 0 q false L = true) (h3 : roK (wfun (eachL 1 0 q false L)) (eachL 1 0 q false L).length n = true) :
    roT (wfun (eachL 1 0 q false L)) (eachL 1 0 q false L).length n = listC (rhF (it8 (row8 (cfun (roT (wfun L) L.length n)))) n 1) n := by
  have e := roT_yes h3
  rw [Int.toNat_natCast] at e
  have hv := roV_parts (roK_parts h1).1
  have hn := roV_in (roK_parts h1).1
  rw [e]
  refine List.map_congr_left fun j hj => cyOf_congr fun k hk => ?_
  have hj : j < n := by simpa using hj
  have hm := tmod_in (x := (j : Int) + 1) (l := n) (by omega) (by omega)
  have hidx : (Int.tmod ((j : Int) + 1) n).toNat < n := by omega
  show daV (wfun (eachL 1 0 q false L)) ((j : Int) * Int.tdiv 24 n) (eachL 1 0 q false L).length k = it8 (row8 (cfun (roT (wfun L) L.length n))) (Int.tmod ((j : Int) + 1) n).toNat k
  rw [it8_row _ _ hk, (ro_at h1 hidx).2 k hk, (da_list (ro_at h3 hj).1).2.2.1 k hk]
  refine (each_lin (by omega) h2 (atT_lin _ k) (atT_loc _ hk)).trans (linS_congr fun w _ => ?_)
  show tnI (tnI w.r.f (0 + q * w.s)) ((j : Int) * Int.tdiv 24 n * (1 * w.s)) k = tnI w.r.f (((Int.tmod ((j : Int) + 1) n).toNat : Int) * Int.tdiv 24 n * w.s) k
  rw [tnI_tnI _ _ _ k hk, show 0 + q * w.s + (j : Int) * Int.tdiv 24 n * (1 * w.s) = (q + (j : Int) * Int.tdiv 24 n) * w.s by rw [Int.one_mul, Int.zero_add, Int.add_mul]]
  rw [tnI_cg w.r.f w.s (u := q + (j : Int) * Int.tdiv 24 n) (v := ((Int.tmod ((j : Int) + 1) n).toNat : Int) * Int.tdiv 24 n) (by rw [hq]; exact turn_step n (by omega) j hj (beq_iff_eq.1 hv.2.2))]
theorem ro_valid {L : List Wh} {n : Nat} (h1 : roK (wfun L) L.length n = true) : rvB (it8 (row8 (cfun (roT (wfun L) L.length n)))) n = true := by
  rw [rvB, (roK_parts h1).1, Bool.true_and]
  refine List.all_eq_true.2 fun j hj => ?_
  have hj : j < n := by simpa using hj
  obtain ⟨h2, h3⟩ := ro_at h1 hj
  refine smallF_iff.2 fun k hk => ?_
  rw [cyOf_f8 _ k hk, it8_row _ _ hk, h3 k hk, ← (da_list h2).2.2.1 k hk]
  exact (da_list h2).2.2.2 k hk
theorem roT_len24 (f : Nat → Nat → Int) (m : Nat) (x : Int) : decide ((roT f m x).length ≤ 274877906944) = true := decide_eq_true (by have := roT_len f m x; omega)
theorem yes_dro (m : Nat) (b : Nat → Int) (_ : m ≤ 9223372036854775807) (hb : okB m (rowB b) = true) : ∃ Γ n Λ, GamOk Try.prog Γ ∧ (∀ cc, fRo.body = some cc → LamOk Try.prog 1 Λ cc) ∧ GoodQ (execF Try.prog Γ Λ n fRo [.sl 0 1 0 0 m none] [.row false m 1 (rowB b) 5] (packK 1)) SaysYes := by
  have hl := bRow_len m b
  have main : ∀ (L' : List Wh) (n : Nat), roK (wfun L') L'.length n = true → (roK (wfun (bRow m b).1) (bRow m b).1.length (bRow m b).2 = true → L' = (bRow m b).1 ∧ (n : Int) = (bRow m b).2) → GoodQ (execF Try.prog (gmLRo (fun m b => (bRow m b).1) (fun m b => (bRow m b).2) roK roT eqC yL tL rvB rhF) (lamRo m b L'.length (wfun L') (roT (wfun L') L'.length n).length (cfun (roT (wfun L') L'.length n)) n) 100 fRo [.sl 0 1 0 0 m none] [.row false m 1 (rowB b) 5] (packK 1)) SaysYes := by
    intro L' n hk' hL'
    rw [lawRo]
    refine good_cond (fun _ => good_out rfl) fun c => ?_
    have c := of_decide_eq_false c
    have b21 : decide (m ≤ 2097152) = true := decide_eq_true (by omega)
    simp only [Nat.zero_add, itB_row, roK_row, roT_row]
    generalize (bRow m b).2 = x at hL' ⊢
    generalize (bRow m b).1 = L at hl hL' ⊢
    have ht := roT_len24 (wfun L) L.length x
    simp only [hb, b21, ht, ble_me, allW_row, all8_row, b38 hl, needs_t, needs_nil, beq_self_eq_true, Bool.not_true, cond_false, cond_true, listC_me, eqC_me]
    refine good_cond (fun _ => good_out rfl) fun h1 => ?_
    have h1 : roK (wfun L) L.length x = true := by simpa using h1
    obtain ⟨rfl, rfl⟩ := hL' h1
    have hlen : (roT (wfun L') L'.length n).length = n := by rw [roT_yes h1, listC_length, Int.toNat_natCast]
    have hv := roV_in (roK_parts h1).1
    simp only [listW_me, hlen]
    have hn0 : decide ((n : Int) = 0) = false := decide_eq_false (by omega)
    have htL : (tL (Int.tmod (IntKind.wrap IntKind.i64 (Int.tdiv 24 (n : Int))) 24) L').length ≤ 12 := eachL_len _ _ _ _ _
    refine good_needs ?_ (good_true (beq_self_eq_true _) (good_cond (fun _ => good_out rfl) fun h2 => good_cond (fun _ => good_out rfl) fun h3 => good_needs ?_ (say ?_)))
    · simp only [ob_cons, ob_nil, and_true, true_and, hn0, Bool.not_false, b38 hl, b38 htL]
      exact ⟨chk_of ⟨rfl, Hsim.refl _⟩, ro_valid h1⟩
    · simp only [ob_cons, ob_nil, and_true]
      exact roT_len24 _ _ _
    · have h2 : yL (Int.tmod (IntKind.wrap IntKind.i64 (Int.tdiv 24 (n : Int))) 24) L' = true := by simpa using h2
      rw [Bool.not_eq_false'] at h3
      exact decide_eq_true (law_row rfl h1 h2 h3)
  cases hy : roK (wfun (bRow m b).1) (bRow m b).1.length (bRow m b).2 with
  | true =>
    have hv := roV_in (roK_parts hy).1
    obtain ⟨n, hn⟩ : ∃ n : Nat, (bRow m b).2 = n := ⟨(bRow m b).2.toNat, by omega⟩
    have hy2 := hy
    rw [hn] at hy2
    exact ⟨_, 100, _, gmLRo_ok, lam1 (by kernel_rfl) (sumRo m b (bRow m b).1 hl n hy2), main _ n hy2 fun _ => ⟨rfl, hn.symm⟩⟩
  | false =>
    have h0 : roK (wfun []) ([] : List Wh).length ((1 : Nat) : Int) = true := by decide +kernel
    exact ⟨_, 100, _, gmLRo_ok, lam1 (by kernel_rfl) (sumRo m b [] (Nat.zero_le _) 1 h0), main [] 1 h0 fun h => by rw [hy] at h; cases h⟩

end Go.Proofs.Ytakimbknciffnaa

/- Rows have the points of the design: FnRowOf returns true, whatever the bytes are, and they read as before. No conditions. -/
namespace Go.Proofs.Ytakimbknciffnaa
open Go.ChangeShapes Go.WideShapes Go.ChangeAt Go.RowKit

set_option maxRecDepth 100000 in
theorem dro_lifted (os : Os) (started : os.Started) (H : Type) (enc : TypeId × Value → H) :
    ReturnsInHanded {} Try.checked os 8 .any (Rows.fnRowOfSpec.pre6 enc Try.prog Try.f8 Rows.fnRowOfRow.domain false) (Rows.fnRowOfSpec.post enc Try.prog Try.f8 false true false false) := by
  refine returnsInHanded_of_change (C := Try.checked) own started (by kernel_rfl) Try.func8
    (ChangeSpec.witness6 (enc := enc) (C := Try.checked) false ⟨#[], #[.slice none 0 0], []⟩ 8 (by kernel_rfl) (by kernel_rfl) (by kernel_rfl) (by kernel_rfl)) ?_
  intro W base args ds gs before hval hW _ _
  exact contractB (spec := Rows.fnRowOfSpec) Try.func8 rfl rfl rfl (fun _ _ => rfl) (fun m b hm hb => yes_dro m b hm hb) H enc W base args ds gs before hval hW

set_option maxRecDepth 100000 in
theorem dro_f1 : Rows.fnRowOfRow.wf (OpenSpec.ofChange Rows.fnRowOfSpec) = true := by kernel_rfl
set_option maxRecDepth 100000 in
theorem dro_f2 : (Rows.fnRowOfRow.inPlace == Try.prog.inPlace 8) = true := by kernel_rfl
set_option maxRecDepth 100000 in
theorem dro_f3 : (Rows.fnRowOfRow.unfollowed == Try.prog.unfollowed 8) = true := by kernel_rfl
set_option maxRecDepth 100000 in
theorem dro_f4 : (Rows.fnRowOfRow.recurses == Try.prog.recurses 8) = true := by kernel_rfl
set_option maxRecDepth 100000 in
theorem dro_f5 : (Rows.fnRowOfRow.named == Try.prog.varsNamed 8) = true := by kernel_rfl
set_option maxRecDepth 100000 in
theorem dro_f6 : Try.prog.funcNamed Rows.fnRowOfRow.func = some 8 := by kernel_rfl
theorem dro_f7 : (Rows.fnRowOfRow.lifted == Try.prog.liftsFinal) = true := jfG
theorem dro_f8 : (Try.prog.make == some Rows.fnRowOfRow.make) = true := jfH
theorem dro_f9 : (Rows.fnRowOfRow.plainKeys == Try.prog.plainKeys) = true := jfI
set_option maxRecDepth 100000 in
theorem dro_joined : joinedFacts Try.prog 8 Try.f8 Rows.fnRowOfSpec Rows.fnRowOfRow = true := by
  unfold joinedFacts
  rw [jfA, jfB, jfC, jfD, jfE, jfF, dro_f1, dro_f2, dro_f3, dro_f4, dro_f5, dro_f7, dro_f8, dro_f9]
  kernel_rfl

theorem dro_holds : Rows.FnRowOfSaid :=
  OpenClaim.holds_of_wide 8 Try.f8 rfl rfl rfl rfl rfl rfl rfl ⟨rfl, rfl, rfl, rfl, rfl⟩ rfl rfl rfl rfl rfl dro_f6 Try.func8 dro_joined
    (of_decide_eq_true (by kernel_rfl)) (by unfold Func.isWrapper; first | (rw [if_pos (by decide +kernel)]; kernel_rfl) | (rw [if_neg (by decide +kernel)]; exact ⟨rfl, rfl⟩))
    (fun os started H enc _ => dro_lifted os started H enc)
#print axioms dro_holds
end Go.Proofs.Ytakimbknciffnaa
