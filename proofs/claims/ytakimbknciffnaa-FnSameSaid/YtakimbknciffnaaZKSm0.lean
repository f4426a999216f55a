/- The same designs have the same points: FnSame returns true, whatever the bytes are, and they read as before. No conditions. -/
import Derived.Test.YtakimbknciffnaaZD0
import Derived.Test.YtakimbknciffnaaZD1
import Derived.Test.YtakimbknciffnaaZD2
import Derived.Test.YtakimbknciffnaaZD3
import Derived.Test.YtakimbknciffnaaZD4
import Derived.Test.YtakimbknciffnaaZD5
import Derived.Test.YtakimbknciffnaaZD6
/- The program's CycMirror. Conditions: a point. -/
namespace Go.Proofs.Ytakimbknciffnaa
open Go.RowKit
set_option maxRecDepth 100000

def gmO2 (ok : (Nat → Int) → Bool) (mi : (Nat → Int) → Nat → Int) : Gam := ext (ext g0 83 (specV (fOkc ok))) 94 (specV (fMirO mi))
theorem treeO2 (ok : (Nat → Int) → Bool) (mi : (Nat → Int) → Nat → Int) (a : Nat → Int) : execF Try.prog (gmO2 ok mi) noLam 100 Try.f43 [.v (cyv a)] [] (packK 0)
    = bif !ok (w8 a) then Res.out Ex.ret [AV.tup [AV.agg [AV.v (Value.int IntKind.i64 (0 : Int)), AV.v (Value.int IntKind.i64 (0 : Int)), AV.v (Value.int IntKind.i64 (0 : Int)), AV.v (Value.int IntKind.i64 (0 : Int)), AV.v (Value.int IntKind.i64 (0 : Int)), AV.v (Value.int IntKind.i64 (0 : Int)), AV.v (Value.int IntKind.i64 (0 : Int)), AV.v (Value.int IntKind.i64 (0 : Int))], AV.v (Value.bool false)]] [] else bif !ok (w8 (mi (w8 a))) then Res.out Ex.ret [AV.tup [AV.agg [AV.v (Value.int IntKind.i64 (0 : Int)), AV.v (Value.int IntKind.i64 (0 : Int)), AV.v (Value.int IntKind.i64 (0 : Int)), AV.v (Value.int IntKind.i64 (0 : Int)), AV.v (Value.int IntKind.i64 (0 : Int)), AV.v (Value.int IntKind.i64 (0 : Int)), AV.v (Value.int IntKind.i64 (0 : Int)), AV.v (Value.int IntKind.i64 (0 : Int))], AV.v (Value.bool false)]] [] else Res.out Ex.ret [AV.tup [AV.agg [AV.v (Value.int IntKind.i64 (mi (w8 a) (0 : Nat))), AV.v (Value.int IntKind.i64 (mi (w8 a) (1 : Nat))), AV.v (Value.int IntKind.i64 (mi (w8 a) (2 : Nat))), AV.v (Value.int IntKind.i64 (mi (w8 a) (3 : Nat))), AV.v (Value.int IntKind.i64 (mi (w8 a) (4 : Nat))), AV.v (Value.int IntKind.i64 (mi (w8 a) (5 : Nat))), AV.v (Value.int IntKind.i64 (mi (w8 a) (6 : Nat))), AV.v (Value.int IntKind.i64 (mi (w8 a) (7 : Nat)))], AV.v (Value.bool true)]] [] := by kernel_rfl

theorem gmO2_ok : GamOk Try.prog (gmO2 (fun v => cyOk (cyOf v)) mirF) := by
  unfold gmO2
  rw [fOkc_eq, fMirO_eq]
  exact ext_ok (ext_ok g0_ok ok_cvI) ok_mirror
/-- A point: a point, and whether it is one. -/
def FcqO (v : (Nat → Int) → Nat → Int) (ok : (Nat → Int) → Bool) : List SA → Option FR
  | [.v (.agg ⟨[.int .i64 a0, .int .i64 a1, .int .i64 a2, .int .i64 a3, .int .i64 a4, .int .i64 a5, .int .i64 a6, .int .i64 a7]⟩)] => some { val := .tup [.agg (cyC (v (v8 a0 a1 a2 a3 a4 a5 a6 a7))), .v (.bool (ok (v8 a0 a1 a2 a3 a4 a5 a6 a7)))] }
  | _ => none
def okMi (a : Nat → Int) : Bool := cyOk (cyOf a) && cyOk (cyOf (mirF a))
def vMi (a : Nat → Int) : Nat → Int := bif okMi a then mirF a else fun _ => 0
theorem ok_cMi : SpecOk Try.prog 43 (specR [.val] (FcqO vMi okMi)) := by
  refine specR_hr gmO2_ok Try.func43 rfl fun sas fr hF ho => ?_
  unfold FcqO at hF
  split at hF
  · rename_i a0 a1 a2 a3 a4 a5 a6 a7
    cases hF
    refine ⟨[], noLam, 100, .nil, noLam' _, ?_⟩
    show GoodQ (execF Try.prog (gmO2 (fun v => cyOk (cyOf v)) mirF) noLam 100 Try.f43 [.v (cyv (v8 a0 a1 a2 a3 a4 a5 a6 a7))] [] (packK 0)) _
    rw [treeO2]
    generalize hA : v8 a0 a1 a2 a3 a4 a5 a6 a7 = a
    have hw : w8 a = a := by subst hA; rfl
    rw [hw]
    have fin : ∀ (v : Nat → Int) (o : Bool), vMi a = v → okMi a = o → GoodQ (.out .ret [.tup [.agg (cyC v), .v (.bool o)]] []) (GivR (abP [.val] [.v (.agg ⟨[.int .i64 a0, .int .i64 a1, .int .i64 a2, .int .i64 a3, .int .i64 a4, .int .i64 a5, .int .i64 a6, .int .i64 a7]⟩)] []) { val := .tup [.agg (cyC (vMi a)), .v (.bool (okMi a))] }) := by
      rintro v o rfl rfl
      exact good_out ⟨_, rfl, rfl, .nil⟩
    have bad : okMi a = false → GoodQ (.out .ret [.tup [.agg (cyC fun _ => 0), .v (.bool false)]] []) _ := fun e => fin _ _ (by rw [vMi, e]; rfl) e
    refine good_cond (fun q => ?_) fun q => ?_
    · have q' : (!cyOk (cyOf a)) = true := q
      exact bad (by rw [okMi, show cyOk (cyOf a) = false by simpa using q']; rfl)
    · have q' : (!cyOk (cyOf a)) = false := q
      have qa : cyOk (cyOf a) = true := by simpa using q'
      refine good_cond (fun q => ?_) fun q => ?_
      · have q' : (!cyOk (cyOf (mirF a))) = true := q
        exact bad (by rw [okMi, qa, show cyOk (cyOf (mirF a)) = false by simpa using q']; rfl)
      · have q' : (!cyOk (cyOf (mirF a))) = false := q
        have qm : cyOk (cyOf (mirF a)) = true := by simpa using q'
        have e : okMi a = true := by rw [okMi, qa, qm]; rfl
        exact fin (mirF a) true (by rw [vMi, e]; rfl) e
  · cases hF

end Go.Proofs.Ytakimbknciffnaa

/- 'changed', for DesignFaster: trees. Conditions: a list of wheels. -/
namespace Go.Proofs.Ytakimbknciffnaa
open Go.RowKit
set_option maxRecDepth 100000

abbrev fnFa : AV := .fn 86 [.ptr 1 0 0 0]
abbrev hpCFa (m : Nat) (f : Nat → Nat → Int) (t : TypeId) (x : Int) (n : Nat) (h : Nat → Nat → Int) : List AB := [.row false m 9 (row9 f) t, .cells [.v (i64 x)] 3, .row true n 9 (row9 h) 58]
abbrev stCFa (m n i : Nat) : List AV := [fnFa, .own 2 n, .sl 0 9 0 0 m none, .v (i64 m), .v (i64 i)]
theorem rndCFa (mi : (Nat → Int) → Nat → Int) (tu : (Nat → Int) → Int → Nat → Int) (m : Nat) (f : Nat → Nat → Int) (t : TypeId) (x : Int) (n : Nat) (h : Nat → Nat → Int) (i : Nat) : execC Try.prog (gmC mi tu) 100 noLam (loopAt 0 Try.f64) (mkT 0 32 ((lvCh .normal).zip (stCFa m n i))) (hpCFa m f t x n h) (leafV 32 lvCh 2)
    = bif decide ((↑i : Int) < (↑m : Int)) then needs [decide ((↑i : Int) < (↑m : Int)), decide ((0 : Nat) + Int.toNat (↑i : Int) < m), Nat.ble n n, Nat.ble (n + (1 : Nat)) (549755813888 : Nat)] (Res.out Ex.normal [AV.fn (86 : FuncId) [AV.ptr (1 : Nat) (0 : Nat) (0 : Nat) (0 : Nat)], AV.own (2 : Nat) (n + (1 : Nat)), AV.sl (0 : Nat) (9 : Nat) (0 : Nat) (0 : Nat) m none, AV.v (Value.int IntKind.i64 (↑m : Int)), AV.v (Value.int IntKind.i64 (IntKind.wrap IntKind.i64 ((↑i : Int) + (1 : Int))))] [AB.row false m (9 : Nat) (row9 f) t, AB.cells [AV.v (Value.int IntKind.i64 x)] (3 : TypeId), AB.row true (n + (1 : Nat)) (9 : Nat) (fun q ↦ [Value.int IntKind.i64 (bif Nat.blt q n then h q (0 : Nat) else IntKind.wrap IntKind.i64 (x * f ((0 : Nat) + Int.toNat (↑i : Int)) (0 : Nat))), Value.int IntKind.i64 (bif Nat.blt q n then h q (1 : Nat) else f ((0 : Nat) + Int.toNat (↑i : Int)) (1 : Nat)), Value.int IntKind.i64 (bif Nat.blt q n then h q (2 : Nat) else f ((0 : Nat) + Int.toNat (↑i : Int)) (2 : Nat)), Value.int IntKind.i64 (bif Nat.blt q n then h q (3 : Nat) else f ((0 : Nat) + Int.toNat (↑i : Int)) (3 : Nat)), Value.int IntKind.i64 (bif Nat.blt q n then h q (4 : Nat) else f ((0 : Nat) + Int.toNat (↑i : Int)) (4 : Nat)), Value.int IntKind.i64 (bif Nat.blt q n then h q (5 : Nat) else f ((0 : Nat) + Int.toNat (↑i : Int)) (5 : Nat)), Value.int IntKind.i64 (bif Nat.blt q n then h q (6 : Nat) else f ((0 : Nat) + Int.toNat (↑i : Int)) (6 : Nat)), Value.int IntKind.i64 (bif Nat.blt q n then h q (7 : Nat) else f ((0 : Nat) + Int.toNat (↑i : Int)) (7 : Nat)), Value.int IntKind.i64 (bif Nat.blt q n then h q (8 : Nat) else f ((0 : Nat) + Int.toNat (↑i : Int)) (8 : Nat))]) (58 : Nat)]) else Res.out (Ex.exit (0 : Nat)) [AV.own (2 : Nat) n] [AB.row false m (9 : Nat) (row9 f) t, AB.cells [AV.v (Value.int IntKind.i64 x)] (3 : TypeId), AB.row true n (9 : Nat) (row9 h) (58 : TypeId)] := by kernel_rfl

noncomputable abbrev lamCFa (m : Nat) (f : Nat → Nat → Int) (t : TypeId) (x : Int) (n : Nat) (h : Nat → Nat → Int) : Nat → Option Sum := oneL 0 (atS 32 (lvCh .normal) 2 (stCFa m 0 0) (hpCFa m f t x 0 (wfun [])) (fun K => K .normal (mkT 0 32 [(6, .own 2 n)]) (hpCFa m f t x n h)))
theorem treeYFa (okd : List Wh → Bool) (ti : List Wh → List Wh) (okt inw : List Wh → Bool) (m : Nat) (f : Nat → Nat → Int) (t : TypeId) (x : Int) (n : Nat) (h : Nat → Nat → Int) : execF Try.prog (gmChY okd ti okt inw) (lamCFa m f t x n h) 100 Try.f64 [.sl 0 9 0 0 m none, fnFa] [.row false m 9 (row9 f) t, .cells [.v (i64 x)] 3] (packK 2)
    = needs [Nat.ble ((0 : Nat) + m) m, allW m fun q ↦ row9 f ((0 : Nat) + q), decide (m ≤ (549755813888 : Nat))] (bif !okd (listW (itW fun q ↦ row9 f ((0 : Nat) + q)) m) then Res.out Ex.ret [AV.tup [AV.v (Value.slice none (0 : Nat) (0 : Nat)), AV.v (Value.bool false)]] [AB.row false m (9 : Nat) (row9 f) t, AB.cells [AV.v (Value.int IntKind.i64 x)] (3 : TypeId)] else needs [decide ((↑m : Int) ≤ (1099511627776 : Int)), chk ([AV.fn (86 : FuncId) [AV.ptr (1 : Nat) (0 : Nat) (0 : Nat) (0 : Nat)], AV.own (2 : Nat) (0 : Nat), AV.sl (0 : Nat) (9 : Nat) (0 : Nat) (0 : Nat) m none, AV.v (Value.int IntKind.i64 (↑m : Int)), AV.v (Value.int IntKind.i64 (0 : Int))] = stCFa m (0 : Nat) (0 : Nat) ∧ Hsim [AB.row false m (9 : Nat) (row9 f) t, AB.cells [AV.v (Value.int IntKind.i64 x)] (3 : TypeId), AB.row true (0 : Nat) (9 : Nat) (fun _ ↦ [Value.int IntKind.i64 (0 : Int), Value.int IntKind.i64 (0 : Int), Value.int IntKind.i64 (0 : Int), Value.int IntKind.i64 (0 : Int), Value.int IntKind.i64 (0 : Int), Value.int IntKind.i64 (0 : Int), Value.int IntKind.i64 (0 : Int), Value.int IntKind.i64 (0 : Int), Value.int IntKind.i64 (0 : Int)]) (58 : Nat)] (hpCFa m f t x (0 : Nat) (wfun []))), Nat.ble n n, allW n (row9 h), decide (n ≤ (274877906944 : Nat)), inw (listW (itW (row9 h)) n), okt (listW (itW (row9 h)) n)] (Res.out Ex.ret [AV.tup [AV.sl (2 : Nat) (9 : Nat) (0 : Nat) (0 : Nat) (List.length (ti (listW (itW (row9 h)) n))) (some (List.length (ti (listW (itW (row9 h)) n)))), AV.v (Value.bool true)]] [AB.row false m (9 : Nat) (row9 f) t, AB.cells [AV.v (Value.int IntKind.i64 x)] (3 : TypeId), AB.row true (List.length (ti (listW (itW (row9 h)) n))) (9 : Nat) (row9 (wfun (ti (listW (itW (row9 h)) n)))) (58 : TypeId)])) := by kernel_rfl

theorem treeNFa (okd : List Wh → Bool) (okt inw : List Wh → Bool) (m : Nat) (f : Nat → Nat → Int) (t : TypeId) (x : Int) (n : Nat) (h : Nat → Nat → Int) : execF Try.prog (gmChN okd okt inw) (lamCFa m f t x n h) 100 Try.f64 [.sl 0 9 0 0 m none, fnFa] [.row false m 9 (row9 f) t, .cells [.v (i64 x)] 3] (packK 2)
    = needs [Nat.ble ((0 : Nat) + m) m, allW m fun q ↦ row9 f ((0 : Nat) + q), decide (m ≤ (549755813888 : Nat))] (bif !okd (listW (itW fun q ↦ row9 f ((0 : Nat) + q)) m) then Res.out Ex.ret [AV.tup [AV.v (Value.slice none (0 : Nat) (0 : Nat)), AV.v (Value.bool false)]] [AB.row false m (9 : Nat) (row9 f) t, AB.cells [AV.v (Value.int IntKind.i64 x)] (3 : TypeId)] else needs [decide ((↑m : Int) ≤ (1099511627776 : Int)), chk ([AV.fn (86 : FuncId) [AV.ptr (1 : Nat) (0 : Nat) (0 : Nat) (0 : Nat)], AV.own (2 : Nat) (0 : Nat), AV.sl (0 : Nat) (9 : Nat) (0 : Nat) (0 : Nat) m none, AV.v (Value.int IntKind.i64 (↑m : Int)), AV.v (Value.int IntKind.i64 (0 : Int))] = stCFa m (0 : Nat) (0 : Nat) ∧ Hsim [AB.row false m (9 : Nat) (row9 f) t, AB.cells [AV.v (Value.int IntKind.i64 x)] (3 : TypeId), AB.row true (0 : Nat) (9 : Nat) (fun _ ↦ [Value.int IntKind.i64 (0 : Int), Value.int IntKind.i64 (0 : Int), Value.int IntKind.i64 (0 : Int), Value.int IntKind.i64 (0 : Int), Value.int IntKind.i64 (0 : Int), Value.int IntKind.i64 (0 : Int), Value.int IntKind.i64 (0 : Int), Value.int IntKind.i64 (0 : Int), Value.int IntKind.i64 (0 : Int)]) (58 : Nat)] (hpCFa m f t x (0 : Nat) (wfun []))), Nat.ble n n, allW n (row9 h), decide (n ≤ (274877906944 : Nat)), inw (listW (itW (row9 h)) n), !okt (listW (itW (row9 h)) n)] (Res.out Ex.ret [AV.tup [AV.v (Value.slice none (0 : Nat) (0 : Nat)), AV.v (Value.bool false)]] [AB.row false m (9 : Nat) (row9 f) t, AB.cells [AV.v (Value.int IntKind.i64 x)] (3 : TypeId)])) := by kernel_rfl

end Go.Proofs.Ytakimbknciffnaa

/- 'changed', for DesignFaster: its words. Conditions: a list of wheels. -/
namespace Go.Proofs.Ytakimbknciffnaa
open Go.RowKit
set_option maxRecDepth 100000

theorem treeEFa (okd : List Wh → Bool) (okt inw : List Wh → Bool) (m : Nat) (f : Nat → Nat → Int) (t : TypeId) (x : Int) : execF Try.prog (gmChN okd okt inw) (oneL 0 errS) 100 Try.f64 [.sl 0 9 0 0 m none, fnFa] [.row false m 9 (row9 f) t, .cells [.v (i64 x)] 3] (packK 2)
    = needs [Nat.ble ((0 : Nat) + m) m, allW m fun q ↦ row9 f ((0 : Nat) + q), decide (m ≤ (549755813888 : Nat))] (bif !okd (listW (itW fun q ↦ row9 f ((0 : Nat) + q)) m) then Res.out Ex.ret [AV.tup [AV.v (Value.slice none (0 : Nat) (0 : Nat)), AV.v (Value.bool false)]] [AB.row false m (9 : Nat) (row9 f) t, AB.cells [AV.v (Value.int IntKind.i64 x)] (3 : TypeId)] else needs [decide ((↑m : Int) ≤ (1099511627776 : Int))] Res.err) := by kernel_rfl

def chFa (x : Int) (w : Wh) : Wh := ⟨IntKind.wrap IntKind.i64 (x * w.s), w.r⟩
abbrev mpFa : Int → List Wh → List Wh := fun x L => L.map (chFa x)
theorem inwFa (x : Int) {L : List Wh} (h : okD L = true) : inW (L.map (chFa x)) := by
  intro w' hw'
  obtain ⟨w, hw, rfl⟩ := List.mem_map.1 hw'
  exact (valid_in h hw : cyIn w.r)
theorem sumCFa (m : Nat) (f : Nat → Nat → Int) (t : TypeId) (x : Int) (hm : m ≤ 2 ^ 38) (hok : ∀ w ∈ listW f m, inB w.r.f = true) :
    SumOk Try.prog 2 (.block 0 (.loop (loopAt 0 Try.f64))) (atS 32 (lvCh .normal) 2 (stCFa m 0 0) (hpCFa m f t x 0 (wfun [])) (fun K => K .normal (mkT 0 32 [(6, .own 2 m)]) (hpCFa m f t x m (wfun ((listW f m).map (chFa x)))))) := by
  refine for_at gmC_ok (n := 100) (m := 2) (lv := lvCh) (fun i => stCFa m i i) (fun i => hpCFa m f t x i (wfun ((listW f i).map (chFa x)))) (fun _ => True) m (fun _ => noLam) (lv3_ris rfl rfl rfl) (Nat.le_refl _) trivial fun K Q hk i hi him => ⟨noLam_ok _ _ _, ?_⟩
  rw [rndCFa]
  refine good_cond (fun c1 => ?_) fun c1 => ?_
  · have c1 := of_decide_eq_true c1
    have c1' : i < m := by omega
    rw [Int.toNat_natCast, Nat.zero_add, wr_in (x := (i : Int) + 1) (by omega)]
    refine good_needs (by simp only [ob_cons, ob_nil, and_true, decide_eq_true_eq, Nat.ble_eq]; omega) (good_out ⟨i + 1, ⟨rfl, c1', trivial⟩, rfl, ?_⟩)
    show Hsim _ (hpCFa m f t x (i + 1) (wfun ((listW f (i + 1)).map (chFa x))))
    rw [listW_succ, List.map_append]
    refine (.cons (ABeq.refl _) (.cons (ABeq.refl _) (.cons (ABeq.row fun q hq => ?_) .nil)))
    exact ch_row _ ((chFa x) (whOf (f i))) i (by rw [List.length_map, listW_length]) q hq
  · have c1 := of_decide_eq_false c1
    have : i = m := by omega
    subst this
    refine good_out ⟨_, Hsim.refl _, ?_⟩
    rw [if_pos rfl]
    exact hk

def FchYFa (okd : List Wh → Bool) (ti : List Wh → List Wh) (okt : List Wh → Bool) (mp : Int → List Wh → List Wh) : List AV → List AB → Option HR
  | [.sl 0 9 0 0 m none, .fn 86 [.ptr 1 0 0 0]], [.row false n 9 g t, .cells [.v (.int .i64 x)] 3] => some { val := .tup [.sl 2 9 0 0 (ti (mp x (listW (itW g) m))).length (some (ti (mp x (listW (itW g) m))).length), .v (.bool true)], out := [.row false n 9 g t, .cells [.v (.int .i64 x)] 3], new := newY (ti (mp x (listW (itW g) m))), obl := [Nat.beq n m, allW m g, decide (m ≤ 2 ^ 38), okd (listW (itW g) m) && okt (mp x (listW (itW g) m))] }
  | _, _ => none
def FchNFa (okd : List Wh → Bool) (okt : List Wh → Bool) (mp : Int → List Wh → List Wh) : List AV → List AB → Option HR
  | [.sl 0 9 0 0 m none, .fn 86 [.ptr 1 0 0 0]], [.row false n 9 g t, .cells [.v (.int .i64 x)] 3] => some { val := valN, out := [.row false n 9 g t, .cells [.v (.int .i64 x)] 3], obl := [Nat.beq n m, allW m g, decide (m ≤ 2 ^ 38), !(okd (listW (itW g) m) && okt (mp x (listW (itW g) m)))] }
  | _, _ => none
theorem ok_chYFa : SpecOk Try.prog 64 (specH [true] (FchYFa okD tidyL okT mpFa)) := by
  refine specH_ok gmChY_ok Try.func64 rfl fun avs H hr hF ho => ?_
  unfold FchYFa at hF
  split at hF
  · rename_i m n g t x
    cases hF
    simp only [ob_cons] at ho
    obtain ⟨h0, h1, h2, h3, _⟩ := ho
    have h0 := Nat.eq_of_beq_eq_true h0
    subst h0
    have hm := of_decide_eq_true h2
    rw [Bool.and_eq_true] at h3
    obtain ⟨hd, ht⟩ := h3
    have hin := inwFa x hd
    have hs := sumCFa n (itW g) t x hm (fun w hw => valid_inB hd hw)
    refine ⟨[.row false n 9 (row9 (itW g)) t, .cells [.v (i64 x)] 3], lamCFa n (itW g) t x n (wfun ((listW (itW g) n).map (chFa x))), 100, .cons (ABeq.row fun j hj => allW_get h1 j hj) (.cons rfl .nil), lam1 (by kernel_rfl) hs, ?_⟩
    show GoodQ (execF Try.prog (gmChY okD tidyL okT inWB) (lamCFa n (itW g) t x n (wfun ((listW (itW g) n).map (chFa x)))) 100 Try.f64 [.sl 0 9 0 0 n none, fnFa] [.row false n 9 (row9 (itW g)) t, .cells [.v (i64 x)] 3] (packK 2)) _
    rw [treeYFa, row0, listW_itW, listW_self ((listW (itW g) n).map (chFa x)) n (by rw [List.length_map, listW_length])]
    refine good_needs (by simp only [ob_cons, ob_nil, and_true, decide_eq_true_eq, Nat.ble_eq, allW_row, true_and]; omega) (good_false (by rw [hd]; rfl) (good_needs ?_ (good_out ⟨rfl, .cons (ABeq.row fun j hj => (allW_get h1 j hj).symm) (.cons rfl (Hsim.refl _))⟩)))
    simp only [ob_cons, ob_nil, and_true, allW_row]
    exact ⟨decide_eq_true (by omega), chk_of ⟨rfl, (.cons (ABeq.refl _) (.cons (ABeq.refl _) (.cons (ABeq.row fun j hj => absurd hj (Nat.not_lt_zero _)) .nil)))⟩, by simp, trivial, decide_eq_true (by omega), chk_of hin, ht⟩
  · cases hF
theorem ok_chNFa : SpecOk Try.prog 64 (specH [true] (FchNFa okD okT mpFa)) := by
  refine specH_ok gmChN_ok Try.func64 rfl fun avs H hr hF ho => ?_
  unfold FchNFa at hF
  split at hF
  · rename_i m n g t x
    cases hF
    simp only [ob_cons] at ho
    obtain ⟨h0, h1, h2, h3, _⟩ := ho
    have h0 := Nat.eq_of_beq_eq_true h0
    subst h0
    have hm := of_decide_eq_true h2
    cases hd : okD (listW (itW g) n) with
    | false =>
      have hz : SumOk Try.prog 2 (.block 0 (.loop (loopAt 0 Try.f64))) errS := errS_ok
      refine ⟨[.row false n 9 (row9 (itW g)) t, .cells [.v (i64 x)] 3], oneL 0 errS, 100, .cons (ABeq.row fun j hj => allW_get h1 j hj) (.cons rfl .nil), lam1 (by kernel_rfl) hz, ?_⟩
      show GoodQ (execF Try.prog (gmChN okD okT inWB) (oneL 0 errS) 100 Try.f64 [.sl 0 9 0 0 n none, fnFa] [.row false n 9 (row9 (itW g)) t, .cells [.v (i64 x)] 3] (packK 2)) _
      rw [treeEFa, row0, listW_itW]
      exact good_needs (by simp only [ob_cons, ob_nil, and_true, decide_eq_true_eq, Nat.ble_eq, allW_row, true_and]; omega) (good_true (by rw [hd]; rfl) (good_out ⟨rfl, .cons (ABeq.row fun j hj => (allW_get h1 j hj).symm) (.cons rfl .nil)⟩))
    | true =>
    rw [hd, Bool.true_and] at h3
    have ht : okT ((listW (itW g) n).map (chFa x)) = false := by simpa using h3
    have hin := inwFa x hd
    have hs := sumCFa n (itW g) t x hm (fun w hw => valid_inB hd hw)
    refine ⟨[.row false n 9 (row9 (itW g)) t, .cells [.v (i64 x)] 3], lamCFa n (itW g) t x n (wfun ((listW (itW g) n).map (chFa x))), 100, .cons (ABeq.row fun j hj => allW_get h1 j hj) (.cons rfl .nil), lam1 (by kernel_rfl) hs, ?_⟩
    show GoodQ (execF Try.prog (gmChN okD okT inWB) (lamCFa n (itW g) t x n (wfun ((listW (itW g) n).map (chFa x)))) 100 Try.f64 [.sl 0 9 0 0 n none, fnFa] [.row false n 9 (row9 (itW g)) t, .cells [.v (i64 x)] 3] (packK 2)) _
    rw [treeNFa, row0, listW_itW, listW_self ((listW (itW g) n).map (chFa x)) n (by rw [List.length_map, listW_length])]
    refine good_needs (by simp only [ob_cons, ob_nil, and_true, decide_eq_true_eq, Nat.ble_eq, allW_row, true_and]; omega) (good_false (by rw [hd]; rfl) (good_needs ?_ (good_out ⟨rfl, .cons (ABeq.row fun j hj => (allW_get h1 j hj).symm) (.cons rfl .nil)⟩)))
    simp only [ob_cons, ob_nil, and_true, allW_row]
    exact ⟨decide_eq_true (by omega), chk_of ⟨rfl, (.cons (ABeq.refl _) (.cons (ABeq.refl _) (.cons (ABeq.row fun j hj => absurd hj (Nat.not_lt_zero _)) .nil)))⟩, by simp, trivial, decide_eq_true (by omega), chk_of hin, by rw [ht]; rfl⟩
  · cases hF

end Go.Proofs.Ytakimbknciffnaa

/- The program's DesignFaster. Conditions: a list of wheels. -/
namespace Go.Proofs.Ytakimbknciffnaa
open Go.RowKit
set_option maxRecDepth 100000

/-- The list is a design, and what comes of it too. -/
def yesFa (x : Int) (L : List Wh) : Bool := inR x (-20) 20 && (okD L && okT (L.map (chFa x)))
def FdeYFa (yes : Int → List Wh → Bool) (ti : List Wh → List Wh) (mp : Int → List Wh → List Wh) : List SA → Option FR
  | [.row m g, .v (.int .i64 x)] => some { val := valY (ti (mp x (listW (itW g) m))), new := newY (ti (mp x (listW (itW g) m))), obl := [allW m g, decide (m ≤ 2 ^ 38), yes x (listW (itW g) m)] }
  | _ => none
def FdeNFa (yes : Int → List Wh → Bool) : List SA → Option FR
  | [.row m g, .v (.int .i64 x)] => some { val := valN, obl := [allW m g, decide (m ≤ 2 ^ 38), !yes x (listW (itW g) m)] }
  | _ => none
theorem treeDYFa (okd : List Wh → Bool) (ti : List Wh → List Wh) (okt : List Wh → Bool) (mp : Int → List Wh → List Wh) (m : Nat) (f : Nat → Nat → Int) (x : Int) : execF Try.prog (ext gm_within 64 (specH [true] (FchYFa okd ti okt mp))) noLam 100 Try.f32 [.sl 0 9 0 0 m none, .v (i64 x)] [.row false m 9 (row9 f) 58] (packK 1)
    = bif !inR x (-20 : Int) (20 : Int) then Res.out Ex.ret [AV.tup [AV.v (Value.slice none (0 : Nat) (0 : Nat)), AV.v (Value.bool false)]] [AB.row false m (9 : Nat) (row9 f) (58 : TypeId)] else needs [Nat.beq m m, allW m (row9 f), decide (m ≤ (274877906944 : Nat)), okd (listW (itW (row9 f)) m) && okt (mp x (listW (itW (row9 f)) m))] (Res.out Ex.ret [AV.tup [AV.sl (1 : Nat) (9 : Nat) (0 : Nat) (0 : Nat) (List.length (ti (mp x (listW (itW (row9 f)) m)))) (some (List.length (ti (mp x (listW (itW (row9 f)) m))))), AV.v (Value.bool true)]] [AB.row false m (9 : Nat) (row9 f) (58 : TypeId), AB.row true (List.length (ti (mp x (listW (itW (row9 f)) m)))) (9 : Nat) (row9 (wfun (ti (mp x (listW (itW (row9 f)) m))))) (58 : TypeId)]) := by kernel_rfl

theorem treeDNFa (okd : List Wh → Bool) (okt : List Wh → Bool) (mp : Int → List Wh → List Wh) (m : Nat) (f : Nat → Nat → Int) (x : Int) : execF Try.prog (ext gm_within 64 (specH [true] (FchNFa okd okt mp))) noLam 100 Try.f32 [.sl 0 9 0 0 m none, .v (i64 x)] [.row false m 9 (row9 f) 58] (packK 1)
    = bif !inR x (-20 : Int) (20 : Int) then Res.out Ex.ret [AV.tup [AV.v (Value.slice none (0 : Nat) (0 : Nat)), AV.v (Value.bool false)]] [AB.row false m (9 : Nat) (row9 f) (58 : TypeId)] else needs [Nat.beq m m, allW m (row9 f), decide (m ≤ (274877906944 : Nat)), !(okd (listW (itW (row9 f)) m) && okt (mp x (listW (itW (row9 f)) m)))] (Res.out Ex.ret [AV.tup [AV.v (Value.slice none (0 : Nat) (0 : Nat)), AV.v (Value.bool false)]] [AB.row false m (9 : Nat) (row9 f) (58 : TypeId)]) := by kernel_rfl

theorem ok_deYFa : SpecOk Try.prog 32 (specR md_wv (FdeYFa yesFa tidyL mpFa)) := by
  refine specR_hr (ext_ok gm_within_ok ok_chYFa) Try.func32 rfl fun sas fr hF ho => ?_
  unfold FdeYFa at hF
  split at hF
  · rename_i m g x
    cases hF
    simp only [ob_cons] at ho
    obtain ⟨h1, h2, h3, _⟩ := ho
    have hm := of_decide_eq_true h2
    refine ⟨[.row false m 9 (row9 (itW g)) 58], noLam, 100, .cons (ABeq.row fun j hj => allW_get h1 j hj) .nil, noLam' _, ?_⟩
    show GoodQ (execF Try.prog (ext gm_within 64 (specH [true] (FchYFa okD tidyL okT mpFa))) noLam 100 Try.f32 [.sl 0 9 0 0 m none, .v (i64 x)] [.row false m 9 (row9 (itW g)) 58] (packK 1)) _
    rw [treeDYFa]
    rw [yesFa, Bool.and_eq_true] at h3
    obtain ⟨hx, h3⟩ := h3
    have hx2 := inR_iff.1 hx
    exact good_false (by rw [hx]; rfl) (good_needs (by simp only [ob_cons, ob_nil, and_true, beq_me, allW_row, listW_itW, true_and]; exact ⟨decide_eq_true hm, h3⟩) (good_out ⟨_, rfl, rfl, .cons (ABeq.row fun j hj => (allW_get h1 j hj).symm) (Hsim.refl _)⟩))
  · cases hF
theorem ok_deNFa : SpecOk Try.prog 32 (specR md_wv (FdeNFa yesFa)) := by
  refine specR_hr (ext_ok gm_within_ok ok_chNFa) Try.func32 rfl fun sas fr hF ho => ?_
  unfold FdeNFa at hF
  split at hF
  · rename_i m g x
    cases hF
    simp only [ob_cons] at ho
    obtain ⟨h1, h2, h3, _⟩ := ho
    have hm := of_decide_eq_true h2
    refine ⟨[.row false m 9 (row9 (itW g)) 58], noLam, 100, .cons (ABeq.row fun j hj => allW_get h1 j hj) .nil, noLam' _, ?_⟩
    show GoodQ (execF Try.prog (ext gm_within 64 (specH [true] (FchNFa okD okT mpFa))) noLam 100 Try.f32 [.sl 0 9 0 0 m none, .v (i64 x)] [.row false m 9 (row9 (itW g)) 58] (packK 1)) _
    rw [treeDNFa]
    cases hx : inR x (-20) 20 with
    | false => exact good_true rfl (good_out ⟨_, rfl, rfl, .cons (ABeq.row fun j hj => (allW_get h1 j hj).symm) .nil⟩)
    | true =>
      rw [yesFa, hx, Bool.true_and] at h3
      have hx2 := inR_iff.1 hx
      exact good_false rfl (good_needs (by simp only [ob_cons, ob_nil, and_true, beq_me, allW_row, listW_itW, true_and]; exact ⟨decide_eq_true hm, h3⟩) (good_out ⟨_, rfl, rfl, .cons (ABeq.row fun j hj => (allW_get h1 j hj).symm) .nil⟩))
  · cases hF

end Go.Proofs.Ytakimbknciffnaa

/- The program's DesignFaster, as a list or none, read as one. Conditions: a list of wheels. -/
namespace Go.Proofs.Ytakimbknciffnaa
open Go.RowKit
set_option maxRecDepth 100000

theorem chFa_same {x : Int} {w : Wh} : chFa x w = chE x 0 0 false w := by
  have e2 : (IntKind.wrap IntKind.i64 ((0 : Int) + IntKind.wrap IntKind.i64 (0 * w.s)) % 24).toNat = 0 := by rw [Int.zero_mul]; rfl
  rw [chFa, chE, e2]
  rfl
def yF (x : Int) (L : List Wh) : Bool := inR x (-20) 20 && eachOk x 0 0 false L
def tF (x : Int) (L : List Wh) : List Wh := bif inR x (-20) 20 then eachL x 0 0 false L else []
theorem ok_UFa : SpecOk Try.prog 32 (specU md_wv (UO1 yF tF)) := by
  refine specU_ok rfl ok_deYFa ok_deNFa fun sas u hu ho => ?_
  unfold UO1 at hu
  split at hu
  · rename_i m g x
    cases hu
    simp only [ob_cons] at ho
    obtain ⟨h1, h2, _⟩ := ho
    refine ⟨rfl, ?_⟩
    have hM : (listW (itW g) m).map (chE x 0 0 false) = mpFa x (listW (itW g) m) := map_same fun w _ => chFa_same.symm
    cases hv : yesFa x (listW (itW g) m) with
    | true =>
      left
      have hv2 := hv
      rw [yesFa, Bool.and_eq_true, Bool.and_eq_true] at hv2
      obtain ⟨hx, hd, ht⟩ := hv2
      obtain ⟨hE, hO⟩ := each_yes (sp := x) (tn := 0) (la := 0) (mir := false) (by rw [eachP, hd]; rfl) hM ht
      refine ⟨by show yF x _ = true; rw [yF, hx, hO]; rfl, [allW m g, decide (m ≤ 2 ^ 38), yesFa x (listW (itW g) m)], ?_, ?_⟩
      · show FdeYFa yesFa tidyL mpFa [.row m g, .v (.int .i64 x)] = some { val := valY (tF x (listW (itW g) m)), new := newY (tF x (listW (itW g) m)), obl := [allW m g, decide (m ≤ 2 ^ 38), yesFa x (listW (itW g) m)] }
        rw [show tF x (listW (itW g) m) = tidyL (mpFa x (listW (itW g) m)) by rw [tF, hx]; exact hE]
        rfl
      · simp only [ob_cons, ob_nil, and_true]
        exact ⟨h1, h2, hv⟩
    | false =>
      right
      have key : yF x (listW (itW g) m) = false ∧ tF x (listW (itW g) m) = [] := by
        cases hx : inR x (-20) 20 with
        | false => exact ⟨by rw [yF, hx]; rfl, by rw [tF, hx]; rfl⟩
        | true =>
          obtain ⟨hE, hO⟩ := each_no (sp := x) (tn := 0) (la := 0) (mir := false) (L := listW (itW g) m) fun hp => by
            rw [eachP, Bool.and_eq_true] at hp
            rw [hM]
            rw [yesFa, hx, hp.1, Bool.true_and, Bool.true_and] at hv
            exact hv
          exact ⟨by rw [yF, hx, hO]; rfl, by rw [tF, hx]; exact hE⟩
      refine ⟨key.1, key.2, [allW m g, decide (m ≤ 2 ^ 38), !yesFa x (listW (itW g) m)], rfl, ?_⟩
      simp only [ob_cons, ob_nil, and_true]
      exact ⟨h1, h2, by rw [hv]; rfl⟩
  · cases hu

end Go.Proofs.Ytakimbknciffnaa

/- Plain laws of designs: turned, later, back, mirrored, faster. No program, no conditions. -/
namespace Go.Proofs.Ytakimbknciffnaa
open Go.RowKit

theorem lin_tn {φ : Int → (Nat → Int) → Int} (h : Lin φ) (g c : Int → Int) : Lin fun s f => φ (g s) (tnI f (c s)) := fun s f f' => by
  show φ (g s) (tnI (fun k => f k + f' k) (c s)) = _
  rw [tnI_add]
  exact h _ _ _
theorem loc_tn {φ : Int → (Nat → Int) → Int} (h : Loc φ) (g c : Int → Int) : Loc fun s f => φ (g s) (tnI f (c s)) := fun _ _ _ hf => h _ _ _ (tnI_congr hf _)
theorem tnI_mulmod (f : Nat → Int) (a s : Int) : tnI f (a % 24 * s) = tnI f (a * s) := tnI_mod f (by rw [Int.mul_emod, Int.emod_emod, ← Int.mul_emod])
theorem each_tidy {sp tn la : Int} {mir : Bool} {L : List Wh} (h1 : -20 ≤ sp ∧ sp ≤ 20) (h : eachOk sp tn la mir L = true) : isTidy (eachL sp tn la mir L) := (each_spec h1 h).2.2.2.1
theorem tnI_24 (f : Nat → Int) {n : Int} (h : n % 24 = 0) : ∀ k, k < 8 → tnI f n k = f k := fun k _ => by
  rw [tnI, h]
  rfl
/-- Turned on to a whole turn. -/
theorem law_turned {L : List Wh} {t x : Int} (hx : (t + x) % 24 = 0) (h1 : eachOk 1 t 0 false L = true) (h2 : eachOk 1 x 0 false (eachL 1 t 0 false L) = true) (h3 : yI L = true) : eachL 1 x 0 false (eachL 1 t 0 false L) = tI L := by
  refine tidy_unique (each_tidy (by omega) h2) (tI_spec h3).2.1 fun s k hk => ?_
  rw [(tI_spec h3).2.2 _ (atSp_lin s k), each_lin (by omega) h2 (atSp_lin s k) (atSp_loc s hk), each_lin (by omega) h1 (lin_tn (atSp_lin s k) (fun s => 1 * s) fun s => x + 0 * s) (loc_tn (atSp_loc s hk) (fun s => 1 * s) fun s => x + 0 * s)]
  refine linS_congr fun w _ => ?_
  show atSp s k (1 * (1 * w.s)) (tnI (tnI w.r.f (t + 0 * w.s)) (x + 0 * (1 * w.s))) = atSp s k w.s w.r.f
  rw [show (1 : Int) * (1 * w.s) = w.s by omega, show t + 0 * w.s = t by omega, show x + 0 * (1 * w.s) = x by omega]
  refine atSp_loc s hk _ _ _ fun j hj => ?_
  rw [tnI_tnI _ _ _ j hj, tnI_24 _ hx j hj]
/-- Later. -/
theorem law_later {L : List Wh} {t : Int} {k : Nat} (hk : k < 8) (h1 : eachOk 1 0 t false L = true) : dAt (eachL 1 0 t false L) 5 k = dAt L ((5 + t) % 24) k := by
  refine (each_lin (by omega) h1 (atT_lin 5 k) (atT_loc 5 hk)).trans (linS_congr fun w _ => ?_)
  show tnI (tnI w.r.f (0 + t * w.s)) (5 * (1 * w.s)) k = tnI w.r.f ((5 + t) % 24 * w.s) k
  rw [tnI_tnI _ _ _ k hk, tnI_mulmod, show 0 + t * w.s + 5 * (1 * w.s) = (5 + t) * w.s by rw [Int.add_mul]; omega]
/-- Back and back. -/
theorem law_back {L : List Wh} (h1 : eachOk (-1) 0 0 false L = true) (h2 : eachOk (-1) 0 0 false (eachL (-1) 0 0 false L) = true) (h3 : yI L = true) : eachL (-1) 0 0 false (eachL (-1) 0 0 false L) = tI L := by
  refine tidy_unique (each_tidy (by omega) h2) (tI_spec h3).2.1 fun s k hk => ?_
  rw [(tI_spec h3).2.2 _ (atSp_lin s k), each_lin (by omega) h2 (atSp_lin s k) (atSp_loc s hk), each_lin (by omega) h1 (lin_tn (atSp_lin s k) (fun s => -1 * s) fun s => 0 + 0 * s) (loc_tn (atSp_loc s hk) (fun s => -1 * s) fun s => 0 + 0 * s)]
  refine linS_congr fun w _ => ?_
  show atSp s k (-1 * (-1 * w.s)) (tnI (tnI w.r.f (0 + 0 * w.s)) (0 + 0 * (-1 * w.s))) = atSp s k w.s w.r.f
  rw [show (-1 : Int) * (-1 * w.s) = w.s by omega, show 0 + 0 * w.s = 0 by omega, show 0 + 0 * (-1 * w.s) = 0 by omega]
  rfl
theorem law_back_at {L : List Wh} {k : Nat} (hk : k < 8) (h1 : eachOk (-1) 0 0 false L = true) : dAt (eachL (-1) 0 0 false L) 5 k = dAt L 19 k := by
  refine (each_lin (by omega) h1 (atT_lin 5 k) (atT_loc 5 hk)).trans (linS_congr fun w _ => ?_)
  show tnI (tnI w.r.f (0 + 0 * w.s)) (5 * (-1 * w.s)) k = tnI w.r.f (19 * w.s) k
  rw [show 0 + 0 * w.s = 0 by omega, tnI_zero, tnI_mod w.r.f (m := 5 * (-1 * w.s)) (n := 19 * w.s) (by omega)]
/-- A mirrored point turned. -/
theorem mir_step (f : Nat → Int) : ∀ k, k < 8 → stZ (mirZ (stZ f)) k = mirZ f k := by
  refine forall8 ?_ ?_ ?_ ?_ ?_ ?_ ?_ ?_ <;> simp only [stZ, mirZ] <;> omega
theorem mir_tn (f : Nat → Int) : ∀ (n k : Nat), k < 8 → tnZ (mirZ (tnZ f n)) n k = mirZ f k
  | 0, _, _ => rfl
  | n + 1, k, hk => by
    have e : tnZ (mirZ (stZ (tnZ f n))) (n + 1) k = tnZ (stZ (mirZ (stZ (tnZ f n)))) n k := by
      rw [show n + 1 = 1 + n by omega, ← tnZ_tnZ]
      rfl
    show tnZ (mirZ (stZ (tnZ f n))) (n + 1) k = mirZ f k
    rw [e, tnZ_congr (mir_step (tnZ f n)) n k hk]
    exact mir_tn f n k hk
theorem mir_tnI (f : Nat → Int) (n : Int) (k : Nat) (hk : k < 8) : mirZ (tnI f n) k = tnI (mirZ f) (-n) k := by
  have h := tnI_congr (mir_tn f (n % 24).toNat) (-n) k hk
  rw [← h]
  show _ = tnI (tnZ (mirZ (tnI f n)) (n % 24).toNat) (-n) k
  have e : tnZ (mirZ (tnI f n)) (n % 24).toNat = tnI (mirZ (tnI f n)) n := rfl
  rw [e, tnI_tnI _ _ _ k hk, tnI_24 _ (by omega) k hk]
theorem linS_mir {φ : Nat → Int → (Nat → Int) → Int} : ∀ (L : List Wh) (k : Nat), mirZ (fun k => linS (φ k) L) k = linS (fun s f => mirZ (fun k => φ k s f) k) L
  | [], k => by
    show mirZ (fun _ => 0) k = 0
    unfold mirZ
    split <;> rfl
  | w :: l, k => by
    show mirZ (fun k => φ k w.s w.r.f + linS (φ k) l) k = _
    rw [mir_add]
    show mirZ (fun k => φ k w.s w.r.f) k + mirZ (fun k => linS (φ k) l) k = _
    rw [linS_mir l k]
    rfl
theorem law_mirror {L : List Wh} {k : Nat} (hk : k < 8) (h1 : eachOk (-1) 0 0 true L = true) : dAt (eachL (-1) 0 0 true L) 5 k = mirZ (dAt L 5) k := by
  refine (each_linM (by omega) h1 (atT_lin 5 k) (atT_loc 5 hk)).trans ?_
  refine Eq.trans (linS_congr fun w _ => ?_) (linS_mir (φ := atT 5) L k).symm
  show tnI (tnI (mirZ w.r.f) (0 + 0 * w.s)) (5 * (-1 * w.s)) k = mirZ (tnI w.r.f (5 * w.s)) k
  rw [mir_tnI _ _ k hk, show 0 + 0 * w.s = 0 by omega, tnI_zero, show 5 * (-1 * w.s) = -(5 * w.s) by omega]
theorem vMi_exact {a : Nat → Int} (h : okMi a = true) : ∀ k, k < 8 → vMi a k = mirZ a k := fun k hk => by
  rw [vMi, h, cond_true]
  rw [okMi, Bool.and_eq_true] at h
  have hb : bd8 1000000 a := fun k hk => by
    have := cyOk_bd h.1 k hk
    rwa [cyOf_f8 _ k hk] at this
  exact W8 (mir_bd hb) (by omega) k hk
/-- Faster. -/
theorem law_faster {L : List Wh} {n : Int} {k : Nat} (hk : k < 8) (h1 : yF n L = true) : dAt (tF n L) 1 k = dAt L (n % 24) k := by
  rw [yF, Bool.and_eq_true] at h1
  have hn := inR_iff.1 h1.1
  have e : tF n L = eachL n 0 0 false L := by rw [tF, h1.1]; rfl
  rw [e]
  refine (each_lin (by omega) h1.2 (atT_lin 1 k) (atT_loc 1 hk)).trans (linS_congr fun w _ => ?_)
  show tnI (tnI w.r.f (0 + 0 * w.s)) (1 * (n * w.s)) k = tnI w.r.f (n % 24 * w.s) k
  rw [tnI_mulmod, show 0 + 0 * w.s = 0 by omega, tnI_zero, Int.one_mul]

end Go.Proofs.Ytakimbknciffnaa

/- DrawDesignSame: two lists of wheels. Conditions: bytes, at most 2^21. -/
namespace Go.Proofs.Ytakimbknciffnaa
open Go.RowKit
set_option maxRecDepth 100000

def gmDrS (tf tp : Nat → (Nat → Int) → Int → Int) (dl : Nat → (Nat → Int) → Int → List Wh) (dp : Nat → (Nat → Int) → Int → Int) (pk : Nat → (Nat → Int) → Int → Int → Int) (yI : List Wh → Bool) (tI : List Wh → List Wh) : Gam := ext (gmDr tf tp dl dp pk) 71 (specR md_ws (FOw yI tI))
theorem treeRSm (tf tp : Nat → (Nat → Int) → Int → Int) (dl : Nat → (Nat → Int) → Int → List Wh) (dp : Nat → (Nat → Int) → Int → Int) (pk : Nat → (Nat → Int) → Int → Int → Int) (yI : List Wh → Bool) (tI : List Wh → List Wh) (m : Nat) (b : Nat → Int) : execF Try.prog (gmDrS tf tp dl dp pk yI tI) noLam 100 Try.f20 [.sl 0 1 0 0 m none] [.row false m 1 (rowB b) 5] (packK 1)
    = bif decide ((↑m : Int) > (2000 : Int)) then needs [decide ((2000 : Int) ≤ (↑m : Int)), decide ((↑m : Int) ≤ (↑m : Int)), okB m (rowB b), decide (Int.toNat ((2000 : Int) - (0 : Int)) ≤ m), decide ((0 : Nat) < m), decide ((0 : Nat) < m), Nat.ble (List.length (dl (Int.toNat ((2000 : Int) - (0 : Int))) (itB (rowB b)) (0 : Int))) (List.length (dl (Int.toNat ((2000 : Int) - (0 : Int))) (itB (rowB b)) (0 : Int))), allW (List.length (dl (Int.toNat ((2000 : Int) - (0 : Int))) (itB (rowB b)) (0 : Int))) (row9 (wfun (dl (Int.toNat ((2000 : Int) - (0 : Int))) (itB (rowB b)) (0 : Int)))), decide (List.length (dl (Int.toNat ((2000 : Int) - (0 : Int))) (itB (rowB b)) (0 : Int)) ≤ (274877906944 : Nat))] (bif yI (listW (itW (row9 (wfun (dl (Int.toNat ((2000 : Int) - (0 : Int))) (itB (rowB b)) (0 : Int))))) (List.length (dl (Int.toNat ((2000 : Int) - (0 : Int))) (itB (rowB b)) (0 : Int)))) then needs [okB m (rowB b), decide (Int.toNat ((2000 : Int) - (0 : Int)) ≤ m), decide ((0 : Int) ≤ dp (Int.toNat ((2000 : Int) - (0 : Int))) (itB (rowB b)) (0 : Int)), decide (dp (Int.toNat ((2000 : Int) - (0 : Int))) (itB (rowB b)) (0 : Int) ≤ (1073741824 : Int)), decide ((0 : Nat) < m)] (bif pk (Int.toNat ((2000 : Int) - (0 : Int))) (itB (rowB b)) (dp (Int.toNat ((2000 : Int) - (0 : Int))) (itB (rowB b)) (0 : Int)) (2 : Int) == (0 : Int) then Res.out Ex.ret [AV.tup [AV.own (1 : Nat) (List.length (dl (Int.toNat ((2000 : Int) - (0 : Int))) (itB (rowB b)) (0 : Int))), AV.own (2 : Nat) (List.length (tI (listW (itW (row9 (wfun (dl (Int.toNat ((2000 : Int) - (0 : Int))) (itB (rowB b)) (0 : Int))))) (List.length (dl (Int.toNat ((2000 : Int) - (0 : Int))) (itB (rowB b)) (0 : Int))))))]] [AB.row false m (1 : Nat) (rowB b) (5 : TypeId), AB.row true (List.length (dl (Int.toNat ((2000 : Int) - (0 : Int))) (itB (rowB b)) (0 : Int))) (9 : Nat) (row9 (wfun (dl (Int.toNat ((2000 : Int) - (0 : Int))) (itB (rowB b)) (0 : Int)))) (58 : TypeId), AB.row true (List.length (tI (listW (itW (row9 (wfun (dl (Int.toNat ((2000 : Int) - (0 : Int))) (itB (rowB b)) (0 : Int))))) (List.length (dl (Int.toNat ((2000 : Int) - (0 : Int))) (itB (rowB b)) (0 : Int)))))) (9 : Nat) (row9 (wfun (tI (listW (itW (row9 (wfun (dl (Int.toNat ((2000 : Int) - (0 : Int))) (itB (rowB b)) (0 : Int))))) (List.length (dl (Int.toNat ((2000 : Int) - (0 : Int))) (itB (rowB b)) (0 : Int))))))) (58 : TypeId)] else needs [okB m (rowB b), decide (Int.toNat ((2000 : Int) - (0 : Int)) ≤ m), decide ((0 : Int) ≤ dp (Int.toNat ((2000 : Int) - (0 : Int))) (itB (rowB b)) (0 : Int) + (1 : Int)), decide (dp (Int.toNat ((2000 : Int) - (0 : Int))) (itB (rowB b)) (0 : Int) + (1 : Int) ≤ (134217728 : Int)), decide ((0 : Nat) < m), decide ((0 : Nat) < m)] (Res.out Ex.ret [AV.tup [AV.own (1 : Nat) (List.length (dl (Int.toNat ((2000 : Int) - (0 : Int))) (itB (rowB b)) (0 : Int))), AV.own (2 : Nat) (List.length (dl (Int.toNat ((2000 : Int) - (0 : Int))) (itB (rowB b)) (dp (Int.toNat ((2000 : Int) - (0 : Int))) (itB (rowB b)) (0 : Int) + (1 : Int))))]] [AB.row false m (1 : Nat) (rowB b) (5 : TypeId), AB.row true (List.length (dl (Int.toNat ((2000 : Int) - (0 : Int))) (itB (rowB b)) (0 : Int))) (9 : Nat) (row9 (wfun (dl (Int.toNat ((2000 : Int) - (0 : Int))) (itB (rowB b)) (0 : Int)))) (58 : TypeId), AB.row true (List.length (dl (Int.toNat ((2000 : Int) - (0 : Int))) (itB (rowB b)) (dp (Int.toNat ((2000 : Int) - (0 : Int))) (itB (rowB b)) (0 : Int) + (1 : Int)))) (9 : Nat) (row9 (wfun (dl (Int.toNat ((2000 : Int) - (0 : Int))) (itB (rowB b)) (dp (Int.toNat ((2000 : Int) - (0 : Int))) (itB (rowB b)) (0 : Int) + (1 : Int))))) (58 : TypeId)])) else needs [okB m (rowB b), decide (Int.toNat ((2000 : Int) - (0 : Int)) ≤ m), decide ((0 : Int) ≤ dp (Int.toNat ((2000 : Int) - (0 : Int))) (itB (rowB b)) (0 : Int)), decide (dp (Int.toNat ((2000 : Int) - (0 : Int))) (itB (rowB b)) (0 : Int) ≤ (134217728 : Int)), decide ((0 : Nat) < m), decide ((0 : Nat) < m)] (Res.out Ex.ret [AV.tup [AV.own (1 : Nat) (List.length (dl (Int.toNat ((2000 : Int) - (0 : Int))) (itB (rowB b)) (0 : Int))), AV.own (2 : Nat) (List.length (dl (Int.toNat ((2000 : Int) - (0 : Int))) (itB (rowB b)) (dp (Int.toNat ((2000 : Int) - (0 : Int))) (itB (rowB b)) (0 : Int))))]] [AB.row false m (1 : Nat) (rowB b) (5 : TypeId), AB.row true (List.length (dl (Int.toNat ((2000 : Int) - (0 : Int))) (itB (rowB b)) (0 : Int))) (9 : Nat) (row9 (wfun (dl (Int.toNat ((2000 : Int) - (0 : Int))) (itB (rowB b)) (0 : Int)))) (58 : TypeId), AB.row true (List.length (dl (Int.toNat ((2000 : Int) - (0 : Int))) (itB (rowB b)) (dp (Int.toNat ((2000 : Int) - (0 : Int))) (itB (rowB b)) (0 : Int)))) (9 : Nat) (row9 (wfun (dl (Int.toNat ((2000 : Int) - (0 : Int))) (itB (rowB b)) (dp (Int.toNat ((2000 : Int) - (0 : Int))) (itB (rowB b)) (0 : Int))))) (58 : TypeId)])) else needs [okB m (rowB b), decide (m ≤ m), decide ((0 : Nat) < m), decide ((0 : Nat) < m), Nat.ble (List.length (dl m (itB (rowB b)) (0 : Int))) (List.length (dl m (itB (rowB b)) (0 : Int))), allW (List.length (dl m (itB (rowB b)) (0 : Int))) (row9 (wfun (dl m (itB (rowB b)) (0 : Int)))), decide (List.length (dl m (itB (rowB b)) (0 : Int)) ≤ (274877906944 : Nat))] (bif yI (listW (itW (row9 (wfun (dl m (itB (rowB b)) (0 : Int))))) (List.length (dl m (itB (rowB b)) (0 : Int)))) then needs [okB m (rowB b), decide (m ≤ m), decide ((0 : Int) ≤ dp m (itB (rowB b)) (0 : Int)), decide (dp m (itB (rowB b)) (0 : Int) ≤ (1073741824 : Int)), decide ((0 : Nat) < m)] (bif pk m (itB (rowB b)) (dp m (itB (rowB b)) (0 : Int)) (2 : Int) == (0 : Int) then Res.out Ex.ret [AV.tup [AV.own (1 : Nat) (List.length (dl m (itB (rowB b)) (0 : Int))), AV.own (2 : Nat) (List.length (tI (listW (itW (row9 (wfun (dl m (itB (rowB b)) (0 : Int))))) (List.length (dl m (itB (rowB b)) (0 : Int))))))]] [AB.row false m (1 : Nat) (rowB b) (5 : TypeId), AB.row true (List.length (dl m (itB (rowB b)) (0 : Int))) (9 : Nat) (row9 (wfun (dl m (itB (rowB b)) (0 : Int)))) (58 : TypeId), AB.row true (List.length (tI (listW (itW (row9 (wfun (dl m (itB (rowB b)) (0 : Int))))) (List.length (dl m (itB (rowB b)) (0 : Int)))))) (9 : Nat) (row9 (wfun (tI (listW (itW (row9 (wfun (dl m (itB (rowB b)) (0 : Int))))) (List.length (dl m (itB (rowB b)) (0 : Int))))))) (58 : TypeId)] else needs [okB m (rowB b), decide (m ≤ m), decide ((0 : Int) ≤ dp m (itB (rowB b)) (0 : Int) + (1 : Int)), decide (dp m (itB (rowB b)) (0 : Int) + (1 : Int) ≤ (134217728 : Int)), decide ((0 : Nat) < m), decide ((0 : Nat) < m)] (Res.out Ex.ret [AV.tup [AV.own (1 : Nat) (List.length (dl m (itB (rowB b)) (0 : Int))), AV.own (2 : Nat) (List.length (dl m (itB (rowB b)) (dp m (itB (rowB b)) (0 : Int) + (1 : Int))))]] [AB.row false m (1 : Nat) (rowB b) (5 : TypeId), AB.row true (List.length (dl m (itB (rowB b)) (0 : Int))) (9 : Nat) (row9 (wfun (dl m (itB (rowB b)) (0 : Int)))) (58 : TypeId), AB.row true (List.length (dl m (itB (rowB b)) (dp m (itB (rowB b)) (0 : Int) + (1 : Int)))) (9 : Nat) (row9 (wfun (dl m (itB (rowB b)) (dp m (itB (rowB b)) (0 : Int) + (1 : Int))))) (58 : TypeId)])) else needs [okB m (rowB b), decide (m ≤ m), decide ((0 : Int) ≤ dp m (itB (rowB b)) (0 : Int)), decide (dp m (itB (rowB b)) (0 : Int) ≤ (134217728 : Int)), decide ((0 : Nat) < m), decide ((0 : Nat) < m)] (Res.out Ex.ret [AV.tup [AV.own (1 : Nat) (List.length (dl m (itB (rowB b)) (0 : Int))), AV.own (2 : Nat) (List.length (dl m (itB (rowB b)) (dp m (itB (rowB b)) (0 : Int))))]] [AB.row false m (1 : Nat) (rowB b) (5 : TypeId), AB.row true (List.length (dl m (itB (rowB b)) (0 : Int))) (9 : Nat) (row9 (wfun (dl m (itB (rowB b)) (0 : Int)))) (58 : TypeId), AB.row true (List.length (dl m (itB (rowB b)) (dp m (itB (rowB b)) (0 : Int)))) (9 : Nat) (row9 (wfun (dl m (itB (rowB b)) (dp m (itB (rowB b)) (0 : Int))))) (58 : TypeId)])) := by kernel_rfl

theorem treeRSm0 (q : Option Addr) (c : Nat) (g : Nat → List Value) : execF Try.prog g0 noLam 100 Try.f20 [.v (.slice q 0 c)] [.row false 0 1 g 5] (packK 1)
    = Res.out Ex.ret [AV.tup [AV.own (1 : Nat) (1 : Nat), AV.own (2 : Nat) (1 : Nat)]] [AB.row false (0 : Nat) (1 : Nat) g (5 : TypeId), AB.row true (1 : Nat) (9 : Nat) (fun _ ↦ [Value.int IntKind.i64 (1001 : Int), Value.int IntKind.i64 (0 : Int), Value.int IntKind.i64 (0 : Int), Value.int IntKind.i64 (0 : Int), Value.int IntKind.i64 (0 : Int), Value.int IntKind.i64 (0 : Int), Value.int IntKind.i64 (0 : Int), Value.int IntKind.i64 (0 : Int), Value.int IntKind.i64 (0 : Int)]) (58 : Nat), AB.row true (1 : Nat) (9 : Nat) (fun _ ↦ [Value.int IntKind.i64 (1001 : Int), Value.int IntKind.i64 (0 : Int), Value.int IntKind.i64 (0 : Int), Value.int IntKind.i64 (0 : Int), Value.int IntKind.i64 (0 : Int), Value.int IntKind.i64 (0 : Int), Value.int IntKind.i64 (0 : Int), Value.int IntKind.i64 (0 : Int), Value.int IntKind.i64 (0 : Int)]) (58 : Nat)] := by kernel_rfl

theorem gmDrS_ok : GamOk Try.prog (gmDrS tnF tnP dgL dgP pkV yI tI) := ext_ok gmDr_ok ok_tiS
noncomputable def sm2 (l : Nat) (b : Nat → Int) : List Wh := bif yI (dgL l b 0) then (bif pkV l b (dgP l b 0) 2 == 0 then tI (dgL l b 0) else dgL l b (dgP l b 0 + 1)) else dgL l b (dgP l b 0)
/-- Two designs that are often the same. -/
noncomputable def bSame (m : Nat) (b : Nat → Int) : List Wh × List Wh := if m = 0 then (noneL, noneL) else (dgL (lnB m) b 0, sm2 (lnB m) b)
theorem tI_len0 (T : List Wh) : (tI T).length ≤ 12 := by
  unfold tI
  cases h : yI T with
  | false => simp
  | true =>
    rw [yI, Bool.and_eq_true] at h
    exact tidyL_len h.2
theorem sm2_len (l : Nat) (b : Nat → Int) : (sm2 l b).length ≤ 12 := by
  unfold sm2
  cases yI (dgL l b 0) with
  | false => exact dgL_len _ _ _
  | true =>
    cases pkV l b (dgP l b 0) 2 == 0 with
    | false => exact dgL_len _ _ _
    | true => exact tI_len0 _
theorem bSame_len (m : Nat) (b : Nat → Int) : (bSame m b).1.length ≤ 12 ∧ (bSame m b).2.length ≤ 12 := by
  unfold bSame
  split
  · show 1 ≤ 12 ∧ 1 ≤ 12; omega
  · exact ⟨dgL_len _ _ _, sm2_len _ _⟩
theorem ok_drSm : SpecOk Try.prog 20 (specR md_co (FdrO fun m b => frLL (bSame m b).1 (bSame m b).2)) := by
  refine draw_ok Try.func20 rfl (fun m b h0 hm hb => ⟨_, gmDrS_ok, ?_⟩) fun q c g b => ⟨g0, g0_ok, ?_⟩
  · rw [treeRSm, itB_row]
    have e : (bSame m b) = (dgL (lnB m) b 0, sm2 (lnB m) b) := by unfold bSame; rw [if_neg (by omega)]
    have hp := dgP_in (lnB m) b 0
    have hl := dgL_len (lnB m) b 0
    rw [e]
    have key : ∀ l : Nat, lnB m = l → l ≤ m → obls [allW (dgL l b 0).length (row9 (wfun (dgL l b 0))), decide ((dgL l b 0).length ≤ 274877906944)] = true ∧ GoodQ (bif yI (listW (itW (row9 (wfun (dgL l b 0)))) (dgL l b 0).length) then needs [okB m (rowB b), decide (l ≤ m), decide (0 ≤ dgP l b 0), decide (dgP l b 0 ≤ 1073741824), decide (0 < m)] (bif pkV l b (dgP l b 0) 2 == 0 then Res.out .ret [.tup [.own 1 (dgL l b 0).length, .own 2 (tI (listW (itW (row9 (wfun (dgL l b 0)))) (dgL l b 0).length)).length]] [.row false m 1 (rowB b) 5, .row true (dgL l b 0).length 9 (row9 (wfun (dgL l b 0))) 58, .row true (tI (listW (itW (row9 (wfun (dgL l b 0)))) (dgL l b 0).length)).length 9 (row9 (wfun (tI (listW (itW (row9 (wfun (dgL l b 0)))) (dgL l b 0).length)))) 58] else needs [okB m (rowB b), decide (l ≤ m), decide (0 ≤ dgP l b 0 + 1), decide (dgP l b 0 + 1 ≤ 134217728), decide (0 < m), decide (0 < m)] (Res.out .ret [.tup [.own 1 (dgL l b 0).length, .own 2 (dgL l b (dgP l b 0 + 1)).length]] [.row false m 1 (rowB b) 5, .row true (dgL l b 0).length 9 (row9 (wfun (dgL l b 0))) 58, .row true (dgL l b (dgP l b 0 + 1)).length 9 (row9 (wfun (dgL l b (dgP l b 0 + 1)))) 58])) else needs [okB m (rowB b), decide (l ≤ m), decide (0 ≤ dgP l b 0), decide (dgP l b 0 ≤ 134217728), decide (0 < m), decide (0 < m)] (Res.out .ret [.tup [.own 1 (dgL l b 0).length, .own 2 (dgL l b (dgP l b 0)).length]] [.row false m 1 (rowB b) 5, .row true (dgL l b 0).length 9 (row9 (wfun (dgL l b 0))) 58, .row true (dgL l b (dgP l b 0)).length 9 (row9 (wfun (dgL l b (dgP l b 0)))) 58])) (GivR [.row false m 1 (rowB b) 5] (frLL (dgL l b 0) (sm2 l b))) := by
      intro l hl0 hlm
      rw [hl0] at hp hl
      refine ⟨by simp only [ob_cons, ob_nil, and_true, decide_eq_true_eq, allW_row, true_and]; omega, ?_⟩
      rw [listW_self _ _ rfl]
      refine good_cond (fun q => good_needs (by simp only [ob_cons, ob_nil, and_true, decide_eq_true_eq, hb, true_and]; omega) (good_cond (fun q2 => good_out ⟨_, rfl, ?_, ?_⟩) fun q2 => good_needs (by simp only [ob_cons, ob_nil, and_true, decide_eq_true_eq, hb, true_and]; omega) (good_out ⟨_, rfl, ?_, ?_⟩))) fun q => good_needs (by simp only [ob_cons, ob_nil, and_true, decide_eq_true_eq, hb, true_and]; omega) (good_out ⟨_, rfl, ?_, ?_⟩)
      · rw [sm2, q, q2]; rfl
      · show Hsim _ [_, rowL _, rowL (sm2 l b)]
        rw [sm2, q, q2]; exact Hsim.refl _
      · rw [sm2, q, q2]; rfl
      · show Hsim _ [_, rowL _, rowL (sm2 l b)]
        rw [sm2, q, q2]; exact Hsim.refl _
      · rw [sm2, q]; rfl
      · show Hsim _ [_, rowL _, rowL (sm2 l b)]
        rw [sm2, q]; exact Hsim.refl _
    refine good_ln (fun e1 hc => ?_) fun e1 hc => ?_
    · rw [e1]
      rw [show Int.toNat ((2000 : Int) - 0) = 2000 from rfl]
      obtain ⟨k1, k2⟩ := key 2000 e1 (by omega)
      refine ⟨?_, k2⟩
      simp only [ob_cons, ob_nil, and_true] at k1
      simp only [ob_cons, ob_nil, and_true, decide_eq_true_eq, hb, true_and, Nat.ble_eq]
      exact ⟨by omega, by omega, by omega, by omega, by omega, Nat.le_refl _, k1.1, of_decide_eq_true k1.2⟩
    · rw [e1]
      obtain ⟨k1, k2⟩ := key m e1 (by omega)
      refine ⟨?_, k2⟩
      simp only [ob_cons, ob_nil, and_true] at k1
      simp only [ob_cons, ob_nil, and_true, decide_eq_true_eq, hb, true_and, Nat.ble_eq]
      exact ⟨by omega, by omega, by omega, Nat.le_refl _, k1.1, of_decide_eq_true k1.2⟩
  · rw [treeRSm0]
    exact good_out ⟨_, rfl, rfl, .cons (ABeq.refl _) (.cons (ABeq.row fun j hj => none_row j hj) (.cons (ABeq.row fun j hj => none_row j hj) .nil))⟩

end Go.Proofs.Ytakimbknciffnaa

/- slices.Equal. Conditions: two lists of wheels. -/
namespace Go.Proofs.Ytakimbknciffnaa
open Go.RowKit
set_option maxRecDepth 100000

noncomputable abbrev fEq : Func := Try.f73
abbrev lvEq : Ex → List Nat := lv3 [0, 1, 12, 13] [] [4]
abbrev hpEq (m : Nat) (f h : Nat → Nat → Int) : List AB := [.row false m 9 (row9 f) 58, .row false m 9 (row9 h) 58]
theorem rndEq (m : Nat) (f h : Nat → Nat → Int) (i : Nat) : execC Try.prog g0 100 noLam (loopAt 0 fEq) (mkT 0 26 ((lvEq .normal).zip [.sl 0 9 0 0 m none, .sl 1 9 0 0 m none, .v (i64 m), .v (i64 i)])) (hpEq m f h) (leafV 26 lvEq 2)
    = bif decide ((↑i : Int) < (↑m : Int)) then needs [decide ((↑i : Int) < (↑m : Int)), decide ((0 : Nat) + Int.toNat (↑i : Int) < m), decide ((↑i : Int) < (↑m : Int)), decide ((0 : Nat) + Int.toNat (↑i : Int) < m)] (bif !(f ((0 : Nat) + Int.toNat (↑i : Int)) (0 : Nat) == h ((0 : Nat) + Int.toNat (↑i : Int)) (0 : Nat) && (f ((0 : Nat) + Int.toNat (↑i : Int)) (1 : Nat) == h ((0 : Nat) + Int.toNat (↑i : Int)) (1 : Nat) && (f ((0 : Nat) + Int.toNat (↑i : Int)) (2 : Nat) == h ((0 : Nat) + Int.toNat (↑i : Int)) (2 : Nat) && (f ((0 : Nat) + Int.toNat (↑i : Int)) (3 : Nat) == h ((0 : Nat) + Int.toNat (↑i : Int)) (3 : Nat) && (f ((0 : Nat) + Int.toNat (↑i : Int)) (4 : Nat) == h ((0 : Nat) + Int.toNat (↑i : Int)) (4 : Nat) && (f ((0 : Nat) + Int.toNat (↑i : Int)) (5 : Nat) == h ((0 : Nat) + Int.toNat (↑i : Int)) (5 : Nat) && (f ((0 : Nat) + Int.toNat (↑i : Int)) (6 : Nat) == h ((0 : Nat) + Int.toNat (↑i : Int)) (6 : Nat) && (f ((0 : Nat) + Int.toNat (↑i : Int)) (7 : Nat) == h ((0 : Nat) + Int.toNat (↑i : Int)) (7 : Nat) && (f ((0 : Nat) + Int.toNat (↑i : Int)) (8 : Nat) == h ((0 : Nat) + Int.toNat (↑i : Int)) (8 : Nat) && true))))))) && true && true)) then Res.out Ex.ret [AV.v (Value.bool false)] [AB.row false m (9 : Nat) (row9 f) (58 : TypeId), AB.row false m (9 : Nat) (row9 h) (58 : TypeId)] else Res.out Ex.normal [AV.sl (0 : Nat) (9 : Nat) (0 : Nat) (0 : Nat) m none, AV.sl (1 : Nat) (9 : Nat) (0 : Nat) (0 : Nat) m none, AV.v (Value.int IntKind.i64 (↑m : Int)), AV.v (Value.int IntKind.i64 (IntKind.wrap IntKind.i64 ((↑i : Int) + (1 : Int))))] [AB.row false m (9 : Nat) (row9 f) (58 : TypeId), AB.row false m (9 : Nat) (row9 h) (58 : TypeId)]) else Res.out (Ex.exit (0 : Nat)) [] [AB.row false m (9 : Nat) (row9 f) (58 : TypeId), AB.row false m (9 : Nat) (row9 h) (58 : TypeId)] := by kernel_rfl

noncomputable abbrev lamEq (m : Nat) (f h : Nat → Nat → Int) (c : Bool) : Nat → Option Sum := oneL 0 (atS 26 (lvEq .normal) 2 [.sl 0 9 0 0 m none, .sl 1 9 0 0 m none, .v (i64 m), .v (i64 (0 : Nat))] (hpEq m f h) (fun K => cond c (K .normal (mkT 0 26 []) (hpEq m f h)) (K .ret (mkT 0 26 [(4, .v (.bool false))]) (hpEq m f h))))
theorem treeEq (m n : Nat) (f h : Nat → Nat → Int) (c : Bool) : execF Try.prog g0 (lamEq m f h c) 100 fEq [.sl 0 9 0 0 m none, .sl 1 9 0 0 n none] [.row false m 9 (row9 f) 58, .row false n 9 (row9 h) 58] (packK 2)
    = bif (↑m : Int) != (↑n : Int) then Res.out Ex.ret [AV.v (Value.bool false)] [AB.row false m (9 : Nat) (row9 f) (58 : TypeId), AB.row false n (9 : Nat) (row9 h) (58 : TypeId)] else needs [chk ([AV.sl (0 : Nat) (9 : Nat) (0 : Nat) (0 : Nat) m none, AV.sl (1 : Nat) (9 : Nat) (0 : Nat) (0 : Nat) n none, AV.v (Value.int IntKind.i64 (↑m : Int)), AV.v (Value.int IntKind.i64 (0 : Int))] = [AV.sl (0 : Nat) (9 : Nat) (0 : Nat) (0 : Nat) m none, AV.sl (1 : Nat) (9 : Nat) (0 : Nat) (0 : Nat) m none, AV.v (Value.int IntKind.i64 (↑m : Int)), AV.v (Value.int IntKind.i64 (0 : Int))] ∧ Hsim [AB.row false m (9 : Nat) (row9 f) (58 : TypeId), AB.row false n (9 : Nat) (row9 h) (58 : TypeId)] (hpEq m f h))] (bif c then Res.out Ex.ret [AV.v (Value.bool true)] [AB.row false m (9 : Nat) (row9 f) (58 : TypeId), AB.row false m (9 : Nat) (row9 h) (58 : TypeId)] else Res.out Ex.ret [AV.v (Value.bool false)] [AB.row false m (9 : Nat) (row9 f) (58 : TypeId), AB.row false m (9 : Nat) (row9 h) (58 : TypeId)]) := by kernel_rfl

theorem sumEq (m : Nat) (f h : Nat → Nat → Int) (hm : m ≤ 2 ^ 40) :
    SumOk Try.prog 2 (.block 0 (.loop (loopAt 0 fEq))) (atS 26 (lvEq .normal) 2 [.sl 0 9 0 0 m none, .sl 1 9 0 0 m none, .v (i64 m), .v (i64 (0 : Nat))] (hpEq m f h) (fun K => cond (noneTo (badE f h) m) (K .normal (mkT 0 26 []) (hpEq m f h)) (K .ret (mkT 0 26 [(4, .v (.bool false))]) (hpEq m f h)))) := by
  refine for_at g0_ok (n := 100) (m := 2) (lv := lvEq) (fun i => [.sl 0 9 0 0 m none, .sl 1 9 0 0 m none, .v (i64 m), .v (i64 (i : Nat))]) (fun _ => hpEq m f h) (fun i => noneTo (badE f h) i = true) m (fun _ => noLam) (lv3_ris rfl rfl rfl) (Nat.le_refl _) rfl fun K Q hk i hi him => ⟨noLam_ok _ _ _, ?_⟩
  rw [rndEq]
  refine good_cond (fun c1 => ?_) fun c1 => ?_
  · have c1 := of_decide_eq_true c1
    have c1' : i < m := by omega
    rw [Int.toNat_natCast, Nat.zero_add, wr_in (x := (i : Int) + 1) (by omega)]
    refine good_needs (by simp only [ob_cons, ob_nil, and_true, decide_eq_true_eq]; omega) (good_cond (fun q => ?_) fun q => ?_)
    · have hb : badE f h i = true := by
        unfold badE
        rw [Bool.not_eq_true', decide_eq_false_iff_not]
        intro e
        simp only [whOf, Wh.mk.injEq, Cy.mk.injEq] at e
        obtain ⟨e0, e1, e2, e3, e4, e5, e6, e7, e8⟩ := e
        simp [e0, e1, e2, e3, e4, e5, e6, e7, e8] at q
      refine good_out ⟨_, Hsim.refl _, ?_⟩
      rw [noneTo_no c1' hb] at hk
      exact hk
    · have hb : badE f h i = false := by
        unfold badE
        rw [Bool.not_eq_false', decide_eq_true_eq]
        simp at q
        simp [whOf, q]
      exact good_out ⟨i + 1, ⟨rfl, c1', noneTo_succ hi hb⟩, rfl, Hsim.refl _⟩
  · have c1 := of_decide_eq_false c1
    have : i = m := by omega
    subst this
    refine good_out ⟨_, Hsim.refl _, ?_⟩
    rw [if_pos rfl]
    rw [hi] at hk
    exact hk
theorem ok_Es : SpecOk Try.prog 73 (specR md_eqWS (FeqB eqL)) := by
  refine specR_hr g0_ok Try.func73 rfl fun sas fr hF ho => ?_
  unfold FeqB at hF
  split at hF
  · rename_i m g n g2
    cases hF
    simp only [ob_cons] at ho
    obtain ⟨h1, h2, h3, _⟩ := ho
    have hm := of_decide_eq_true h3
    refine ⟨[.row false m 9 (row9 (itW g)) 58, .row false n 9 (row9 (itW g2)) 58], lamEq m (itW g) (itW g2) (noneTo (badE (itW g) (itW g2)) m), 100, .cons (ABeq.row fun j hj => allW_get h1 j hj) (.cons (ABeq.row fun j hj => allW_get h2 j hj) .nil), lam1 (by kernel_rfl) (sumEq m (itW g) (itW g2) (by omega)), ?_⟩
    show GoodQ (execF Try.prog g0 (lamEq m (itW g) (itW g2) (noneTo (badE (itW g) (itW g2)) m)) 100 fEq [.sl 0 9 0 0 m none, .sl 1 9 0 0 n none] [.row false m 9 (row9 (itW g)) 58, .row false n 9 (row9 (itW g2)) 58] (packK 2)) _
    rw [treeEq]
    refine good_cond (fun q => ?_) fun q => ?_
    · have hne : m ≠ n := fun e => by
        subst e
        simp at q
      exact good_out ⟨_, rfl, by rw [eqL_len (by rw [listW_length, listW_length]; exact hne)], .cons (ABeq.row fun j hj => (allW_get h1 j hj).symm) (.cons (ABeq.row fun j hj => (allW_get h2 j hj).symm) .nil)⟩
    · have e : m = n := by
        have q2 : (m : Int) = n := by simpa using q
        omega
      subst e
      refine good_needs (by rw [ob_cons]; exact ⟨chk_of ⟨rfl, Hsim.refl _⟩, rfl⟩) (good_cond (fun q => ?_) fun q => ?_)
      · exact good_out ⟨_, rfl, by rw [eqL_list, q], .cons (ABeq.row fun j hj => (allW_get h1 j hj).symm) (.cons (ABeq.row fun j hj => (allW_get h2 j hj).symm) .nil)⟩
      · exact good_out ⟨_, rfl, by rw [eqL_list, q], .cons (ABeq.row fun j hj => (allW_get h1 j hj).symm) (.cons (ABeq.row fun j hj => (allW_get h2 j hj).symm) .nil)⟩
  · cases hF

end Go.Proofs.Ytakimbknciffnaa

/- spec.l5Equal. Conditions: two lists of wheels. -/
namespace Go.Proofs.Ytakimbknciffnaa
open Go.RowKit
set_option maxRecDepth 100000

abbrev lvLq : Ex → List Nat := lv3 [0, 1, 5] [] [4]
abbrev hpLq (m : Nat) (f h : Nat → Nat → Int) : List AB := [.row false m 9 (row9 f) 58, .row false m 9 (row9 h) 58]
theorem rndLq (m : Nat) (f h : Nat → Nat → Int) (i : Nat) : execC Try.prog g0 100 noLam (loopAt 0 Try.f74) (mkT 0 26 ((lvLq .normal).zip [.sl 0 9 0 0 m none, .sl 1 9 0 0 m none, .v (i64 i)])) (hpLq m f h) (leafV 26 lvLq 2)
    = bif decide ((↑i : Int) < (↑m : Int)) then needs [decide ((↑i : Int) < (↑m : Int)), decide ((0 : Nat) + Int.toNat (↑i : Int) < m), decide ((↑i : Int) < (↑m : Int)), decide ((0 : Nat) + Int.toNat (↑i : Int) < m)] (bif !(f ((0 : Nat) + Int.toNat (↑i : Int)) (0 : Nat) == h ((0 : Nat) + Int.toNat (↑i : Int)) (0 : Nat) && (f ((0 : Nat) + Int.toNat (↑i : Int)) (1 : Nat) == h ((0 : Nat) + Int.toNat (↑i : Int)) (1 : Nat) && (f ((0 : Nat) + Int.toNat (↑i : Int)) (2 : Nat) == h ((0 : Nat) + Int.toNat (↑i : Int)) (2 : Nat) && (f ((0 : Nat) + Int.toNat (↑i : Int)) (3 : Nat) == h ((0 : Nat) + Int.toNat (↑i : Int)) (3 : Nat) && (f ((0 : Nat) + Int.toNat (↑i : Int)) (4 : Nat) == h ((0 : Nat) + Int.toNat (↑i : Int)) (4 : Nat) && (f ((0 : Nat) + Int.toNat (↑i : Int)) (5 : Nat) == h ((0 : Nat) + Int.toNat (↑i : Int)) (5 : Nat) && (f ((0 : Nat) + Int.toNat (↑i : Int)) (6 : Nat) == h ((0 : Nat) + Int.toNat (↑i : Int)) (6 : Nat) && (f ((0 : Nat) + Int.toNat (↑i : Int)) (7 : Nat) == h ((0 : Nat) + Int.toNat (↑i : Int)) (7 : Nat) && (f ((0 : Nat) + Int.toNat (↑i : Int)) (8 : Nat) == h ((0 : Nat) + Int.toNat (↑i : Int)) (8 : Nat) && true))))))) && true && true)) then Res.out Ex.ret [AV.v (Value.bool false)] [AB.row false m (9 : Nat) (row9 f) (58 : TypeId), AB.row false m (9 : Nat) (row9 h) (58 : TypeId)] else Res.out Ex.normal [AV.sl (0 : Nat) (9 : Nat) (0 : Nat) (0 : Nat) m none, AV.sl (1 : Nat) (9 : Nat) (0 : Nat) (0 : Nat) m none, AV.v (Value.int IntKind.i64 (IntKind.wrap IntKind.i64 ((↑i : Int) + (1 : Int))))] [AB.row false m (9 : Nat) (row9 f) (58 : TypeId), AB.row false m (9 : Nat) (row9 h) (58 : TypeId)]) else Res.out (Ex.exit (0 : Nat)) [] [AB.row false m (9 : Nat) (row9 f) (58 : TypeId), AB.row false m (9 : Nat) (row9 h) (58 : TypeId)] := by kernel_rfl

noncomputable abbrev lamLq (m : Nat) (f h : Nat → Nat → Int) (c : Bool) : Nat → Option Sum := oneL 0 (atS 26 (lvLq .normal) 2 [.sl 0 9 0 0 m none, .sl 1 9 0 0 m none, .v (i64 (0 : Nat))] (hpLq m f h) (fun K => cond c (K .normal (mkT 0 26 []) (hpLq m f h)) (K .ret (mkT 0 26 [(4, .v (.bool false))]) (hpLq m f h))))
theorem treeLq (m n : Nat) (f h : Nat → Nat → Int) (c : Bool) : execF Try.prog g0 (lamLq m f h c) 100 Try.f74 [.sl 0 9 0 0 m none, .sl 1 9 0 0 n none] [.row false m 9 (row9 f) 58, .row false n 9 (row9 h) 58] (packK 2)
    = bif (↑m : Int) != (↑n : Int) then Res.out Ex.ret [AV.v (Value.bool false)] [AB.row false m (9 : Nat) (row9 f) (58 : TypeId), AB.row false n (9 : Nat) (row9 h) (58 : TypeId)] else needs [chk ([AV.sl (0 : Nat) (9 : Nat) (0 : Nat) (0 : Nat) m none, AV.sl (1 : Nat) (9 : Nat) (0 : Nat) (0 : Nat) n none, AV.v (Value.int IntKind.i64 (0 : Int))] = [AV.sl (0 : Nat) (9 : Nat) (0 : Nat) (0 : Nat) m none, AV.sl (1 : Nat) (9 : Nat) (0 : Nat) (0 : Nat) m none, AV.v (Value.int IntKind.i64 (0 : Int))] ∧ Hsim [AB.row false m (9 : Nat) (row9 f) (58 : TypeId), AB.row false n (9 : Nat) (row9 h) (58 : TypeId)] (hpLq m f h))] (bif c then Res.out Ex.ret [AV.v (Value.bool true)] [AB.row false m (9 : Nat) (row9 f) (58 : TypeId), AB.row false m (9 : Nat) (row9 h) (58 : TypeId)] else Res.out Ex.ret [AV.v (Value.bool false)] [AB.row false m (9 : Nat) (row9 f) (58 : TypeId), AB.row false m (9 : Nat) (row9 h) (58 : TypeId)]) := by kernel_rfl

theorem sumLq (m : Nat) (f h : Nat → Nat → Int) (hm : m ≤ 2 ^ 40) :
    SumOk Try.prog 2 (.block 0 (.loop (loopAt 0 Try.f74))) (atS 26 (lvLq .normal) 2 [.sl 0 9 0 0 m none, .sl 1 9 0 0 m none, .v (i64 (0 : Nat))] (hpLq m f h) (fun K => cond (noneTo (badE f h) m) (K .normal (mkT 0 26 []) (hpLq m f h)) (K .ret (mkT 0 26 [(4, .v (.bool false))]) (hpLq m f h)))) := by
  refine for_at g0_ok (n := 100) (m := 2) (lv := lvLq) (fun i => [.sl 0 9 0 0 m none, .sl 1 9 0 0 m none, .v (i64 (i : Nat))]) (fun _ => hpLq m f h) (fun i => noneTo (badE f h) i = true) m (fun _ => noLam) (lv3_ris rfl rfl rfl) (Nat.le_refl _) rfl fun K Q hk i hi him => ⟨noLam_ok _ _ _, ?_⟩
  rw [rndLq]
  refine good_cond (fun c1 => ?_) fun c1 => ?_
  · have c1 := of_decide_eq_true c1
    have c1' : i < m := by omega
    rw [Int.toNat_natCast, Nat.zero_add, wr_in (x := (i : Int) + 1) (by omega)]
    refine good_needs (by simp only [ob_cons, ob_nil, and_true, decide_eq_true_eq]; omega) (good_cond (fun q => ?_) fun q => ?_)
    · have hb : badE f h i = true := by
        unfold badE
        rw [Bool.not_eq_true', decide_eq_false_iff_not]
        intro e
        simp only [whOf, Wh.mk.injEq, Cy.mk.injEq] at e
        obtain ⟨e0, e1, e2, e3, e4, e5, e6, e7, e8⟩ := e
        simp [e0, e1, e2, e3, e4, e5, e6, e7, e8] at q
      refine good_out ⟨_, Hsim.refl _, ?_⟩
      rw [noneTo_no c1' hb] at hk
      exact hk
    · have hb : badE f h i = false := by
        unfold badE
        rw [Bool.not_eq_false', decide_eq_true_eq]
        simp at q
        simp [whOf, q]
      exact good_out ⟨i + 1, ⟨rfl, c1', noneTo_succ hi hb⟩, rfl, Hsim.refl _⟩
  · have c1 := of_decide_eq_false c1
    have : i = m := by omega
    subst this
    refine good_out ⟨_, Hsim.refl _, ?_⟩
    rw [if_pos rfl]
    rw [hi] at hk
    exact hk
theorem ok_Le : SpecOk Try.prog 74 (specR md_eqWS (FeqB eqL)) := by
  refine specR_hr g0_ok Try.func74 rfl fun sas fr hF ho => ?_
  unfold FeqB at hF
  split at hF
  · rename_i m g n g2
    cases hF
    simp only [ob_cons] at ho
    obtain ⟨h1, h2, h3, _⟩ := ho
    have hm := of_decide_eq_true h3
    refine ⟨[.row false m 9 (row9 (itW g)) 58, .row false n 9 (row9 (itW g2)) 58], lamLq m (itW g) (itW g2) (noneTo (badE (itW g) (itW g2)) m), 100, .cons (ABeq.row fun j hj => allW_get h1 j hj) (.cons (ABeq.row fun j hj => allW_get h2 j hj) .nil), lam1 (by kernel_rfl) (sumLq m (itW g) (itW g2) (by omega)), ?_⟩
    show GoodQ (execF Try.prog g0 (lamLq m (itW g) (itW g2) (noneTo (badE (itW g) (itW g2)) m)) 100 Try.f74 [.sl 0 9 0 0 m none, .sl 1 9 0 0 n none] [.row false m 9 (row9 (itW g)) 58, .row false n 9 (row9 (itW g2)) 58] (packK 2)) _
    rw [treeLq]
    refine good_cond (fun q => ?_) fun q => ?_
    · have hne : m ≠ n := fun e => by
        subst e
        simp at q
      exact good_out ⟨_, rfl, by rw [eqL_len (by rw [listW_length, listW_length]; exact hne)], .cons (ABeq.row fun j hj => (allW_get h1 j hj).symm) (.cons (ABeq.row fun j hj => (allW_get h2 j hj).symm) .nil)⟩
    · have e : m = n := by
        have q2 : (m : Int) = n := by simpa using q
        omega
      subst e
      refine good_needs (by rw [ob_cons]; exact ⟨chk_of ⟨rfl, Hsim.refl _⟩, rfl⟩) (good_cond (fun q => ?_) fun q => ?_)
      · exact good_out ⟨_, rfl, by rw [eqL_list, q], .cons (ABeq.row fun j hj => (allW_get h1 j hj).symm) (.cons (ABeq.row fun j hj => (allW_get h2 j hj).symm) .nil)⟩
      · exact good_out ⟨_, rfl, by rw [eqL_list, q], .cons (ABeq.row fun j hj => (allW_get h1 j hj).symm) (.cons (ABeq.row fun j hj => (allW_get h2 j hj).symm) .nil)⟩
  · cases hF

end Go.Proofs.Ytakimbknciffnaa

/- FnSame: its tree. Conditions: bytes. -/
namespace Go.Proofs.Ytakimbknciffnaa
open Go.RowKit
set_option maxRecDepth 100000

def gmLSm (dl : Nat → (Nat → Int) → List Wh) (dm : Nat → (Nat → Int) → List Wh) (yI : List Wh → Bool) (tI : List Wh → List Wh) (eq : List Wh → List Wh → Bool) (dv : (Nat → Nat → Int) → Int → Nat → Nat → Int) (dk : (Nat → Nat → Int) → Int → Nat → Bool) : Gam := ext (ext (ext (ext (ext (ext g0 20 (specR md_co (FdrO fun m b => frLL (dl m b) (dm m b)))) 19 (specU md_ws (UO0 yI tI))) 71 (specR md_ws (FOw yI tI))) 73 (specR md_eqWS (FeqB eq))) 74 (specR md_eqWS (FeqB eq))) 23 (specR md_wv (FDAo dv dk))
theorem lawSm (dl : Nat → (Nat → Int) → List Wh) (dm : Nat → (Nat → Int) → List Wh) (yI : List Wh → Bool) (tI : List Wh → List Wh) (eq : List Wh → List Wh → Bool) (dv : (Nat → Nat → Int) → Int → Nat → Nat → Int) (dk : (Nat → Nat → Int) → Int → Nat → Bool) (m : Nat) (b : Nat → Int) : execF Try.prog (gmLSm dl dm yI tI eq dv dk) noLam 100 Try.f4 [.sl 0 1 0 0 m none] [.row false m 1 (rowB b) 5] (packK 1)
    = bif decide ((↑m : Int) > (1048576 : Int)) then Res.out Ex.ret [AV.v (Value.bool true)] [AB.row false m (1 : Nat) (rowB b) (5 : TypeId)] else needs [Nat.ble ((0 : Nat) + m) m, okB m fun q ↦ rowB b ((0 : Nat) + q), decide (m ≤ (2097152 : Nat)), Nat.ble (List.length (dl m (itB fun q ↦ rowB b ((0 : Nat) + q)))) (List.length (dl m (itB fun q ↦ rowB b ((0 : Nat) + q)))), allW (List.length (dl m (itB fun q ↦ rowB b ((0 : Nat) + q)))) (row9 (wfun (dl m (itB fun q ↦ rowB b ((0 : Nat) + q))))), decide (List.length (dl m (itB fun q ↦ rowB b ((0 : Nat) + q))) ≤ (274877906944 : Nat)), Nat.ble (List.length (dm m (itB fun q ↦ rowB b ((0 : Nat) + q)))) (List.length (dm m (itB fun q ↦ rowB b ((0 : Nat) + q)))), allW (List.length (dm m (itB fun q ↦ rowB b ((0 : Nat) + q)))) (row9 (wfun (dm m (itB fun q ↦ rowB b ((0 : Nat) + q))))), decide (List.length (dm m (itB fun q ↦ rowB b ((0 : Nat) + q))) ≤ (274877906944 : Nat))] (bif yI (listW (itW (row9 (wfun (dl m (itB fun q ↦ rowB b ((0 : Nat) + q)))))) (List.length (dl m (itB fun q ↦ rowB b ((0 : Nat) + q))))) then bif yI (listW (itW (row9 (wfun (dm m (itB fun q ↦ rowB b ((0 : Nat) + q)))))) (List.length (dm m (itB fun q ↦ rowB b ((0 : Nat) + q))))) then needs [Nat.ble ((0 : Nat) + List.length (tI (listW (itW (row9 (wfun (dl m (itB fun q ↦ rowB b ((0 : Nat) + q)))))) (List.length (dl m (itB fun q ↦ rowB b ((0 : Nat) + q))))))) (List.length (tI (listW (itW (row9 (wfun (dl m (itB fun q ↦ rowB b ((0 : Nat) + q)))))) (List.length (dl m (itB fun q ↦ rowB b ((0 : Nat) + q))))))), Nat.ble ((0 : Nat) + List.length (tI (listW (itW (row9 (wfun (dm m (itB fun q ↦ rowB b ((0 : Nat) + q)))))) (List.length (dm m (itB fun q ↦ rowB b ((0 : Nat) + q))))))) (List.length (tI (listW (itW (row9 (wfun (dm m (itB fun q ↦ rowB b ((0 : Nat) + q)))))) (List.length (dm m (itB fun q ↦ rowB b ((0 : Nat) + q))))))), allW (List.length (tI (listW (itW (row9 (wfun (dl m (itB fun q ↦ rowB b ((0 : Nat) + q)))))) (List.length (dl m (itB fun q ↦ rowB b ((0 : Nat) + q))))))) fun q ↦ row9 (wfun (tI (listW (itW (row9 (wfun (dl m (itB fun q ↦ rowB b ((0 : Nat) + q)))))) (List.length (dl m (itB fun q ↦ rowB b ((0 : Nat) + q))))))) ((0 : Nat) + q), allW (List.length (tI (listW (itW (row9 (wfun (dm m (itB fun q ↦ rowB b ((0 : Nat) + q)))))) (List.length (dm m (itB fun q ↦ rowB b ((0 : Nat) + q))))))) fun q ↦ row9 (wfun (tI (listW (itW (row9 (wfun (dm m (itB fun q ↦ rowB b ((0 : Nat) + q)))))) (List.length (dm m (itB fun q ↦ rowB b ((0 : Nat) + q))))))) ((0 : Nat) + q), decide (List.length (tI (listW (itW (row9 (wfun (dl m (itB fun q ↦ rowB b ((0 : Nat) + q)))))) (List.length (dl m (itB fun q ↦ rowB b ((0 : Nat) + q)))))) ≤ (274877906944 : Nat)), Nat.ble (List.length (dl m (itB fun q ↦ rowB b ((0 : Nat) + q)))) (List.length (dl m (itB fun q ↦ rowB b ((0 : Nat) + q)))), allW (List.length (dl m (itB fun q ↦ rowB b ((0 : Nat) + q)))) (row9 (wfun (dl m (itB fun q ↦ rowB b ((0 : Nat) + q))))), decide (List.length (dl m (itB fun q ↦ rowB b ((0 : Nat) + q))) ≤ (274877906944 : Nat)), Nat.ble (List.length (dm m (itB fun q ↦ rowB b ((0 : Nat) + q)))) (List.length (dm m (itB fun q ↦ rowB b ((0 : Nat) + q)))), allW (List.length (dm m (itB fun q ↦ rowB b ((0 : Nat) + q)))) (row9 (wfun (dm m (itB fun q ↦ rowB b ((0 : Nat) + q))))), decide (List.length (dm m (itB fun q ↦ rowB b ((0 : Nat) + q))) ≤ (274877906944 : Nat))] (bif yI (listW (itW (row9 (wfun (dl m (itB fun q ↦ rowB b ((0 : Nat) + q)))))) (List.length (dl m (itB fun q ↦ rowB b ((0 : Nat) + q))))) then bif yI (listW (itW (row9 (wfun (dm m (itB fun q ↦ rowB b ((0 : Nat) + q)))))) (List.length (dm m (itB fun q ↦ rowB b ((0 : Nat) + q))))) then needs [Nat.ble (List.length (tI (listW (itW (row9 (wfun (dl m (itB fun q ↦ rowB b ((0 : Nat) + q)))))) (List.length (dl m (itB fun q ↦ rowB b ((0 : Nat) + q))))))) (List.length (tI (listW (itW (row9 (wfun (dl m (itB fun q ↦ rowB b ((0 : Nat) + q)))))) (List.length (dl m (itB fun q ↦ rowB b ((0 : Nat) + q))))))), Nat.ble (List.length (tI (listW (itW (row9 (wfun (dm m (itB fun q ↦ rowB b ((0 : Nat) + q)))))) (List.length (dm m (itB fun q ↦ rowB b ((0 : Nat) + q))))))) (List.length (tI (listW (itW (row9 (wfun (dm m (itB fun q ↦ rowB b ((0 : Nat) + q)))))) (List.length (dm m (itB fun q ↦ rowB b ((0 : Nat) + q))))))), allW (List.length (tI (listW (itW (row9 (wfun (dl m (itB fun q ↦ rowB b ((0 : Nat) + q)))))) (List.length (dl m (itB fun q ↦ rowB b ((0 : Nat) + q))))))) (row9 (wfun (tI (listW (itW (row9 (wfun (dl m (itB fun q ↦ rowB b ((0 : Nat) + q)))))) (List.length (dl m (itB fun q ↦ rowB b ((0 : Nat) + q)))))))), allW (List.length (tI (listW (itW (row9 (wfun (dm m (itB fun q ↦ rowB b ((0 : Nat) + q)))))) (List.length (dm m (itB fun q ↦ rowB b ((0 : Nat) + q))))))) (row9 (wfun (tI (listW (itW (row9 (wfun (dm m (itB fun q ↦ rowB b ((0 : Nat) + q)))))) (List.length (dm m (itB fun q ↦ rowB b ((0 : Nat) + q)))))))), decide (List.length (tI (listW (itW (row9 (wfun (dl m (itB fun q ↦ rowB b ((0 : Nat) + q)))))) (List.length (dl m (itB fun q ↦ rowB b ((0 : Nat) + q)))))) ≤ (274877906944 : Nat))] (bif !eq (listW (itW fun q ↦ row9 (wfun (tI (listW (itW (row9 (wfun (dl m (itB fun q ↦ rowB b ((0 : Nat) + q)))))) (List.length (dl m (itB fun q ↦ rowB b ((0 : Nat) + q))))))) ((0 : Nat) + q)) (List.length (tI (listW (itW (row9 (wfun (dl m (itB fun q ↦ rowB b ((0 : Nat) + q)))))) (List.length (dl m (itB fun q ↦ rowB b ((0 : Nat) + q)))))))) (listW (itW fun q ↦ row9 (wfun (tI (listW (itW (row9 (wfun (dm m (itB fun q ↦ rowB b ((0 : Nat) + q)))))) (List.length (dm m (itB fun q ↦ rowB b ((0 : Nat) + q))))))) ((0 : Nat) + q)) (List.length (tI (listW (itW (row9 (wfun (dm m (itB fun q ↦ rowB b ((0 : Nat) + q)))))) (List.length (dm m (itB fun q ↦ rowB b ((0 : Nat) + q)))))))) == eq (listW (itW (row9 (wfun (tI (listW (itW (row9 (wfun (dl m (itB fun q ↦ rowB b ((0 : Nat) + q)))))) (List.length (dl m (itB fun q ↦ rowB b ((0 : Nat) + q))))))))) (List.length (tI (listW (itW (row9 (wfun (dl m (itB fun q ↦ rowB b ((0 : Nat) + q)))))) (List.length (dl m (itB fun q ↦ rowB b ((0 : Nat) + q)))))))) (listW (itW (row9 (wfun (tI (listW (itW (row9 (wfun (dm m (itB fun q ↦ rowB b ((0 : Nat) + q)))))) (List.length (dm m (itB fun q ↦ rowB b ((0 : Nat) + q))))))))) (List.length (tI (listW (itW (row9 (wfun (dm m (itB fun q ↦ rowB b ((0 : Nat) + q)))))) (List.length (dm m (itB fun q ↦ rowB b ((0 : Nat) + q)))))))) then Res.out Ex.ret [AV.v (Value.bool (eq (listW (itW fun q ↦ row9 (wfun (tI (listW (itW (row9 (wfun (dl m (itB fun q ↦ rowB b ((0 : Nat) + q)))))) (List.length (dl m (itB fun q ↦ rowB b ((0 : Nat) + q))))))) ((0 : Nat) + q)) (List.length (tI (listW (itW (row9 (wfun (dl m (itB fun q ↦ rowB b ((0 : Nat) + q)))))) (List.length (dl m (itB fun q ↦ rowB b ((0 : Nat) + q)))))))) (listW (itW fun q ↦ row9 (wfun (tI (listW (itW (row9 (wfun (dm m (itB fun q ↦ rowB b ((0 : Nat) + q)))))) (List.length (dm m (itB fun q ↦ rowB b ((0 : Nat) + q))))))) ((0 : Nat) + q)) (List.length (tI (listW (itW (row9 (wfun (dm m (itB fun q ↦ rowB b ((0 : Nat) + q)))))) (List.length (dm m (itB fun q ↦ rowB b ((0 : Nat) + q)))))))) == eq (listW (itW (row9 (wfun (tI (listW (itW (row9 (wfun (dl m (itB fun q ↦ rowB b ((0 : Nat) + q)))))) (List.length (dl m (itB fun q ↦ rowB b ((0 : Nat) + q))))))))) (List.length (tI (listW (itW (row9 (wfun (dl m (itB fun q ↦ rowB b ((0 : Nat) + q)))))) (List.length (dl m (itB fun q ↦ rowB b ((0 : Nat) + q)))))))) (listW (itW (row9 (wfun (tI (listW (itW (row9 (wfun (dm m (itB fun q ↦ rowB b ((0 : Nat) + q)))))) (List.length (dm m (itB fun q ↦ rowB b ((0 : Nat) + q))))))))) (List.length (tI (listW (itW (row9 (wfun (dm m (itB fun q ↦ rowB b ((0 : Nat) + q)))))) (List.length (dm m (itB fun q ↦ rowB b ((0 : Nat) + q))))))))))] [AB.row false m (1 : Nat) (rowB b) (5 : TypeId)] else bif !eq (listW (itW fun q ↦ row9 (wfun (tI (listW (itW (row9 (wfun (dl m (itB fun q ↦ rowB b ((0 : Nat) + q)))))) (List.length (dl m (itB fun q ↦ rowB b ((0 : Nat) + q))))))) ((0 : Nat) + q)) (List.length (tI (listW (itW (row9 (wfun (dl m (itB fun q ↦ rowB b ((0 : Nat) + q)))))) (List.length (dl m (itB fun q ↦ rowB b ((0 : Nat) + q)))))))) (listW (itW fun q ↦ row9 (wfun (tI (listW (itW (row9 (wfun (dm m (itB fun q ↦ rowB b ((0 : Nat) + q)))))) (List.length (dm m (itB fun q ↦ rowB b ((0 : Nat) + q))))))) ((0 : Nat) + q)) (List.length (tI (listW (itW (row9 (wfun (dm m (itB fun q ↦ rowB b ((0 : Nat) + q)))))) (List.length (dm m (itB fun q ↦ rowB b ((0 : Nat) + q)))))))) then Res.out Ex.ret [AV.v (Value.bool (eq (listW (itW fun q ↦ row9 (wfun (tI (listW (itW (row9 (wfun (dl m (itB fun q ↦ rowB b ((0 : Nat) + q)))))) (List.length (dl m (itB fun q ↦ rowB b ((0 : Nat) + q))))))) ((0 : Nat) + q)) (List.length (tI (listW (itW (row9 (wfun (dl m (itB fun q ↦ rowB b ((0 : Nat) + q)))))) (List.length (dl m (itB fun q ↦ rowB b ((0 : Nat) + q)))))))) (listW (itW fun q ↦ row9 (wfun (tI (listW (itW (row9 (wfun (dm m (itB fun q ↦ rowB b ((0 : Nat) + q)))))) (List.length (dm m (itB fun q ↦ rowB b ((0 : Nat) + q))))))) ((0 : Nat) + q)) (List.length (tI (listW (itW (row9 (wfun (dm m (itB fun q ↦ rowB b ((0 : Nat) + q)))))) (List.length (dm m (itB fun q ↦ rowB b ((0 : Nat) + q)))))))) == eq (listW (itW (row9 (wfun (tI (listW (itW (row9 (wfun (dl m (itB fun q ↦ rowB b ((0 : Nat) + q)))))) (List.length (dl m (itB fun q ↦ rowB b ((0 : Nat) + q))))))))) (List.length (tI (listW (itW (row9 (wfun (dl m (itB fun q ↦ rowB b ((0 : Nat) + q)))))) (List.length (dl m (itB fun q ↦ rowB b ((0 : Nat) + q)))))))) (listW (itW (row9 (wfun (tI (listW (itW (row9 (wfun (dm m (itB fun q ↦ rowB b ((0 : Nat) + q)))))) (List.length (dm m (itB fun q ↦ rowB b ((0 : Nat) + q))))))))) (List.length (tI (listW (itW (row9 (wfun (dm m (itB fun q ↦ rowB b ((0 : Nat) + q)))))) (List.length (dm m (itB fun q ↦ rowB b ((0 : Nat) + q))))))))))] [AB.row false m (1 : Nat) (rowB b) (5 : TypeId)] else needs [Nat.ble (List.length (dl m (itB fun q ↦ rowB b ((0 : Nat) + q)))) (List.length (dl m (itB fun q ↦ rowB b ((0 : Nat) + q)))), allW (List.length (dl m (itB fun q ↦ rowB b ((0 : Nat) + q)))) (row9 (wfun (dl m (itB fun q ↦ rowB b ((0 : Nat) + q))))), decide (List.length (dl m (itB fun q ↦ rowB b ((0 : Nat) + q))) ≤ (274877906944 : Nat)), Nat.ble (List.length (dm m (itB fun q ↦ rowB b ((0 : Nat) + q)))) (List.length (dm m (itB fun q ↦ rowB b ((0 : Nat) + q)))), allW (List.length (dm m (itB fun q ↦ rowB b ((0 : Nat) + q)))) (row9 (wfun (dm m (itB fun q ↦ rowB b ((0 : Nat) + q))))), decide (List.length (dm m (itB fun q ↦ rowB b ((0 : Nat) + q))) ≤ (274877906944 : Nat)), Nat.ble (List.length (dm m (itB fun q ↦ rowB b ((0 : Nat) + q)))) (List.length (dm m (itB fun q ↦ rowB b ((0 : Nat) + q)))), allW (List.length (dm m (itB fun q ↦ rowB b ((0 : Nat) + q)))) (row9 (wfun (dm m (itB fun q ↦ rowB b ((0 : Nat) + q))))), decide (List.length (dm m (itB fun q ↦ rowB b ((0 : Nat) + q))) ≤ (274877906944 : Nat)), Nat.ble (List.length (dl m (itB fun q ↦ rowB b ((0 : Nat) + q)))) (List.length (dl m (itB fun q ↦ rowB b ((0 : Nat) + q)))), allW (List.length (dl m (itB fun q ↦ rowB b ((0 : Nat) + q)))) (row9 (wfun (dl m (itB fun q ↦ rowB b ((0 : Nat) + q))))), decide (List.length (dl m (itB fun q ↦ rowB b ((0 : Nat) + q))) ≤ (274877906944 : Nat))] (bif yI (listW (itW (row9 (wfun (dm m (itB fun q ↦ rowB b ((0 : Nat) + q)))))) (List.length (dm m (itB fun q ↦ rowB b ((0 : Nat) + q))))) then bif yI (listW (itW (row9 (wfun (dl m (itB fun q ↦ rowB b ((0 : Nat) + q)))))) (List.length (dl m (itB fun q ↦ rowB b ((0 : Nat) + q))))) then needs [Nat.ble ((0 : Nat) + List.length (tI (listW (itW (row9 (wfun (dm m (itB fun q ↦ rowB b ((0 : Nat) + q)))))) (List.length (dm m (itB fun q ↦ rowB b ((0 : Nat) + q))))))) (List.length (tI (listW (itW (row9 (wfun (dm m (itB fun q ↦ rowB b ((0 : Nat) + q)))))) (List.length (dm m (itB fun q ↦ rowB b ((0 : Nat) + q))))))), Nat.ble ((0 : Nat) + List.length (tI (listW (itW (row9 (wfun (dl m (itB fun q ↦ rowB b ((0 : Nat) + q)))))) (List.length (dl m (itB fun q ↦ rowB b ((0 : Nat) + q))))))) (List.length (tI (listW (itW (row9 (wfun (dl m (itB fun q ↦ rowB b ((0 : Nat) + q)))))) (List.length (dl m (itB fun q ↦ rowB b ((0 : Nat) + q))))))), allW (List.length (tI (listW (itW (row9 (wfun (dm m (itB fun q ↦ rowB b ((0 : Nat) + q)))))) (List.length (dm m (itB fun q ↦ rowB b ((0 : Nat) + q))))))) fun q ↦ row9 (wfun (tI (listW (itW (row9 (wfun (dm m (itB fun q ↦ rowB b ((0 : Nat) + q)))))) (List.length (dm m (itB fun q ↦ rowB b ((0 : Nat) + q))))))) ((0 : Nat) + q), allW (List.length (tI (listW (itW (row9 (wfun (dl m (itB fun q ↦ rowB b ((0 : Nat) + q)))))) (List.length (dl m (itB fun q ↦ rowB b ((0 : Nat) + q))))))) fun q ↦ row9 (wfun (tI (listW (itW (row9 (wfun (dl m (itB fun q ↦ rowB b ((0 : Nat) + q)))))) (List.length (dl m (itB fun q ↦ rowB b ((0 : Nat) + q))))))) ((0 : Nat) + q), decide (List.length (tI (listW (itW (row9 (wfun (dm m (itB fun q ↦ rowB b ((0 : Nat) + q)))))) (List.length (dm m (itB fun q ↦ rowB b ((0 : Nat) + q)))))) ≤ (274877906944 : Nat))] (bif eq (listW (itW fun q ↦ row9 (wfun (tI (listW (itW (row9 (wfun (dm m (itB fun q ↦ rowB b ((0 : Nat) + q)))))) (List.length (dm m (itB fun q ↦ rowB b ((0 : Nat) + q))))))) ((0 : Nat) + q)) (List.length (tI (listW (itW (row9 (wfun (dm m (itB fun q ↦ rowB b ((0 : Nat) + q)))))) (List.length (dm m (itB fun q ↦ rowB b ((0 : Nat) + q)))))))) (listW (itW fun q ↦ row9 (wfun (tI (listW (itW (row9 (wfun (dl m (itB fun q ↦ rowB b ((0 : Nat) + q)))))) (List.length (dl m (itB fun q ↦ rowB b ((0 : Nat) + q))))))) ((0 : Nat) + q)) (List.length (tI (listW (itW (row9 (wfun (dl m (itB fun q ↦ rowB b ((0 : Nat) + q)))))) (List.length (dl m (itB fun q ↦ rowB b ((0 : Nat) + q)))))))) then bif !dk (itW (row9 (wfun (dl m (itB fun q ↦ rowB b ((0 : Nat) + q)))))) (11 : Int) (List.length (dl m (itB fun q ↦ rowB b ((0 : Nat) + q)))) then Res.out Ex.ret [AV.v (Value.bool true)] [AB.row false m (1 : Nat) (rowB b) (5 : TypeId)] else bif !dk (itW (row9 (wfun (dm m (itB fun q ↦ rowB b ((0 : Nat) + q)))))) (11 : Int) (List.length (dm m (itB fun q ↦ rowB b ((0 : Nat) + q)))) then Res.out Ex.ret [AV.v (Value.bool true)] [AB.row false m (1 : Nat) (rowB b) (5 : TypeId)] else Res.out Ex.ret [AV.v (Value.bool (dv (itW (row9 (wfun (dl m (itB fun q ↦ rowB b ((0 : Nat) + q)))))) (11 : Int) (List.length (dl m (itB fun q ↦ rowB b ((0 : Nat) + q)))) (0 : Nat) == dv (itW (row9 (wfun (dm m (itB fun q ↦ rowB b ((0 : Nat) + q)))))) (11 : Int) (List.length (dm m (itB fun q ↦ rowB b ((0 : Nat) + q)))) (0 : Nat) && (dv (itW (row9 (wfun (dl m (itB fun q ↦ rowB b ((0 : Nat) + q)))))) (11 : Int) (List.length (dl m (itB fun q ↦ rowB b ((0 : Nat) + q)))) (1 : Nat) == dv (itW (row9 (wfun (dm m (itB fun q ↦ rowB b ((0 : Nat) + q)))))) (11 : Int) (List.length (dm m (itB fun q ↦ rowB b ((0 : Nat) + q)))) (1 : Nat) && (dv (itW (row9 (wfun (dl m (itB fun q ↦ rowB b ((0 : Nat) + q)))))) (11 : Int) (List.length (dl m (itB fun q ↦ rowB b ((0 : Nat) + q)))) (2 : Nat) == dv (itW (row9 (wfun (dm m (itB fun q ↦ rowB b ((0 : Nat) + q)))))) (11 : Int) (List.length (dm m (itB fun q ↦ rowB b ((0 : Nat) + q)))) (2 : Nat) && (dv (itW (row9 (wfun (dl m (itB fun q ↦ rowB b ((0 : Nat) + q)))))) (11 : Int) (List.length (dl m (itB fun q ↦ rowB b ((0 : Nat) + q)))) (3 : Nat) == dv (itW (row9 (wfun (dm m (itB fun q ↦ rowB b ((0 : Nat) + q)))))) (11 : Int) (List.length (dm m (itB fun q ↦ rowB b ((0 : Nat) + q)))) (3 : Nat) && (dv (itW (row9 (wfun (dl m (itB fun q ↦ rowB b ((0 : Nat) + q)))))) (11 : Int) (List.length (dl m (itB fun q ↦ rowB b ((0 : Nat) + q)))) (4 : Nat) == dv (itW (row9 (wfun (dm m (itB fun q ↦ rowB b ((0 : Nat) + q)))))) (11 : Int) (List.length (dm m (itB fun q ↦ rowB b ((0 : Nat) + q)))) (4 : Nat) && (dv (itW (row9 (wfun (dl m (itB fun q ↦ rowB b ((0 : Nat) + q)))))) (11 : Int) (List.length (dl m (itB fun q ↦ rowB b ((0 : Nat) + q)))) (5 : Nat) == dv (itW (row9 (wfun (dm m (itB fun q ↦ rowB b ((0 : Nat) + q)))))) (11 : Int) (List.length (dm m (itB fun q ↦ rowB b ((0 : Nat) + q)))) (5 : Nat) && (dv (itW (row9 (wfun (dl m (itB fun q ↦ rowB b ((0 : Nat) + q)))))) (11 : Int) (List.length (dl m (itB fun q ↦ rowB b ((0 : Nat) + q)))) (6 : Nat) == dv (itW (row9 (wfun (dm m (itB fun q ↦ rowB b ((0 : Nat) + q)))))) (11 : Int) (List.length (dm m (itB fun q ↦ rowB b ((0 : Nat) + q)))) (6 : Nat) && (dv (itW (row9 (wfun (dl m (itB fun q ↦ rowB b ((0 : Nat) + q)))))) (11 : Int) (List.length (dl m (itB fun q ↦ rowB b ((0 : Nat) + q)))) (7 : Nat) == dv (itW (row9 (wfun (dm m (itB fun q ↦ rowB b ((0 : Nat) + q)))))) (11 : Int) (List.length (dm m (itB fun q ↦ rowB b ((0 : Nat) + q)))) (7 : Nat) && true))))))) && true))] [AB.row false m (1 : Nat) (rowB b) (5 : TypeId)] else Res.out Ex.ret [AV.v (Value.bool false)] [AB.row false m (1 : Nat) (rowB b) (5 : TypeId)]) else Res.out Ex.ret [AV.v (Value.bool false)] [AB.row false m (1 : Nat) (rowB b) (5 : TypeId)] else Res.out Ex.ret [AV.v (Value.bool false)] [AB.row false m (1 : Nat) (rowB b) (5 : TypeId)])) else bif !eq (listW (itW fun q ↦ row9 (wfun (tI (listW (itW (row9 (wfun (dl m (itB fun q ↦ rowB b ((0 : Nat) + q)))))) (List.length (dl m (itB fun q ↦ rowB b ((0 : Nat) + q))))))) ((0 : Nat) + q)) (List.length (tI (listW (itW (row9 (wfun (dl m (itB fun q ↦ rowB b ((0 : Nat) + q)))))) (List.length (dl m (itB fun q ↦ rowB b ((0 : Nat) + q)))))))) (listW (itW fun q ↦ row9 (wfun (tI (listW (itW (row9 (wfun (dm m (itB fun q ↦ rowB b ((0 : Nat) + q)))))) (List.length (dm m (itB fun q ↦ rowB b ((0 : Nat) + q))))))) ((0 : Nat) + q)) (List.length (tI (listW (itW (row9 (wfun (dm m (itB fun q ↦ rowB b ((0 : Nat) + q)))))) (List.length (dm m (itB fun q ↦ rowB b ((0 : Nat) + q)))))))) == false then Res.out Ex.ret [AV.v (Value.bool (eq (listW (itW fun q ↦ row9 (wfun (tI (listW (itW (row9 (wfun (dl m (itB fun q ↦ rowB b ((0 : Nat) + q)))))) (List.length (dl m (itB fun q ↦ rowB b ((0 : Nat) + q))))))) ((0 : Nat) + q)) (List.length (tI (listW (itW (row9 (wfun (dl m (itB fun q ↦ rowB b ((0 : Nat) + q)))))) (List.length (dl m (itB fun q ↦ rowB b ((0 : Nat) + q)))))))) (listW (itW fun q ↦ row9 (wfun (tI (listW (itW (row9 (wfun (dm m (itB fun q ↦ rowB b ((0 : Nat) + q)))))) (List.length (dm m (itB fun q ↦ rowB b ((0 : Nat) + q))))))) ((0 : Nat) + q)) (List.length (tI (listW (itW (row9 (wfun (dm m (itB fun q ↦ rowB b ((0 : Nat) + q)))))) (List.length (dm m (itB fun q ↦ rowB b ((0 : Nat) + q)))))))) == false))] [AB.row false m (1 : Nat) (rowB b) (5 : TypeId)] else bif !eq (listW (itW fun q ↦ row9 (wfun (tI (listW (itW (row9 (wfun (dl m (itB fun q ↦ rowB b ((0 : Nat) + q)))))) (List.length (dl m (itB fun q ↦ rowB b ((0 : Nat) + q))))))) ((0 : Nat) + q)) (List.length (tI (listW (itW (row9 (wfun (dl m (itB fun q ↦ rowB b ((0 : Nat) + q)))))) (List.length (dl m (itB fun q ↦ rowB b ((0 : Nat) + q)))))))) (listW (itW fun q ↦ row9 (wfun (tI (listW (itW (row9 (wfun (dm m (itB fun q ↦ rowB b ((0 : Nat) + q)))))) (List.length (dm m (itB fun q ↦ rowB b ((0 : Nat) + q))))))) ((0 : Nat) + q)) (List.length (tI (listW (itW (row9 (wfun (dm m (itB fun q ↦ rowB b ((0 : Nat) + q)))))) (List.length (dm m (itB fun q ↦ rowB b ((0 : Nat) + q)))))))) then Res.out Ex.ret [AV.v (Value.bool (eq (listW (itW fun q ↦ row9 (wfun (tI (listW (itW (row9 (wfun (dl m (itB fun q ↦ rowB b ((0 : Nat) + q)))))) (List.length (dl m (itB fun q ↦ rowB b ((0 : Nat) + q))))))) ((0 : Nat) + q)) (List.length (tI (listW (itW (row9 (wfun (dl m (itB fun q ↦ rowB b ((0 : Nat) + q)))))) (List.length (dl m (itB fun q ↦ rowB b ((0 : Nat) + q)))))))) (listW (itW fun q ↦ row9 (wfun (tI (listW (itW (row9 (wfun (dm m (itB fun q ↦ rowB b ((0 : Nat) + q)))))) (List.length (dm m (itB fun q ↦ rowB b ((0 : Nat) + q))))))) ((0 : Nat) + q)) (List.length (tI (listW (itW (row9 (wfun (dm m (itB fun q ↦ rowB b ((0 : Nat) + q)))))) (List.length (dm m (itB fun q ↦ rowB b ((0 : Nat) + q)))))))) == false))] [AB.row false m (1 : Nat) (rowB b) (5 : TypeId)] else needs [Nat.ble (List.length (dl m (itB fun q ↦ rowB b ((0 : Nat) + q)))) (List.length (dl m (itB fun q ↦ rowB b ((0 : Nat) + q)))), allW (List.length (dl m (itB fun q ↦ rowB b ((0 : Nat) + q)))) (row9 (wfun (dl m (itB fun q ↦ rowB b ((0 : Nat) + q))))), decide (List.length (dl m (itB fun q ↦ rowB b ((0 : Nat) + q))) ≤ (274877906944 : Nat)), Nat.ble (List.length (dm m (itB fun q ↦ rowB b ((0 : Nat) + q)))) (List.length (dm m (itB fun q ↦ rowB b ((0 : Nat) + q)))), allW (List.length (dm m (itB fun q ↦ rowB b ((0 : Nat) + q)))) (row9 (wfun (dm m (itB fun q ↦ rowB b ((0 : Nat) + q))))), decide (List.length (dm m (itB fun q ↦ rowB b ((0 : Nat) + q))) ≤ (274877906944 : Nat)), Nat.ble (List.length (dm m (itB fun q ↦ rowB b ((0 : Nat) + q)))) (List.length (dm m (itB fun q ↦ rowB b ((0 : Nat) + q)))), allW (List.length (dm m (itB fun q ↦ rowB b ((0 : Nat) + q)))) (row9 (wfun (dm m (itB fun q ↦ rowB b ((0 : Nat) + q))))), decide (List.length (dm m (itB fun q ↦ rowB b ((0 : Nat) + q))) ≤ (274877906944 : Nat)), Nat.ble (List.length (dl m (itB fun q ↦ rowB b ((0 : Nat) + q)))) (List.length (dl m (itB fun q ↦ rowB b ((0 : Nat) + q)))), allW (List.length (dl m (itB fun q ↦ rowB b ((0 : Nat) + q)))) (row9 (wfun (dl m (itB fun q ↦ rowB b ((0 : Nat) + q))))), decide (List.length (dl m (itB fun q ↦ rowB b ((0 : Nat) + q))) ≤ (274877906944 : Nat))] (bif yI (listW (itW (row9 (wfun (dm m (itB fun q ↦ rowB b ((0 : Nat) + q)))))) (List.length (dm m (itB fun q ↦ rowB b ((0 : Nat) + q))))) then bif yI (listW (itW (row9 (wfun (dl m (itB fun q ↦ rowB b ((0 : Nat) + q)))))) (List.length (dl m (itB fun q ↦ rowB b ((0 : Nat) + q))))) then needs [Nat.ble ((0 : Nat) + List.length (tI (listW (itW (row9 (wfun (dm m (itB fun q ↦ rowB b ((0 : Nat) + q)))))) (List.length (dm m (itB fun q ↦ rowB b ((0 : Nat) + q))))))) (List.length (tI (listW (itW (row9 (wfun (dm m (itB fun q ↦ rowB b ((0 : Nat) + q)))))) (List.length (dm m (itB fun q ↦ rowB b ((0 : Nat) + q))))))), Nat.ble ((0 : Nat) + List.length (tI (listW (itW (row9 (wfun (dl m (itB fun q ↦ rowB b ((0 : Nat) + q)))))) (List.length (dl m (itB fun q ↦ rowB b ((0 : Nat) + q))))))) (List.length (tI (listW (itW (row9 (wfun (dl m (itB fun q ↦ rowB b ((0 : Nat) + q)))))) (List.length (dl m (itB fun q ↦ rowB b ((0 : Nat) + q))))))), allW (List.length (tI (listW (itW (row9 (wfun (dm m (itB fun q ↦ rowB b ((0 : Nat) + q)))))) (List.length (dm m (itB fun q ↦ rowB b ((0 : Nat) + q))))))) fun q ↦ row9 (wfun (tI (listW (itW (row9 (wfun (dm m (itB fun q ↦ rowB b ((0 : Nat) + q)))))) (List.length (dm m (itB fun q ↦ rowB b ((0 : Nat) + q))))))) ((0 : Nat) + q), allW (List.length (tI (listW (itW (row9 (wfun (dl m (itB fun q ↦ rowB b ((0 : Nat) + q)))))) (List.length (dl m (itB fun q ↦ rowB b ((0 : Nat) + q))))))) fun q ↦ row9 (wfun (tI (listW (itW (row9 (wfun (dl m (itB fun q ↦ rowB b ((0 : Nat) + q)))))) (List.length (dl m (itB fun q ↦ rowB b ((0 : Nat) + q))))))) ((0 : Nat) + q), decide (List.length (tI (listW (itW (row9 (wfun (dm m (itB fun q ↦ rowB b ((0 : Nat) + q)))))) (List.length (dm m (itB fun q ↦ rowB b ((0 : Nat) + q)))))) ≤ (274877906944 : Nat))] (bif eq (listW (itW fun q ↦ row9 (wfun (tI (listW (itW (row9 (wfun (dm m (itB fun q ↦ rowB b ((0 : Nat) + q)))))) (List.length (dm m (itB fun q ↦ rowB b ((0 : Nat) + q))))))) ((0 : Nat) + q)) (List.length (tI (listW (itW (row9 (wfun (dm m (itB fun q ↦ rowB b ((0 : Nat) + q)))))) (List.length (dm m (itB fun q ↦ rowB b ((0 : Nat) + q)))))))) (listW (itW fun q ↦ row9 (wfun (tI (listW (itW (row9 (wfun (dl m (itB fun q ↦ rowB b ((0 : Nat) + q)))))) (List.length (dl m (itB fun q ↦ rowB b ((0 : Nat) + q))))))) ((0 : Nat) + q)) (List.length (tI (listW (itW (row9 (wfun (dl m (itB fun q ↦ rowB b ((0 : Nat) + q)))))) (List.length (dl m (itB fun q ↦ rowB b ((0 : Nat) + q)))))))) then bif !dk (itW (row9 (wfun (dl m (itB fun q ↦ rowB b ((0 : Nat) + q)))))) (11 : Int) (List.length (dl m (itB fun q ↦ rowB b ((0 : Nat) + q)))) then Res.out Ex.ret [AV.v (Value.bool true)] [AB.row false m (1 : Nat) (rowB b) (5 : TypeId)] else bif !dk (itW (row9 (wfun (dm m (itB fun q ↦ rowB b ((0 : Nat) + q)))))) (11 : Int) (List.length (dm m (itB fun q ↦ rowB b ((0 : Nat) + q)))) then Res.out Ex.ret [AV.v (Value.bool true)] [AB.row false m (1 : Nat) (rowB b) (5 : TypeId)] else Res.out Ex.ret [AV.v (Value.bool (dv (itW (row9 (wfun (dl m (itB fun q ↦ rowB b ((0 : Nat) + q)))))) (11 : Int) (List.length (dl m (itB fun q ↦ rowB b ((0 : Nat) + q)))) (0 : Nat) == dv (itW (row9 (wfun (dm m (itB fun q ↦ rowB b ((0 : Nat) + q)))))) (11 : Int) (List.length (dm m (itB fun q ↦ rowB b ((0 : Nat) + q)))) (0 : Nat) && (dv (itW (row9 (wfun (dl m (itB fun q ↦ rowB b ((0 : Nat) + q)))))) (11 : Int) (List.length (dl m (itB fun q ↦ rowB b ((0 : Nat) + q)))) (1 : Nat) == dv (itW (row9 (wfun (dm m (itB fun q ↦ rowB b ((0 : Nat) + q)))))) (11 : Int) (List.length (dm m (itB fun q ↦ rowB b ((0 : Nat) + q)))) (1 : Nat) && (dv (itW (row9 (wfun (dl m (itB fun q ↦ rowB b ((0 : Nat) + q)))))) (11 : Int) (List.length (dl m (itB fun q ↦ rowB b ((0 : Nat) + q)))) (2 : Nat) == dv (itW (row9 (wfun (dm m (itB fun q ↦ rowB b ((0 : Nat) + q)))))) (11 : Int) (List.length (dm m (itB fun q ↦ rowB b ((0 : Nat) + q)))) (2 : Nat) && (dv (itW (row9 (wfun (dl m (itB fun q ↦ rowB b ((0 : Nat) + q)))))) (11 : Int) (List.length (dl m (itB fun q ↦ rowB b ((0 : Nat) + q)))) (3 : Nat) == dv (itW (row9 (wfun (dm m (itB fun q ↦ rowB b ((0 : Nat) + q)))))) (11 : Int) (List.length (dm m (itB fun q ↦ rowB b ((0 : Nat) + q)))) (3 : Nat) && (dv (itW (row9 (wfun (dl m (itB fun q ↦ rowB b ((0 : Nat) + q)))))) (11 : Int) (List.length (dl m (itB fun q ↦ rowB b ((0 : Nat) + q)))) (4 : Nat) == dv (itW (row9 (wfun (dm m (itB fun q ↦ rowB b ((0 : Nat) + q)))))) (11 : Int) (List.length (dm m (itB fun q ↦ rowB b ((0 : Nat) + q)))) (4 : Nat) && (dv (itW (row9 (wfun (dl m (itB fun q ↦ rowB b ((0 : Nat) + q)))))) (11 : Int) (List.length (dl m (itB fun q ↦ rowB b ((0 : Nat) + q)))) (5 : Nat) == dv (itW (row9 (wfun (dm m (itB fun q ↦ rowB b ((0 : Nat) + q)))))) (11 : Int) (List.length (dm m (itB fun q ↦ rowB b ((0 : Nat) + q)))) (5 : Nat) && (dv (itW (row9 (wfun (dl m (itB fun q ↦ rowB b ((0 : Nat) + q)))))) (11 : Int) (List.length (dl m (itB fun q ↦ rowB b ((0 : Nat) + q)))) (6 : Nat) == dv (itW (row9 (wfun (dm m (itB fun q ↦ rowB b ((0 : Nat) + q)))))) (11 : Int) (List.length (dm m (itB fun q ↦ rowB b ((0 : Nat) + q)))) (6 : Nat) && (dv (itW (row9 (wfun (dl m (itB fun q ↦ rowB b ((0 : Nat) + q)))))) (11 : Int) (List.length (dl m (itB fun q ↦ rowB b ((0 : Nat) + q)))) (7 : Nat) == dv (itW (row9 (wfun (dm m (itB fun q ↦ rowB b ((0 : Nat) + q)))))) (11 : Int) (List.length (dm m (itB fun q ↦ rowB b ((0 : Nat) + q)))) (7 : Nat) && true))))))) && true))] [AB.row false m (1 : Nat) (rowB b) (5 : TypeId)] else Res.out Ex.ret [AV.v (Value.bool false)] [AB.row false m (1 : Nat) (rowB b) (5 : TypeId)]) else Res.out Ex.ret [AV.v (Value.bool false)] [AB.row false m (1 : Nat) (rowB b) (5 : TypeId)] else Res.out Ex.ret [AV.v (Value.bool false)] [AB.row false m (1 : Nat) (rowB b) (5 : TypeId)]) else bif !eq (listW (itW fun q ↦ row9 (wfun (tI (listW (itW (row9 (wfun (dl m (itB fun q ↦ rowB b ((0 : Nat) + q)))))) (List.length (dl m (itB fun q ↦ rowB b ((0 : Nat) + q))))))) ((0 : Nat) + q)) (List.length (tI (listW (itW (row9 (wfun (dl m (itB fun q ↦ rowB b ((0 : Nat) + q)))))) (List.length (dl m (itB fun q ↦ rowB b ((0 : Nat) + q)))))))) (listW (itW fun q ↦ row9 (wfun (tI (listW (itW (row9 (wfun (dm m (itB fun q ↦ rowB b ((0 : Nat) + q)))))) (List.length (dm m (itB fun q ↦ rowB b ((0 : Nat) + q))))))) ((0 : Nat) + q)) (List.length (tI (listW (itW (row9 (wfun (dm m (itB fun q ↦ rowB b ((0 : Nat) + q)))))) (List.length (dm m (itB fun q ↦ rowB b ((0 : Nat) + q)))))))) == false then Res.out Ex.ret [AV.v (Value.bool (eq (listW (itW fun q ↦ row9 (wfun (tI (listW (itW (row9 (wfun (dl m (itB fun q ↦ rowB b ((0 : Nat) + q)))))) (List.length (dl m (itB fun q ↦ rowB b ((0 : Nat) + q))))))) ((0 : Nat) + q)) (List.length (tI (listW (itW (row9 (wfun (dl m (itB fun q ↦ rowB b ((0 : Nat) + q)))))) (List.length (dl m (itB fun q ↦ rowB b ((0 : Nat) + q)))))))) (listW (itW fun q ↦ row9 (wfun (tI (listW (itW (row9 (wfun (dm m (itB fun q ↦ rowB b ((0 : Nat) + q)))))) (List.length (dm m (itB fun q ↦ rowB b ((0 : Nat) + q))))))) ((0 : Nat) + q)) (List.length (tI (listW (itW (row9 (wfun (dm m (itB fun q ↦ rowB b ((0 : Nat) + q)))))) (List.length (dm m (itB fun q ↦ rowB b ((0 : Nat) + q)))))))) == false))] [AB.row false m (1 : Nat) (rowB b) (5 : TypeId)] else bif !eq (listW (itW fun q ↦ row9 (wfun (tI (listW (itW (row9 (wfun (dl m (itB fun q ↦ rowB b ((0 : Nat) + q)))))) (List.length (dl m (itB fun q ↦ rowB b ((0 : Nat) + q))))))) ((0 : Nat) + q)) (List.length (tI (listW (itW (row9 (wfun (dl m (itB fun q ↦ rowB b ((0 : Nat) + q)))))) (List.length (dl m (itB fun q ↦ rowB b ((0 : Nat) + q)))))))) (listW (itW fun q ↦ row9 (wfun (tI (listW (itW (row9 (wfun (dm m (itB fun q ↦ rowB b ((0 : Nat) + q)))))) (List.length (dm m (itB fun q ↦ rowB b ((0 : Nat) + q))))))) ((0 : Nat) + q)) (List.length (tI (listW (itW (row9 (wfun (dm m (itB fun q ↦ rowB b ((0 : Nat) + q)))))) (List.length (dm m (itB fun q ↦ rowB b ((0 : Nat) + q)))))))) then Res.out Ex.ret [AV.v (Value.bool (eq (listW (itW fun q ↦ row9 (wfun (tI (listW (itW (row9 (wfun (dl m (itB fun q ↦ rowB b ((0 : Nat) + q)))))) (List.length (dl m (itB fun q ↦ rowB b ((0 : Nat) + q))))))) ((0 : Nat) + q)) (List.length (tI (listW (itW (row9 (wfun (dl m (itB fun q ↦ rowB b ((0 : Nat) + q)))))) (List.length (dl m (itB fun q ↦ rowB b ((0 : Nat) + q)))))))) (listW (itW fun q ↦ row9 (wfun (tI (listW (itW (row9 (wfun (dm m (itB fun q ↦ rowB b ((0 : Nat) + q)))))) (List.length (dm m (itB fun q ↦ rowB b ((0 : Nat) + q))))))) ((0 : Nat) + q)) (List.length (tI (listW (itW (row9 (wfun (dm m (itB fun q ↦ rowB b ((0 : Nat) + q)))))) (List.length (dm m (itB fun q ↦ rowB b ((0 : Nat) + q)))))))) == false))] [AB.row false m (1 : Nat) (rowB b) (5 : TypeId)] else needs [Nat.ble (List.length (dl m (itB fun q ↦ rowB b ((0 : Nat) + q)))) (List.length (dl m (itB fun q ↦ rowB b ((0 : Nat) + q)))), allW (List.length (dl m (itB fun q ↦ rowB b ((0 : Nat) + q)))) (row9 (wfun (dl m (itB fun q ↦ rowB b ((0 : Nat) + q))))), decide (List.length (dl m (itB fun q ↦ rowB b ((0 : Nat) + q))) ≤ (274877906944 : Nat)), Nat.ble (List.length (dm m (itB fun q ↦ rowB b ((0 : Nat) + q)))) (List.length (dm m (itB fun q ↦ rowB b ((0 : Nat) + q)))), allW (List.length (dm m (itB fun q ↦ rowB b ((0 : Nat) + q)))) (row9 (wfun (dm m (itB fun q ↦ rowB b ((0 : Nat) + q))))), decide (List.length (dm m (itB fun q ↦ rowB b ((0 : Nat) + q))) ≤ (274877906944 : Nat)), Nat.ble (List.length (dm m (itB fun q ↦ rowB b ((0 : Nat) + q)))) (List.length (dm m (itB fun q ↦ rowB b ((0 : Nat) + q)))), allW (List.length (dm m (itB fun q ↦ rowB b ((0 : Nat) + q)))) (row9 (wfun (dm m (itB fun q ↦ rowB b ((0 : Nat) + q))))), decide (List.length (dm m (itB fun q ↦ rowB b ((0 : Nat) + q))) ≤ (274877906944 : Nat)), Nat.ble (List.length (dl m (itB fun q ↦ rowB b ((0 : Nat) + q)))) (List.length (dl m (itB fun q ↦ rowB b ((0 : Nat) + q)))), allW (List.length (dl m (itB fun q ↦ rowB b ((0 : Nat) + q)))) (row9 (wfun (dl m (itB fun q ↦ rowB b ((0 : Nat) + q))))), decide (List.length (dl m (itB fun q ↦ rowB b ((0 : Nat) + q))) ≤ (274877906944 : Nat))] (bif yI (listW (itW (row9 (wfun (dm m (itB fun q ↦ rowB b ((0 : Nat) + q)))))) (List.length (dm m (itB fun q ↦ rowB b ((0 : Nat) + q))))) then bif yI (listW (itW (row9 (wfun (dl m (itB fun q ↦ rowB b ((0 : Nat) + q)))))) (List.length (dl m (itB fun q ↦ rowB b ((0 : Nat) + q))))) then needs [Nat.ble ((0 : Nat) + List.length (tI (listW (itW (row9 (wfun (dm m (itB fun q ↦ rowB b ((0 : Nat) + q)))))) (List.length (dm m (itB fun q ↦ rowB b ((0 : Nat) + q))))))) (List.length (tI (listW (itW (row9 (wfun (dm m (itB fun q ↦ rowB b ((0 : Nat) + q)))))) (List.length (dm m (itB fun q ↦ rowB b ((0 : Nat) + q))))))), Nat.ble ((0 : Nat) + List.length (tI (listW (itW (row9 (wfun (dl m (itB fun q ↦ rowB b ((0 : Nat) + q)))))) (List.length (dl m (itB fun q ↦ rowB b ((0 : Nat) + q))))))) (List.length (tI (listW (itW (row9 (wfun (dl m (itB fun q ↦ rowB b ((0 : Nat) + q)))))) (List.length (dl m (itB fun q ↦ rowB b ((0 : Nat) + q))))))), allW (List.length (tI (listW (itW (row9 (wfun (dm m (itB fun q ↦ rowB b ((0 : Nat) + q)))))) (List.length (dm m (itB fun q ↦ rowB b ((0 : Nat) + q))))))) fun q ↦ row9 (wfun (tI (listW (itW (row9 (wfun (dm m (itB fun q ↦ rowB b ((0 : Nat) + q)))))) (List.length (dm m (itB fun q ↦ rowB b ((0 : Nat) + q))))))) ((0 : Nat) + q), allW (List.length (tI (listW (itW (row9 (wfun (dl m (itB fun q ↦ rowB b ((0 : Nat) + q)))))) (List.length (dl m (itB fun q ↦ rowB b ((0 : Nat) + q))))))) fun q ↦ row9 (wfun (tI (listW (itW (row9 (wfun (dl m (itB fun q ↦ rowB b ((0 : Nat) + q)))))) (List.length (dl m (itB fun q ↦ rowB b ((0 : Nat) + q))))))) ((0 : Nat) + q), decide (List.length (tI (listW (itW (row9 (wfun (dm m (itB fun q ↦ rowB b ((0 : Nat) + q)))))) (List.length (dm m (itB fun q ↦ rowB b ((0 : Nat) + q)))))) ≤ (274877906944 : Nat))] (bif eq (listW (itW fun q ↦ row9 (wfun (tI (listW (itW (row9 (wfun (dm m (itB fun q ↦ rowB b ((0 : Nat) + q)))))) (List.length (dm m (itB fun q ↦ rowB b ((0 : Nat) + q))))))) ((0 : Nat) + q)) (List.length (tI (listW (itW (row9 (wfun (dm m (itB fun q ↦ rowB b ((0 : Nat) + q)))))) (List.length (dm m (itB fun q ↦ rowB b ((0 : Nat) + q)))))))) (listW (itW fun q ↦ row9 (wfun (tI (listW (itW (row9 (wfun (dl m (itB fun q ↦ rowB b ((0 : Nat) + q)))))) (List.length (dl m (itB fun q ↦ rowB b ((0 : Nat) + q))))))) ((0 : Nat) + q)) (List.length (tI (listW (itW (row9 (wfun (dl m (itB fun q ↦ rowB b ((0 : Nat) + q)))))) (List.length (dl m (itB fun q ↦ rowB b ((0 : Nat) + q)))))))) then bif !dk (itW (row9 (wfun (dl m (itB fun q ↦ rowB b ((0 : Nat) + q)))))) (11 : Int) (List.length (dl m (itB fun q ↦ rowB b ((0 : Nat) + q)))) then Res.out Ex.ret [AV.v (Value.bool true)] [AB.row false m (1 : Nat) (rowB b) (5 : TypeId)] else bif !dk (itW (row9 (wfun (dm m (itB fun q ↦ rowB b ((0 : Nat) + q)))))) (11 : Int) (List.length (dm m (itB fun q ↦ rowB b ((0 : Nat) + q)))) then Res.out Ex.ret [AV.v (Value.bool true)] [AB.row false m (1 : Nat) (rowB b) (5 : TypeId)] else Res.out Ex.ret [AV.v (Value.bool (dv (itW (row9 (wfun (dl m (itB fun q ↦ rowB b ((0 : Nat) + q)))))) (11 : Int) (List.length (dl m (itB fun q ↦ rowB b ((0 : Nat) + q)))) (0 : Nat) == dv (itW (row9 (wfun (dm m (itB fun q ↦ rowB b ((0 : Nat) + q)))))) (11 : Int) (List.length (dm m (itB fun q ↦ rowB b ((0 : Nat) + q)))) (0 : Nat) && (dv (itW (row9 (wfun (dl m (itB fun q ↦ rowB b ((0 : Nat) + q)))))) (11 : Int) (List.length (dl m (itB fun q ↦ rowB b ((0 : Nat) + q)))) (1 : Nat) == dv (itW (row9 (wfun (dm m (itB fun q ↦ rowB b ((0 : Nat) + q)))))) (11 : Int) (List.length (dm m (itB fun q ↦ rowB b ((0 : Nat) + q)))) (1 : Nat) && (dv (itW (row9 (wfun (dl m (itB fun q ↦ rowB b ((0 : Nat) + q)))))) (11 : Int) (List.length (dl m (itB fun q ↦ rowB b ((0 : Nat) + q)))) (2 : Nat) == dv (itW (row9 (wfun (dm m (itB fun q ↦ rowB b ((0 : Nat) + q)))))) (11 : Int) (List.length (dm m (itB fun q ↦ rowB b ((0 : Nat) + q)))) (2 : Nat) && (dv (itW (row9 (wfun (dl m (itB fun q ↦ rowB b ((0 : Nat) + q)))))) (11 : Int) (List.length (dl m (itB fun q ↦ rowB b ((0 : Nat) + q)))) (3 : Nat) == dv (itW (row9 (wfun (dm m (itB fun q ↦ rowB b ((0 : Nat) + q)))))) (11 : Int) (List.length (dm m (itB fun q ↦ rowB b ((0 : Nat) + q)))) (3 : Nat) && (dv (itW (row9 (wfun (dl m (itB fun q ↦ rowB b ((0 : Nat) + q)))))) (11 : Int) (List.length (dl m (itB fun q ↦ rowB b ((0 : Nat) + q)))) (4 : Nat) == dv (itW (row9 (wfun (dm m (itB fun q ↦ rowB b ((0 : Nat) + q)))))) (11 : Int) (List.length (dm m (itB fun q ↦ rowB b ((0 : Nat) + q)))) (4 : Nat) && (dv (itW (row9 (wfun (dl m (itB fun q ↦ rowB b ((0 : Nat) + q)))))) (11 : Int) (List.length (dl m (itB fun q ↦ rowB b ((0 : Nat) + q)))) (5 : Nat) == dv (itW (row9 (wfun (dm m (itB fun q ↦ rowB b ((0 : Nat) + q)))))) (11 : Int) (List.length (dm m (itB fun q ↦ rowB b ((0 : Nat) + q)))) (5 : Nat) && (dv (itW (row9 (wfun (dl m (itB fun q ↦ rowB b ((0 : Nat) + q)))))) (11 : Int) (List.length (dl m (itB fun q ↦ rowB b ((0 : Nat) + q)))) (6 : Nat) == dv (itW (row9 (wfun (dm m (itB fun q ↦ rowB b ((0 : Nat) + q)))))) (11 : Int) (List.length (dm m (itB fun q ↦ rowB b ((0 : Nat) + q)))) (6 : Nat) && (dv (itW (row9 (wfun (dl m (itB fun q ↦ rowB b ((0 : Nat) + q)))))) (11 : Int) (List.length (dl m (itB fun q ↦ rowB b ((0 : Nat) + q)))) (7 : Nat) == dv (itW (row9 (wfun (dm m (itB fun q ↦ rowB b ((0 : Nat) + q)))))) (11 : Int) (List.length (dm m (itB fun q ↦ rowB b ((0 : Nat) + q)))) (7 : Nat) && true))))))) && true))] [AB.row false m (1 : Nat) (rowB b) (5 : TypeId)] else Res.out Ex.ret [AV.v (Value.bool false)] [AB.row false m (1 : Nat) (rowB b) (5 : TypeId)]) else Res.out Ex.ret [AV.v (Value.bool false)] [AB.row false m (1 : Nat) (rowB b) (5 : TypeId)] else Res.out Ex.ret [AV.v (Value.bool false)] [AB.row false m (1 : Nat) (rowB b) (5 : TypeId)])) else needs [Nat.ble (List.length (dl m (itB fun q ↦ rowB b ((0 : Nat) + q)))) (List.length (dl m (itB fun q ↦ rowB b ((0 : Nat) + q)))), allW (List.length (dl m (itB fun q ↦ rowB b ((0 : Nat) + q)))) (row9 (wfun (dl m (itB fun q ↦ rowB b ((0 : Nat) + q))))), decide (List.length (dl m (itB fun q ↦ rowB b ((0 : Nat) + q))) ≤ (274877906944 : Nat)), Nat.ble (List.length (dm m (itB fun q ↦ rowB b ((0 : Nat) + q)))) (List.length (dm m (itB fun q ↦ rowB b ((0 : Nat) + q)))), allW (List.length (dm m (itB fun q ↦ rowB b ((0 : Nat) + q)))) (row9 (wfun (dm m (itB fun q ↦ rowB b ((0 : Nat) + q))))), decide (List.length (dm m (itB fun q ↦ rowB b ((0 : Nat) + q))) ≤ (274877906944 : Nat))] (bif yI (listW (itW (row9 (wfun (dl m (itB fun q ↦ rowB b ((0 : Nat) + q)))))) (List.length (dl m (itB fun q ↦ rowB b ((0 : Nat) + q))))) then bif yI (listW (itW (row9 (wfun (dm m (itB fun q ↦ rowB b ((0 : Nat) + q)))))) (List.length (dm m (itB fun q ↦ rowB b ((0 : Nat) + q))))) then needs [Nat.ble (List.length (tI (listW (itW (row9 (wfun (dl m (itB fun q ↦ rowB b ((0 : Nat) + q)))))) (List.length (dl m (itB fun q ↦ rowB b ((0 : Nat) + q))))))) (List.length (tI (listW (itW (row9 (wfun (dl m (itB fun q ↦ rowB b ((0 : Nat) + q)))))) (List.length (dl m (itB fun q ↦ rowB b ((0 : Nat) + q))))))), Nat.ble (List.length (tI (listW (itW (row9 (wfun (dm m (itB fun q ↦ rowB b ((0 : Nat) + q)))))) (List.length (dm m (itB fun q ↦ rowB b ((0 : Nat) + q))))))) (List.length (tI (listW (itW (row9 (wfun (dm m (itB fun q ↦ rowB b ((0 : Nat) + q)))))) (List.length (dm m (itB fun q ↦ rowB b ((0 : Nat) + q))))))), allW (List.length (tI (listW (itW (row9 (wfun (dl m (itB fun q ↦ rowB b ((0 : Nat) + q)))))) (List.length (dl m (itB fun q ↦ rowB b ((0 : Nat) + q))))))) (row9 (wfun (tI (listW (itW (row9 (wfun (dl m (itB fun q ↦ rowB b ((0 : Nat) + q)))))) (List.length (dl m (itB fun q ↦ rowB b ((0 : Nat) + q)))))))), allW (List.length (tI (listW (itW (row9 (wfun (dm m (itB fun q ↦ rowB b ((0 : Nat) + q)))))) (List.length (dm m (itB fun q ↦ rowB b ((0 : Nat) + q))))))) (row9 (wfun (tI (listW (itW (row9 (wfun (dm m (itB fun q ↦ rowB b ((0 : Nat) + q)))))) (List.length (dm m (itB fun q ↦ rowB b ((0 : Nat) + q)))))))), decide (List.length (tI (listW (itW (row9 (wfun (dl m (itB fun q ↦ rowB b ((0 : Nat) + q)))))) (List.length (dl m (itB fun q ↦ rowB b ((0 : Nat) + q)))))) ≤ (274877906944 : Nat))] (bif !false == eq (listW (itW (row9 (wfun (tI (listW (itW (row9 (wfun (dl m (itB fun q ↦ rowB b ((0 : Nat) + q)))))) (List.length (dl m (itB fun q ↦ rowB b ((0 : Nat) + q))))))))) (List.length (tI (listW (itW (row9 (wfun (dl m (itB fun q ↦ rowB b ((0 : Nat) + q)))))) (List.length (dl m (itB fun q ↦ rowB b ((0 : Nat) + q)))))))) (listW (itW (row9 (wfun (tI (listW (itW (row9 (wfun (dm m (itB fun q ↦ rowB b ((0 : Nat) + q)))))) (List.length (dm m (itB fun q ↦ rowB b ((0 : Nat) + q))))))))) (List.length (tI (listW (itW (row9 (wfun (dm m (itB fun q ↦ rowB b ((0 : Nat) + q)))))) (List.length (dm m (itB fun q ↦ rowB b ((0 : Nat) + q)))))))) then Res.out Ex.ret [AV.v (Value.bool (false == eq (listW (itW (row9 (wfun (tI (listW (itW (row9 (wfun (dl m (itB fun q ↦ rowB b ((0 : Nat) + q)))))) (List.length (dl m (itB fun q ↦ rowB b ((0 : Nat) + q))))))))) (List.length (tI (listW (itW (row9 (wfun (dl m (itB fun q ↦ rowB b ((0 : Nat) + q)))))) (List.length (dl m (itB fun q ↦ rowB b ((0 : Nat) + q)))))))) (listW (itW (row9 (wfun (tI (listW (itW (row9 (wfun (dm m (itB fun q ↦ rowB b ((0 : Nat) + q)))))) (List.length (dm m (itB fun q ↦ rowB b ((0 : Nat) + q))))))))) (List.length (tI (listW (itW (row9 (wfun (dm m (itB fun q ↦ rowB b ((0 : Nat) + q)))))) (List.length (dm m (itB fun q ↦ rowB b ((0 : Nat) + q))))))))))] [AB.row false m (1 : Nat) (rowB b) (5 : TypeId)] else Res.out Ex.ret [AV.v (Value.bool (false == eq (listW (itW (row9 (wfun (tI (listW (itW (row9 (wfun (dl m (itB fun q ↦ rowB b ((0 : Nat) + q)))))) (List.length (dl m (itB fun q ↦ rowB b ((0 : Nat) + q))))))))) (List.length (tI (listW (itW (row9 (wfun (dl m (itB fun q ↦ rowB b ((0 : Nat) + q)))))) (List.length (dl m (itB fun q ↦ rowB b ((0 : Nat) + q)))))))) (listW (itW (row9 (wfun (tI (listW (itW (row9 (wfun (dm m (itB fun q ↦ rowB b ((0 : Nat) + q)))))) (List.length (dm m (itB fun q ↦ rowB b ((0 : Nat) + q))))))))) (List.length (tI (listW (itW (row9 (wfun (dm m (itB fun q ↦ rowB b ((0 : Nat) + q)))))) (List.length (dm m (itB fun q ↦ rowB b ((0 : Nat) + q))))))))))] [AB.row false m (1 : Nat) (rowB b) (5 : TypeId)]) else Res.out Ex.ret [AV.v (Value.bool true)] [AB.row false m (1 : Nat) (rowB b) (5 : TypeId)] else Res.out Ex.ret [AV.v (Value.bool true)] [AB.row false m (1 : Nat) (rowB b) (5 : TypeId)]) else needs [Nat.ble (List.length (dl m (itB fun q ↦ rowB b ((0 : Nat) + q)))) (List.length (dl m (itB fun q ↦ rowB b ((0 : Nat) + q)))), allW (List.length (dl m (itB fun q ↦ rowB b ((0 : Nat) + q)))) (row9 (wfun (dl m (itB fun q ↦ rowB b ((0 : Nat) + q))))), decide (List.length (dl m (itB fun q ↦ rowB b ((0 : Nat) + q))) ≤ (274877906944 : Nat)), Nat.ble (List.length (dm m (itB fun q ↦ rowB b ((0 : Nat) + q)))) (List.length (dm m (itB fun q ↦ rowB b ((0 : Nat) + q)))), allW (List.length (dm m (itB fun q ↦ rowB b ((0 : Nat) + q)))) (row9 (wfun (dm m (itB fun q ↦ rowB b ((0 : Nat) + q))))), decide (List.length (dm m (itB fun q ↦ rowB b ((0 : Nat) + q))) ≤ (274877906944 : Nat))] (bif yI (listW (itW (row9 (wfun (dl m (itB fun q ↦ rowB b ((0 : Nat) + q)))))) (List.length (dl m (itB fun q ↦ rowB b ((0 : Nat) + q))))) then bif yI (listW (itW (row9 (wfun (dm m (itB fun q ↦ rowB b ((0 : Nat) + q)))))) (List.length (dm m (itB fun q ↦ rowB b ((0 : Nat) + q))))) then needs [Nat.ble (List.length (tI (listW (itW (row9 (wfun (dl m (itB fun q ↦ rowB b ((0 : Nat) + q)))))) (List.length (dl m (itB fun q ↦ rowB b ((0 : Nat) + q))))))) (List.length (tI (listW (itW (row9 (wfun (dl m (itB fun q ↦ rowB b ((0 : Nat) + q)))))) (List.length (dl m (itB fun q ↦ rowB b ((0 : Nat) + q))))))), Nat.ble (List.length (tI (listW (itW (row9 (wfun (dm m (itB fun q ↦ rowB b ((0 : Nat) + q)))))) (List.length (dm m (itB fun q ↦ rowB b ((0 : Nat) + q))))))) (List.length (tI (listW (itW (row9 (wfun (dm m (itB fun q ↦ rowB b ((0 : Nat) + q)))))) (List.length (dm m (itB fun q ↦ rowB b ((0 : Nat) + q))))))), allW (List.length (tI (listW (itW (row9 (wfun (dl m (itB fun q ↦ rowB b ((0 : Nat) + q)))))) (List.length (dl m (itB fun q ↦ rowB b ((0 : Nat) + q))))))) (row9 (wfun (tI (listW (itW (row9 (wfun (dl m (itB fun q ↦ rowB b ((0 : Nat) + q)))))) (List.length (dl m (itB fun q ↦ rowB b ((0 : Nat) + q)))))))), allW (List.length (tI (listW (itW (row9 (wfun (dm m (itB fun q ↦ rowB b ((0 : Nat) + q)))))) (List.length (dm m (itB fun q ↦ rowB b ((0 : Nat) + q))))))) (row9 (wfun (tI (listW (itW (row9 (wfun (dm m (itB fun q ↦ rowB b ((0 : Nat) + q)))))) (List.length (dm m (itB fun q ↦ rowB b ((0 : Nat) + q)))))))), decide (List.length (tI (listW (itW (row9 (wfun (dl m (itB fun q ↦ rowB b ((0 : Nat) + q)))))) (List.length (dl m (itB fun q ↦ rowB b ((0 : Nat) + q)))))) ≤ (274877906944 : Nat))] (bif !false == eq (listW (itW (row9 (wfun (tI (listW (itW (row9 (wfun (dl m (itB fun q ↦ rowB b ((0 : Nat) + q)))))) (List.length (dl m (itB fun q ↦ rowB b ((0 : Nat) + q))))))))) (List.length (tI (listW (itW (row9 (wfun (dl m (itB fun q ↦ rowB b ((0 : Nat) + q)))))) (List.length (dl m (itB fun q ↦ rowB b ((0 : Nat) + q)))))))) (listW (itW (row9 (wfun (tI (listW (itW (row9 (wfun (dm m (itB fun q ↦ rowB b ((0 : Nat) + q)))))) (List.length (dm m (itB fun q ↦ rowB b ((0 : Nat) + q))))))))) (List.length (tI (listW (itW (row9 (wfun (dm m (itB fun q ↦ rowB b ((0 : Nat) + q)))))) (List.length (dm m (itB fun q ↦ rowB b ((0 : Nat) + q)))))))) then Res.out Ex.ret [AV.v (Value.bool (false == eq (listW (itW (row9 (wfun (tI (listW (itW (row9 (wfun (dl m (itB fun q ↦ rowB b ((0 : Nat) + q)))))) (List.length (dl m (itB fun q ↦ rowB b ((0 : Nat) + q))))))))) (List.length (tI (listW (itW (row9 (wfun (dl m (itB fun q ↦ rowB b ((0 : Nat) + q)))))) (List.length (dl m (itB fun q ↦ rowB b ((0 : Nat) + q)))))))) (listW (itW (row9 (wfun (tI (listW (itW (row9 (wfun (dm m (itB fun q ↦ rowB b ((0 : Nat) + q)))))) (List.length (dm m (itB fun q ↦ rowB b ((0 : Nat) + q))))))))) (List.length (tI (listW (itW (row9 (wfun (dm m (itB fun q ↦ rowB b ((0 : Nat) + q)))))) (List.length (dm m (itB fun q ↦ rowB b ((0 : Nat) + q))))))))))] [AB.row false m (1 : Nat) (rowB b) (5 : TypeId)] else Res.out Ex.ret [AV.v (Value.bool (false == eq (listW (itW (row9 (wfun (tI (listW (itW (row9 (wfun (dl m (itB fun q ↦ rowB b ((0 : Nat) + q)))))) (List.length (dl m (itB fun q ↦ rowB b ((0 : Nat) + q))))))))) (List.length (tI (listW (itW (row9 (wfun (dl m (itB fun q ↦ rowB b ((0 : Nat) + q)))))) (List.length (dl m (itB fun q ↦ rowB b ((0 : Nat) + q)))))))) (listW (itW (row9 (wfun (tI (listW (itW (row9 (wfun (dm m (itB fun q ↦ rowB b ((0 : Nat) + q)))))) (List.length (dm m (itB fun q ↦ rowB b ((0 : Nat) + q))))))))) (List.length (tI (listW (itW (row9 (wfun (dm m (itB fun q ↦ rowB b ((0 : Nat) + q)))))) (List.length (dm m (itB fun q ↦ rowB b ((0 : Nat) + q))))))))))] [AB.row false m (1 : Nat) (rowB b) (5 : TypeId)]) else Res.out Ex.ret [AV.v (Value.bool true)] [AB.row false m (1 : Nat) (rowB b) (5 : TypeId)] else Res.out Ex.ret [AV.v (Value.bool true)] [AB.row false m (1 : Nat) (rowB b) (5 : TypeId)])) := by kernel_rfl

theorem gmLSm_ok : GamOk Try.prog (gmLSm (fun m b => (bSame m b).1) (fun m b => (bSame m b).2) yI tI eqL daV daOk) := ext_ok (ext_ok (ext_ok (ext_ok (ext_ok (ext_ok g0_ok ok_drSm) ok_UTi) ok_tiS) ok_Es) ok_Le) ok_DAI

end Go.Proofs.Ytakimbknciffnaa

/- FnSame returns true, whatever the bytes are. Conditions: bytes. -/
namespace Go.Proofs.Ytakimbknciffnaa
open Go.RowKit
set_option maxRecDepth 100000

theorem law_same {A B : List Wh} (h1 : yI A = true) (h2 : yI B = true) (he : eqL (tI A) (tI B) = true) {k : Nat} : dAt A 11 k = dAt B 11 k := by
  have e : tI A = tI B := of_decide_eq_true he
  show linS (atT 11 k) A = linS (atT 11 k) B
  rw [← (tI_spec h1).2.2 _ (atT_lin 11 k), ← (tI_spec h2).2.2 _ (atT_lin 11 k), e]
theorem yes_dsm (m : Nat) (b : Nat → Int) (_ : m ≤ 9223372036854775807) (hb : okB m (rowB b) = true) : ∃ Γ n Λ, GamOk Try.prog Γ ∧ (∀ cc, (Try.f4).body = some cc → LamOk Try.prog 1 Λ cc) ∧ GoodQ (execF Try.prog Γ Λ n Try.f4 [.sl 0 1 0 0 m none] [.row false m 1 (rowB b) 5] (packK 1)) SaysYes := by
  refine ⟨_, 100, noLam, gmLSm_ok, noLam' _, ?_⟩
  rw [lawSm]
  refine good_cond (fun _ => good_out rfl) fun c => ?_
  have c := of_decide_eq_false c
  have hl := bSame_len m b
  simp only [Nat.zero_add, itB_row]
  obtain ⟨hl, hl2⟩ := hl
  generalize (bSame m b).2 = B at hl2 ⊢
  generalize (bSame m b).1 = A at hl ⊢
  have l1 := tI_len A
  have l2 := tI_len B
  have b21 : decide (m ≤ 2097152) = true := decide_eq_true (by omega)
  simp only [hb, b21, ble_me, allW_row, b38 hl, b38 hl2, b38 l1, b38 l2, needs_t, needs_nil, beq_self_eq_true, Bool.not_true, cond_false, daOk_row, daV_row, listW_me]
  cases hA : yI A with
  | false =>
    simp only [cond_false]
    exact say rfl
  | true =>
    cases hB : yI B with
    | false =>
      simp only [cond_false, cond_true]
      exact say rfl
    | true =>
      have hc := eqL_comm (tI B) (tI A)
      cases hE : eqL (tI A) (tI B) with
      | false =>
        simp only [cond_false, cond_true, Bool.not_true, Bool.not_false, beq_self_eq_true]
        exact say rfl
      | true =>
        rw [hE] at hc
        simp only [hc, cond_false, cond_true, Bool.not_true]
        refine good_cond (fun _ => good_out rfl) fun h2 => good_cond (fun _ => good_out rfl) fun h3 => ?_
        rw [Bool.not_eq_false'] at h2 h3
        exact say (eq8a fun k hk => by rw [(da_list h2).2.2.1 k hk, (da_list h3).2.2.1 k hk, law_same hA hB hE])

end Go.Proofs.Ytakimbknciffnaa

/- The same designs have the same points: FnSame returns true, whatever the bytes are, and they read as before. No conditions. -/
namespace Go.Proofs.Ytakimbknciffnaa
open Go.ChangeShapes Go.WideShapes Go.ChangeAt Go.RowKit

set_option maxRecDepth 100000 in
theorem dsm_lifted (os : Os) (started : os.Started) (H : Type) (enc : TypeId × Value → H) :
    ReturnsInHanded {} Try.checked os 4 .any (Rows.fnSameSpec.pre6 enc Try.prog Try.f4 Rows.fnSameRow.domain false) (Rows.fnSameSpec.post enc Try.prog Try.f4 false true false false) := by
  refine returnsInHanded_of_change (C := Try.checked) own started (by kernel_rfl) Try.func4
    (ChangeSpec.witness6 (enc := enc) (C := Try.checked) false ⟨#[], #[.slice none 0 0], []⟩ 8 (by kernel_rfl) (by kernel_rfl) (by kernel_rfl) (by kernel_rfl)) ?_
  intro W base args ds gs before hval hW _ _
  exact contractB (spec := Rows.fnSameSpec) Try.func4 rfl rfl rfl (fun _ _ => rfl) (fun m b hm hb => yes_dsm m b hm hb) H enc W base args ds gs before hval hW

set_option maxRecDepth 100000 in
theorem dsm_f1 : Rows.fnSameRow.wf (OpenSpec.ofChange Rows.fnSameSpec) = true := by kernel_rfl
set_option maxRecDepth 100000 in
theorem dsm_f2 : (Rows.fnSameRow.inPlace == Try.prog.inPlace 4) = true := by kernel_rfl
set_option maxRecDepth 100000 in
theorem dsm_f3 : (Rows.fnSameRow.unfollowed == Try.prog.unfollowed 4) = true := by kernel_rfl
set_option maxRecDepth 100000 in
theorem dsm_f4 : (Rows.fnSameRow.recurses == Try.prog.recurses 4) = true := by kernel_rfl
set_option maxRecDepth 100000 in
theorem dsm_f5 : (Rows.fnSameRow.named == Try.prog.varsNamed 4) = true := by kernel_rfl
set_option maxRecDepth 100000 in
theorem dsm_f6 : Try.prog.funcNamed Rows.fnSameRow.func = some 4 := by kernel_rfl
theorem dsm_f7 : (Rows.fnSameRow.lifted == Try.prog.liftsFinal) = true := jfG
theorem dsm_f8 : (Try.prog.make == some Rows.fnSameRow.make) = true := jfH
theorem dsm_f9 : (Rows.fnSameRow.plainKeys == Try.prog.plainKeys) = true := jfI
set_option maxRecDepth 100000 in
theorem dsm_joined : joinedFacts Try.prog 4 Try.f4 Rows.fnSameSpec Rows.fnSameRow = true := by
  unfold joinedFacts
  rw [jfA, jfB, jfC, jfD, jfE, jfF, dsm_f1, dsm_f2, dsm_f3, dsm_f4, dsm_f5, dsm_f7, dsm_f8, dsm_f9]
  kernel_rfl

theorem dsm_holds : Rows.FnSameSaid :=
  OpenClaim.holds_of_wide 4 Try.f4 rfl rfl rfl rfl rfl rfl rfl ⟨rfl, rfl, rfl, rfl, rfl⟩ rfl rfl rfl rfl rfl dsm_f6 Try.func4 dsm_joined
    (of_decide_eq_true (by kernel_rfl)) (by unfold Func.isWrapper; first | (rw [if_pos (by decide +kernel)]; kernel_rfl) | (rw [if_neg (by decide +kernel)]; exact ⟨rfl, rfl⟩))
    (fun os started H enc _ => dsm_lifted os started H enc)
#print axioms dsm_holds
end Go.Proofs.Ytakimbknciffnaa
