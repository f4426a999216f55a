/- Points of products are products: FnDesignTimes returns true, whatever the bytes are, and they read as before. No conditions. -/
import Derived.Test.YtakimbknciffnaaZD0
import Derived.Test.YtakimbknciffnaaZD1
import Derived.Test.YtakimbknciffnaaZD2
import Derived.Test.YtakimbknciffnaaZD3
import Derived.Test.YtakimbknciffnaaZD4
import Derived.Test.YtakimbknciffnaaZD5
import Derived.Test.YtakimbknciffnaaZD6
/- The program's CycMirror. Conditions: a point. -/
namespace Go.Proofs.Ytakimbknciffnaa
open Go.RowKit
set_option maxRecDepth 100000

def gmO2 (ok : (Nat → Int) → Bool) (mi : (Nat → Int) → Nat → Int) : Gam := ext (ext g0 83 (specV (fOkc ok))) 94 (specV (fMirO mi))
theorem treeO2 (ok : (Nat → Int) → Bool) (mi : (Nat → Int) → Nat → Int) (a : Nat → Int) : execF Try.prog (gmO2 ok mi) noLam 100 Try.f43 [.v (cyv a)] [] (packK 0)
    = bif !ok (w8 a) then Res.out Ex.ret [AV.tup [AV.agg [AV.v (Value.int IntKind.i64 (0 : Int)), AV.v (Value.int IntKind.i64 (0 : Int)), AV.v (Value.int IntKind.i64 (0 : Int)), AV.v (Value.int IntKind.i64 (0 : Int)), AV.v (Value.int IntKind.i64 (0 : Int)), AV.v (Value.int IntKind.i64 (0 : Int)), AV.v (Value.int IntKind.i64 (0 : Int)), AV.v (Value.int IntKind.i64 (0 : Int))], AV.v (Value.bool false)]] [] else bif !ok (w8 (mi (w8 a))) then Res.out Ex.ret [AV.tup [AV.agg [AV.v (Value.int IntKind.i64 (0 : Int)), AV.v (Value.int IntKind.i64 (0 : Int)), AV.v (Value.int IntKind.i64 (0 : Int)), AV.v (Value.int IntKind.i64 (0 : Int)), AV.v (Value.int IntKind.i64 (0 : Int)), AV.v (Value.int IntKind.i64 (0 : Int)), AV.v (Value.int IntKind.i64 (0 : Int)), AV.v (Value.int IntKind.i64 (0 : Int))], AV.v (Value.bool false)]] [] else Res.out Ex.ret [AV.tup [AV.agg [AV.v (Value.int IntKind.i64 (mi (w8 a) (0 : Nat))), AV.v (Value.int IntKind.i64 (mi (w8 a) (1 : Nat))), AV.v (Value.int IntKind.i64 (mi (w8 a) (2 : Nat))), AV.v (Value.int IntKind.i64 (mi (w8 a) (3 : Nat))), AV.v (Value.int IntKind.i64 (mi (w8 a) (4 : Nat))), AV.v (Value.int IntKind.i64 (mi (w8 a) (5 : Nat))), AV.v (Value.int IntKind.i64 (mi (w8 a) (6 : Nat))), AV.v (Value.int IntKind.i64 (mi (w8 a) (7 : Nat)))], AV.v (Value.bool true)]] [] := by kernel_rfl

theorem gmO2_ok : GamOk Try.prog (gmO2 (fun v => cyOk (cyOf v)) mirF) := by
  unfold gmO2
  rw [fOkc_eq, fMirO_eq]
  exact ext_ok (ext_ok g0_ok ok_cvI) ok_mirror
/-- A point: a point, and whether it is one. -/
def FcqO (v : (Nat → Int) → Nat → Int) (ok : (Nat → Int) → Bool) : List SA → Option FR
  | [.v (.agg ⟨[.int .i64 a0, .int .i64 a1, .int .i64 a2, .int .i64 a3, .int .i64 a4, .int .i64 a5, .int .i64 a6, .int .i64 a7]⟩)] => some { val := .tup [.agg (cyC (v (v8 a0 a1 a2 a3 a4 a5 a6 a7))), .v (.bool (ok (v8 a0 a1 a2 a3 a4 a5 a6 a7)))] }
  | _ => none
def okMi (a : Nat → Int) : Bool := cyOk (cyOf a) && cyOk (cyOf (mirF a))
def vMi (a : Nat → Int) : Nat → Int := bif okMi a then mirF a else fun _ => 0
theorem ok_cMi : SpecOk Try.prog 43 (specR [.val] (FcqO vMi okMi)) := by
  refine specR_hr gmO2_ok Try.func43 rfl fun sas fr hF ho => ?_
  unfold FcqO at hF
  split at hF
  · rename_i a0 a1 a2 a3 a4 a5 a6 a7
    cases hF
    refine ⟨[], noLam, 100, .nil, noLam' _, ?_⟩
    show GoodQ (execF Try.prog (gmO2 (fun v => cyOk (cyOf v)) mirF) noLam 100 Try.f43 [.v (cyv (v8 a0 a1 a2 a3 a4 a5 a6 a7))] [] (packK 0)) _
    rw [treeO2]
    generalize hA : v8 a0 a1 a2 a3 a4 a5 a6 a7 = a
    have hw : w8 a = a := by subst hA; rfl
    rw [hw]
    have fin : ∀ (v : Nat → Int) (o : Bool), vMi a = v → okMi a = o → GoodQ (.out .ret [.tup [.agg (cyC v), .v (.bool o)]] []) (GivR (abP [.val] [.v (.agg ⟨[.int .i64 a0, .int .i64 a1, .int .i64 a2, .int .i64 a3, .int .i64 a4, .int .i64 a5, .int .i64 a6, .int .i64 a7]⟩)] []) { val := .tup [.agg (cyC (vMi a)), .v (.bool (okMi a))] }) := by
      rintro v o rfl rfl
      exact good_out ⟨_, rfl, rfl, .nil⟩
    have bad : okMi a = false → GoodQ (.out .ret [.tup [.agg (cyC fun _ => 0), .v (.bool false)]] []) _ := fun e => fin _ _ (by rw [vMi, e]; rfl) e
    refine good_cond (fun q => ?_) fun q => ?_
    · have q' : (!cyOk (cyOf a)) = true := q
      exact bad (by rw [okMi, show cyOk (cyOf a) = false by simpa using q']; rfl)
    · have q' : (!cyOk (cyOf a)) = false := q
      have qa : cyOk (cyOf a) = true := by simpa using q'
      refine good_cond (fun q => ?_) fun q => ?_
      · have q' : (!cyOk (cyOf (mirF a))) = true := q
        exact bad (by rw [okMi, qa, show cyOk (cyOf (mirF a)) = false by simpa using q']; rfl)
      · have q' : (!cyOk (cyOf (mirF a))) = false := q
        have qm : cyOk (cyOf (mirF a)) = true := by simpa using q'
        have e : okMi a = true := by rw [okMi, qa, qm]; rfl
        exact fin (mirF a) true (by rw [vMi, e]; rfl) e
  · cases hF

end Go.Proofs.Ytakimbknciffnaa

/- 'changed', for DesignFaster: trees. Conditions: a list of wheels. -/
namespace Go.Proofs.Ytakimbknciffnaa
open Go.RowKit
set_option maxRecDepth 100000

abbrev fnFa : AV := .fn 86 [.ptr 1 0 0 0]
abbrev hpCFa (m : Nat) (f : Nat → Nat → Int) (t : TypeId) (x : Int) (n : Nat) (h : Nat → Nat → Int) : List AB := [.row false m 9 (row9 f) t, .cells [.v (i64 x)] 3, .row true n 9 (row9 h) 58]
abbrev stCFa (m n i : Nat) : List AV := [fnFa, .own 2 n, .sl 0 9 0 0 m none, .v (i64 m), .v (i64 i)]
theorem rndCFa (mi : (Nat → Int) → Nat → Int) (tu : (Nat → Int) → Int → Nat → Int) (m : Nat) (f : Nat → Nat → Int) (t : TypeId) (x : Int) (n : Nat) (h : Nat → Nat → Int) (i : Nat) : execC Try.prog (gmC mi tu) 100 noLam (loopAt 0 Try.f64) (mkT 0 32 ((lvCh .normal).zip (stCFa m n i))) (hpCFa m f t x n h) (leafV 32 lvCh 2)
    = bif decide ((↑i : Int) < (↑m : Int)) then needs [decide ((↑i : Int) < (↑m : Int)), decide ((0 : Nat) + Int.toNat (↑i : Int) < m), Nat.ble n n, Nat.ble (n + (1 : Nat)) (549755813888 : Nat)] (Res.out Ex.normal [AV.fn (86 : FuncId) [AV.ptr (1 : Nat) (0 : Nat) (0 : Nat) (0 : Nat)], AV.own (2 : Nat) (n + (1 : Nat)), AV.sl (0 : Nat) (9 : Nat) (0 : Nat) (0 : Nat) m none, AV.v (Value.int IntKind.i64 (↑m : Int)), AV.v (Value.int IntKind.i64 (IntKind.wrap IntKind.i64 ((↑i : Int) + (1 : Int))))] [AB.row false m (9 : Nat) (row9 f) t, AB.cells [AV.v (Value.int IntKind.i64 x)] (3 : TypeId), AB.row true (n + (1 : Nat)) (9 : Nat) (fun q ↦ [Value.int IntKind.i64 (bif Nat.blt q n then h q (0 : Nat) else IntKind.wrap IntKind.i64 (x * f ((0 : Nat) + Int.toNat (↑i : Int)) (0 : Nat))), Value.int IntKind.i64 (bif Nat.blt q n then h q (1 : Nat) else f ((0 : Nat) + Int.toNat (↑i : Int)) (1 : Nat)), Value.int IntKind.i64 (bif Nat.blt q n then h q (2 : Nat) else f ((0 : Nat) + Int.toNat (↑i : Int)) (2 : Nat)), Value.int IntKind.i64 (bif Nat.blt q n then h q (3 : Nat) else f ((0 : Nat) + Int.toNat (↑i : Int)) (3 : Nat)), Value.int IntKind.i64 (bif Nat.blt q n then h q (4 : Nat) else f ((0 : Nat) + Int.toNat (↑i : Int)) (4 : Nat)), Value.int IntKind.i64 (bif Nat.blt q n then h q (5 : Nat) else f ((0 : Nat) + Int.toNat (↑i : Int)) (5 : Nat)), Value.int IntKind.i64 (bif Nat.blt q n then h q (6 : Nat) else f ((0 : Nat) + Int.toNat (↑i : Int)) (6 : Nat)), Value.int IntKind.i64 (bif Nat.blt q n then h q (7 : Nat) else f ((0 : Nat) + Int.toNat (↑i : Int)) (7 : Nat)), Value.int IntKind.i64 (bif Nat.blt q n then h q (8 : Nat) else f ((0 : Nat) + Int.toNat (↑i : Int)) (8 : Nat))]) (58 : Nat)]) else Res.out (Ex.exit (0 : Nat)) [AV.own (2 : Nat) n] [AB.row false m (9 : Nat) (row9 f) t, AB.cells [AV.v (Value.int IntKind.i64 x)] (3 : TypeId), AB.row true n (9 : Nat) (row9 h) (58 : TypeId)] := by kernel_rfl

noncomputable abbrev lamCFa (m : Nat) (f : Nat → Nat → Int) (t : TypeId) (x : Int) (n : Nat) (h : Nat → Nat → Int) : Nat → Option Sum := oneL 0 (atS 32 (lvCh .normal) 2 (stCFa m 0 0) (hpCFa m f t x 0 (wfun [])) (fun K => K .normal (mkT 0 32 [(6, .own 2 n)]) (hpCFa m f t x n h)))
theorem treeYFa (okd : List Wh → Bool) (ti : List Wh → List Wh) (okt inw : List Wh → Bool) (m : Nat) (f : Nat → Nat → Int) (t : TypeId) (x : Int) (n : Nat) (h : Nat → Nat → Int) : execF Try.prog (gmChY okd ti okt inw) (lamCFa m f t x n h) 100 Try.f64 [.sl 0 9 0 0 m none, fnFa] [.row false m 9 (row9 f) t, .cells [.v (i64 x)] 3] (packK 2)
    = needs [Nat.ble ((0 : Nat) + m) m, allW m fun q ↦ row9 f ((0 : Nat) + q), decide (m ≤ (549755813888 : Nat))] (bif !okd (listW (itW fun q ↦ row9 f ((0 : Nat) + q)) m) then Res.out Ex.ret [AV.tup [AV.v (Value.slice none (0 : Nat) (0 : Nat)), AV.v (Value.bool false)]] [AB.row false m (9 : Nat) (row9 f) t, AB.cells [AV.v (Value.int IntKind.i64 x)] (3 : TypeId)] else needs [decide ((↑m : Int) ≤ (1099511627776 : Int)), chk ([AV.fn (86 : FuncId) [AV.ptr (1 : Nat) (0 : Nat) (0 : Nat) (0 : Nat)], AV.own (2 : Nat) (0 : Nat), AV.sl (0 : Nat) (9 : Nat) (0 : Nat) (0 : Nat) m none, AV.v (Value.int IntKind.i64 (↑m : Int)), AV.v (Value.int IntKind.i64 (0 : Int))] = stCFa m (0 : Nat) (0 : Nat) ∧ Hsim [AB.row false m (9 : Nat) (row9 f) t, AB.cells [AV.v (Value.int IntKind.i64 x)] (3 : TypeId), AB.row true (0 : Nat) (9 : Nat) (fun _ ↦ [Value.int IntKind.i64 (0 : Int), Value.int IntKind.i64 (0 : Int), Value.int IntKind.i64 (0 : Int), Value.int IntKind.i64 (0 : Int), Value.int IntKind.i64 (0 : Int), Value.int IntKind.i64 (0 : Int), Value.int IntKind.i64 (0 : Int), Value.int IntKind.i64 (0 : Int), Value.int IntKind.i64 (0 : Int)]) (58 : Nat)] (hpCFa m f t x (0 : Nat) (wfun []))), Nat.ble n n, allW n (row9 h), decide (n ≤ (274877906944 : Nat)), inw (listW (itW (row9 h)) n), okt (listW (itW (row9 h)) n)] (Res.out Ex.ret [AV.tup [AV.sl (2 : Nat) (9 : Nat) (0 : Nat) (0 : Nat) (List.length (ti (listW (itW (row9 h)) n))) (some (List.length (ti (listW (itW (row9 h)) n)))), AV.v (Value.bool true)]] [AB.row false m (9 : Nat) (row9 f) t, AB.cells [AV.v (Value.int IntKind.i64 x)] (3 : TypeId), AB.row true (List.length (ti (listW (itW (row9 h)) n))) (9 : Nat) (row9 (wfun (ti (listW (itW (row9 h)) n)))) (58 : TypeId)])) := by kernel_rfl

theorem treeNFa (okd : List Wh → Bool) (okt inw : List Wh → Bool) (m : Nat) (f : Nat → Nat → Int) (t : TypeId) (x : Int) (n : Nat) (h : Nat → Nat → Int) : execF Try.prog (gmChN okd okt inw) (lamCFa m f t x n h) 100 Try.f64 [.sl 0 9 0 0 m none, fnFa] [.row false m 9 (row9 f) t, .cells [.v (i64 x)] 3] (packK 2)
    = needs [Nat.ble ((0 : Nat) + m) m, allW m fun q ↦ row9 f ((0 : Nat) + q), decide (m ≤ (549755813888 : Nat))] (bif !okd (listW (itW fun q ↦ row9 f ((0 : Nat) + q)) m) then Res.out Ex.ret [AV.tup [AV.v (Value.slice none (0 : Nat) (0 : Nat)), AV.v (Value.bool false)]] [AB.row false m (9 : Nat) (row9 f) t, AB.cells [AV.v (Value.int IntKind.i64 x)] (3 : TypeId)] else needs [decide ((↑m : Int) ≤ (1099511627776 : Int)), chk ([AV.fn (86 : FuncId) [AV.ptr (1 : Nat) (0 : Nat) (0 : Nat) (0 : Nat)], AV.own (2 : Nat) (0 : Nat), AV.sl (0 : Nat) (9 : Nat) (0 : Nat) (0 : Nat) m none, AV.v (Value.int IntKind.i64 (↑m : Int)), AV.v (Value.int IntKind.i64 (0 : Int))] = stCFa m (0 : Nat) (0 : Nat) ∧ Hsim [AB.row false m (9 : Nat) (row9 f) t, AB.cells [AV.v (Value.int IntKind.i64 x)] (3 : TypeId), AB.row true (0 : Nat) (9 : Nat) (fun _ ↦ [Value.int IntKind.i64 (0 : Int), Value.int IntKind.i64 (0 : Int), Value.int IntKind.i64 (0 : Int), Value.int IntKind.i64 (0 : Int), Value.int IntKind.i64 (0 : Int), Value.int IntKind.i64 (0 : Int), Value.int IntKind.i64 (0 : Int), Value.int IntKind.i64 (0 : Int), Value.int IntKind.i64 (0 : Int)]) (58 : Nat)] (hpCFa m f t x (0 : Nat) (wfun []))), Nat.ble n n, allW n (row9 h), decide (n ≤ (274877906944 : Nat)), inw (listW (itW (row9 h)) n), !okt (listW (itW (row9 h)) n)] (Res.out Ex.ret [AV.tup [AV.v (Value.slice none (0 : Nat) (0 : Nat)), AV.v (Value.bool false)]] [AB.row false m (9 : Nat) (row9 f) t, AB.cells [AV.v (Value.int IntKind.i64 x)] (3 : TypeId)])) := by kernel_rfl

end Go.Proofs.Ytakimbknciffnaa

/- 'changed', for DesignFaster: its words. Conditions: a list of wheels. -/
namespace Go.Proofs.Ytakimbknciffnaa
open Go.RowKit
set_option maxRecDepth 100000

theorem treeEFa (okd : List Wh → Bool) (okt inw : List Wh → Bool) (m : Nat) (f : Nat → Nat → Int) (t : TypeId) (x : Int) : execF Try.prog (gmChN okd okt inw) (oneL 0 errS) 100 Try.f64 [.sl 0 9 0 0 m none, fnFa] [.row false m 9 (row9 f) t, .cells [.v (i64 x)] 3] (packK 2)
    = needs [Nat.ble ((0 : Nat) + m) m, allW m fun q ↦ row9 f ((0 : Nat) + q), decide (m ≤ (549755813888 : Nat))] (bif !okd (listW (itW fun q ↦ row9 f ((0 : Nat) + q)) m) then Res.out Ex.ret [AV.tup [AV.v (Value.slice none (0 : Nat) (0 : Nat)), AV.v (Value.bool false)]] [AB.row false m (9 : Nat) (row9 f) t, AB.cells [AV.v (Value.int IntKind.i64 x)] (3 : TypeId)] else needs [decide ((↑m : Int) ≤ (1099511627776 : Int))] Res.err) := by kernel_rfl

def chFa (x : Int) (w : Wh) : Wh := ⟨IntKind.wrap IntKind.i64 (x * w.s), w.r⟩
abbrev mpFa : Int → List Wh → List Wh := fun x L => L.map (chFa x)
theorem inwFa (x : Int) {L : List Wh} (h : okD L = true) : inW (L.map (chFa x)) := by
  intro w' hw'
  obtain ⟨w, hw, rfl⟩ := List.mem_map.1 hw'
  exact (valid_in h hw : cyIn w.r)
theorem sumCFa (m : Nat) (f : Nat → Nat → Int) (t : TypeId) (x : Int) (hm : m ≤ 2 ^ 38) (hok : ∀ w ∈ listW f m, inB w.r.f = true) :
    SumOk Try.prog 2 (.block 0 (.loop (loopAt 0 Try.f64))) (atS 32 (lvCh .normal) 2 (stCFa m 0 0) (hpCFa m f t x 0 (wfun [])) (fun K => K .normal (mkT 0 32 [(6, .own 2 m)]) (hpCFa m f t x m (wfun ((listW f m).map (chFa x)))))) := by
  refine for_at gmC_ok (n := 100) (m := 2) (lv := lvCh) (fun i => stCFa m i i) (fun i => hpCFa m f t x i (wfun ((listW f i).map (chFa x)))) (fun _ => True) m (fun _ => noLam) (lv3_ris rfl rfl rfl) (Nat.le_refl _) trivial fun K Q hk i hi him => ⟨noLam_ok _ _ _, ?_⟩
  rw [rndCFa]
  refine good_cond (fun c1 => ?_) fun c1 => ?_
  · have c1 := of_decide_eq_true c1
    have c1' : i < m := by omega
    rw [Int.toNat_natCast, Nat.zero_add, wr_in (x := (i : Int) + 1) (by omega)]
    refine good_needs (by simp only [ob_cons, ob_nil, and_true, decide_eq_true_eq, Nat.ble_eq]; omega) (good_out ⟨i + 1, ⟨rfl, c1', trivial⟩, rfl, ?_⟩)
    show Hsim _ (hpCFa m f t x (i + 1) (wfun ((listW f (i + 1)).map (chFa x))))
    rw [listW_succ, List.map_append]
    refine (.cons (ABeq.refl _) (.cons (ABeq.refl _) (.cons (ABeq.row fun q hq => ?_) .nil)))
    exact ch_row _ ((chFa x) (whOf (f i))) i (by rw [List.length_map, listW_length]) q hq
  · have c1 := of_decide_eq_false c1
    have : i = m := by omega
    subst this
    refine good_out ⟨_, Hsim.refl _, ?_⟩
    rw [if_pos rfl]
    exact hk

def FchYFa (okd : List Wh → Bool) (ti : List Wh → List Wh) (okt : List Wh → Bool) (mp : Int → List Wh → List Wh) : List AV → List AB → Option HR
  | [.sl 0 9 0 0 m none, .fn 86 [.ptr 1 0 0 0]], [.row false n 9 g t, .cells [.v (.int .i64 x)] 3] => some { val := .tup [.sl 2 9 0 0 (ti (mp x (listW (itW g) m))).length (some (ti (mp x (listW (itW g) m))).length), .v (.bool true)], out := [.row false n 9 g t, .cells [.v (.int .i64 x)] 3], new := newY (ti (mp x (listW (itW g) m))), obl := [Nat.beq n m, allW m g, decide (m ≤ 2 ^ 38), okd (listW (itW g) m) && okt (mp x (listW (itW g) m))] }
  | _, _ => none
def FchNFa (okd : List Wh → Bool) (okt : List Wh → Bool) (mp : Int → List Wh → List Wh) : List AV → List AB → Option HR
  | [.sl 0 9 0 0 m none, .fn 86 [.ptr 1 0 0 0]], [.row false n 9 g t, .cells [.v (.int .i64 x)] 3] => some { val := valN, out := [.row false n 9 g t, .cells [.v (.int .i64 x)] 3], obl := [Nat.beq n m, allW m g, decide (m ≤ 2 ^ 38), !(okd (listW (itW g) m) && okt (mp x (listW (itW g) m)))] }
  | _, _ => none
theorem ok_chYFa : SpecOk Try.prog 64 (specH [true] (FchYFa okD tidyL okT mpFa)) := by
  refine specH_ok gmChY_ok Try.func64 rfl fun avs H hr hF ho => ?_
  unfold FchYFa at hF
  split at hF
  · rename_i m n g t x
    cases hF
    simp only [ob_cons] at ho
    obtain ⟨h0, h1, h2, h3, _⟩ := ho
    have h0 := Nat.eq_of_beq_eq_true h0
    subst h0
    have hm := of_decide_eq_true h2
    rw [Bool.and_eq_true] at h3
    obtain ⟨hd, ht⟩ := h3
    have hin := inwFa x hd
    have hs := sumCFa n (itW g) t x hm (fun w hw => valid_inB hd hw)
    refine ⟨[.row false n 9 (row9 (itW g)) t, .cells [.v (i64 x)] 3], lamCFa n (itW g) t x n (wfun ((listW (itW g) n).map (chFa x))), 100, .cons (ABeq.row fun j hj => allW_get h1 j hj) (.cons rfl .nil), lam1 (by kernel_rfl) hs, ?_⟩
    show GoodQ (execF Try.prog (gmChY okD tidyL okT inWB) (lamCFa n (itW g) t x n (wfun ((listW (itW g) n).map (chFa x)))) 100 Try.f64 [.sl 0 9 0 0 n none, fnFa] [.row false n 9 (row9 (itW g)) t, .cells [.v (i64 x)] 3] (packK 2)) _
    rw [treeYFa, row0, listW_itW, listW_self ((listW (itW g) n).map (chFa x)) n (by rw [List.length_map, listW_length])]
    refine good_needs (by simp only [ob_cons, ob_nil, and_true, decide_eq_true_eq, Nat.ble_eq, allW_row, true_and]; omega) (good_false (by rw [hd]; rfl) (good_needs ?_ (good_out ⟨rfl, .cons (ABeq.row fun j hj => (allW_get h1 j hj).symm) (.cons rfl (Hsim.refl _))⟩)))
    simp only [ob_cons, ob_nil, and_true, allW_row]
    exact ⟨decide_eq_true (by omega), chk_of ⟨rfl, (.cons (ABeq.refl _) (.cons (ABeq.refl _) (.cons (ABeq.row fun j hj => absurd hj (Nat.not_lt_zero _)) .nil)))⟩, by simp, trivial, decide_eq_true (by omega), chk_of hin, ht⟩
  · cases hF
theorem ok_chNFa : SpecOk Try.prog 64 (specH [true] (FchNFa okD okT mpFa)) := by
  refine specH_ok gmChN_ok Try.func64 rfl fun avs H hr hF ho => ?_
  unfold FchNFa at hF
  split at hF
  · rename_i m n g t x
    cases hF
    simp only [ob_cons] at ho
    obtain ⟨h0, h1, h2, h3, _⟩ := ho
    have h0 := Nat.eq_of_beq_eq_true h0
    subst h0
    have hm := of_decide_eq_true h2
    cases hd : okD (listW (itW g) n) with
    | false =>
      have hz : SumOk Try.prog 2 (.block 0 (.loop (loopAt 0 Try.f64))) errS := errS_ok
      refine ⟨[.row false n 9 (row9 (itW g)) t, .cells [.v (i64 x)] 3], oneL 0 errS, 100, .cons (ABeq.row fun j hj => allW_get h1 j hj) (.cons rfl .nil), lam1 (by kernel_rfl) hz, ?_⟩
      show GoodQ (execF Try.prog (gmChN okD okT inWB) (oneL 0 errS) 100 Try.f64 [.sl 0 9 0 0 n none, fnFa] [.row false n 9 (row9 (itW g)) t, .cells [.v (i64 x)] 3] (packK 2)) _
      rw [treeEFa, row0, listW_itW]
      exact good_needs (by simp only [ob_cons, ob_nil, and_true, decide_eq_true_eq, Nat.ble_eq, allW_row, true_and]; omega) (good_true (by rw [hd]; rfl) (good_out ⟨rfl, .cons (ABeq.row fun j hj => (allW_get h1 j hj).symm) (.cons rfl .nil)⟩))
    | true =>
    rw [hd, Bool.true_and] at h3
    have ht : okT ((listW (itW g) n).map (chFa x)) = false := by simpa using h3
    have hin := inwFa x hd
    have hs := sumCFa n (itW g) t x hm (fun w hw => valid_inB hd hw)
    refine ⟨[.row false n 9 (row9 (itW g)) t, .cells [.v (i64 x)] 3], lamCFa n (itW g) t x n (wfun ((listW (itW g) n).map (chFa x))), 100, .cons (ABeq.row fun j hj => allW_get h1 j hj) (.cons rfl .nil), lam1 (by kernel_rfl) hs, ?_⟩
    show GoodQ (execF Try.prog (gmChN okD okT inWB) (lamCFa n (itW g) t x n (wfun ((listW (itW g) n).map (chFa x)))) 100 Try.f64 [.sl 0 9 0 0 n none, fnFa] [.row false n 9 (row9 (itW g)) t, .cells [.v (i64 x)] 3] (packK 2)) _
    rw [treeNFa, row0, listW_itW, listW_self ((listW (itW g) n).map (chFa x)) n (by rw [List.length_map, listW_length])]
    refine good_needs (by simp only [ob_cons, ob_nil, and_true, decide_eq_true_eq, Nat.ble_eq, allW_row, true_and]; omega) (good_false (by rw [hd]; rfl) (good_needs ?_ (good_out ⟨rfl, .cons (ABeq.row fun j hj => (allW_get h1 j hj).symm) (.cons rfl .nil)⟩)))
    simp only [ob_cons, ob_nil, and_true, allW_row]
    exact ⟨decide_eq_true (by omega), chk_of ⟨rfl, (.cons (ABeq.refl _) (.cons (ABeq.refl _) (.cons (ABeq.row fun j hj => absurd hj (Nat.not_lt_zero _)) .nil)))⟩, by simp, trivial, decide_eq_true (by omega), chk_of hin, by rw [ht]; rfl⟩
  · cases hF

end Go.Proofs.Ytakimbknciffnaa

/- The program's DesignFaster. Conditions: a list of wheels. -/
namespace Go.Proofs.Ytakimbknciffnaa
open Go.RowKit
set_option maxRecDepth 100000

/-- The list is a design, and what comes of it too. -/
def yesFa (x : Int) (L : List Wh) : Bool := inR x (-20) 20 && (okD L && okT (L.map (chFa x)))
def FdeYFa (yes : Int → List Wh → Bool) (ti : List Wh → List Wh) (mp : Int → List Wh → List Wh) : List SA → Option FR
  | [.row m g, .v (.int .i64 x)] => some { val := valY (ti (mp x (listW (itW g) m))), new := newY (ti (mp x (listW (itW g) m))), obl := [allW m g, decide (m ≤ 2 ^ 38), yes x (listW (itW g) m)] }
  | _ => none
def FdeNFa (yes : Int → List Wh → Bool) : List SA → Option FR
  | [.row m g, .v (.int .i64 x)] => some { val := valN, obl := [allW m g, decide (m ≤ 2 ^ 38), !yes x (listW (itW g) m)] }
  | _ => none
theorem treeDYFa (okd : List Wh → Bool) (ti : List Wh → List Wh) (okt : List Wh → Bool) (mp : Int → List Wh → List Wh) (m : Nat) (f : Nat → Nat → Int) (x : Int) : execF Try.prog (ext gm_within 64 (specH [true] (FchYFa okd ti okt mp))) noLam 100 Try.f32 [.sl 0 9 0 0 m none, .v (i64 x)] [.row false m 9 (row9 f) 58] (packK 1)
    = bif !inR x (-20 : Int) (20 : Int) then Res.out Ex.ret [AV.tup [AV.v (Value.slice none (0 : Nat) (0 : Nat)), AV.v (Value.bool false)]] [AB.row false m (9 : Nat) (row9 f) (58 : TypeId)] else needs [Nat.beq m m, allW m (row9 f), decide (m ≤ (274877906944 : Nat)), okd (listW (itW (row9 f)) m) && okt (mp x (listW (itW (row9 f)) m))] (Res.out Ex.ret [AV.tup [AV.sl (1 : Nat) (9 : Nat) (0 : Nat) (0 : Nat) (List.length (ti (mp x (listW (itW (row9 f)) m)))) (some (List.length (ti (mp x (listW (itW (row9 f)) m))))), AV.v (Value.bool true)]] [AB.row false m (9 : Nat) (row9 f) (58 : TypeId), AB.row true (List.length (ti (mp x (listW (itW (row9 f)) m)))) (9 : Nat) (row9 (wfun (ti (mp x (listW (itW (row9 f)) m))))) (58 : TypeId)]) := by kernel_rfl

theorem treeDNFa (okd : List Wh → Bool) (okt : List Wh → Bool) (mp : Int → List Wh → List Wh) (m : Nat) (f : Nat → Nat → Int) (x : Int) : execF Try.prog (ext gm_within 64 (specH [true] (FchNFa okd okt mp))) noLam 100 Try.f32 [.sl 0 9 0 0 m none, .v (i64 x)] [.row false m 9 (row9 f) 58] (packK 1)
    = bif !inR x (-20 : Int) (20 : Int) then Res.out Ex.ret [AV.tup [AV.v (Value.slice none (0 : Nat) (0 : Nat)), AV.v (Value.bool false)]] [AB.row false m (9 : Nat) (row9 f) (58 : TypeId)] else needs [Nat.beq m m, allW m (row9 f), decide (m ≤ (274877906944 : Nat)), !(okd (listW (itW (row9 f)) m) && okt (mp x (listW (itW (row9 f)) m)))] (Res.out Ex.ret [AV.tup [AV.v (Value.slice none (0 : Nat) (0 : Nat)), AV.v (Value.bool false)]] [AB.row false m (9 : Nat) (row9 f) (58 : TypeId)]) := by kernel_rfl

theorem ok_deYFa : SpecOk Try.prog 32 (specR md_wv (FdeYFa yesFa tidyL mpFa)) := by
  refine specR_hr (ext_ok gm_within_ok ok_chYFa) Try.func32 rfl fun sas fr hF ho => ?_
  unfold FdeYFa at hF
  split at hF
  · rename_i m g x
    cases hF
    simp only [ob_cons] at ho
    obtain ⟨h1, h2, h3, _⟩ := ho
    have hm := of_decide_eq_true h2
    refine ⟨[.row false m 9 (row9 (itW g)) 58], noLam, 100, .cons (ABeq.row fun j hj => allW_get h1 j hj) .nil, noLam' _, ?_⟩
    show GoodQ (execF Try.prog (ext gm_within 64 (specH [true] (FchYFa okD tidyL okT mpFa))) noLam 100 Try.f32 [.sl 0 9 0 0 m none, .v (i64 x)] [.row false m 9 (row9 (itW g)) 58] (packK 1)) _
    rw [treeDYFa]
    rw [yesFa, Bool.and_eq_true] at h3
    obtain ⟨hx, h3⟩ := h3
    have hx2 := inR_iff.1 hx
    exact good_false (by rw [hx]; rfl) (good_needs (by simp only [ob_cons, ob_nil, and_true, beq_me, allW_row, listW_itW, true_and]; exact ⟨decide_eq_true hm, h3⟩) (good_out ⟨_, rfl, rfl, .cons (ABeq.row fun j hj => (allW_get h1 j hj).symm) (Hsim.refl _)⟩))
  · cases hF
theorem ok_deNFa : SpecOk Try.prog 32 (specR md_wv (FdeNFa yesFa)) := by
  refine specR_hr (ext_ok gm_within_ok ok_chNFa) Try.func32 rfl fun sas fr hF ho => ?_
  unfold FdeNFa at hF
  split at hF
  · rename_i m g x
    cases hF
    simp only [ob_cons] at ho
    obtain ⟨h1, h2, h3, _⟩ := ho
    have hm := of_decide_eq_true h2
    refine ⟨[.row false m 9 (row9 (itW g)) 58], noLam, 100, .cons (ABeq.row fun j hj => allW_get h1 j hj) .nil, noLam' _, ?_⟩
    show GoodQ (execF Try.prog (ext gm_within 64 (specH [true] (FchNFa okD okT mpFa))) noLam 100 Try.f32 [.sl 0 9 0 0 m none, .v (i64 x)] [.row false m 9 (row9 (itW g)) 58] (packK 1)) _
    rw [treeDNFa]
    cases hx : inR x (-20) 20 with
    | false => exact good_true rfl (good_out ⟨_, rfl, rfl, .cons (ABeq.row fun j hj => (allW_get h1 j hj).symm) .nil⟩)
    | true =>
      rw [yesFa, hx, Bool.true_and] at h3
      have hx2 := inR_iff.1 hx
      exact good_false rfl (good_needs (by simp only [ob_cons, ob_nil, and_true, beq_me, allW_row, listW_itW, true_and]; exact ⟨decide_eq_true hm, h3⟩) (good_out ⟨_, rfl, rfl, .cons (ABeq.row fun j hj => (allW_get h1 j hj).symm) .nil⟩))
  · cases hF

end Go.Proofs.Ytakimbknciffnaa

/- The program's DesignFaster, as a list or none, read as one. Conditions: a list of wheels. -/
namespace Go.Proofs.Ytakimbknciffnaa
open Go.RowKit
set_option maxRecDepth 100000

theorem chFa_same {x : Int} {w : Wh} : chFa x w = chE x 0 0 false w := by
  have e2 : (IntKind.wrap IntKind.i64 ((0 : Int) + IntKind.wrap IntKind.i64 (0 * w.s)) % 24).toNat = 0 := by rw [Int.zero_mul]; rfl
  rw [chFa, chE, e2]
  rfl
def yF (x : Int) (L : List Wh) : Bool := inR x (-20) 20 && eachOk x 0 0 false L
def tF (x : Int) (L : List Wh) : List Wh := bif inR x (-20) 20 then eachL x 0 0 false L else []
theorem ok_UFa : SpecOk Try.prog 32 (specU md_wv (UO1 yF tF)) := by
  refine specU_ok rfl ok_deYFa ok_deNFa fun sas u hu ho => ?_
  unfold UO1 at hu
  split at hu
  · rename_i m g x
    cases hu
    simp only [ob_cons] at ho
    obtain ⟨h1, h2, _⟩ := ho
    refine ⟨rfl, ?_⟩
    have hM : (listW (itW g) m).map (chE x 0 0 false) = mpFa x (listW (itW g) m) := map_same fun w _ => chFa_same.symm
    cases hv : yesFa x (listW (itW g) m) with
    | true =>
      left
      have hv2 := hv
      rw [yesFa, Bool.and_eq_true, Bool.and_eq_true] at hv2
      obtain ⟨hx, hd, ht⟩ := hv2
      obtain ⟨hE, hO⟩ := each_yes (sp := x) (tn := 0) (la := 0) (mir := false) (by rw [eachP, hd]; rfl) hM ht
      refine ⟨by show yF x _ = true; rw [yF, hx, hO]; rfl, [allW m g, decide (m ≤ 2 ^ 38), yesFa x (listW (itW g) m)], ?_, ?_⟩
      · show FdeYFa yesFa tidyL mpFa [.row m g, .v (.int .i64 x)] = some { val := valY (tF x (listW (itW g) m)), new := newY (tF x (listW (itW g) m)), obl := [allW m g, decide (m ≤ 2 ^ 38), yesFa x (listW (itW g) m)] }
        rw [show tF x (listW (itW g) m) = tidyL (mpFa x (listW (itW g) m)) by rw [tF, hx]; exact hE]
        rfl
      · simp only [ob_cons, ob_nil, and_true]
        exact ⟨h1, h2, hv⟩
    | false =>
      right
      have key : yF x (listW (itW g) m) = false ∧ tF x (listW (itW g) m) = [] := by
        cases hx : inR x (-20) 20 with
        | false => exact ⟨by rw [yF, hx]; rfl, by rw [tF, hx]; rfl⟩
        | true =>
          obtain ⟨hE, hO⟩ := each_no (sp := x) (tn := 0) (la := 0) (mir := false) (L := listW (itW g) m) fun hp => by
            rw [eachP, Bool.and_eq_true] at hp
            rw [hM]
            rw [yesFa, hx, hp.1, Bool.true_and, Bool.true_and] at hv
            exact hv
          exact ⟨by rw [yF, hx, hO]; rfl, by rw [tF, hx]; exact hE⟩
      refine ⟨key.1, key.2, [allW m g, decide (m ≤ 2 ^ 38), !yesFa x (listW (itW g) m)], rfl, ?_⟩
      simp only [ob_cons, ob_nil, and_true]
      exact ⟨h1, h2, by rw [hv]; rfl⟩
  · cases hu

end Go.Proofs.Ytakimbknciffnaa

/- Plain laws of designs: turned, later, back, mirrored, faster. No program, no conditions. -/
namespace Go.Proofs.Ytakimbknciffnaa
open Go.RowKit

theorem lin_tn {φ : Int → (Nat → Int) → Int} (h : Lin φ) (g c : Int → Int) : Lin fun s f => φ (g s) (tnI f (c s)) := fun s f f' => by
  show φ (g s) (tnI (fun k => f k + f' k) (c s)) = _
  rw [tnI_add]
  exact h _ _ _
theorem loc_tn {φ : Int → (Nat → Int) → Int} (h : Loc φ) (g c : Int → Int) : Loc fun s f => φ (g s) (tnI f (c s)) := fun _ _ _ hf => h _ _ _ (tnI_congr hf _)
theorem tnI_mulmod (f : Nat → Int) (a s : Int) : tnI f (a % 24 * s) = tnI f (a * s) := tnI_mod f (by rw [Int.mul_emod, Int.emod_emod, ← Int.mul_emod])
theorem each_tidy {sp tn la : Int} {mir : Bool} {L : List Wh} (h1 : -20 ≤ sp ∧ sp ≤ 20) (h : eachOk sp tn la mir L = true) : isTidy (eachL sp tn la mir L) := (each_spec h1 h).2.2.2.1
theorem tnI_24 (f : Nat → Int) {n : Int} (h : n % 24 = 0) : ∀ k, k < 8 → tnI f n k = f k := fun k _ => by
  rw [tnI, h]
  rfl
/-- Turned on to a whole turn. -/
theorem law_turned {L : List Wh} {t x : Int} (hx : (t + x) % 24 = 0) (h1 : eachOk 1 t 0 false L = true) (h2 : eachOk 1 x 0 false (eachL 1 t 0 false L) = true) (h3 : yI L = true) : eachL 1 x 0 false (eachL 1 t 0 false L) = tI L := by
  refine tidy_unique (each_tidy (by omega) h2) (tI_spec h3).2.1 fun s k hk => ?_
  rw [(tI_spec h3).2.2 _ (atSp_lin s k), each_lin (by omega) h2 (atSp_lin s k) (atSp_loc s hk), each_lin (by omega) h1 (lin_tn (atSp_lin s k) (fun s => 1 * s) fun s => x + 0 * s) (loc_tn (atSp_loc s hk) (fun s => 1 * s) fun s => x + 0 * s)]
  refine linS_congr fun w _ => ?_
  show atSp s k (1 * (1 * w.s)) (tnI (tnI w.r.f (t + 0 * w.s)) (x + 0 * (1 * w.s))) = atSp s k w.s w.r.f
  rw [show (1 : Int) * (1 * w.s) = w.s by omega, show t + 0 * w.s = t by omega, show x + 0 * (1 * w.s) = x by omega]
  refine atSp_loc s hk _ _ _ fun j hj => ?_
  rw [tnI_tnI _ _ _ j hj, tnI_24 _ hx j hj]
/-- Later. -/
theorem law_later {L : List Wh} {t : Int} {k : Nat} (hk : k < 8) (h1 : eachOk 1 0 t false L = true) : dAt (eachL 1 0 t false L) 5 k = dAt L ((5 + t) % 24) k := by
  refine (each_lin (by omega) h1 (atT_lin 5 k) (atT_loc 5 hk)).trans (linS_congr fun w _ => ?_)
  show tnI (tnI w.r.f (0 + t * w.s)) (5 * (1 * w.s)) k = tnI w.r.f ((5 + t) % 24 * w.s) k
  rw [tnI_tnI _ _ _ k hk, tnI_mulmod, show 0 + t * w.s + 5 * (1 * w.s) = (5 + t) * w.s by rw [Int.add_mul]; omega]
/-- Back and back. -/
theorem law_back {L : List Wh} (h1 : eachOk (-1) 0 0 false L = true) (h2 : eachOk (-1) 0 0 false (eachL (-1) 0 0 false L) = true) (h3 : yI L = true) : eachL (-1) 0 0 false (eachL (-1) 0 0 false L) = tI L := by
  refine tidy_unique (each_tidy (by omega) h2) (tI_spec h3).2.1 fun s k hk => ?_
  rw [(tI_spec h3).2.2 _ (atSp_lin s k), each_lin (by omega) h2 (atSp_lin s k) (atSp_loc s hk), each_lin (by omega) h1 (lin_tn (atSp_lin s k) (fun s => -1 * s) fun s => 0 + 0 * s) (loc_tn (atSp_loc s hk) (fun s => -1 * s) fun s => 0 + 0 * s)]
  refine linS_congr fun w _ => ?_
  show atSp s k (-1 * (-1 * w.s)) (tnI (tnI w.r.f (0 + 0 * w.s)) (0 + 0 * (-1 * w.s))) = atSp s k w.s w.r.f
  rw [show (-1 : Int) * (-1 * w.s) = w.s by omega, show 0 + 0 * w.s = 0 by omega, show 0 + 0 * (-1 * w.s) = 0 by omega]
  rfl
theorem law_back_at {L : List Wh} {k : Nat} (hk : k < 8) (h1 : eachOk (-1) 0 0 false L = true) : dAt (eachL (-1) 0 0 false L) 5 k = dAt L 19 k := by
  refine (each_lin (by omega) h1 (atT_lin 5 k) (atT_loc 5 hk)).trans (linS_congr fun w _ => ?_)
  show tnI (tnI w.r.f (0 + 0 * w.s)) (5 * (-1 * w.s)) k = tnI w.r.f (19 * w.s) k
  rw [show 0 + 0 * w.s = 0 by omega, tnI_zero, tnI_mod w.r.f (m := 5 * (-1 * w.s)) (n := 19 * w.s) (by omega)]
/-- A mirrored point turned. -/
theorem mir_step (f : Nat → Int) : ∀ k, k < 8 → stZ (mirZ (stZ f)) k = mirZ f k := by
  refine forall8 ?_ ?_ ?_ ?_ ?_ ?_ ?_ ?_ <;> simp only [stZ, mirZ] <;> omega
theorem mir_tn (f : Nat → Int) : ∀ (n k : Nat), k < 8 → tnZ (mirZ (tnZ f n)) n k = mirZ f k
  | 0, _, _ => rfl
  | n + 1, k, hk => by
    have e : tnZ (mirZ (stZ (tnZ f n))) (n + 1) k = tnZ (stZ (mirZ (stZ (tnZ f n)))) n k := by
      rw [show n + 1 = 1 + n by omega, ← tnZ_tnZ]
      rfl
    show tnZ (mirZ (stZ (tnZ f n))) (n + 1) k = mirZ f k
    rw [e, tnZ_congr (mir_step (tnZ f n)) n k hk]
    exact mir_tn f n k hk
theorem mir_tnI (f : Nat → Int) (n : Int) (k : Nat) (hk : k < 8) : mirZ (tnI f n) k = tnI (mirZ f) (-n) k := by
  have h := tnI_congr (mir_tn f (n % 24).toNat) (-n) k hk
  rw [← h]
  show _ = tnI (tnZ (mirZ (tnI f n)) (n % 24).toNat) (-n) k
  have e : tnZ (mirZ (tnI f n)) (n % 24).toNat = tnI (mirZ (tnI f n)) n := rfl
  rw [e, tnI_tnI _ _ _ k hk, tnI_24 _ (by omega) k hk]
theorem linS_mir {φ : Nat → Int → (Nat → Int) → Int} : ∀ (L : List Wh) (k : Nat), mirZ (fun k => linS (φ k) L) k = linS (fun s f => mirZ (fun k => φ k s f) k) L
  | [], k => by
    show mirZ (fun _ => 0) k = 0
    unfold mirZ
    split <;> rfl
  | w :: l, k => by
    show mirZ (fun k => φ k w.s w.r.f + linS (φ k) l) k = _
    rw [mir_add]
    show mirZ (fun k => φ k w.s w.r.f) k + mirZ (fun k => linS (φ k) l) k = _
    rw [linS_mir l k]
    rfl
theorem law_mirror {L : List Wh} {k : Nat} (hk : k < 8) (h1 : eachOk (-1) 0 0 true L = true) : dAt (eachL (-1) 0 0 true L) 5 k = mirZ (dAt L 5) k := by
  refine (each_linM (by omega) h1 (atT_lin 5 k) (atT_loc 5 hk)).trans ?_
  refine Eq.trans (linS_congr fun w _ => ?_) (linS_mir (φ := atT 5) L k).symm
  show tnI (tnI (mirZ w.r.f) (0 + 0 * w.s)) (5 * (-1 * w.s)) k = mirZ (tnI w.r.f (5 * w.s)) k
  rw [mir_tnI _ _ k hk, show 0 + 0 * w.s = 0 by omega, tnI_zero, show 5 * (-1 * w.s) = -(5 * w.s) by omega]
theorem vMi_exact {a : Nat → Int} (h : okMi a = true) : ∀ k, k < 8 → vMi a k = mirZ a k := fun k hk => by
  rw [vMi, h, cond_true]
  rw [okMi, Bool.and_eq_true] at h
  have hb : bd8 1000000 a := fun k hk => by
    have := cyOk_bd h.1 k hk
    rwa [cyOf_f8 _ k hk] at this
  exact W8 (mir_bd hb) (by omega) k hk
/-- Faster. -/
theorem law_faster {L : List Wh} {n : Int} {k : Nat} (hk : k < 8) (h1 : yF n L = true) : dAt (tF n L) 1 k = dAt L (n % 24) k := by
  rw [yF, Bool.and_eq_true] at h1
  have hn := inR_iff.1 h1.1
  have e : tF n L = eachL n 0 0 false L := by rw [tF, h1.1]; rfl
  rw [e]
  refine (each_lin (by omega) h1.2 (atT_lin 1 k) (atT_loc 1 hk)).trans (linS_congr fun w _ => ?_)
  show tnI (tnI w.r.f (0 + 0 * w.s)) (1 * (n * w.s)) k = tnI w.r.f (n % 24 * w.s) k
  rw [tnI_mulmod, show 0 + 0 * w.s = 0 by omega, tnI_zero, Int.one_mul]

end Go.Proofs.Ytakimbknciffnaa

/- Products of designs: CycTimes of both, DesignTimes of both: trees. Conditions: two lists of wheels. -/
namespace Go.Proofs.Ytakimbknciffnaa
open Go.RowKit
set_option maxRecDepth 100000

def gmCT (ok : (Nat → Int) → Bool) (mul : (Nat → Int) → (Nat → Int) → Nat → Int) : Gam := ext (ext g0 83 (specV (fOkc ok))) 96 (specV (fAdd2 mul))
theorem treeCTI (ok : (Nat → Int) → Bool) (mul : (Nat → Int) → (Nat → Int) → Nat → Int) (a b : Nat → Int) : execF Try.prog (gmCT ok mul) noLam 100 Try.f49 [.v (cyv a), .v (cyv b)] [] (packK 0)
    = bif !ok (w8 a) then Res.out Ex.ret [AV.tup [AV.agg [AV.v (Value.int IntKind.i64 (0 : Int)), AV.v (Value.int IntKind.i64 (0 : Int)), AV.v (Value.int IntKind.i64 (0 : Int)), AV.v (Value.int IntKind.i64 (0 : Int)), AV.v (Value.int IntKind.i64 (0 : Int)), AV.v (Value.int IntKind.i64 (0 : Int)), AV.v (Value.int IntKind.i64 (0 : Int)), AV.v (Value.int IntKind.i64 (0 : Int))], AV.v (Value.bool false)]] [] else bif !ok (w8 b) then Res.out Ex.ret [AV.tup [AV.agg [AV.v (Value.int IntKind.i64 (0 : Int)), AV.v (Value.int IntKind.i64 (0 : Int)), AV.v (Value.int IntKind.i64 (0 : Int)), AV.v (Value.int IntKind.i64 (0 : Int)), AV.v (Value.int IntKind.i64 (0 : Int)), AV.v (Value.int IntKind.i64 (0 : Int)), AV.v (Value.int IntKind.i64 (0 : Int)), AV.v (Value.int IntKind.i64 (0 : Int))], AV.v (Value.bool false)]] [] else bif !ok (w8 (mul (w8 a) (w8 b))) then Res.out Ex.ret [AV.tup [AV.agg [AV.v (Value.int IntKind.i64 (0 : Int)), AV.v (Value.int IntKind.i64 (0 : Int)), AV.v (Value.int IntKind.i64 (0 : Int)), AV.v (Value.int IntKind.i64 (0 : Int)), AV.v (Value.int IntKind.i64 (0 : Int)), AV.v (Value.int IntKind.i64 (0 : Int)), AV.v (Value.int IntKind.i64 (0 : Int)), AV.v (Value.int IntKind.i64 (0 : Int))], AV.v (Value.bool false)]] [] else Res.out Ex.ret [AV.tup [AV.agg [AV.v (Value.int IntKind.i64 (mul (w8 a) (w8 b) (0 : Nat))), AV.v (Value.int IntKind.i64 (mul (w8 a) (w8 b) (1 : Nat))), AV.v (Value.int IntKind.i64 (mul (w8 a) (w8 b) (2 : Nat))), AV.v (Value.int IntKind.i64 (mul (w8 a) (w8 b) (3 : Nat))), AV.v (Value.int IntKind.i64 (mul (w8 a) (w8 b) (4 : Nat))), AV.v (Value.int IntKind.i64 (mul (w8 a) (w8 b) (5 : Nat))), AV.v (Value.int IntKind.i64 (mul (w8 a) (w8 b) (6 : Nat))), AV.v (Value.int IntKind.i64 (mul (w8 a) (w8 b) (7 : Nat)))], AV.v (Value.bool true)]] [] := by kernel_rfl

def gmCS (ok : (Nat → Int) → Bool) (mul : (Nat → Int) → (Nat → Int) → Nat → Int) : Gam := ext (ext g0 120 (specV (fOkc ok))) 129 (specV (fAdd2 mul))
theorem treeCTS (ok : (Nat → Int) → Bool) (mul : (Nat → Int) → (Nat → Int) → Nat → Int) (a b : Nat → Int) : execF Try.prog (gmCS ok mul) noLam 100 Try.f95 [.v (cyv a), .v (cyv b)] [] (packK 0)
    = bif !ok (w8 a) then Res.out Ex.ret [AV.tup [AV.agg [AV.v (Value.int IntKind.i64 (0 : Int)), AV.v (Value.int IntKind.i64 (0 : Int)), AV.v (Value.int IntKind.i64 (0 : Int)), AV.v (Value.int IntKind.i64 (0 : Int)), AV.v (Value.int IntKind.i64 (0 : Int)), AV.v (Value.int IntKind.i64 (0 : Int)), AV.v (Value.int IntKind.i64 (0 : Int)), AV.v (Value.int IntKind.i64 (0 : Int))], AV.v (Value.bool false)]] [] else bif !ok (w8 b) then Res.out Ex.ret [AV.tup [AV.agg [AV.v (Value.int IntKind.i64 (0 : Int)), AV.v (Value.int IntKind.i64 (0 : Int)), AV.v (Value.int IntKind.i64 (0 : Int)), AV.v (Value.int IntKind.i64 (0 : Int)), AV.v (Value.int IntKind.i64 (0 : Int)), AV.v (Value.int IntKind.i64 (0 : Int)), AV.v (Value.int IntKind.i64 (0 : Int)), AV.v (Value.int IntKind.i64 (0 : Int))], AV.v (Value.bool false)]] [] else bif !ok (w8 (mul (w8 a) (w8 b))) then Res.out Ex.ret [AV.tup [AV.agg [AV.v (Value.int IntKind.i64 (0 : Int)), AV.v (Value.int IntKind.i64 (0 : Int)), AV.v (Value.int IntKind.i64 (0 : Int)), AV.v (Value.int IntKind.i64 (0 : Int)), AV.v (Value.int IntKind.i64 (0 : Int)), AV.v (Value.int IntKind.i64 (0 : Int)), AV.v (Value.int IntKind.i64 (0 : Int)), AV.v (Value.int IntKind.i64 (0 : Int))], AV.v (Value.bool false)]] [] else Res.out Ex.ret [AV.tup [AV.agg [AV.v (Value.int IntKind.i64 (mul (w8 a) (w8 b) (0 : Nat))), AV.v (Value.int IntKind.i64 (mul (w8 a) (w8 b) (1 : Nat))), AV.v (Value.int IntKind.i64 (mul (w8 a) (w8 b) (2 : Nat))), AV.v (Value.int IntKind.i64 (mul (w8 a) (w8 b) (3 : Nat))), AV.v (Value.int IntKind.i64 (mul (w8 a) (w8 b) (4 : Nat))), AV.v (Value.int IntKind.i64 (mul (w8 a) (w8 b) (5 : Nat))), AV.v (Value.int IntKind.i64 (mul (w8 a) (w8 b) (6 : Nat))), AV.v (Value.int IntKind.i64 (mul (w8 a) (w8 b) (7 : Nat)))], AV.v (Value.bool true)]] [] := by kernel_rfl

/-- The product of two points, if they and it are valid. -/
def FctO (pr : (Nat → Int) → (Nat → Int) → Nat → Int) (ok : (Nat → Int) → (Nat → Int) → Bool) : List SA → Option FR
  | [.v (.agg ⟨[.int .i64 a0, .int .i64 a1, .int .i64 a2, .int .i64 a3, .int .i64 a4, .int .i64 a5, .int .i64 a6, .int .i64 a7]⟩), .v (.agg ⟨[.int .i64 b0, .int .i64 b1, .int .i64 b2, .int .i64 b3, .int .i64 b4, .int .i64 b5, .int .i64 b6, .int .i64 b7]⟩)] => some { val := .tup [.agg (cyC (pr (v8 a0 a1 a2 a3 a4 a5 a6 a7) (v8 b0 b1 b2 b3 b4 b5 b6 b7))), .v (.bool (ok (v8 a0 a1 a2 a3 a4 a5 a6 a7) (v8 b0 b1 b2 b3 b4 b5 b6 b7)))] }
  | _ => none
def gmT1 (pr : (Nat → Int) → (Nat → Int) → Nat → Int) (ok : (Nat → Int) → (Nat → Int) → Bool) : Gam := ext g0 49 (specR [.val, .val] (FctO pr ok))
abbrev lvT2 : Ex → List Nat := lv3 [1, 6, 8, 22, 23, 24, 28, 29, 30] [1, 6, 22, 23, 24] [4, 5]
abbrev stT2 (m n k i j : Nat) : List AV := [.sl 1 9 0 0 n none, .own 2 k, .ptr 3 0 0 0, .sl 0 9 0 0 m none, .v (i64 m), .v (i64 i), .sl 1 9 0 0 n none, .v (i64 n), .v (i64 j)]
abbrev hpT0 (m : Nat) (f : Nat → Nat → Int) (n : Nat) (g : Nat → Nat → Int) (k : Nat) (h : Nat → Nat → Int) : List AB := [.row false m 9 (row9 f) 58, .row false n 9 (row9 g) 58, .row true k 9 (row9 h) 58]
abbrev hpT2 (m : Nat) (f : Nat → Nat → Int) (n : Nat) (g : Nat → Nat → Int) (k : Nat) (h : Nat → Nat → Int) (x : Nat → Int) : List AB := [.row false m 9 (row9 f) 58, .row false n 9 (row9 g) 58, .row true k 9 (row9 h) 58, .cells [.v (i64 (x 0)), .v (i64 (x 1)), .v (i64 (x 2)), .v (i64 (x 3)), .v (i64 (x 4)), .v (i64 (x 5)), .v (i64 (x 6)), .v (i64 (x 7)), .v (i64 (x 8))] 58]
abbrev hpTr (m : Nat) (f : Nat → Nat → Int) (n : Nat) (g : Nat → Nat → Int) : List AB := [.row false m 9 (row9 f) 58, .row false n 9 (row9 g) 58]
theorem rndT2 (pr : (Nat → Int) → (Nat → Int) → Nat → Int) (ok : (Nat → Int) → (Nat → Int) → Bool) (m : Nat) (f : Nat → Nat → Int) (n : Nat) (g : Nat → Nat → Int) (k : Nat) (h : Nat → Nat → Int) (x : Nat → Int) (i j : Nat) : execC Try.prog (gmT1 pr ok) 100 noLam (loopAt 2 Try.f47) (mkT 0 60 ((lvT2 .normal).zip (stT2 m n k i j))) (hpT2 m f n g k h x) (leafV 60 lvT2 2)
    = bif decide ((↑j : Int) < (↑n : Int)) then needs [decide ((↑j : Int) < (↑n : Int)), decide ((0 : Nat) + Int.toNat (↑j : Int) < n)] (bif !ok (v8 (x (1 : Nat)) (x (2 : Nat)) (x (3 : Nat)) (x (4 : Nat)) (x (5 : Nat)) (x (6 : Nat)) (x (7 : Nat)) (x (8 : Nat))) (v8 (g ((0 : Nat) + Int.toNat (↑j : Int)) (1 : Nat)) (g ((0 : Nat) + Int.toNat (↑j : Int)) (2 : Nat)) (g ((0 : Nat) + Int.toNat (↑j : Int)) (3 : Nat)) (g ((0 : Nat) + Int.toNat (↑j : Int)) (4 : Nat)) (g ((0 : Nat) + Int.toNat (↑j : Int)) (5 : Nat)) (g ((0 : Nat) + Int.toNat (↑j : Int)) (6 : Nat)) (g ((0 : Nat) + Int.toNat (↑j : Int)) (7 : Nat)) (g ((0 : Nat) + Int.toNat (↑j : Int)) (8 : Nat))) then Res.out Ex.ret [AV.v (Value.slice none (0 : Nat) (0 : Nat)), AV.v (Value.bool false)] [AB.row false m (9 : Nat) (row9 f) (58 : TypeId), AB.row false n (9 : Nat) (row9 g) (58 : TypeId)] else needs [Nat.ble k k, Nat.ble (k + (1 : Nat)) (549755813888 : Nat)] (Res.out Ex.normal [AV.sl (1 : Nat) (9 : Nat) (0 : Nat) (0 : Nat) n none, AV.own (2 : Nat) (k + (1 : Nat)), AV.ptr (3 : Nat) (0 : Nat) (0 : Nat) (0 : Nat), AV.sl (0 : Nat) (9 : Nat) (0 : Nat) (0 : Nat) m none, AV.v (Value.int IntKind.i64 (↑m : Int)), AV.v (Value.int IntKind.i64 (↑i : Int)), AV.sl (1 : Nat) (9 : Nat) (0 : Nat) (0 : Nat) n none, AV.v (Value.int IntKind.i64 (↑n : Int)), AV.v (Value.int IntKind.i64 (IntKind.wrap IntKind.i64 ((↑j : Int) + (1 : Int))))] [AB.row false m (9 : Nat) (row9 f) (58 : TypeId), AB.row false n (9 : Nat) (row9 g) (58 : TypeId), AB.row true (k + (1 : Nat)) (9 : Nat) (fun q ↦ [Value.int IntKind.i64 (bif Nat.blt q k then h q (0 : Nat) else IntKind.wrap IntKind.i64 (x (0 : Nat) + g ((0 : Nat) + Int.toNat (↑j : Int)) (0 : Nat))), Value.int IntKind.i64 (bif Nat.blt q k then h q (1 : Nat) else pr (v8 (x (1 : Nat)) (x (2 : Nat)) (x (3 : Nat)) (x (4 : Nat)) (x (5 : Nat)) (x (6 : Nat)) (x (7 : Nat)) (x (8 : Nat))) (v8 (g ((0 : Nat) + Int.toNat (↑j : Int)) (1 : Nat)) (g ((0 : Nat) + Int.toNat (↑j : Int)) (2 : Nat)) (g ((0 : Nat) + Int.toNat (↑j : Int)) (3 : Nat)) (g ((0 : Nat) + Int.toNat (↑j : Int)) (4 : Nat)) (g ((0 : Nat) + Int.toNat (↑j : Int)) (5 : Nat)) (g ((0 : Nat) + Int.toNat (↑j : Int)) (6 : Nat)) (g ((0 : Nat) + Int.toNat (↑j : Int)) (7 : Nat)) (g ((0 : Nat) + Int.toNat (↑j : Int)) (8 : Nat))) (0 : Nat)), Value.int IntKind.i64 (bif Nat.blt q k then h q (2 : Nat) else pr (v8 (x (1 : Nat)) (x (2 : Nat)) (x (3 : Nat)) (x (4 : Nat)) (x (5 : Nat)) (x (6 : Nat)) (x (7 : Nat)) (x (8 : Nat))) (v8 (g ((0 : Nat) + Int.toNat (↑j : Int)) (1 : Nat)) (g ((0 : Nat) + Int.toNat (↑j : Int)) (2 : Nat)) (g ((0 : Nat) + Int.toNat (↑j : Int)) (3 : Nat)) (g ((0 : Nat) + Int.toNat (↑j : Int)) (4 : Nat)) (g ((0 : Nat) + Int.toNat (↑j : Int)) (5 : Nat)) (g ((0 : Nat) + Int.toNat (↑j : Int)) (6 : Nat)) (g ((0 : Nat) + Int.toNat (↑j : Int)) (7 : Nat)) (g ((0 : Nat) + Int.toNat (↑j : Int)) (8 : Nat))) (1 : Nat)), Value.int IntKind.i64 (bif Nat.blt q k then h q (3 : Nat) else pr (v8 (x (1 : Nat)) (x (2 : Nat)) (x (3 : Nat)) (x (4 : Nat)) (x (5 : Nat)) (x (6 : Nat)) (x (7 : Nat)) (x (8 : Nat))) (v8 (g ((0 : Nat) + Int.toNat (↑j : Int)) (1 : Nat)) (g ((0 : Nat) + Int.toNat (↑j : Int)) (2 : Nat)) (g ((0 : Nat) + Int.toNat (↑j : Int)) (3 : Nat)) (g ((0 : Nat) + Int.toNat (↑j : Int)) (4 : Nat)) (g ((0 : Nat) + Int.toNat (↑j : Int)) (5 : Nat)) (g ((0 : Nat) + Int.toNat (↑j : Int)) (6 : Nat)) (g ((0 : Nat) + Int.toNat (↑j : Int)) (7 : Nat)) (g ((0 : Nat) + Int.toNat (↑j : Int)) (8 : Nat))) (2 : Nat)), Value.int IntKind.i64 (bif Nat.blt q k then h q (4 : Nat) else pr (v8 (x (1 : Nat)) (x (2 : Nat)) (x (3 : Nat)) (x (4 : Nat)) (x (5 : Nat)) (x (6 : Nat)) (x (7 : Nat)) (x (8 : Nat))) (v8 (g ((0 : Nat) + Int.toNat (↑j : Int)) (1 : Nat)) (g ((0 : Nat) + Int.toNat (↑j : Int)) (2 : Nat)) (g ((0 : Nat) + Int.toNat (↑j : Int)) (3 : Nat)) (g ((0 : Nat) + Int.toNat (↑j : Int)) (4 : Nat)) (g ((0 : Nat) + Int.toNat (↑j : Int)) (5 : Nat)) (g ((0 : Nat) + Int.toNat (↑j : Int)) (6 : Nat)) (g ((0 : Nat) + Int.toNat (↑j : Int)) (7 : Nat)) (g ((0 : Nat) + Int.toNat (↑j : Int)) (8 : Nat))) (3 : Nat)), Value.int IntKind.i64 (bif Nat.blt q k then h q (5 : Nat) else pr (v8 (x (1 : Nat)) (x (2 : Nat)) (x (3 : Nat)) (x (4 : Nat)) (x (5 : Nat)) (x (6 : Nat)) (x (7 : Nat)) (x (8 : Nat))) (v8 (g ((0 : Nat) + Int.toNat (↑j : Int)) (1 : Nat)) (g ((0 : Nat) + Int.toNat (↑j : Int)) (2 : Nat)) (g ((0 : Nat) + Int.toNat (↑j : Int)) (3 : Nat)) (g ((0 : Nat) + Int.toNat (↑j : Int)) (4 : Nat)) (g ((0 : Nat) + Int.toNat (↑j : Int)) (5 : Nat)) (g ((0 : Nat) + Int.toNat (↑j : Int)) (6 : Nat)) (g ((0 : Nat) + Int.toNat (↑j : Int)) (7 : Nat)) (g ((0 : Nat) + Int.toNat (↑j : Int)) (8 : Nat))) (4 : Nat)), Value.int IntKind.i64 (bif Nat.blt q k then h q (6 : Nat) else pr (v8 (x (1 : Nat)) (x (2 : Nat)) (x (3 : Nat)) (x (4 : Nat)) (x (5 : Nat)) (x (6 : Nat)) (x (7 : Nat)) (x (8 : Nat))) (v8 (g ((0 : Nat) + Int.toNat (↑j : Int)) (1 : Nat)) (g ((0 : Nat) + Int.toNat (↑j : Int)) (2 : Nat)) (g ((0 : Nat) + Int.toNat (↑j : Int)) (3 : Nat)) (g ((0 : Nat) + Int.toNat (↑j : Int)) (4 : Nat)) (g ((0 : Nat) + Int.toNat (↑j : Int)) (5 : Nat)) (g ((0 : Nat) + Int.toNat (↑j : Int)) (6 : Nat)) (g ((0 : Nat) + Int.toNat (↑j : Int)) (7 : Nat)) (g ((0 : Nat) + Int.toNat (↑j : Int)) (8 : Nat))) (5 : Nat)), Value.int IntKind.i64 (bif Nat.blt q k then h q (7 : Nat) else pr (v8 (x (1 : Nat)) (x (2 : Nat)) (x (3 : Nat)) (x (4 : Nat)) (x (5 : Nat)) (x (6 : Nat)) (x (7 : Nat)) (x (8 : Nat))) (v8 (g ((0 : Nat) + Int.toNat (↑j : Int)) (1 : Nat)) (g ((0 : Nat) + Int.toNat (↑j : Int)) (2 : Nat)) (g ((0 : Nat) + Int.toNat (↑j : Int)) (3 : Nat)) (g ((0 : Nat) + Int.toNat (↑j : Int)) (4 : Nat)) (g ((0 : Nat) + Int.toNat (↑j : Int)) (5 : Nat)) (g ((0 : Nat) + Int.toNat (↑j : Int)) (6 : Nat)) (g ((0 : Nat) + Int.toNat (↑j : Int)) (7 : Nat)) (g ((0 : Nat) + Int.toNat (↑j : Int)) (8 : Nat))) (6 : Nat)), Value.int IntKind.i64 (bif Nat.blt q k then h q (8 : Nat) else pr (v8 (x (1 : Nat)) (x (2 : Nat)) (x (3 : Nat)) (x (4 : Nat)) (x (5 : Nat)) (x (6 : Nat)) (x (7 : Nat)) (x (8 : Nat))) (v8 (g ((0 : Nat) + Int.toNat (↑j : Int)) (1 : Nat)) (g ((0 : Nat) + Int.toNat (↑j : Int)) (2 : Nat)) (g ((0 : Nat) + Int.toNat (↑j : Int)) (3 : Nat)) (g ((0 : Nat) + Int.toNat (↑j : Int)) (4 : Nat)) (g ((0 : Nat) + Int.toNat (↑j : Int)) (5 : Nat)) (g ((0 : Nat) + Int.toNat (↑j : Int)) (6 : Nat)) (g ((0 : Nat) + Int.toNat (↑j : Int)) (7 : Nat)) (g ((0 : Nat) + Int.toNat (↑j : Int)) (8 : Nat))) (7 : Nat))]) (58 : Nat), AB.cells [AV.v (Value.int IntKind.i64 (x (0 : Nat))), AV.v (Value.int IntKind.i64 (x (1 : Nat))), AV.v (Value.int IntKind.i64 (x (2 : Nat))), AV.v (Value.int IntKind.i64 (x (3 : Nat))), AV.v (Value.int IntKind.i64 (x (4 : Nat))), AV.v (Value.int IntKind.i64 (x (5 : Nat))), AV.v (Value.int IntKind.i64 (x (6 : Nat))), AV.v (Value.int IntKind.i64 (x (7 : Nat))), AV.v (Value.int IntKind.i64 (x (8 : Nat)))] (58 : TypeId)])) else Res.out (Ex.exit (2 : Nat)) [AV.sl (1 : Nat) (9 : Nat) (0 : Nat) (0 : Nat) n none, AV.own (2 : Nat) k, AV.sl (0 : Nat) (9 : Nat) (0 : Nat) (0 : Nat) m none, AV.v (Value.int IntKind.i64 (↑m : Int)), AV.v (Value.int IntKind.i64 (↑i : Int))] [AB.row false m (9 : Nat) (row9 f) (58 : TypeId), AB.row false n (9 : Nat) (row9 g) (58 : TypeId), AB.row true k (9 : Nat) (row9 h) (58 : TypeId)] := by kernel_rfl

abbrev lvT0 : Ex → List Nat := lv3 [1, 6, 22, 23, 24] [6] [4, 5]
abbrev stT0 (m n k i : Nat) : List AV := [.sl 1 9 0 0 n none, .own 2 k, .sl 0 9 0 0 m none, .v (i64 m), .v (i64 i)]
noncomputable abbrev lamT2 (m : Nat) (f : Nat → Nat → Int) (n : Nat) (g : Nat → Nat → Int) (k : Nat) (h : Nat → Nat → Int) (x : Nat → Int) (i : Nat) (c : Bool) (k2 : Nat) (h2 : Nat → Nat → Int) : Nat → Option Sum := oneL 2 (atS 60 (lvT2 .normal) 2 (stT2 m n k i 0) (hpT2 m f n g k h x) (fun K => cond c (K .normal (mkT 0 60 ([1, 6, 22, 23, 24].zip (stT0 m n k2 i))) (hpT0 m f n g k2 h2)) (K .ret (mkT 0 60 [(4, .v (.slice none 0 0)), (5, .v (.bool false))]) (hpTr m f n g))))
theorem rndT0 (pr : (Nat → Int) → (Nat → Int) → Nat → Int) (ok : (Nat → Int) → (Nat → Int) → Bool) (m : Nat) (f : Nat → Nat → Int) (n : Nat) (g : Nat → Nat → Int) (k : Nat) (h : Nat → Nat → Int) (i : Nat) (c : Bool) (k2 : Nat) (h2 : Nat → Nat → Int) : execC Try.prog (gmT1 pr ok) 100 (lamT2 m f n g k h (f i) i c k2 h2) (loopAt 0 Try.f47) (mkT 0 60 ((lvT0 .normal).zip (stT0 m n k i))) (hpT0 m f n g k h) (leafV 60 lvT0 2)
    = bif decide ((↑i : Int) < (↑m : Int)) then needs [decide ((↑i : Int) < (↑m : Int)), decide ((0 : Nat) + Int.toNat (↑i : Int) < m), chk ([AV.sl (1 : Nat) (9 : Nat) (0 : Nat) (0 : Nat) n none, AV.own (2 : Nat) k, AV.ptr (3 : Nat) (0 : Nat) (0 : Nat) (0 : Nat), AV.sl (0 : Nat) (9 : Nat) (0 : Nat) (0 : Nat) m none, AV.v (Value.int IntKind.i64 (↑m : Int)), AV.v (Value.int IntKind.i64 (↑i : Int)), AV.sl (1 : Nat) (9 : Nat) (0 : Nat) (0 : Nat) n none, AV.v (Value.int IntKind.i64 (↑n : Int)), AV.v (Value.int IntKind.i64 (0 : Int))] = stT2 m n k i (0 : Nat) ∧ Hsim [AB.row false m (9 : Nat) (row9 f) (58 : TypeId), AB.row false n (9 : Nat) (row9 g) (58 : TypeId), AB.row true k (9 : Nat) (row9 h) (58 : TypeId), AB.cells [AV.v (Value.int IntKind.i64 (f ((0 : Nat) + Int.toNat (↑i : Int)) (0 : Nat))), AV.v (Value.int IntKind.i64 (f ((0 : Nat) + Int.toNat (↑i : Int)) (1 : Nat))), AV.v (Value.int IntKind.i64 (f ((0 : Nat) + Int.toNat (↑i : Int)) (2 : Nat))), AV.v (Value.int IntKind.i64 (f ((0 : Nat) + Int.toNat (↑i : Int)) (3 : Nat))), AV.v (Value.int IntKind.i64 (f ((0 : Nat) + Int.toNat (↑i : Int)) (4 : Nat))), AV.v (Value.int IntKind.i64 (f ((0 : Nat) + Int.toNat (↑i : Int)) (5 : Nat))), AV.v (Value.int IntKind.i64 (f ((0 : Nat) + Int.toNat (↑i : Int)) (6 : Nat))), AV.v (Value.int IntKind.i64 (f ((0 : Nat) + Int.toNat (↑i : Int)) (7 : Nat))), AV.v (Value.int IntKind.i64 (f ((0 : Nat) + Int.toNat (↑i : Int)) (8 : Nat)))] (58 : Nat)] (hpT2 m f n g k h (f i)))] (bif c then Res.out Ex.normal [AV.sl (1 : Nat) (9 : Nat) (0 : Nat) (0 : Nat) n none, AV.own (2 : Nat) k2, AV.sl (0 : Nat) (9 : Nat) (0 : Nat) (0 : Nat) m none, AV.v (Value.int IntKind.i64 (↑m : Int)), AV.v (Value.int IntKind.i64 (IntKind.wrap IntKind.i64 ((↑i : Int) + (1 : Int))))] [AB.row false m (9 : Nat) (row9 f) (58 : TypeId), AB.row false n (9 : Nat) (row9 g) (58 : TypeId), AB.row true k2 (9 : Nat) (row9 h2) (58 : TypeId)] else Res.out Ex.ret [AV.v (Value.slice none (0 : Nat) (0 : Nat)), AV.v (Value.bool false)] [AB.row false m (9 : Nat) (row9 f) (58 : TypeId), AB.row false n (9 : Nat) (row9 g) (58 : TypeId)]) else Res.out (Ex.exit (0 : Nat)) [AV.own (2 : Nat) k] [AB.row false m (9 : Nat) (row9 f) (58 : TypeId), AB.row false n (9 : Nat) (row9 g) (58 : TypeId), AB.row true k (9 : Nat) (row9 h) (58 : TypeId)] := by kernel_rfl

theorem rndT0n (pr : (Nat → Int) → (Nat → Int) → Nat → Int) (ok : (Nat → Int) → (Nat → Int) → Bool) (m : Nat) (f : Nat → Nat → Int) (n : Nat) (g : Nat → Nat → Int) (k : Nat) (h : Nat → Nat → Int) (i : Nat) : execC Try.prog (gmT1 pr ok) 100 (oneL 2 errS) (loopAt 0 Try.f47) (mkT 0 60 ((lvT0 .normal).zip (stT0 m n k i))) (hpT0 m f n g k h) (leafV 60 lvT0 2)
    = bif decide ((↑i : Int) < (↑m : Int)) then needs [decide ((↑i : Int) < (↑m : Int)), decide ((0 : Nat) + Int.toNat (↑i : Int) < m)] Res.err else Res.out (Ex.exit (0 : Nat)) [AV.own (2 : Nat) k] [AB.row false m (9 : Nat) (row9 f) (58 : TypeId), AB.row false n (9 : Nat) (row9 g) (58 : TypeId), AB.row true k (9 : Nat) (row9 h) (58 : TypeId)] := by kernel_rfl

noncomputable abbrev lamT0 (m : Nat) (f : Nat → Nat → Int) (n : Nat) (g : Nat → Nat → Int) (c : Bool) (k : Nat) (h : Nat → Nat → Int) : Nat → Option Sum := oneL 0 (atS 60 (lvT0 .normal) 2 (stT0 m n 0 0) (hpT0 m f n g 0 (wfun [])) (fun K => cond c (K .normal (mkT 0 60 [(6, .own 2 k)]) (hpT0 m f n g k h)) (K .ret (mkT 0 60 [(4, .v (.slice none 0 0)), (5, .v (.bool false))]) (hpTr m f n g))))
theorem treeTmY (okd : List Wh → Bool) (ti : List Wh → List Wh) (okt inw : List Wh → Bool) (m : Nat) (f : Nat → Nat → Int) (n : Nat) (g : Nat → Nat → Int) (c : Bool) (k : Nat) (h : Nat → Nat → Int) : execF Try.prog (gmChY okd ti okt inw) (lamT0 m f n g c k h) 100 Try.f47 [.sl 0 9 0 0 m none, .sl 1 9 0 0 n none] (hpTr m f n g) (packK 2)
    = needs [Nat.ble ((0 : Nat) + m) m, allW m fun q ↦ row9 f ((0 : Nat) + q), decide (m ≤ (549755813888 : Nat))] (bif !okd (listW (itW fun q ↦ row9 f ((0 : Nat) + q)) m) then Res.out Ex.ret [AV.tup [AV.v (Value.slice none (0 : Nat) (0 : Nat)), AV.v (Value.bool false)]] [AB.row false m (9 : Nat) (row9 f) (58 : TypeId), AB.row false n (9 : Nat) (row9 g) (58 : TypeId)] else needs [Nat.ble ((0 : Nat) + n) n, allW n fun q ↦ row9 g ((0 : Nat) + q), decide (n ≤ (549755813888 : Nat))] (bif !okd (listW (itW fun q ↦ row9 g ((0 : Nat) + q)) n) then Res.out Ex.ret [AV.tup [AV.v (Value.slice none (0 : Nat) (0 : Nat)), AV.v (Value.bool false)]] [AB.row false m (9 : Nat) (row9 f) (58 : TypeId), AB.row false n (9 : Nat) (row9 g) (58 : TypeId)] else needs [chk ([AV.sl (1 : Nat) (9 : Nat) (0 : Nat) (0 : Nat) n none, AV.own (2 : Nat) (0 : Nat), AV.sl (0 : Nat) (9 : Nat) (0 : Nat) (0 : Nat) m none, AV.v (Value.int IntKind.i64 (↑m : Int)), AV.v (Value.int IntKind.i64 (0 : Int))] = stT0 m n (0 : Nat) (0 : Nat) ∧ Hsim [AB.row false m (9 : Nat) (row9 f) (58 : TypeId), AB.row false n (9 : Nat) (row9 g) (58 : TypeId), AB.row true (0 : Nat) (9 : Nat) (fun _ ↦ []) (58 : Nat)] (hpT0 m f n g (0 : Nat) (wfun [])))] (bif c then needs [Nat.ble k k, allW k (row9 h), decide (k ≤ (274877906944 : Nat)), inw (listW (itW (row9 h)) k), okt (listW (itW (row9 h)) k)] (Res.out Ex.ret [AV.tup [AV.sl (2 : Nat) (9 : Nat) (0 : Nat) (0 : Nat) (List.length (ti (listW (itW (row9 h)) k))) (some (List.length (ti (listW (itW (row9 h)) k)))), AV.v (Value.bool true)]] [AB.row false m (9 : Nat) (row9 f) (58 : TypeId), AB.row false n (9 : Nat) (row9 g) (58 : TypeId), AB.row true (List.length (ti (listW (itW (row9 h)) k))) (9 : Nat) (row9 (wfun (ti (listW (itW (row9 h)) k)))) (58 : TypeId)]) else Res.out Ex.ret [AV.tup [AV.v (Value.slice none (0 : Nat) (0 : Nat)), AV.v (Value.bool false)]] [AB.row false m (9 : Nat) (row9 f) (58 : TypeId), AB.row false n (9 : Nat) (row9 g) (58 : TypeId)]))) := by kernel_rfl

theorem treeTmN (okd : List Wh → Bool) (okt inw : List Wh → Bool) (m : Nat) (f : Nat → Nat → Int) (n : Nat) (g : Nat → Nat → Int) (c : Bool) (k : Nat) (h : Nat → Nat → Int) : execF Try.prog (gmChN okd okt inw) (lamT0 m f n g c k h) 100 Try.f47 [.sl 0 9 0 0 m none, .sl 1 9 0 0 n none] (hpTr m f n g) (packK 2)
    = needs [Nat.ble ((0 : Nat) + m) m, allW m fun q ↦ row9 f ((0 : Nat) + q), decide (m ≤ (549755813888 : Nat))] (bif !okd (listW (itW fun q ↦ row9 f ((0 : Nat) + q)) m) then Res.out Ex.ret [AV.tup [AV.v (Value.slice none (0 : Nat) (0 : Nat)), AV.v (Value.bool false)]] [AB.row false m (9 : Nat) (row9 f) (58 : TypeId), AB.row false n (9 : Nat) (row9 g) (58 : TypeId)] else needs [Nat.ble ((0 : Nat) + n) n, allW n fun q ↦ row9 g ((0 : Nat) + q), decide (n ≤ (549755813888 : Nat))] (bif !okd (listW (itW fun q ↦ row9 g ((0 : Nat) + q)) n) then Res.out Ex.ret [AV.tup [AV.v (Value.slice none (0 : Nat) (0 : Nat)), AV.v (Value.bool false)]] [AB.row false m (9 : Nat) (row9 f) (58 : TypeId), AB.row false n (9 : Nat) (row9 g) (58 : TypeId)] else needs [chk ([AV.sl (1 : Nat) (9 : Nat) (0 : Nat) (0 : Nat) n none, AV.own (2 : Nat) (0 : Nat), AV.sl (0 : Nat) (9 : Nat) (0 : Nat) (0 : Nat) m none, AV.v (Value.int IntKind.i64 (↑m : Int)), AV.v (Value.int IntKind.i64 (0 : Int))] = stT0 m n (0 : Nat) (0 : Nat) ∧ Hsim [AB.row false m (9 : Nat) (row9 f) (58 : TypeId), AB.row false n (9 : Nat) (row9 g) (58 : TypeId), AB.row true (0 : Nat) (9 : Nat) (fun _ ↦ []) (58 : Nat)] (hpT0 m f n g (0 : Nat) (wfun [])))] (bif c then needs [Nat.ble k k, allW k (row9 h), decide (k ≤ (274877906944 : Nat)), inw (listW (itW (row9 h)) k), !okt (listW (itW (row9 h)) k)] (Res.out Ex.ret [AV.tup [AV.v (Value.slice none (0 : Nat) (0 : Nat)), AV.v (Value.bool false)]] [AB.row false m (9 : Nat) (row9 f) (58 : TypeId), AB.row false n (9 : Nat) (row9 g) (58 : TypeId)]) else Res.out Ex.ret [AV.tup [AV.v (Value.slice none (0 : Nat) (0 : Nat)), AV.v (Value.bool false)]] [AB.row false m (9 : Nat) (row9 f) (58 : TypeId), AB.row false n (9 : Nat) (row9 g) (58 : TypeId)]))) := by kernel_rfl

def gmS1 (pr : (Nat → Int) → (Nat → Int) → Nat → Int) (ok : (Nat → Int) → (Nat → Int) → Bool) : Gam := ext g0 95 (specR [.val, .val] (FctO pr ok))
abbrev lvS2 : Ex → List Nat := lv3 [0, 1, 6, 7, 8] [0, 1, 6, 7] [4, 5]
abbrev stS2 (m n k i j : Nat) : List AV := [.sl 0 9 0 0 m none, .sl 1 9 0 0 n none, .own 2 k, .v (i64 i), .v (i64 j)]
theorem rndS2 (pr : (Nat → Int) → (Nat → Int) → Nat → Int) (ok : (Nat → Int) → (Nat → Int) → Bool) (m : Nat) (f : Nat → Nat → Int) (n : Nat) (g : Nat → Nat → Int) (k : Nat) (h : Nat → Nat → Int) (i j : Nat) : execC Try.prog (gmS1 pr ok) 100 noLam (loopAt 2 Try.f48) (mkT 0 70 ((lvS2 .normal).zip (stS2 m n k i j))) (hpT0 m f n g k h) (leafV 70 lvS2 2)
    = bif decide ((↑j : Int) < (↑n : Int)) then needs [decide ((↑i : Int) < (↑m : Int)), decide ((0 : Nat) + Int.toNat (↑i : Int) < m), decide ((↑j : Int) < (↑n : Int)), decide ((0 : Nat) + Int.toNat (↑j : Int) < n)] (bif !ok (v8 (f ((0 : Nat) + Int.toNat (↑i : Int)) (1 : Nat)) (f ((0 : Nat) + Int.toNat (↑i : Int)) (2 : Nat)) (f ((0 : Nat) + Int.toNat (↑i : Int)) (3 : Nat)) (f ((0 : Nat) + Int.toNat (↑i : Int)) (4 : Nat)) (f ((0 : Nat) + Int.toNat (↑i : Int)) (5 : Nat)) (f ((0 : Nat) + Int.toNat (↑i : Int)) (6 : Nat)) (f ((0 : Nat) + Int.toNat (↑i : Int)) (7 : Nat)) (f ((0 : Nat) + Int.toNat (↑i : Int)) (8 : Nat))) (v8 (g ((0 : Nat) + Int.toNat (↑j : Int)) (1 : Nat)) (g ((0 : Nat) + Int.toNat (↑j : Int)) (2 : Nat)) (g ((0 : Nat) + Int.toNat (↑j : Int)) (3 : Nat)) (g ((0 : Nat) + Int.toNat (↑j : Int)) (4 : Nat)) (g ((0 : Nat) + Int.toNat (↑j : Int)) (5 : Nat)) (g ((0 : Nat) + Int.toNat (↑j : Int)) (6 : Nat)) (g ((0 : Nat) + Int.toNat (↑j : Int)) (7 : Nat)) (g ((0 : Nat) + Int.toNat (↑j : Int)) (8 : Nat))) then Res.out Ex.ret [AV.own (2 : Nat) (0 : Nat), AV.v (Value.bool false)] [AB.row false m (9 : Nat) (row9 f) (58 : TypeId), AB.row false n (9 : Nat) (row9 g) (58 : TypeId), AB.row true (0 : Nat) (9 : Nat) (fun _ ↦ []) (58 : Nat)] else needs [decide ((↑i : Int) < (↑m : Int)), decide ((0 : Nat) + Int.toNat (↑i : Int) < m), decide ((↑j : Int) < (↑n : Int)), decide ((0 : Nat) + Int.toNat (↑j : Int) < n), Nat.ble k k, Nat.ble (k + (1 : Nat)) (549755813888 : Nat)] (Res.out Ex.normal [AV.sl (0 : Nat) (9 : Nat) (0 : Nat) (0 : Nat) m none, AV.sl (1 : Nat) (9 : Nat) (0 : Nat) (0 : Nat) n none, AV.own (2 : Nat) (k + (1 : Nat)), AV.v (Value.int IntKind.i64 (↑i : Int)), AV.v (Value.int IntKind.i64 (IntKind.wrap IntKind.i64 ((↑j : Int) + (1 : Int))))] [AB.row false m (9 : Nat) (row9 f) (58 : TypeId), AB.row false n (9 : Nat) (row9 g) (58 : TypeId), AB.row true (k + (1 : Nat)) (9 : Nat) (fun q ↦ [Value.int IntKind.i64 (bif Nat.blt q k then h q (0 : Nat) else IntKind.wrap IntKind.i64 (f ((0 : Nat) + Int.toNat (↑i : Int)) (0 : Nat) + g ((0 : Nat) + Int.toNat (↑j : Int)) (0 : Nat))), Value.int IntKind.i64 (bif Nat.blt q k then h q (1 : Nat) else pr (v8 (f ((0 : Nat) + Int.toNat (↑i : Int)) (1 : Nat)) (f ((0 : Nat) + Int.toNat (↑i : Int)) (2 : Nat)) (f ((0 : Nat) + Int.toNat (↑i : Int)) (3 : Nat)) (f ((0 : Nat) + Int.toNat (↑i : Int)) (4 : Nat)) (f ((0 : Nat) + Int.toNat (↑i : Int)) (5 : Nat)) (f ((0 : Nat) + Int.toNat (↑i : Int)) (6 : Nat)) (f ((0 : Nat) + Int.toNat (↑i : Int)) (7 : Nat)) (f ((0 : Nat) + Int.toNat (↑i : Int)) (8 : Nat))) (v8 (g ((0 : Nat) + Int.toNat (↑j : Int)) (1 : Nat)) (g ((0 : Nat) + Int.toNat (↑j : Int)) (2 : Nat)) (g ((0 : Nat) + Int.toNat (↑j : Int)) (3 : Nat)) (g ((0 : Nat) + Int.toNat (↑j : Int)) (4 : Nat)) (g ((0 : Nat) + Int.toNat (↑j : Int)) (5 : Nat)) (g ((0 : Nat) + Int.toNat (↑j : Int)) (6 : Nat)) (g ((0 : Nat) + Int.toNat (↑j : Int)) (7 : Nat)) (g ((0 : Nat) + Int.toNat (↑j : Int)) (8 : Nat))) (0 : Nat)), Value.int IntKind.i64 (bif Nat.blt q k then h q (2 : Nat) else pr (v8 (f ((0 : Nat) + Int.toNat (↑i : Int)) (1 : Nat)) (f ((0 : Nat) + Int.toNat (↑i : Int)) (2 : Nat)) (f ((0 : Nat) + Int.toNat (↑i : Int)) (3 : Nat)) (f ((0 : Nat) + Int.toNat (↑i : Int)) (4 : Nat)) (f ((0 : Nat) + Int.toNat (↑i : Int)) (5 : Nat)) (f ((0 : Nat) + Int.toNat (↑i : Int)) (6 : Nat)) (f ((0 : Nat) + Int.toNat (↑i : Int)) (7 : Nat)) (f ((0 : Nat) + Int.toNat (↑i : Int)) (8 : Nat))) (v8 (g ((0 : Nat) + Int.toNat (↑j : Int)) (1 : Nat)) (g ((0 : Nat) + Int.toNat (↑j : Int)) (2 : Nat)) (g ((0 : Nat) + Int.toNat (↑j : Int)) (3 : Nat)) (g ((0 : Nat) + Int.toNat (↑j : Int)) (4 : Nat)) (g ((0 : Nat) + Int.toNat (↑j : Int)) (5 : Nat)) (g ((0 : Nat) + Int.toNat (↑j : Int)) (6 : Nat)) (g ((0 : Nat) + Int.toNat (↑j : Int)) (7 : Nat)) (g ((0 : Nat) + Int.toNat (↑j : Int)) (8 : Nat))) (1 : Nat)), Value.int IntKind.i64 (bif Nat.blt q k then h q (3 : Nat) else pr (v8 (f ((0 : Nat) + Int.toNat (↑i : Int)) (1 : Nat)) (f ((0 : Nat) + Int.toNat (↑i : Int)) (2 : Nat)) (f ((0 : Nat) + Int.toNat (↑i : Int)) (3 : Nat)) (f ((0 : Nat) + Int.toNat (↑i : Int)) (4 : Nat)) (f ((0 : Nat) + Int.toNat (↑i : Int)) (5 : Nat)) (f ((0 : Nat) + Int.toNat (↑i : Int)) (6 : Nat)) (f ((0 : Nat) + Int.toNat (↑i : Int)) (7 : Nat)) (f ((0 : Nat) + Int.toNat (↑i : Int)) (8 : Nat))) (v8 (g ((0 : Nat) + Int.toNat (↑j : Int)) (1 : Nat)) (g ((0 : Nat) + Int.toNat (↑j : Int)) (2 : Nat)) (g ((0 : Nat) + Int.toNat (↑j : Int)) (3 : Nat)) (g ((0 : Nat) + Int.toNat (↑j : Int)) (4 : Nat)) (g ((0 : Nat) + Int.toNat (↑j : Int)) (5 : Nat)) (g ((0 : Nat) + Int.toNat (↑j : Int)) (6 : Nat)) (g ((0 : Nat) + Int.toNat (↑j : Int)) (7 : Nat)) (g ((0 : Nat) + Int.toNat (↑j : Int)) (8 : Nat))) (2 : Nat)), Value.int IntKind.i64 (bif Nat.blt q k then h q (4 : Nat) else pr (v8 (f ((0 : Nat) + Int.toNat (↑i : Int)) (1 : Nat)) (f ((0 : Nat) + Int.toNat (↑i : Int)) (2 : Nat)) (f ((0 : Nat) + Int.toNat (↑i : Int)) (3 : Nat)) (f ((0 : Nat) + Int.toNat (↑i : Int)) (4 : Nat)) (f ((0 : Nat) + Int.toNat (↑i : Int)) (5 : Nat)) (f ((0 : Nat) + Int.toNat (↑i : Int)) (6 : Nat)) (f ((0 : Nat) + Int.toNat (↑i : Int)) (7 : Nat)) (f ((0 : Nat) + Int.toNat (↑i : Int)) (8 : Nat))) (v8 (g ((0 : Nat) + Int.toNat (↑j : Int)) (1 : Nat)) (g ((0 : Nat) + Int.toNat (↑j : Int)) (2 : Nat)) (g ((0 : Nat) + Int.toNat (↑j : Int)) (3 : Nat)) (g ((0 : Nat) + Int.toNat (↑j : Int)) (4 : Nat)) (g ((0 : Nat) + Int.toNat (↑j : Int)) (5 : Nat)) (g ((0 : Nat) + Int.toNat (↑j : Int)) (6 : Nat)) (g ((0 : Nat) + Int.toNat (↑j : Int)) (7 : Nat)) (g ((0 : Nat) + Int.toNat (↑j : Int)) (8 : Nat))) (3 : Nat)), Value.int IntKind.i64 (bif Nat.blt q k then h q (5 : Nat) else pr (v8 (f ((0 : Nat) + Int.toNat (↑i : Int)) (1 : Nat)) (f ((0 : Nat) + Int.toNat (↑i : Int)) (2 : Nat)) (f ((0 : Nat) + Int.toNat (↑i : Int)) (3 : Nat)) (f ((0 : Nat) + Int.toNat (↑i : Int)) (4 : Nat)) (f ((0 : Nat) + Int.toNat (↑i : Int)) (5 : Nat)) (f ((0 : Nat) + Int.toNat (↑i : Int)) (6 : Nat)) (f ((0 : Nat) + Int.toNat (↑i : Int)) (7 : Nat)) (f ((0 : Nat) + Int.toNat (↑i : Int)) (8 : Nat))) (v8 (g ((0 : Nat) + Int.toNat (↑j : Int)) (1 : Nat)) (g ((0 : Nat) + Int.toNat (↑j : Int)) (2 : Nat)) (g ((0 : Nat) + Int.toNat (↑j : Int)) (3 : Nat)) (g ((0 : Nat) + Int.toNat (↑j : Int)) (4 : Nat)) (g ((0 : Nat) + Int.toNat (↑j : Int)) (5 : Nat)) (g ((0 : Nat) + Int.toNat (↑j : Int)) (6 : Nat)) (g ((0 : Nat) + Int.toNat (↑j : Int)) (7 : Nat)) (g ((0 : Nat) + Int.toNat (↑j : Int)) (8 : Nat))) (4 : Nat)), Value.int IntKind.i64 (bif Nat.blt q k then h q (6 : Nat) else pr (v8 (f ((0 : Nat) + Int.toNat (↑i : Int)) (1 : Nat)) (f ((0 : Nat) + Int.toNat (↑i : Int)) (2 : Nat)) (f ((0 : Nat) + Int.toNat (↑i : Int)) (3 : Nat)) (f ((0 : Nat) + Int.toNat (↑i : Int)) (4 : Nat)) (f ((0 : Nat) + Int.toNat (↑i : Int)) (5 : Nat)) (f ((0 : Nat) + Int.toNat (↑i : Int)) (6 : Nat)) (f ((0 : Nat) + Int.toNat (↑i : Int)) (7 : Nat)) (f ((0 : Nat) + Int.toNat (↑i : Int)) (8 : Nat))) (v8 (g ((0 : Nat) + Int.toNat (↑j : Int)) (1 : Nat)) (g ((0 : Nat) + Int.toNat (↑j : Int)) (2 : Nat)) (g ((0 : Nat) + Int.toNat (↑j : Int)) (3 : Nat)) (g ((0 : Nat) + Int.toNat (↑j : Int)) (4 : Nat)) (g ((0 : Nat) + Int.toNat (↑j : Int)) (5 : Nat)) (g ((0 : Nat) + Int.toNat (↑j : Int)) (6 : Nat)) (g ((0 : Nat) + Int.toNat (↑j : Int)) (7 : Nat)) (g ((0 : Nat) + Int.toNat (↑j : Int)) (8 : Nat))) (5 : Nat)), Value.int IntKind.i64 (bif Nat.blt q k then h q (7 : Nat) else pr (v8 (f ((0 : Nat) + Int.toNat (↑i : Int)) (1 : Nat)) (f ((0 : Nat) + Int.toNat (↑i : Int)) (2 : Nat)) (f ((0 : Nat) + Int.toNat (↑i : Int)) (3 : Nat)) (f ((0 : Nat) + Int.toNat (↑i : Int)) (4 : Nat)) (f ((0 : Nat) + Int.toNat (↑i : Int)) (5 : Nat)) (f ((0 : Nat) + Int.toNat (↑i : Int)) (6 : Nat)) (f ((0 : Nat) + Int.toNat (↑i : Int)) (7 : Nat)) (f ((0 : Nat) + Int.toNat (↑i : Int)) (8 : Nat))) (v8 (g ((0 : Nat) + Int.toNat (↑j : Int)) (1 : Nat)) (g ((0 : Nat) + Int.toNat (↑j : Int)) (2 : Nat)) (g ((0 : Nat) + Int.toNat (↑j : Int)) (3 : Nat)) (g ((0 : Nat) + Int.toNat (↑j : Int)) (4 : Nat)) (g ((0 : Nat) + Int.toNat (↑j : Int)) (5 : Nat)) (g ((0 : Nat) + Int.toNat (↑j : Int)) (6 : Nat)) (g ((0 : Nat) + Int.toNat (↑j : Int)) (7 : Nat)) (g ((0 : Nat) + Int.toNat (↑j : Int)) (8 : Nat))) (6 : Nat)), Value.int IntKind.i64 (bif Nat.blt q k then h q (8 : Nat) else pr (v8 (f ((0 : Nat) + Int.toNat (↑i : Int)) (1 : Nat)) (f ((0 : Nat) + Int.toNat (↑i : Int)) (2 : Nat)) (f ((0 : Nat) + Int.toNat (↑i : Int)) (3 : Nat)) (f ((0 : Nat) + Int.toNat (↑i : Int)) (4 : Nat)) (f ((0 : Nat) + Int.toNat (↑i : Int)) (5 : Nat)) (f ((0 : Nat) + Int.toNat (↑i : Int)) (6 : Nat)) (f ((0 : Nat) + Int.toNat (↑i : Int)) (7 : Nat)) (f ((0 : Nat) + Int.toNat (↑i : Int)) (8 : Nat))) (v8 (g ((0 : Nat) + Int.toNat (↑j : Int)) (1 : Nat)) (g ((0 : Nat) + Int.toNat (↑j : Int)) (2 : Nat)) (g ((0 : Nat) + Int.toNat (↑j : Int)) (3 : Nat)) (g ((0 : Nat) + Int.toNat (↑j : Int)) (4 : Nat)) (g ((0 : Nat) + Int.toNat (↑j : Int)) (5 : Nat)) (g ((0 : Nat) + Int.toNat (↑j : Int)) (6 : Nat)) (g ((0 : Nat) + Int.toNat (↑j : Int)) (7 : Nat)) (g ((0 : Nat) + Int.toNat (↑j : Int)) (8 : Nat))) (7 : Nat))]) (58 : Nat)])) else Res.out (Ex.exit (2 : Nat)) [AV.sl (0 : Nat) (9 : Nat) (0 : Nat) (0 : Nat) m none, AV.sl (1 : Nat) (9 : Nat) (0 : Nat) (0 : Nat) n none, AV.own (2 : Nat) k, AV.v (Value.int IntKind.i64 (↑i : Int))] [AB.row false m (9 : Nat) (row9 f) (58 : TypeId), AB.row false n (9 : Nat) (row9 g) (58 : TypeId), AB.row true k (9 : Nat) (row9 h) (58 : TypeId)] := by kernel_rfl

abbrev lvS0 : Ex → List Nat := lv3 [0, 1, 6, 7] [6] [4, 5]
abbrev stS0 (m n k i : Nat) : List AV := [.sl 0 9 0 0 m none, .sl 1 9 0 0 n none, .own 2 k, .v (i64 i)]
abbrev hpSr (m : Nat) (f : Nat → Nat → Int) (n : Nat) (g : Nat → Nat → Int) : List AB := hpT0 m f n g 0 (wfun [])
noncomputable abbrev lamS2 (m : Nat) (f : Nat → Nat → Int) (n : Nat) (g : Nat → Nat → Int) (k : Nat) (h : Nat → Nat → Int) (i : Nat) (c : Bool) (k2 : Nat) (h2 : Nat → Nat → Int) : Nat → Option Sum := oneL 2 (atS 70 (lvS2 .normal) 2 (stS2 m n k i 0) (hpT0 m f n g k h) (fun K => cond c (K .normal (mkT 0 70 ([0, 1, 6, 7].zip (stS0 m n k2 i))) (hpT0 m f n g k2 h2)) (K .ret (mkT 0 70 [(4, .own 2 0), (5, .v (.bool false))]) (hpSr m f n g))))
theorem rndS0 (pr : (Nat → Int) → (Nat → Int) → Nat → Int) (ok : (Nat → Int) → (Nat → Int) → Bool) (m : Nat) (f : Nat → Nat → Int) (n : Nat) (g : Nat → Nat → Int) (k : Nat) (h : Nat → Nat → Int) (i : Nat) (c : Bool) (k2 : Nat) (h2 : Nat → Nat → Int) : execC Try.prog (gmS1 pr ok) 100 (lamS2 m f n g k h i c k2 h2) (loopAt 0 Try.f48) (mkT 0 70 ((lvS0 .normal).zip (stS0 m n k i))) (hpT0 m f n g k h) (leafV 70 lvS0 2)
    = bif decide ((↑i : Int) < (↑m : Int)) then needs [chk ([AV.sl (0 : Nat) (9 : Nat) (0 : Nat) (0 : Nat) m none, AV.sl (1 : Nat) (9 : Nat) (0 : Nat) (0 : Nat) n none, AV.own (2 : Nat) k, AV.v (Value.int IntKind.i64 (↑i : Int)), AV.v (Value.int IntKind.i64 (0 : Int))] = stS2 m n k i (0 : Nat) ∧ Hsim [AB.row false m (9 : Nat) (row9 f) (58 : TypeId), AB.row false n (9 : Nat) (row9 g) (58 : TypeId), AB.row true k (9 : Nat) (row9 h) (58 : TypeId)] (hpT0 m f n g k h))] (bif c then Res.out Ex.normal [AV.sl (0 : Nat) (9 : Nat) (0 : Nat) (0 : Nat) m none, AV.sl (1 : Nat) (9 : Nat) (0 : Nat) (0 : Nat) n none, AV.own (2 : Nat) k2, AV.v (Value.int IntKind.i64 (IntKind.wrap IntKind.i64 ((↑i : Int) + (1 : Int))))] [AB.row false m (9 : Nat) (row9 f) (58 : TypeId), AB.row false n (9 : Nat) (row9 g) (58 : TypeId), AB.row true k2 (9 : Nat) (row9 h2) (58 : TypeId)] else Res.out Ex.ret [AV.own (2 : Nat) (0 : Nat), AV.v (Value.bool false)] [AB.row false m (9 : Nat) (row9 f) (58 : TypeId), AB.row false n (9 : Nat) (row9 g) (58 : TypeId), AB.row true (0 : Nat) (9 : Nat) (row9 (wfun [])) (58 : TypeId)]) else Res.out (Ex.exit (0 : Nat)) [AV.own (2 : Nat) k] [AB.row false m (9 : Nat) (row9 f) (58 : TypeId), AB.row false n (9 : Nat) (row9 g) (58 : TypeId), AB.row true k (9 : Nat) (row9 h) (58 : TypeId)] := by kernel_rfl

theorem rndS0n (pr : (Nat → Int) → (Nat → Int) → Nat → Int) (ok : (Nat → Int) → (Nat → Int) → Bool) (m : Nat) (f : Nat → Nat → Int) (n : Nat) (g : Nat → Nat → Int) (k : Nat) (h : Nat → Nat → Int) (i : Nat) : execC Try.prog (gmS1 pr ok) 100 (oneL 2 errS) (loopAt 0 Try.f48) (mkT 0 70 ((lvS0 .normal).zip (stS0 m n k i))) (hpT0 m f n g k h) (leafV 70 lvS0 2)
    = bif decide ((↑i : Int) < (↑m : Int)) then Res.err else Res.out (Ex.exit (0 : Nat)) [AV.own (2 : Nat) k] [AB.row false m (9 : Nat) (row9 f) (58 : TypeId), AB.row false n (9 : Nat) (row9 g) (58 : TypeId), AB.row true k (9 : Nat) (row9 h) (58 : TypeId)] := by kernel_rfl

noncomputable abbrev lamS0 (m : Nat) (f : Nat → Nat → Int) (n : Nat) (g : Nat → Nat → Int) (c : Bool) (k : Nat) (h : Nat → Nat → Int) : Nat → Option Sum := oneL 0 (atS 70 (lvS0 .normal) 2 (stS0 m n 0 0) (hpT0 m f n g 0 (wfun [])) (fun K => cond c (K .normal (mkT 0 70 [(6, .own 2 k)]) (hpT0 m f n g k h)) (K .ret (mkT 0 70 [(4, .own 2 0), (5, .v (.bool false))]) (hpSr m f n g))))
def gmS2 (okd : List Wh → Bool) (ti : List Wh → List Wh) (okt : List Wh → Bool) : Gam := ext (ext g0 81 (specR md_ws (FdvO okd))) 82 (specR md_ws (FtidyO ti okt))
theorem treeTmS (okd : List Wh → Bool) (ti : List Wh → List Wh) (okt : List Wh → Bool) (m : Nat) (f : Nat → Nat → Int) (n : Nat) (g : Nat → Nat → Int) (c : Bool) (k : Nat) (h : Nat → Nat → Int) : execF Try.prog (gmS2 okd ti okt) (lamS0 m f n g c k h) 100 Try.f48 [.sl 0 9 0 0 m none, .sl 1 9 0 0 n none] (hpTr m f n g) (packK 2)
    = needs [Nat.ble ((0 : Nat) + m) m, allW m fun q ↦ row9 f ((0 : Nat) + q), decide (m ≤ (549755813888 : Nat))] (bif !okd (listW (itW fun q ↦ row9 f ((0 : Nat) + q)) m) then Res.out Ex.ret [AV.tup [AV.own (2 : Nat) (0 : Nat), AV.v (Value.bool false)]] [AB.row false m (9 : Nat) (row9 f) (58 : TypeId), AB.row false n (9 : Nat) (row9 g) (58 : TypeId), AB.row true (0 : Nat) (9 : Nat) (fun _ ↦ []) (58 : Nat)] else needs [Nat.ble ((0 : Nat) + n) n, allW n fun q ↦ row9 g ((0 : Nat) + q), decide (n ≤ (549755813888 : Nat))] (bif !okd (listW (itW fun q ↦ row9 g ((0 : Nat) + q)) n) then Res.out Ex.ret [AV.tup [AV.own (2 : Nat) (0 : Nat), AV.v (Value.bool false)]] [AB.row false m (9 : Nat) (row9 f) (58 : TypeId), AB.row false n (9 : Nat) (row9 g) (58 : TypeId), AB.row true (0 : Nat) (9 : Nat) (fun _ ↦ []) (58 : Nat)] else needs [chk ([AV.sl (0 : Nat) (9 : Nat) (0 : Nat) (0 : Nat) m none, AV.sl (1 : Nat) (9 : Nat) (0 : Nat) (0 : Nat) n none, AV.own (2 : Nat) (0 : Nat), AV.v (Value.int IntKind.i64 (0 : Int))] = stS0 m n (0 : Nat) (0 : Nat) ∧ Hsim [AB.row false m (9 : Nat) (row9 f) (58 : TypeId), AB.row false n (9 : Nat) (row9 g) (58 : TypeId), AB.row true (0 : Nat) (9 : Nat) (fun _ ↦ []) (58 : Nat)] (hpT0 m f n g (0 : Nat) (wfun [])))] (bif c then needs [Nat.ble k k, allW k (row9 h), decide (k ≤ (274877906944 : Nat))] (Res.out Ex.ret [AV.tup [AV.own (2 : Nat) (List.length (ti (listW (itW (row9 h)) k))), AV.v (Value.bool (okt (listW (itW (row9 h)) k)))]] [AB.row false m (9 : Nat) (row9 f) (58 : TypeId), AB.row false n (9 : Nat) (row9 g) (58 : TypeId), AB.row true (List.length (ti (listW (itW (row9 h)) k))) (9 : Nat) (row9 (wfun (ti (listW (itW (row9 h)) k)))) (58 : TypeId)]) else Res.out Ex.ret [AV.tup [AV.own (2 : Nat) (0 : Nat), AV.v (Value.bool false)]] [AB.row false m (9 : Nat) (row9 f) (58 : TypeId), AB.row false n (9 : Nat) (row9 g) (58 : TypeId), AB.row true (0 : Nat) (9 : Nat) (row9 (wfun [])) (58 : TypeId)]))) := by kernel_rfl

theorem treeTmE (okd : List Wh → Bool) (okt inw : List Wh → Bool) (m : Nat) (f : Nat → Nat → Int) (n : Nat) (g : Nat → Nat → Int) : execF Try.prog (gmChN okd okt inw) (oneL 0 errS) 100 Try.f47 [.sl 0 9 0 0 m none, .sl 1 9 0 0 n none] (hpTr m f n g) (packK 2)
    = needs [Nat.ble ((0 : Nat) + m) m, allW m fun q ↦ row9 f ((0 : Nat) + q), decide (m ≤ (549755813888 : Nat))] (bif !okd (listW (itW fun q ↦ row9 f ((0 : Nat) + q)) m) then Res.out Ex.ret [AV.tup [AV.v (Value.slice none (0 : Nat) (0 : Nat)), AV.v (Value.bool false)]] [AB.row false m (9 : Nat) (row9 f) (58 : TypeId), AB.row false n (9 : Nat) (row9 g) (58 : TypeId)] else needs [Nat.ble ((0 : Nat) + n) n, allW n fun q ↦ row9 g ((0 : Nat) + q), decide (n ≤ (549755813888 : Nat)), !okd (listW (itW fun q ↦ row9 g ((0 : Nat) + q)) n)] (Res.out Ex.ret [AV.tup [AV.v (Value.slice none (0 : Nat) (0 : Nat)), AV.v (Value.bool false)]] [AB.row false m (9 : Nat) (row9 f) (58 : TypeId), AB.row false n (9 : Nat) (row9 g) (58 : TypeId)])) := by kernel_rfl

theorem treeTmSE (okd : List Wh → Bool) (ti : List Wh → List Wh) (okt : List Wh → Bool) (m : Nat) (f : Nat → Nat → Int) (n : Nat) (g : Nat → Nat → Int) : execF Try.prog (gmS2 okd ti okt) (oneL 0 errS) 100 Try.f48 [.sl 0 9 0 0 m none, .sl 1 9 0 0 n none] (hpTr m f n g) (packK 2)
    = needs [Nat.ble ((0 : Nat) + m) m, allW m fun q ↦ row9 f ((0 : Nat) + q), decide (m ≤ (549755813888 : Nat))] (bif !okd (listW (itW fun q ↦ row9 f ((0 : Nat) + q)) m) then Res.out Ex.ret [AV.tup [AV.own (2 : Nat) (0 : Nat), AV.v (Value.bool false)]] [AB.row false m (9 : Nat) (row9 f) (58 : TypeId), AB.row false n (9 : Nat) (row9 g) (58 : TypeId), AB.row true (0 : Nat) (9 : Nat) (fun _ ↦ []) (58 : Nat)] else needs [Nat.ble ((0 : Nat) + n) n, allW n fun q ↦ row9 g ((0 : Nat) + q), decide (n ≤ (549755813888 : Nat)), !okd (listW (itW fun q ↦ row9 g ((0 : Nat) + q)) n)] (Res.out Ex.ret [AV.tup [AV.own (2 : Nat) (0 : Nat), AV.v (Value.bool false)]] [AB.row false m (9 : Nat) (row9 f) (58 : TypeId), AB.row false n (9 : Nat) (row9 g) (58 : TypeId), AB.row true (0 : Nat) (9 : Nat) (fun _ ↦ []) (58 : Nat)])) := by kernel_rfl


end Go.Proofs.Ytakimbknciffnaa

/- Products of designs: CycTimes of both, DesignTimes of both. Conditions: two lists of wheels. -/
namespace Go.Proofs.Ytakimbknciffnaa
open Go.RowKit
set_option maxRecDepth 100000

def okM (a b : Nat → Int) : Bool := (cyOk (cyOf a) && cyOk (cyOf b)) && cyOk (cyOf (mulF a b))
def prF (a b : Nat → Int) : Nat → Int := bif okM a b then mulF a b else fun _ => 0
theorem gmCT_ok : GamOk Try.prog (gmCT (fun v => cyOk (cyOf v)) mulF) := by
  have e3 : fAdd2 mulF = f_times := by funext l; rfl
  unfold gmCT
  rw [fOkc_eq, e3]
  exact ext_ok (ext_ok g0_ok ok_cvI) ok_times
theorem gmCS_ok : GamOk Try.prog (gmCS (fun v => cyOk (cyOf v)) mulF) := by
  have e3 : fAdd2 mulF = f_l2Times := by funext l; rfl
  unfold gmCS
  rw [fOkc_eq, e3]
  exact ext_ok (ext_ok g0_ok ok_cv) ok_l2Times
theorem ok_ctI : SpecOk Try.prog 49 (specR [.val, .val] (FctO prF okM)) := by
  refine specR_hr gmCT_ok Try.func49 rfl fun sas fr hF ho => ?_
  unfold FctO at hF
  split at hF
  · rename_i a0 a1 a2 a3 a4 a5 a6 a7 b0 b1 b2 b3 b4 b5 b6 b7
    cases hF
    refine ⟨[], noLam, 100, .nil, noLam' _, ?_⟩
    show GoodQ (execF Try.prog (gmCT (fun v => cyOk (cyOf v)) mulF) noLam 100 Try.f49 [.v (cyv (v8 a0 a1 a2 a3 a4 a5 a6 a7)), .v (cyv (v8 b0 b1 b2 b3 b4 b5 b6 b7))] [] (packK 0)) _
    rw [treeCTI]
    generalize hA : v8 a0 a1 a2 a3 a4 a5 a6 a7 = a
    generalize hB : v8 b0 b1 b2 b3 b4 b5 b6 b7 = b
    have fin : ∀ (v : Nat → Int) (o : Bool), prF a b = v → okM a b = o → GoodQ (.out .ret [.tup [.agg (cyC v), .v (.bool o)]] []) (GivR (abP [.val, .val] [.v (.agg ⟨[.int .i64 a0, .int .i64 a1, .int .i64 a2, .int .i64 a3, .int .i64 a4, .int .i64 a5, .int .i64 a6, .int .i64 a7]⟩), .v (.agg ⟨[.int .i64 b0, .int .i64 b1, .int .i64 b2, .int .i64 b3, .int .i64 b4, .int .i64 b5, .int .i64 b6, .int .i64 b7]⟩)] []) { val := .tup [.agg (cyC (prF a b)), .v (.bool (okM a b))] }) := by
      rintro v o rfl rfl
      exact good_out ⟨_, rfl, rfl, .nil⟩
    have bad : okM a b = false → GoodQ (.out .ret [.tup [.agg (cyC fun _ => 0), .v (.bool false)]] []) _ := fun e => fin _ _ (by rw [prF, e]; rfl) e
    refine good_cond (fun q => ?_) fun q => ?_
    · have q' : (!cyOk (cyOf a)) = true := q
      exact bad (by rw [okM, show cyOk (cyOf a) = false by simpa using q']; rfl)
    · have q' : (!cyOk (cyOf a)) = false := q
      have qa : cyOk (cyOf a) = true := by simpa using q'
      refine good_cond (fun q => ?_) fun q => ?_
      · have q' : (!cyOk (cyOf b)) = true := q
        exact bad (by rw [okM, qa, show cyOk (cyOf b) = false by simpa using q']; rfl)
      · have q' : (!cyOk (cyOf b)) = false := q
        have qb : cyOk (cyOf b) = true := by simpa using q'
        refine good_cond (fun q => ?_) fun q => ?_
        · have q' : (!cyOk (cyOf (mulF a b))) = true := q
          exact bad (by rw [okM, qa, qb, show cyOk (cyOf (mulF a b)) = false by simpa using q']; rfl)
        · have q' : (!cyOk (cyOf (mulF a b))) = false := q
          have qm : cyOk (cyOf (mulF a b)) = true := by simpa using q'
          have e : okM a b = true := by rw [okM, qa, qb, qm]; rfl
          exact fin (mulF a b) true (by rw [prF, e]; rfl) e
  · cases hF

theorem ok_ctS : SpecOk Try.prog 95 (specR [.val, .val] (FctO prF okM)) := by
  refine specR_hr gmCS_ok Try.func95 rfl fun sas fr hF ho => ?_
  unfold FctO at hF
  split at hF
  · rename_i a0 a1 a2 a3 a4 a5 a6 a7 b0 b1 b2 b3 b4 b5 b6 b7
    cases hF
    refine ⟨[], noLam, 100, .nil, noLam' _, ?_⟩
    show GoodQ (execF Try.prog (gmCS (fun v => cyOk (cyOf v)) mulF) noLam 100 Try.f95 [.v (cyv (v8 a0 a1 a2 a3 a4 a5 a6 a7)), .v (cyv (v8 b0 b1 b2 b3 b4 b5 b6 b7))] [] (packK 0)) _
    rw [treeCTS]
    generalize hA : v8 a0 a1 a2 a3 a4 a5 a6 a7 = a
    generalize hB : v8 b0 b1 b2 b3 b4 b5 b6 b7 = b
    have fin : ∀ (v : Nat → Int) (o : Bool), prF a b = v → okM a b = o → GoodQ (.out .ret [.tup [.agg (cyC v), .v (.bool o)]] []) (GivR (abP [.val, .val] [.v (.agg ⟨[.int .i64 a0, .int .i64 a1, .int .i64 a2, .int .i64 a3, .int .i64 a4, .int .i64 a5, .int .i64 a6, .int .i64 a7]⟩), .v (.agg ⟨[.int .i64 b0, .int .i64 b1, .int .i64 b2, .int .i64 b3, .int .i64 b4, .int .i64 b5, .int .i64 b6, .int .i64 b7]⟩)] []) { val := .tup [.agg (cyC (prF a b)), .v (.bool (okM a b))] }) := by
      rintro v o rfl rfl
      exact good_out ⟨_, rfl, rfl, .nil⟩
    have bad : okM a b = false → GoodQ (.out .ret [.tup [.agg (cyC fun _ => 0), .v (.bool false)]] []) _ := fun e => fin _ _ (by rw [prF, e]; rfl) e
    refine good_cond (fun q => ?_) fun q => ?_
    · have q' : (!cyOk (cyOf a)) = true := q
      exact bad (by rw [okM, show cyOk (cyOf a) = false by simpa using q']; rfl)
    · have q' : (!cyOk (cyOf a)) = false := q
      have qa : cyOk (cyOf a) = true := by simpa using q'
      refine good_cond (fun q => ?_) fun q => ?_
      · have q' : (!cyOk (cyOf b)) = true := q
        exact bad (by rw [okM, qa, show cyOk (cyOf b) = false by simpa using q']; rfl)
      · have q' : (!cyOk (cyOf b)) = false := q
        have qb : cyOk (cyOf b) = true := by simpa using q'
        refine good_cond (fun q => ?_) fun q => ?_
        · have q' : (!cyOk (cyOf (mulF a b))) = true := q
          exact bad (by rw [okM, qa, qb, show cyOk (cyOf (mulF a b)) = false by simpa using q']; rfl)
        · have q' : (!cyOk (cyOf (mulF a b))) = false := q
          have qm : cyOk (cyOf (mulF a b)) = true := by simpa using q'
          have e : okM a b = true := by rw [okM, qa, qb, qm]; rfl
          exact fin (mulF a b) true (by rw [prF, e]; rfl) e
  · cases hF

/-- The product of two wheels. -/
def prodW (x y : Wh) : Wh := ⟨IntKind.wrap IntKind.i64 (x.s + y.s), cyOf (prF x.r.f y.r.f)⟩
def okW2 (x y : Wh) : Bool := okM x.r.f y.r.f
def prodL (A B : List Wh) : List Wh := A.flatMap fun x => B.map (prodW x)
def okAll (A B : List Wh) : Bool := A.all fun x => B.all (okW2 x)
theorem prodL_snoc (A B : List Wh) (x : Wh) : prodL (A ++ [x]) B = prodL A B ++ B.map (prodW x) := by simp [prodL]
theorem okAll_snoc (A B : List Wh) (x : Wh) : okAll (A ++ [x]) B = (okAll A B && B.all (okW2 x)) := by simp [okAll]
theorem prodL_length (A B : List Wh) : (prodL A B).length = A.length * B.length := by
  induction A with
  | nil => simp [prodL]
  | cons x A ih =>
    have : prodL (x :: A) B = B.map (prodW x) ++ prodL A B := rfl
    rw [this, List.length_append, List.length_map, ih, List.length_cons, Nat.add_mul, Nat.one_mul, Nat.add_comm]
theorem prodL_in (A B : List Wh) : inW (prodL A B) := by
  intro w hw
  simp only [prodL, List.mem_flatMap, List.mem_map] at hw
  obtain ⟨x, _, y, _, rfl⟩ := hw
  refine cyOf_in fun k _ => ?_
  unfold prF
  cases okM x.r.f y.r.f with
  | true => exact w64_range _
  | false => show (-9223372036854775808 : Int) ≤ 0 ∧ (0 : Int) ≤ 9223372036854775807; omega
theorem okAll_no {A B : List Wh} {i : Nat} {f : Nat → Nat → Int} {m : Nat} (hA : A = listW f m) (hi : i < m) (h : B.all (okW2 (whOf (f i))) = false) : okAll A B = false := by
  subst hA
  cases e : okAll (listW f m) B with
  | false => rfl
  | true =>
    have := List.all_eq_true.1 e (whOf (f i)) (List.mem_of_getElem? (listW_get f hi))
    rw [h] at this
    cases this
theorem all_no {g : Nat → Nat → Int} {n j : Nat} {p : Wh → Bool} (hj : j < n) (h : p (whOf (g j)) = false) : (listW g n).all p = false := by
  cases e : (listW g n).all p with
  | false => rfl
  | true =>
    have := List.all_eq_true.1 e (whOf (g j)) (List.mem_of_getElem? (listW_get g hj))
    rw [h] at this
    cases this
theorem gmT1_ok : GamOk Try.prog (gmT1 prF okM) := ext_ok g0_ok ok_ctI
theorem gmS1_ok : GamOk Try.prog (gmS1 prF okM) := ext_ok g0_ok ok_ctS

theorem sumT2 (m : Nat) (f : Nat → Nat → Int) (n : Nat) (g : Nat → Nat → Int) (P : List Wh) (x : Nat → Int) (i : Nat) (hP : P.length ≤ 2 ^ 37) (hn : n ≤ 2 ^ 37) (hm : m ≤ 2 ^ 37) :
    SumOk Try.prog 2 (.block 2 (.loop (loopAt 2 Try.f47))) (atS 60 (lvT2 .normal) 2 (stT2 m n P.length i 0) (hpT2 m f n g P.length (wfun P) x) (fun K => cond ((listW g n).all (okW2 (whOf x))) (K .normal (mkT 0 60 ([1, 6, 22, 23, 24].zip (stT0 m n (P.length + n) i))) (hpT0 m f n g (P.length + n) (wfun (P ++ (listW g n).map (prodW (whOf x)))))) (K .ret (mkT 0 60 [(4, .v (.slice none 0 0)), (5, .v (.bool false))]) (hpTr m f n g)))) := by
  have S : SumOk Try.prog 2 (.block 2 (.loop (loopAt 2 Try.f47))) (atS 60 (lvT2 .normal) 2 (stT2 m n (P.length + 0) i 0) (hpT2 m f n g (P.length + 0) (wfun (P ++ (listW g 0).map (prodW (whOf x)))) x) (fun K => cond ((listW g n).all (okW2 (whOf x))) (K .normal (mkT 0 60 ([1, 6, 22, 23, 24].zip (stT0 m n (P.length + n) i))) (hpT0 m f n g (P.length + n) (wfun (P ++ (listW g n).map (prodW (whOf x)))))) (K .ret (mkT 0 60 [(4, .v (.slice none 0 0)), (5, .v (.bool false))]) (hpTr m f n g)))) := by
    refine for_at gmT1_ok (n := 100) (m := 2) (lv := lvT2) (fun j => stT2 m n (P.length + j) i j) (fun j => hpT2 m f n g (P.length + j) (wfun (P ++ (listW g j).map (prodW (whOf x)))) x) (fun j => (listW g j).all (okW2 (whOf x)) = true) n (fun _ => noLam) (lv3_ris rfl rfl rfl) (Nat.le_refl _) rfl fun K Q hk j hj hjn => ⟨noLam_ok _ _ _, ?_⟩
    rw [rndT2]
    refine good_cond (fun c1 => ?_) fun c1 => ?_
    · have c1 := of_decide_eq_true c1
      have c1' : j < n := by omega
      simp only [Int.toNat_natCast, Nat.zero_add]
      rw [wr_in (x := (j : Int) + 1) (by omega)]
      refine good_needs (by simp only [ob_cons, ob_nil, and_true, decide_eq_true_eq]; omega) (good_cond (fun q => ?_) fun q => ?_)
      · have q' : (!(okW2 (whOf x) (whOf (g j)))) = true := q
        have hz : (listW g n).all (okW2 (whOf x)) = false := all_no c1' (by simpa using q')
        rw [hz] at hk
        exact good_out ⟨_, Hsim.refl _, hk⟩
      · have q' : (!(okW2 (whOf x) (whOf (g j)))) = false := q
        have q2 : okW2 (whOf x) (whOf (g j)) = true := by simpa using q'
        refine good_needs (by simp only [ob_cons, ob_nil, and_true, decide_eq_true_eq, Nat.ble_eq]; omega) (good_out ⟨j + 1, ⟨rfl, c1', by rw [listW_succ, List.all_append, hj]; simp [q2]⟩, rfl, ?_⟩)
        show Hsim _ (hpT2 m f n g (P.length + (j + 1)) (wfun (P ++ (listW g (j + 1)).map (prodW (whOf x)))) x)
        rw [listW_succ, List.map_append, ← List.append_assoc]
        refine .cons (ABeq.refl _) (.cons (ABeq.refl _) (.cons (ABeq.row fun r hr => ?_) (.cons (ABeq.refl _) .nil)))
        exact ch_row _ (prodW (whOf x) (whOf (g j))) (P.length + j) (by rw [List.length_append, List.length_map, listW_length]) r hr
    · have c1 := of_decide_eq_false c1
      have : j = n := by omega
      subst this
      refine good_out ⟨_, Hsim.refl _, ?_⟩
      rw [if_pos rfl]
      rw [hj] at hk
      exact hk
  have e0 : P ++ (listW g 0).map (prodW (whOf x)) = P := List.append_nil P
  rw [e0] at S
  exact S

theorem sumT0 (m : Nat) (f : Nat → Nat → Int) (n : Nat) (g : Nat → Nat → Int) (hm : m ≤ 12) (hn : n ≤ 12) :
    SumOk Try.prog 2 (.block 0 (.loop (loopAt 0 Try.f47))) (atS 60 (lvT0 .normal) 2 (stT0 m n 0 0) (hpT0 m f n g 0 (wfun [])) (fun K => cond (okAll (listW f m) (listW g n)) (K .normal (mkT 0 60 [(6, .own 2 (prodL (listW f m) (listW g n)).length)]) (hpT0 m f n g (prodL (listW f m) (listW g n)).length (wfun (prodL (listW f m) (listW g n))))) (K .ret (mkT 0 60 [(4, .v (.slice none 0 0)), (5, .v (.bool false))]) (hpTr m f n g)))) := by
  refine for_at gmT1_ok (n := 100) (m := 2) (lv := lvT0) (fun i => stT0 m n (prodL (listW f i) (listW g n)).length i) (fun i => hpT0 m f n g (prodL (listW f i) (listW g n)).length (wfun (prodL (listW f i) (listW g n)))) (fun i => okAll (listW f i) (listW g n) = true) m
    (fun i => bif Nat.blt i m then lamT2 m f n g (prodL (listW f i) (listW g n)).length (wfun (prodL (listW f i) (listW g n))) (f i) i ((listW g n).all (okW2 (whOf (f i)))) ((prodL (listW f i) (listW g n)).length + n) (wfun (prodL (listW f i) (listW g n) ++ (listW g n).map (prodW (whOf (f i))))) else oneL 2 errS) (lv3_ris rfl rfl rfl) (Nat.le_refl _) rfl fun K Q hk i hi him => ?_
  by_cases hlt : i < m
  · rw [blt_yes hlt, cond_true]
    have hP : (prodL (listW f i) (listW g n)).length ≤ 2 ^ 37 := by
      rw [prodL_length, listW_length, listW_length]
      exact Nat.le_trans (Nat.mul_le_mul (by omega : i ≤ 12) hn) (by omega)
    refine ⟨lamC (c := loopAt 2 Try.f47) (by kernel_rfl) (sumT2 m f n g _ (f i) i hP (by omega) (by omega)), ?_⟩
    rw [rndT0]
    refine good_true (decide_eq_true (by omega)) ?_
    rw [Int.toNat_natCast, Nat.zero_add, wr_in (x := (i : Int) + 1) (by omega)]
    refine good_needs (by simp only [ob_cons, ob_nil, and_true, decide_eq_true_eq]; exact ⟨by omega, by omega, chk_of ⟨rfl, Hsim.refl _⟩⟩) (good_cond (fun q => ?_) fun q => ?_)
    · refine good_out ⟨i + 1, ⟨rfl, hlt, by rw [listW_succ, okAll_snoc, hi, q]; rfl⟩, ?_, ?_⟩
      · show _ = stT0 m n (prodL (listW f (i + 1)) (listW g n)).length (i + 1)
        rw [listW_succ, prodL_snoc, List.length_append, List.length_map, listW_length]
        rfl
      · show Hsim _ (hpT0 m f n g (prodL (listW f (i + 1)) (listW g n)).length (wfun (prodL (listW f (i + 1)) (listW g n))))
        rw [listW_succ, prodL_snoc, List.length_append, List.length_map, listW_length]
        exact Hsim.refl _
    · rw [okAll_no rfl hlt q] at hk
      exact good_out ⟨_, Hsim.refl _, hk⟩
  · have b : Nat.blt i m = false := by
      cases hb : Nat.blt i m with
      | false => rfl
      | true => rw [Nat.blt_eq] at hb; omega
    rw [b, cond_false]
    have : i = m := by omega
    subst this
    refine ⟨lamC (c := loopAt 2 Try.f47) (by kernel_rfl) errS_ok, ?_⟩
    rw [rndT0n]
    refine good_false (decide_eq_false (by omega)) (good_out ⟨_, Hsim.refl _, ?_⟩)
    rw [if_pos rfl]
    rw [hi] at hk
    exact hk

theorem sumS2 (m : Nat) (f : Nat → Nat → Int) (n : Nat) (g : Nat → Nat → Int) (P : List Wh) (i : Nat) (hP : P.length ≤ 2 ^ 37) (hn : n ≤ 2 ^ 37) (him : i < m) (hm : m ≤ 2 ^ 37) :
    SumOk Try.prog 2 (.block 2 (.loop (loopAt 2 Try.f48))) (atS 70 (lvS2 .normal) 2 (stS2 m n P.length i 0) (hpT0 m f n g P.length (wfun P)) (fun K => cond ((listW g n).all (okW2 (whOf (f i)))) (K .normal (mkT 0 70 ([0, 1, 6, 7].zip (stS0 m n (P.length + n) i))) (hpT0 m f n g (P.length + n) (wfun (P ++ (listW g n).map (prodW (whOf (f i))))))) (K .ret (mkT 0 70 [(4, .own 2 0), (5, .v (.bool false))]) (hpSr m f n g)))) := by
  have S : SumOk Try.prog 2 (.block 2 (.loop (loopAt 2 Try.f48))) (atS 70 (lvS2 .normal) 2 (stS2 m n (P.length + 0) i 0) (hpT0 m f n g (P.length + 0) (wfun (P ++ (listW g 0).map (prodW (whOf (f i)))))) (fun K => cond ((listW g n).all (okW2 (whOf (f i)))) (K .normal (mkT 0 70 ([0, 1, 6, 7].zip (stS0 m n (P.length + n) i))) (hpT0 m f n g (P.length + n) (wfun (P ++ (listW g n).map (prodW (whOf (f i))))))) (K .ret (mkT 0 70 [(4, .own 2 0), (5, .v (.bool false))]) (hpSr m f n g)))) := by
    refine for_at gmS1_ok (n := 100) (m := 2) (lv := lvS2) (fun j => stS2 m n (P.length + j) i j) (fun j => hpT0 m f n g (P.length + j) (wfun (P ++ (listW g j).map (prodW (whOf (f i)))))) (fun j => (listW g j).all (okW2 (whOf (f i))) = true) n (fun _ => noLam) (lv3_ris rfl rfl rfl) (Nat.le_refl _) rfl fun K Q hk j hj hjn => ⟨noLam_ok _ _ _, ?_⟩
    rw [rndS2]
    refine good_cond (fun c1 => ?_) fun c1 => ?_
    · have c1 := of_decide_eq_true c1
      have c1' : j < n := by omega
      simp only [Int.toNat_natCast, Nat.zero_add]
      rw [wr_in (x := (j : Int) + 1) (by omega)]
      refine good_needs (by simp only [ob_cons, ob_nil, and_true, decide_eq_true_eq]; omega) (good_cond (fun q => ?_) fun q => ?_)
      · have q' : (!(okW2 (whOf (f i)) (whOf (g j)))) = true := q
        have hz : (listW g n).all (okW2 (whOf (f i))) = false := all_no c1' (by simpa using q')
        rw [hz] at hk
        exact good_out ⟨_, .cons (ABeq.refl _) (.cons (ABeq.refl _) (.cons (ABeq.row fun j hj => absurd hj (Nat.not_lt_zero _)) .nil)), hk⟩
      · have q' : (!(okW2 (whOf (f i)) (whOf (g j)))) = false := q
        have q2 : okW2 (whOf (f i)) (whOf (g j)) = true := by simpa using q'
        refine good_needs (by simp only [ob_cons, ob_nil, and_true, decide_eq_true_eq, Nat.ble_eq]; omega) (good_out ⟨j + 1, ⟨rfl, c1', by rw [listW_succ, List.all_append, hj]; simp [q2]⟩, rfl, ?_⟩)
        show Hsim _ (hpT0 m f n g (P.length + (j + 1)) (wfun (P ++ (listW g (j + 1)).map (prodW (whOf (f i))))))
        rw [listW_succ, List.map_append, ← List.append_assoc]
        refine .cons (ABeq.refl _) (.cons (ABeq.refl _) (.cons (ABeq.row fun r hr => ?_) .nil))
        exact ch_row _ (prodW (whOf (f i)) (whOf (g j))) (P.length + j) (by rw [List.length_append, List.length_map, listW_length]) r hr
    · have c1 := of_decide_eq_false c1
      have : j = n := by omega
      subst this
      refine good_out ⟨_, Hsim.refl _, ?_⟩
      rw [if_pos rfl]
      rw [hj] at hk
      exact hk
  have e0 : P ++ (listW g 0).map (prodW (whOf (f i))) = P := List.append_nil P
  rw [e0] at S
  exact S

theorem sumS0 (m : Nat) (f : Nat → Nat → Int) (n : Nat) (g : Nat → Nat → Int) (hm : m ≤ 12) (hn : n ≤ 12) :
    SumOk Try.prog 2 (.block 0 (.loop (loopAt 0 Try.f48))) (atS 70 (lvS0 .normal) 2 (stS0 m n 0 0) (hpT0 m f n g 0 (wfun [])) (fun K => cond (okAll (listW f m) (listW g n)) (K .normal (mkT 0 70 [(6, .own 2 (prodL (listW f m) (listW g n)).length)]) (hpT0 m f n g (prodL (listW f m) (listW g n)).length (wfun (prodL (listW f m) (listW g n))))) (K .ret (mkT 0 70 [(4, .own 2 0), (5, .v (.bool false))]) (hpSr m f n g)))) := by
  refine for_at gmS1_ok (n := 100) (m := 2) (lv := lvS0) (fun i => stS0 m n (prodL (listW f i) (listW g n)).length i) (fun i => hpT0 m f n g (prodL (listW f i) (listW g n)).length (wfun (prodL (listW f i) (listW g n)))) (fun i => okAll (listW f i) (listW g n) = true) m
    (fun i => bif Nat.blt i m then lamS2 m f n g (prodL (listW f i) (listW g n)).length (wfun (prodL (listW f i) (listW g n))) i ((listW g n).all (okW2 (whOf (f i)))) ((prodL (listW f i) (listW g n)).length + n) (wfun (prodL (listW f i) (listW g n) ++ (listW g n).map (prodW (whOf (f i))))) else oneL 2 errS) (lv3_ris rfl rfl rfl) (Nat.le_refl _) rfl fun K Q hk i hi him => ?_
  by_cases hlt : i < m
  · rw [blt_yes hlt, cond_true]
    have hP : (prodL (listW f i) (listW g n)).length ≤ 2 ^ 37 := by
      rw [prodL_length, listW_length, listW_length]
      exact Nat.le_trans (Nat.mul_le_mul (by omega : i ≤ 12) hn) (by omega)
    refine ⟨lamC (c := loopAt 2 Try.f48) (by kernel_rfl) (sumS2 m f n g _ i hP (by omega) hlt (by omega)), ?_⟩
    rw [rndS0]
    refine good_true (decide_eq_true (by omega)) ?_
    rw [wr_in (x := (i : Int) + 1) (by omega)]
    refine good_needs (by rw [ob_cons]; exact ⟨chk_of ⟨rfl, Hsim.refl _⟩, rfl⟩) (good_cond (fun q => ?_) fun q => ?_)
    · refine good_out ⟨i + 1, ⟨rfl, hlt, by rw [listW_succ, okAll_snoc, hi, q]; rfl⟩, ?_, ?_⟩
      · show _ = stS0 m n (prodL (listW f (i + 1)) (listW g n)).length (i + 1)
        rw [listW_succ, prodL_snoc, List.length_append, List.length_map, listW_length]
        rfl
      · show Hsim _ (hpT0 m f n g (prodL (listW f (i + 1)) (listW g n)).length (wfun (prodL (listW f (i + 1)) (listW g n))))
        rw [listW_succ, prodL_snoc, List.length_append, List.length_map, listW_length]
        exact Hsim.refl _
    · rw [okAll_no rfl hlt q] at hk
      exact good_out ⟨_, .cons (ABeq.refl _) (.cons (ABeq.refl _) (.cons (ABeq.row fun j hj => absurd hj (Nat.not_lt_zero _)) .nil)), hk⟩
  · have b : Nat.blt i m = false := by
      cases hb : Nat.blt i m with
      | false => rfl
      | true => rw [Nat.blt_eq] at hb; omega
    rw [b, cond_false]
    have : i = m := by omega
    subst this
    refine ⟨lamC (c := loopAt 2 Try.f48) (by kernel_rfl) errS_ok, ?_⟩
    rw [rndS0n]
    refine good_false (decide_eq_false (by omega)) (good_out ⟨_, Hsim.refl _, ?_⟩)
    rw [if_pos rfl]
    rw [hi] at hk
    exact hk

end Go.Proofs.Ytakimbknciffnaa

/- DesignTimes of both. Conditions: two lists of wheels. -/
namespace Go.Proofs.Ytakimbknciffnaa
open Go.RowKit
set_option maxRecDepth 100000

/-- The lists are designs, and their product too. -/
def tmP (A B : List Wh) : Bool := (okD A && okD B) && okAll A B
def yesTm (A B : List Wh) : Bool := tmP A B && okT (prodL A B)
def tmT (A B : List Wh) : List Wh := tidyL (prodL A B)
def tmL (A B : List Wh) : List Wh := bif tmP A B then tidyL (prodL A B) else []
def FtmY (yes : List Wh → List Wh → Bool) (tt : List Wh → List Wh → List Wh) : List SA → Option FR
  | [.row m ga, .row n gb] => some { val := valY (tt (listW (itW ga) m) (listW (itW gb) n)), new := newY (tt (listW (itW ga) m) (listW (itW gb) n)), obl := [allW m ga, allW n gb, decide (m ≤ 2 ^ 38), decide (n ≤ 2 ^ 38), yes (listW (itW ga) m) (listW (itW gb) n)] }
  | _ => none
def FtmN (yes : List Wh → List Wh → Bool) : List SA → Option FR
  | [.row m ga, .row n gb] => some { val := valN, obl := [allW m ga, allW n gb, decide (m ≤ 2 ^ 38), decide (n ≤ 2 ^ 38), !yes (listW (itW ga) m) (listW (itW gb) n)] }
  | _ => none
def FtmS (ok : List Wh → List Wh → Bool) (tl : List Wh → List Wh → List Wh) : List SA → Option FR
  | [.row m ga, .row n gb] => some { val := .tup [.own 0 (tl (listW (itW ga) m) (listW (itW gb) n)).length, .v (.bool (ok (listW (itW ga) m) (listW (itW gb) n)))], new := [.row true (tl (listW (itW ga) m) (listW (itW gb) n)).length 9 (row9 (wfun (tl (listW (itW ga) m) (listW (itW gb) n)))) 58], obl := [allW m ga, allW n gb, decide (m ≤ 2 ^ 38), decide (n ≤ 2 ^ 38)] }
  | _ => none
theorem gmS2_ok : GamOk Try.prog (gmS2 okD tidyL okT) := by
  unfold gmS2
  rw [FtidyO_eq, FdvO_eq]
  exact ext_ok (ext_ok g0_ok ok_dv) ok_tidyS

theorem ok_tmY : SpecOk Try.prog 47 (specR md_eqWS (FtmY yesTm tmT)) := by
  refine specR_hr gmChY_ok Try.func47 rfl fun sas fr hF ho => ?_
  unfold FtmY at hF
  split at hF
  · rename_i m ga n gb
    cases hF
    simp only [ob_cons] at ho
    obtain ⟨h1, h2, h3, h4, h5, _⟩ := ho
    have hm := of_decide_eq_true h3
    have hn := of_decide_eq_true h4
    rw [yesTm, tmP, Bool.and_eq_true, Bool.and_eq_true, Bool.and_eq_true] at h5
    obtain ⟨⟨⟨hA, hB⟩, hO⟩, hT⟩ := h5
    have lA := okD_len hA
    have lB := okD_len hB
    rw [listW_length] at lA lB
    have hL : (prodL (listW (itW ga) m) (listW (itW gb) n)).length ≤ 144 := by
      rw [prodL_length, listW_length, listW_length]
      exact Nat.le_trans (Nat.mul_le_mul lA lB) (by omega)
    have hG : GoodQ (execF Try.prog (gmChY okD tidyL okT inWB) (lamT0 m (itW ga) n (itW gb) (okAll (listW (itW ga) m) (listW (itW gb) n)) (prodL (listW (itW ga) m) (listW (itW gb) n)).length (wfun (prodL (listW (itW ga) m) (listW (itW gb) n)))) 100 Try.f47 [.sl 0 9 0 0 m none, .sl 1 9 0 0 n none] (hpTr m (itW ga) n (itW gb)) (packK 2)) (GivR (abP md_eqWS [.row m ga, .row n gb] []) { val := valY (tmT (listW (itW ga) m) (listW (itW gb) n)), new := newY (tmT (listW (itW ga) m) (listW (itW gb) n)), obl := [allW m ga, allW n gb, decide (m ≤ 2 ^ 38), decide (n ≤ 2 ^ 38), yesTm (listW (itW ga) m) (listW (itW gb) n)] }) := by
      rw [treeTmY, row0, row0, listW_itW, listW_itW, listW_self _ _ rfl]
      refine good_needs (by simp only [ob_cons, ob_nil, and_true, decide_eq_true_eq, Nat.ble_eq, allW_row, true_and]; omega) (good_false (by rw [hA]; rfl) (good_needs (by simp only [ob_cons, ob_nil, and_true, decide_eq_true_eq, Nat.ble_eq, allW_row, true_and]; omega) (good_false (by rw [hB]; rfl) (good_needs ?_ (good_true hO (good_needs ?_ (good_out ⟨_, rfl, rfl, .cons (ABeq.row fun j hj => (allW_get h1 j hj).symm) (.cons (ABeq.row fun j hj => (allW_get h2 j hj).symm) (Hsim.refl _))⟩)))))))
      · rw [ob_cons]
        exact ⟨chk_of ⟨rfl, .cons (ABeq.refl _) (.cons (ABeq.refl _) (.cons (ABeq.row fun j hj => absurd hj (Nat.not_lt_zero _)) .nil))⟩, rfl⟩
      · simp only [ob_cons, ob_nil, and_true, allW_row]
        exact ⟨by simp, trivial, decide_eq_true (by omega), chk_of (prodL_in _ _), hT⟩
    exact ⟨hpTr m (itW ga) n (itW gb), _, 100, .cons (ABeq.row fun j hj => allW_get h1 j hj) (.cons (ABeq.row fun j hj => allW_get h2 j hj) .nil), lam1 (by kernel_rfl) (sumT0 m (itW ga) n (itW gb) lA lB), hG⟩
  · cases hF

theorem ok_tmN : SpecOk Try.prog 47 (specR md_eqWS (FtmN yesTm)) := by
  refine specR_hr gmChN_ok Try.func47 rfl fun sas fr hF ho => ?_
  unfold FtmN at hF
  split at hF
  · rename_i m ga n gb
    cases hF
    simp only [ob_cons] at ho
    obtain ⟨h1, h2, h3, h4, h5, _⟩ := ho
    have hm := of_decide_eq_true h3
    have hn := of_decide_eq_true h4
    have fin : GoodQ (.out .ret [valN] (hpTr m (itW ga) n (itW gb))) (GivR (abP md_eqWS [.row m ga, .row n gb] []) { val := valN, obl := [allW m ga, allW n gb, decide (m ≤ 2 ^ 38), decide (n ≤ 2 ^ 38), !yesTm (listW (itW ga) m) (listW (itW gb) n)] }) :=
      good_out ⟨_, rfl, rfl, .cons (ABeq.row fun j hj => (allW_get h1 j hj).symm) (.cons (ABeq.row fun j hj => (allW_get h2 j hj).symm) .nil)⟩
    have ob1 : obls [Nat.ble (0 + m) m, allW m (row9 (itW ga)), decide (m ≤ 549755813888)] = true := by simp only [ob_cons, ob_nil, and_true, decide_eq_true_eq, Nat.ble_eq, allW_row, true_and]; omega
    have ob2 : obls [Nat.ble (0 + n) n, allW n (row9 (itW gb)), decide (n ≤ 549755813888)] = true := by simp only [ob_cons, ob_nil, and_true, decide_eq_true_eq, Nat.ble_eq, allW_row, true_and]; omega
    by_cases hD : (okD (listW (itW ga) m) && okD (listW (itW gb) n)) = true
    · rw [Bool.and_eq_true] at hD
      obtain ⟨hA, hB⟩ := hD
      have lA := okD_len hA
      have lB := okD_len hB
      rw [listW_length] at lA lB
      have hL : (prodL (listW (itW ga) m) (listW (itW gb) n)).length ≤ 144 := by
        rw [prodL_length, listW_length, listW_length]
        exact Nat.le_trans (Nat.mul_le_mul lA lB) (by omega)
      refine ⟨hpTr m (itW ga) n (itW gb), lamT0 m (itW ga) n (itW gb) (okAll (listW (itW ga) m) (listW (itW gb) n)) (prodL (listW (itW ga) m) (listW (itW gb) n)).length (wfun (prodL (listW (itW ga) m) (listW (itW gb) n))), 100, .cons (ABeq.row fun j hj => allW_get h1 j hj) (.cons (ABeq.row fun j hj => allW_get h2 j hj) .nil), lam1 (by kernel_rfl) (sumT0 m (itW ga) n (itW gb) lA lB), ?_⟩
      show GoodQ (execF Try.prog (gmChN okD okT inWB) (lamT0 m (itW ga) n (itW gb) (okAll (listW (itW ga) m) (listW (itW gb) n)) (prodL (listW (itW ga) m) (listW (itW gb) n)).length (wfun (prodL (listW (itW ga) m) (listW (itW gb) n)))) 100 Try.f47 [.sl 0 9 0 0 m none, .sl 1 9 0 0 n none] (hpTr m (itW ga) n (itW gb)) (packK 2)) _
      rw [treeTmN, row0, row0, listW_itW, listW_itW, listW_self _ _ rfl]
      refine good_needs ob1 (good_false (by rw [hA]; rfl) (good_needs ob2 (good_false (by rw [hB]; rfl) (good_needs ?_ (good_cond (fun q => good_needs ?_ fin) fun _ => fin)))))
      · rw [ob_cons]
        exact ⟨chk_of ⟨rfl, .cons (ABeq.refl _) (.cons (ABeq.refl _) (.cons (ABeq.row fun j hj => absurd hj (Nat.not_lt_zero _)) .nil))⟩, rfl⟩
      · rw [yesTm, tmP, hA, hB, q] at h5
        simp only [ob_cons, ob_nil, and_true, allW_row]
        exact ⟨by simp, trivial, decide_eq_true (by omega), chk_of (prodL_in _ _), h5⟩
    · refine ⟨hpTr m (itW ga) n (itW gb), oneL 0 errS, 100, .cons (ABeq.row fun j hj => allW_get h1 j hj) (.cons (ABeq.row fun j hj => allW_get h2 j hj) .nil), lam1 (c := loopAt 0 Try.f47) (by kernel_rfl) errS_ok, ?_⟩
      show GoodQ (execF Try.prog (gmChN okD okT inWB) (oneL 0 errS) 100 Try.f47 [.sl 0 9 0 0 m none, .sl 1 9 0 0 n none] (hpTr m (itW ga) n (itW gb)) (packK 2)) _
      rw [treeTmE, row0, row0, listW_itW, listW_itW]
      refine good_needs ob1 (good_cond (fun _ => fin) fun q => good_needs ?_ fin)
      have qA : okD (listW (itW ga) m) = true := by
        have q' : (!okD (listW (itW ga) m)) = false := q
        simpa using q'
      have qB : okD (listW (itW gb) n) = false := by
        rw [qA, Bool.true_and] at hD
        simpa using hD
      simp only [ob_cons, ob_nil, and_true, decide_eq_true_eq, Nat.ble_eq, allW_row, true_and, qB]
      exact ⟨by omega, by omega, rfl⟩
  · cases hF

theorem ok_tmS : SpecOk Try.prog 48 (specR md_eqWS (FtmS yesTm tmL)) := by
  refine specR_hr gmS2_ok Try.func48 rfl fun sas fr hF ho => ?_
  unfold FtmS at hF
  split at hF
  · rename_i m ga n gb
    cases hF
    simp only [ob_cons] at ho
    obtain ⟨h1, h2, h3, h4, _⟩ := ho
    have hm := of_decide_eq_true h3
    have hn := of_decide_eq_true h4
    have fin : ∀ (D : List Wh) (b : Bool) (G : Nat → List Value), yesTm (listW (itW ga) m) (listW (itW gb) n) = b → tmL (listW (itW ga) m) (listW (itW gb) n) = D → (∀ j, j < D.length → G j = row9 (wfun D) j) → GoodQ (.out .ret [.tup [.own 2 D.length, .v (.bool b)]] [.row false m 9 (row9 (itW ga)) 58, .row false n 9 (row9 (itW gb)) 58, .row true D.length 9 G 58])
        (GivR (abP md_eqWS [.row m ga, .row n gb] []) { val := .tup [.own 0 (tmL (listW (itW ga) m) (listW (itW gb) n)).length, .v (.bool (yesTm (listW (itW ga) m) (listW (itW gb) n)))], new := [.row true (tmL (listW (itW ga) m) (listW (itW gb) n)).length 9 (row9 (wfun (tmL (listW (itW ga) m) (listW (itW gb) n)))) 58], obl := [allW m ga, allW n gb, decide (m ≤ 2 ^ 38), decide (n ≤ 2 ^ 38)] }) := by
      rintro D b G rfl rfl hG
      exact good_out ⟨_, rfl, rfl, .cons (ABeq.row fun j hj => (allW_get h1 j hj).symm) (.cons (ABeq.row fun j hj => (allW_get h2 j hj).symm) (.cons (ABeq.row hG) .nil))⟩
    have bad : ∀ G, tmP (listW (itW ga) m) (listW (itW gb) n) = false → GoodQ (.out .ret [.tup [.own 2 0, .v (.bool false)]] [.row false m 9 (row9 (itW ga)) 58, .row false n 9 (row9 (itW gb)) 58, .row true 0 9 G 58]) _ := fun G e =>
      fin [] false G (by rw [yesTm, e]; rfl) (by rw [tmL, e]; rfl) fun j hj => absurd hj (Nat.not_lt_zero _)
    have ob1 : obls [Nat.ble (0 + m) m, allW m (row9 (itW ga)), decide (m ≤ 549755813888)] = true := by simp only [ob_cons, ob_nil, and_true, decide_eq_true_eq, Nat.ble_eq, allW_row, true_and]; omega
    have ob2 : obls [Nat.ble (0 + n) n, allW n (row9 (itW gb)), decide (n ≤ 549755813888)] = true := by simp only [ob_cons, ob_nil, and_true, decide_eq_true_eq, Nat.ble_eq, allW_row, true_and]; omega
    by_cases hD : (okD (listW (itW ga) m) && okD (listW (itW gb) n)) = true
    · rw [Bool.and_eq_true] at hD
      obtain ⟨hA, hB⟩ := hD
      have lA := okD_len hA
      have lB := okD_len hB
      rw [listW_length] at lA lB
      have hL : (prodL (listW (itW ga) m) (listW (itW gb) n)).length ≤ 144 := by
        rw [prodL_length, listW_length, listW_length]
        exact Nat.le_trans (Nat.mul_le_mul lA lB) (by omega)
      refine ⟨hpTr m (itW ga) n (itW gb), lamS0 m (itW ga) n (itW gb) (okAll (listW (itW ga) m) (listW (itW gb) n)) (prodL (listW (itW ga) m) (listW (itW gb) n)).length (wfun (prodL (listW (itW ga) m) (listW (itW gb) n))), 100, .cons (ABeq.row fun j hj => allW_get h1 j hj) (.cons (ABeq.row fun j hj => allW_get h2 j hj) .nil), lam1 (by kernel_rfl) (sumS0 m (itW ga) n (itW gb) lA lB), ?_⟩
      show GoodQ (execF Try.prog (gmS2 okD tidyL okT) (lamS0 m (itW ga) n (itW gb) (okAll (listW (itW ga) m) (listW (itW gb) n)) (prodL (listW (itW ga) m) (listW (itW gb) n)).length (wfun (prodL (listW (itW ga) m) (listW (itW gb) n)))) 100 Try.f48 [.sl 0 9 0 0 m none, .sl 1 9 0 0 n none] (hpTr m (itW ga) n (itW gb)) (packK 2)) _
      rw [treeTmS, row0, row0, listW_itW, listW_itW, listW_self _ _ rfl]
      refine good_needs ob1 (good_false (by rw [hA]; rfl) (good_needs ob2 (good_false (by rw [hB]; rfl) (good_needs ?_ (good_cond (fun q => ?_) fun q => ?_)))))
      · rw [ob_cons]
        exact ⟨chk_of ⟨rfl, .cons (ABeq.refl _) (.cons (ABeq.refl _) (.cons (ABeq.row fun j hj => absurd hj (Nat.not_lt_zero _)) .nil))⟩, rfl⟩
      · have e : tmP (listW (itW ga) m) (listW (itW gb) n) = true := by rw [tmP, hA, hB, q]; rfl
        refine good_needs ?_ (fin _ _ _ (by rw [yesTm, e]; rfl) (by rw [tmL, e]; rfl) fun j hj => rfl)
        simp only [ob_cons, ob_nil, and_true, allW_row]
        exact ⟨by simp, trivial, decide_eq_true (by omega)⟩
      · exact bad _ (by rw [tmP, q, Bool.and_false])
    · have e : tmP (listW (itW ga) m) (listW (itW gb) n) = false := by
        rw [tmP, show (okD (listW (itW ga) m) && okD (listW (itW gb) n)) = false by simpa using hD]
        rfl
      refine ⟨hpTr m (itW ga) n (itW gb), oneL 0 errS, 100, .cons (ABeq.row fun j hj => allW_get h1 j hj) (.cons (ABeq.row fun j hj => allW_get h2 j hj) .nil), lam1 (c := loopAt 0 Try.f48) (by kernel_rfl) errS_ok, ?_⟩
      show GoodQ (execF Try.prog (gmS2 okD tidyL okT) (oneL 0 errS) 100 Try.f48 [.sl 0 9 0 0 m none, .sl 1 9 0 0 n none] (hpTr m (itW ga) n (itW gb)) (packK 2)) _
      rw [treeTmSE, row0, row0, listW_itW, listW_itW]
      refine good_needs ob1 (good_cond (fun _ => bad _ e) fun q => good_needs ?_ (bad _ e))
      have qA : okD (listW (itW ga) m) = true := by
        have q' : (!okD (listW (itW ga) m)) = false := q
        simpa using q'
      have qB : okD (listW (itW gb) n) = false := by
        rw [qA, Bool.true_and] at hD
        simpa using hD
      simp only [ob_cons, ob_nil, and_true, decide_eq_true_eq, Nat.ble_eq, allW_row, true_and, qB]
      exact ⟨by omega, by omega, rfl⟩
  · cases hF

end Go.Proofs.Ytakimbknciffnaa

/- The program's DesignTimes, as a list or none, read as one. Conditions: two lists of wheels. -/
namespace Go.Proofs.Ytakimbknciffnaa
open Go.RowKit
set_option maxRecDepth 100000

def UO2 (yes : List Wh → List Wh → Bool) (tl : List Wh → List Wh → List Wh) : List SA → Option UR
  | [.row m ga, .row n gb] => some ⟨yes (listW (itW ga) m) (listW (itW gb) n), tl (listW (itW ga) m) (listW (itW gb) n), [allW m ga, allW n gb, decide (m ≤ 2 ^ 38), decide (n ≤ 2 ^ 38)]⟩
  | _ => none
theorem tmL_yes {A B : List Wh} (h : yesTm A B = true) : tmL A B = tmT A B := by
  rw [yesTm, Bool.and_eq_true] at h
  rw [tmL, h.1]
  rfl
theorem tmL_no {A B : List Wh} (h : yesTm A B = false) : tmL A B = [] := by
  rw [tmL]
  cases hp : tmP A B with
  | false => rfl
  | true =>
    rw [yesTm, hp, Bool.true_and] at h
    exact tidyL_no h
theorem ok_UTm : SpecOk Try.prog 47 (specU md_eqWS (UO2 yesTm tmL)) := by
  refine specU_ok rfl ok_tmY ok_tmN fun sas u hu ho => ?_
  unfold UO2 at hu
  split at hu
  · rename_i m ga n gb
    cases hu
    simp only [ob_cons] at ho
    obtain ⟨h1, h2, h3, h4, _⟩ := ho
    refine ⟨rfl, ?_⟩
    cases hv : yesTm (listW (itW ga) m) (listW (itW gb) n) with
    | true =>
      left
      refine ⟨rfl, [allW m ga, allW n gb, decide (m ≤ 2 ^ 38), decide (n ≤ 2 ^ 38), yesTm (listW (itW ga) m) (listW (itW gb) n)], ?_, ?_⟩
      · show FtmY yesTm tmT [.row m ga, .row n gb] = some { val := valY (tmL (listW (itW ga) m) (listW (itW gb) n)), new := newY (tmL (listW (itW ga) m) (listW (itW gb) n)), obl := [allW m ga, allW n gb, decide (m ≤ 2 ^ 38), decide (n ≤ 2 ^ 38), yesTm (listW (itW ga) m) (listW (itW gb) n)] }
        rw [tmL_yes hv]
        rfl
      · simp only [ob_cons, ob_nil, and_true]
        exact ⟨h1, h2, h3, h4, hv⟩
    | false =>
      right
      refine ⟨rfl, tmL_no hv, [allW m ga, allW n gb, decide (m ≤ 2 ^ 38), decide (n ≤ 2 ^ 38), !yesTm (listW (itW ga) m) (listW (itW gb) n)], rfl, ?_⟩
      simp only [ob_cons, ob_nil, and_true]
      exact ⟨h1, h2, h3, h4, by rw [hv]; rfl⟩
  · cases hu

end Go.Proofs.Ytakimbknciffnaa

/- Plain laws of designs: products. No program, no conditions. -/
namespace Go.Proofs.Ytakimbknciffnaa
open Go.RowKit

theorem mul_stZ (a b : Nat → Int) : ∀ k, k < 8 → mulZ a (stZ b) k = stZ (mulZ a b) k := by
  have s0 : stZ b 0 = - b 7 := rfl
  have s4 : stZ b 4 = b 3 + b 7 := rfl
  have s1 : stZ b 1 = b 0 := rfl
  have s2 : stZ b 2 = b 1 := rfl
  have s3 : stZ b 3 = b 2 := rfl
  have s5 : stZ b 5 = b 4 := rfl
  have s6 : stZ b 6 = b 5 := rfl
  have s7 : stZ b 7 = b 6 := rfl
  refine forall8 ?_ ?_ ?_ ?_ ?_ ?_ ?_ ?_
  · show mulZ a (stZ b) 0 = - mulZ a b 7
    simp only [mulZ, convF, s0, s1, s2, s3, s4, s5, s6, s7]; grind
  · show mulZ a (stZ b) 1 = mulZ a b 0
    simp only [mulZ, convF, s0, s1, s2, s3, s4, s5, s6, s7]; grind
  · show mulZ a (stZ b) 2 = mulZ a b 1
    simp only [mulZ, convF, s0, s1, s2, s3, s4, s5, s6, s7]; grind
  · show mulZ a (stZ b) 3 = mulZ a b 2
    simp only [mulZ, convF, s0, s1, s2, s3, s4, s5, s6, s7]; grind
  · show mulZ a (stZ b) 4 = mulZ a b 3 + mulZ a b 7
    simp only [mulZ, convF, s0, s1, s2, s3, s4, s5, s6, s7]; grind
  · show mulZ a (stZ b) 5 = mulZ a b 4
    simp only [mulZ, convF, s0, s1, s2, s3, s4, s5, s6, s7]; grind
  · show mulZ a (stZ b) 6 = mulZ a b 5
    simp only [mulZ, convF, s0, s1, s2, s3, s4, s5, s6, s7]; grind
  · show mulZ a (stZ b) 7 = mulZ a b 6
    simp only [mulZ, convF, s0, s1, s2, s3, s4, s5, s6, s7]; grind
theorem mul_tnR (a b : Nat → Int) : ∀ (n k : Nat), k < 8 → mulZ a (tnZ b n) k = tnZ (mulZ a b) n k
  | 0, _, _ => rfl
  | n + 1, k, hk => by
    show mulZ a (stZ (tnZ b n)) k = stZ (tnZ (mulZ a b) n) k
    rw [mul_stZ a (tnZ b n) k hk]
    exact stZ_congr (mul_tnR a b n) k hk
theorem mulZ_comm (a b : Nat → Int) : ∀ k, k < 8 → mulZ a b k = mulZ b a k := by
  refine forall8 ?_ ?_ ?_ ?_ ?_ ?_ ?_ ?_ <;> (simp only [mulZ, convF]; grind)
theorem mul_tn (a b : Nat → Int) (m n : Nat) (k : Nat) (hk : k < 8) : mulZ (tnZ a m) (tnZ b n) k = tnZ (mulZ a b) (m + n) k := by
  rw [mul_tnR _ _ _ k hk, ← tnZ_tnZ]
  refine tnZ_congr (fun j hj => ?_) n k hk
  rw [mulZ_comm _ _ j hj, mul_tnR _ _ _ j hj]
  exact tnZ_congr (mulZ_comm b a) m j hj
theorem mul_tnI (a b : Nat → Int) (m n : Int) (k : Nat) (hk : k < 8) : mulZ (tnI a m) (tnI b n) k = tnI (mulZ a b) (m + n) k := by
  unfold tnI
  rw [mul_tn _ _ _ _ k hk]
  exact tnZ_mod _ (by omega) k hk
theorem conv_addR (a f g : Nat → Int) : ∀ k, convF a (fun j => f j + g j) k = convF a f k + convF a g k := fun k => by
  unfold convF
  split <;> grind
theorem mul_addR (a f g : Nat → Int) : ∀ k, mulZ a (fun j => f j + g j) k = mulZ a f k + mulZ a g k := fun k => by
  unfold mulZ
  split <;> first | (simp only [conv_addR]; omega) | rfl
theorem mul_zeroR (a : Nat → Int) : ∀ k, mulZ a (fun _ => 0) k = 0 := fun k => by
  unfold mulZ
  split <;> simp [convF]
theorem linS_mulR {φ : Nat → Int → (Nat → Int) → Int} (a : Nat → Int) : ∀ (L : List Wh) (k : Nat), mulZ a (fun k => linS (φ k) L) k = linS (fun s f => mulZ a (fun k => φ k s f) k) L
  | [], k => mul_zeroR a k
  | w :: l, k => by
    show mulZ a (fun k => φ k w.s w.r.f + linS (φ k) l) k = _
    rw [mul_addR, linS_mulR a l k]
    rfl
theorem prodW_f {x y : Wh} (hx : -1000 ≤ x.s ∧ x.s ≤ 1000) (hy : -1000 ≤ y.s ∧ y.s ≤ 1000) (bx : bd8 1000000 x.r.f) (yx : bd8 1000000 y.r.f) (h : okW2 x y = true) : (prodW x y).s = x.s + y.s ∧ (∀ k, k < 8 → (prodW x y).r.f k = mulZ x.r.f y.r.f k) ∧ bd8 1000000 (prodW x y).r.f := by
  have h' : okM x.r.f y.r.f = true := h
  have e : prF x.r.f y.r.f = mulF x.r.f y.r.f := by rw [prF, h']; rfl
  refine ⟨wr_in (by omega), fun k hk => ?_, fun k hk => ?_⟩
  · show (cyOf (prF x.r.f y.r.f)).f k = _
    rw [cyOf_f8 _ k hk, e]
    exact W8 (mul_bd8 bx yx) (by omega) k hk
  · show _ ≤ (cyOf (prF x.r.f y.r.f)).f k ∧ (cyOf (prF x.r.f y.r.f)).f k ≤ _
    rw [okM, Bool.and_eq_true] at h'
    rw [e]
    exact cyOk_bd h'.2 k hk
theorem prod_at {t : Int} {k : Nat} (hk : k < 8) : ∀ {A B : List Wh}, (∀ x ∈ A, ∀ y ∈ B, (prodW x y).s = x.s + y.s ∧ (∀ k, k < 8 → (prodW x y).r.f k = mulZ x.r.f y.r.f k)) → linS (atT t k) (prodL A B) = mulZ (dAt A t) (dAt B t) k
  | [], B, _ => by
    show (0 : Int) = mulZ (fun k => 0) (dAt B t) k
    rw [mulZ_comm _ _ k hk, mul_zeroR]
  | x :: A, B, h => by
    have e : prodL (x :: A) B = B.map (prodW x) ++ prodL A B := rfl
    rw [e, linS_append, prod_at hk fun x' hx' y hy => h x' (by simp [hx']) y hy]
    have e2 : linS (atT t k) (B.map (prodW x)) = linS (fun s f => mulZ (tnI x.r.f (t * x.s)) (tnI f (t * s)) k) B := linS_map fun y hy => by
      obtain ⟨h1, h2⟩ := h x (by simp) y hy
      rw [h1]
      show tnI (prodW x y).r.f (t * (x.s + y.s)) k = mulZ (tnI x.r.f (t * x.s)) (tnI y.r.f (t * y.s)) k
      rw [mul_tnI _ _ _ _ k hk, tnI_congr h2 _ k hk, Int.mul_add]
    have e3 : linS (fun s f => mulZ (tnI x.r.f (t * x.s)) (tnI f (t * s)) k) B = mulZ (tnI x.r.f (t * x.s)) (dAt B t) k := (linS_mulR (φ := atT t) (tnI x.r.f (t * x.s)) B k).symm
    have e4 : dAt (x :: A) t = fun k => tnI x.r.f (t * x.s) k + dAt A t k := rfl
    rw [e2, e3, e4, mulZ_comm _ _ k hk, mulZ_comm (dAt A t) _ k hk, mulZ_comm (fun k => tnI x.r.f (t * x.s) k + dAt A t k) _ k hk]
    exact (mul_addR _ _ _ k).symm
theorem tm_spec {A B : List Wh} (h : yesTm A B = true) : isTidy (tmL A B) ∧ ∀ (t : Int) (k : Nat), k < 8 → dAt (tmL A B) t k = mulZ (dAt A t) (dAt B t) k := by
  have hT := tmL_yes h
  rw [yesTm, tmP, Bool.and_eq_true, Bool.and_eq_true, Bool.and_eq_true] at h
  obtain ⟨⟨⟨hA, hB⟩, hO⟩, ht⟩ := h
  have key : ∀ x ∈ A, ∀ y ∈ B, (prodW x y).s = x.s + y.s ∧ (∀ k, k < 8 → (prodW x y).r.f k = mulZ x.r.f y.r.f k) ∧ bd8 1000000 (prodW x y).r.f := fun x hx y hy =>
    prodW_f (okD_all hA hx).1 (okD_all hB hy).1 (okD_all hA hx).2.1 (okD_all hB hy).2.1 (List.all_eq_true.1 (List.all_eq_true.1 hO x hx) y hy)
  have hb : bdW 2000000000000 (prodL A B) := fun w hw => by
    simp only [prodL, List.mem_flatMap, List.mem_map] at hw
    obtain ⟨x, hx, y, hy, rfl⟩ := hw
    exact (key x hx y hy).2.2.mono (by omega)
  obtain ⟨h1, h2⟩ := tidyL_lin hb ht
  rw [hT]
  exact ⟨h1, fun t k hk => (h2 _ (atT_lin t k)).trans (prod_at hk fun x hx y hy => ⟨(key x hx y hy).1, (key x hx y hy).2.1⟩)⟩
theorem prF_exact {a b : Nat → Int} (h : okM a b = true) : ∀ k, k < 8 → prF a b k = mulZ a b k := fun k hk => by
  rw [prF, h, cond_true]
  rw [okM, Bool.and_eq_true, Bool.and_eq_true] at h
  have ha : bd8 1000000 a := fun k hk => by
    have := cyOk_bd h.1.1 k hk
    rwa [cyOf_f8 _ k hk] at this
  have hb : bd8 1000000 b := fun k hk => by
    have := cyOk_bd h.1.2 k hk
    rwa [cyOf_f8 _ k hk] at this
  exact W8 (mul_bd8 ha hb) (by omega) k hk

end Go.Proofs.Ytakimbknciffnaa

/- DrawDesignTimes: two lists of wheels. Conditions: bytes, at most 2^21. -/
namespace Go.Proofs.Ytakimbknciffnaa
open Go.RowKit
set_option maxRecDepth 100000

theorem treeRTm (tf tp : Nat → (Nat → Int) → Int → Int) (dl : Nat → (Nat → Int) → Int → List Wh) (dp : Nat → (Nat → Int) → Int → Int) (pk : Nat → (Nat → Int) → Int → Int → Int) (m : Nat) (b : Nat → Int) : execF Try.prog (gmDr tf tp dl dp pk) noLam 100 Try.f46 [.sl 0 1 0 0 m none] [.row false m 1 (rowB b) 5] (packK 1)
    = bif decide ((↑m : Int) > (2000 : Int)) then needs [decide ((2000 : Int) ≤ (↑m : Int)), decide ((↑m : Int) ≤ (↑m : Int)), okB m (rowB b), decide (Int.toNat ((2000 : Int) - (0 : Int)) ≤ m), decide ((0 : Nat) < m), decide ((0 : Nat) < m), okB m (rowB b), decide (Int.toNat ((2000 : Int) - (0 : Int)) ≤ m), decide ((0 : Int) ≤ dp (Int.toNat ((2000 : Int) - (0 : Int))) (itB (rowB b)) (0 : Int)), decide (dp (Int.toNat ((2000 : Int) - (0 : Int))) (itB (rowB b)) (0 : Int) ≤ (134217728 : Int)), decide ((0 : Nat) < m), decide ((0 : Nat) < m)] (Res.out Ex.ret [AV.tup [AV.own (1 : Nat) (List.length (dl (Int.toNat ((2000 : Int) - (0 : Int))) (itB (rowB b)) (0 : Int))), AV.own (2 : Nat) (List.length (dl (Int.toNat ((2000 : Int) - (0 : Int))) (itB (rowB b)) (dp (Int.toNat ((2000 : Int) - (0 : Int))) (itB (rowB b)) (0 : Int))))]] [AB.row false m (1 : Nat) (rowB b) (5 : TypeId), AB.row true (List.length (dl (Int.toNat ((2000 : Int) - (0 : Int))) (itB (rowB b)) (0 : Int))) (9 : Nat) (row9 (wfun (dl (Int.toNat ((2000 : Int) - (0 : Int))) (itB (rowB b)) (0 : Int)))) (58 : TypeId), AB.row true (List.length (dl (Int.toNat ((2000 : Int) - (0 : Int))) (itB (rowB b)) (dp (Int.toNat ((2000 : Int) - (0 : Int))) (itB (rowB b)) (0 : Int)))) (9 : Nat) (row9 (wfun (dl (Int.toNat ((2000 : Int) - (0 : Int))) (itB (rowB b)) (dp (Int.toNat ((2000 : Int) - (0 : Int))) (itB (rowB b)) (0 : Int))))) (58 : TypeId)]) else needs [okB m (rowB b), decide (m ≤ m), decide ((0 : Nat) < m), decide ((0 : Nat) < m), okB m (rowB b), decide (m ≤ m), decide ((0 : Int) ≤ dp m (itB (rowB b)) (0 : Int)), decide (dp m (itB (rowB b)) (0 : Int) ≤ (134217728 : Int)), decide ((0 : Nat) < m), decide ((0 : Nat) < m)] (Res.out Ex.ret [AV.tup [AV.own (1 : Nat) (List.length (dl m (itB (rowB b)) (0 : Int))), AV.own (2 : Nat) (List.length (dl m (itB (rowB b)) (dp m (itB (rowB b)) (0 : Int))))]] [AB.row false m (1 : Nat) (rowB b) (5 : TypeId), AB.row true (List.length (dl m (itB (rowB b)) (0 : Int))) (9 : Nat) (row9 (wfun (dl m (itB (rowB b)) (0 : Int)))) (58 : TypeId), AB.row true (List.length (dl m (itB (rowB b)) (dp m (itB (rowB b)) (0 : Int)))) (9 : Nat) (row9 (wfun (dl m (itB (rowB b)) (dp m (itB (rowB b)) (0 : Int))))) (58 : TypeId)]) := by kernel_rfl

theorem treeRTm0 (q : Option Addr) (c : Nat) (g : Nat → List Value) : execF Try.prog g0 noLam 100 Try.f46 [.v (.slice q 0 c)] [.row false 0 1 g 5] (packK 1)
    = Res.out Ex.ret [AV.tup [AV.own (1 : Nat) (1 : Nat), AV.own (2 : Nat) (1 : Nat)]] [AB.row false (0 : Nat) (1 : Nat) g (5 : TypeId), AB.row true (1 : Nat) (9 : Nat) (fun _ ↦ [Value.int IntKind.i64 (1001 : Int), Value.int IntKind.i64 (0 : Int), Value.int IntKind.i64 (0 : Int), Value.int IntKind.i64 (0 : Int), Value.int IntKind.i64 (0 : Int), Value.int IntKind.i64 (0 : Int), Value.int IntKind.i64 (0 : Int), Value.int IntKind.i64 (0 : Int), Value.int IntKind.i64 (0 : Int)]) (58 : Nat), AB.row true (1 : Nat) (9 : Nat) (fun _ ↦ [Value.int IntKind.i64 (1001 : Int), Value.int IntKind.i64 (0 : Int), Value.int IntKind.i64 (0 : Int), Value.int IntKind.i64 (0 : Int), Value.int IntKind.i64 (0 : Int), Value.int IntKind.i64 (0 : Int), Value.int IntKind.i64 (0 : Int), Value.int IntKind.i64 (0 : Int), Value.int IntKind.i64 (0 : Int)]) (58 : Nat)] := by kernel_rfl

theorem ok_drTm : SpecOk Try.prog 46 (specR md_co (FdrO fun m b => frLL (bTwo m b).1 (bTwo m b).2)) := by
  refine draw_ok Try.func46 rfl (fun m b h0 hm hb => ⟨_, gmDr_ok, ?_⟩) fun q c g b => ⟨g0, g0_ok, ?_⟩
  · rw [treeRTm, itB_row]
    have e : (bTwo m b) = (dgL (lnB m) b 0, dgL (lnB m) b (dgP (lnB m) b 0)) := by unfold bTwo; rw [if_neg (by omega)]
    have hp := dgP_in (lnB m) b 0
    have hp2 := dgP_in (lnB m) b (dgP (lnB m) b 0)
    rw [e]
    refine good_ln (fun e1 hc => ?_) fun e1 hc => ?_
    · rw [e1] at hp hp2 ⊢
      rw [show Int.toNat ((2000 : Int) - 0) = 2000 from rfl]
      exact ⟨by simp only [ob_cons, ob_nil, and_true, decide_eq_true_eq, hb, true_and]; omega, good_out ⟨_, rfl, rfl, Hsim.refl _⟩⟩
    · rw [e1] at hp hp2 ⊢
      exact ⟨by simp only [ob_cons, ob_nil, and_true, decide_eq_true_eq, hb, true_and]; omega, good_out ⟨_, rfl, rfl, Hsim.refl _⟩⟩
  · rw [treeRTm0]
    exact good_out ⟨_, rfl, rfl, .cons (ABeq.refl _) (.cons (ABeq.row fun j hj => none_row j hj) (.cons (ABeq.row fun j hj => none_row j hj) .nil))⟩

end Go.Proofs.Ytakimbknciffnaa

/- laws.sameWheels. Conditions: two lists of wheels. -/
namespace Go.Proofs.Ytakimbknciffnaa
open Go.RowKit
set_option maxRecDepth 100000

abbrev lvSw : Ex → List Nat := lv3 [0, 1, 5] [] [4]
abbrev hpSw (m : Nat) (f h : Nat → Nat → Int) : List AB := [.row false m 9 (row9 f) 58, .row false m 9 (row9 h) 58]
theorem rndSw (m : Nat) (f h : Nat → Nat → Int) (i : Nat) : execC Try.prog g0 100 noLam (loopAt 0 Try.f18) (mkT 0 26 ((lvSw .normal).zip [.sl 0 9 0 0 m none, .sl 1 9 0 0 m none, .v (i64 i)])) (hpSw m f h) (leafV 26 lvSw 2)
    = bif decide ((↑i : Int) < (↑m : Int)) then needs [decide ((↑i : Int) < (↑m : Int)), decide ((0 : Nat) + Int.toNat (↑i : Int) < m), decide ((↑i : Int) < (↑m : Int)), decide ((0 : Nat) + Int.toNat (↑i : Int) < m)] (bif !(f ((0 : Nat) + Int.toNat (↑i : Int)) (0 : Nat) == h ((0 : Nat) + Int.toNat (↑i : Int)) (0 : Nat) && (f ((0 : Nat) + Int.toNat (↑i : Int)) (1 : Nat) == h ((0 : Nat) + Int.toNat (↑i : Int)) (1 : Nat) && (f ((0 : Nat) + Int.toNat (↑i : Int)) (2 : Nat) == h ((0 : Nat) + Int.toNat (↑i : Int)) (2 : Nat) && (f ((0 : Nat) + Int.toNat (↑i : Int)) (3 : Nat) == h ((0 : Nat) + Int.toNat (↑i : Int)) (3 : Nat) && (f ((0 : Nat) + Int.toNat (↑i : Int)) (4 : Nat) == h ((0 : Nat) + Int.toNat (↑i : Int)) (4 : Nat) && (f ((0 : Nat) + Int.toNat (↑i : Int)) (5 : Nat) == h ((0 : Nat) + Int.toNat (↑i : Int)) (5 : Nat) && (f ((0 : Nat) + Int.toNat (↑i : Int)) (6 : Nat) == h ((0 : Nat) + Int.toNat (↑i : Int)) (6 : Nat) && (f ((0 : Nat) + Int.toNat (↑i : Int)) (7 : Nat) == h ((0 : Nat) + Int.toNat (↑i : Int)) (7 : Nat) && (f ((0 : Nat) + Int.toNat (↑i : Int)) (8 : Nat) == h ((0 : Nat) + Int.toNat (↑i : Int)) (8 : Nat) && true))))))) && true && true)) then Res.out Ex.ret [AV.v (Value.bool false)] [AB.row false m (9 : Nat) (row9 f) (58 : TypeId), AB.row false m (9 : Nat) (row9 h) (58 : TypeId)] else Res.out Ex.normal [AV.sl (0 : Nat) (9 : Nat) (0 : Nat) (0 : Nat) m none, AV.sl (1 : Nat) (9 : Nat) (0 : Nat) (0 : Nat) m none, AV.v (Value.int IntKind.i64 (IntKind.wrap IntKind.i64 ((↑i : Int) + (1 : Int))))] [AB.row false m (9 : Nat) (row9 f) (58 : TypeId), AB.row false m (9 : Nat) (row9 h) (58 : TypeId)]) else Res.out (Ex.exit (0 : Nat)) [] [AB.row false m (9 : Nat) (row9 f) (58 : TypeId), AB.row false m (9 : Nat) (row9 h) (58 : TypeId)] := by kernel_rfl

noncomputable abbrev lamSw (m : Nat) (f h : Nat → Nat → Int) (c : Bool) : Nat → Option Sum := oneL 0 (atS 26 (lvSw .normal) 2 [.sl 0 9 0 0 m none, .sl 1 9 0 0 m none, .v (i64 (0 : Nat))] (hpSw m f h) (fun K => cond c (K .normal (mkT 0 26 []) (hpSw m f h)) (K .ret (mkT 0 26 [(4, .v (.bool false))]) (hpSw m f h))))
theorem treeSw (m n : Nat) (f h : Nat → Nat → Int) (c : Bool) : execF Try.prog g0 (lamSw m f h c) 100 Try.f18 [.sl 0 9 0 0 m none, .sl 1 9 0 0 n none] [.row false m 9 (row9 f) 58, .row false n 9 (row9 h) 58] (packK 2)
    = bif (↑m : Int) != (↑n : Int) then Res.out Ex.ret [AV.v (Value.bool false)] [AB.row false m (9 : Nat) (row9 f) (58 : TypeId), AB.row false n (9 : Nat) (row9 h) (58 : TypeId)] else needs [chk ([AV.sl (0 : Nat) (9 : Nat) (0 : Nat) (0 : Nat) m none, AV.sl (1 : Nat) (9 : Nat) (0 : Nat) (0 : Nat) n none, AV.v (Value.int IntKind.i64 (0 : Int))] = [AV.sl (0 : Nat) (9 : Nat) (0 : Nat) (0 : Nat) m none, AV.sl (1 : Nat) (9 : Nat) (0 : Nat) (0 : Nat) m none, AV.v (Value.int IntKind.i64 (0 : Int))] ∧ Hsim [AB.row false m (9 : Nat) (row9 f) (58 : TypeId), AB.row false n (9 : Nat) (row9 h) (58 : TypeId)] (hpSw m f h))] (bif c then Res.out Ex.ret [AV.v (Value.bool true)] [AB.row false m (9 : Nat) (row9 f) (58 : TypeId), AB.row false m (9 : Nat) (row9 h) (58 : TypeId)] else Res.out Ex.ret [AV.v (Value.bool false)] [AB.row false m (9 : Nat) (row9 f) (58 : TypeId), AB.row false m (9 : Nat) (row9 h) (58 : TypeId)]) := by kernel_rfl

theorem sumSw (m : Nat) (f h : Nat → Nat → Int) (hm : m ≤ 2 ^ 40) :
    SumOk Try.prog 2 (.block 0 (.loop (loopAt 0 Try.f18))) (atS 26 (lvSw .normal) 2 [.sl 0 9 0 0 m none, .sl 1 9 0 0 m none, .v (i64 (0 : Nat))] (hpSw m f h) (fun K => cond (noneTo (badE f h) m) (K .normal (mkT 0 26 []) (hpSw m f h)) (K .ret (mkT 0 26 [(4, .v (.bool false))]) (hpSw m f h)))) := by
  refine for_at g0_ok (n := 100) (m := 2) (lv := lvSw) (fun i => [.sl 0 9 0 0 m none, .sl 1 9 0 0 m none, .v (i64 (i : Nat))]) (fun _ => hpSw m f h) (fun i => noneTo (badE f h) i = true) m (fun _ => noLam) (lv3_ris rfl rfl rfl) (Nat.le_refl _) rfl fun K Q hk i hi him => ⟨noLam_ok _ _ _, ?_⟩
  rw [rndSw]
  refine good_cond (fun c1 => ?_) fun c1 => ?_
  · have c1 := of_decide_eq_true c1
    have c1' : i < m := by omega
    rw [Int.toNat_natCast, Nat.zero_add, wr_in (x := (i : Int) + 1) (by omega)]
    refine good_needs (by simp only [ob_cons, ob_nil, and_true, decide_eq_true_eq]; omega) (good_cond (fun q => ?_) fun q => ?_)
    · have hb : badE f h i = true := by
        unfold badE
        rw [Bool.not_eq_true', decide_eq_false_iff_not]
        intro e
        simp only [whOf, Wh.mk.injEq, Cy.mk.injEq] at e
        obtain ⟨e0, e1, e2, e3, e4, e5, e6, e7, e8⟩ := e
        simp [e0, e1, e2, e3, e4, e5, e6, e7, e8] at q
      refine good_out ⟨_, Hsim.refl _, ?_⟩
      rw [noneTo_no c1' hb] at hk
      exact hk
    · have hb : badE f h i = false := by
        unfold badE
        rw [Bool.not_eq_false', decide_eq_true_eq]
        simp at q
        simp [whOf, q]
      exact good_out ⟨i + 1, ⟨rfl, c1', noneTo_succ hi hb⟩, rfl, Hsim.refl _⟩
  · have c1 := of_decide_eq_false c1
    have : i = m := by omega
    subst this
    refine good_out ⟨_, Hsim.refl _, ?_⟩
    rw [if_pos rfl]
    rw [hi] at hk
    exact hk
theorem ok_sameW : SpecOk Try.prog 18 (specR md_eqWS (FeqB eqL)) := by
  refine specR_hr g0_ok Try.func18 rfl fun sas fr hF ho => ?_
  unfold FeqB at hF
  split at hF
  · rename_i m g n g2
    cases hF
    simp only [ob_cons] at ho
    obtain ⟨h1, h2, h3, _⟩ := ho
    have hm := of_decide_eq_true h3
    refine ⟨[.row false m 9 (row9 (itW g)) 58, .row false n 9 (row9 (itW g2)) 58], lamSw m (itW g) (itW g2) (noneTo (badE (itW g) (itW g2)) m), 100, .cons (ABeq.row fun j hj => allW_get h1 j hj) (.cons (ABeq.row fun j hj => allW_get h2 j hj) .nil), lam1 (by kernel_rfl) (sumSw m (itW g) (itW g2) (by omega)), ?_⟩
    show GoodQ (execF Try.prog g0 (lamSw m (itW g) (itW g2) (noneTo (badE (itW g) (itW g2)) m)) 100 Try.f18 [.sl 0 9 0 0 m none, .sl 1 9 0 0 n none] [.row false m 9 (row9 (itW g)) 58, .row false n 9 (row9 (itW g2)) 58] (packK 2)) _
    rw [treeSw]
    refine good_cond (fun q => ?_) fun q => ?_
    · have hne : m ≠ n := fun e => by
        subst e
        simp at q
      exact good_out ⟨_, rfl, by rw [eqL_len (by rw [listW_length, listW_length]; exact hne)], .cons (ABeq.row fun j hj => (allW_get h1 j hj).symm) (.cons (ABeq.row fun j hj => (allW_get h2 j hj).symm) .nil)⟩
    · have e : m = n := by
        have q2 : (m : Int) = n := by simpa using q
        omega
      subst e
      refine good_needs (by rw [ob_cons]; exact ⟨chk_of ⟨rfl, Hsim.refl _⟩, rfl⟩) (good_cond (fun q => ?_) fun q => ?_)
      · exact good_out ⟨_, rfl, by rw [eqL_list, q], .cons (ABeq.row fun j hj => (allW_get h1 j hj).symm) (.cons (ABeq.row fun j hj => (allW_get h2 j hj).symm) .nil)⟩
      · exact good_out ⟨_, rfl, by rw [eqL_list, q], .cons (ABeq.row fun j hj => (allW_get h1 j hj).symm) (.cons (ABeq.row fun j hj => (allW_get h2 j hj).symm) .nil)⟩
  · cases hF

end Go.Proofs.Ytakimbknciffnaa

/- The abstract machine, 29: words for more than one loop. No conditions. -/
namespace Go.Proofs.Ytakimbknciffnaa
open Go.RowKit

def addL (id : Nat) (S : Sum) (Λ : Nat → Option Sum) : Nat → Option Sum := fun j => bif Nat.beq j id then some S else Λ j
theorem lamAdd {P : Program} {m0 id : Nat} {fn : Func} {S : Sum} {c : Code} {Λ : Nat → Option Sum} (h : codeAt id (fn.body.getD .skip) = [.block id (.loop c)]) (hS : SumOk P m0 (.block id (.loop c)) S) (hΛ : ∀ cc, fn.body = some cc → LamOk P m0 Λ cc) : ∀ cc, fn.body = some cc → LamOk P m0 (addL id S Λ) cc := by
  intro cc hcc j S' hj b hb
  unfold addL at hj
  cases hjb : Nat.beq j id with
  | false =>
    rw [hjb] at hj
    exact hΛ cc hcc j S' hj b hb
  | true =>
    rw [hjb] at hj
    cases hj
    rw [Nat.eq_of_beq_eq_true hjb] at hb
    rw [hcc] at h
    simp only [Option.getD_some] at h
    rw [h] at hb
    simp at hb
    subst hb
    exact hS
theorem lamAddC {P : Program} {m0 id : Nat} {S : Sum} {c cc : Code} {Λ : Nat → Option Sum} (h : codeAt id cc = [.block id (.loop c)]) (hS : SumOk P m0 (.block id (.loop c)) S) (hΛ : LamOk P m0 Λ cc) : LamOk P m0 (addL id S Λ) cc := by
  intro j S' hj b hb
  unfold addL at hj
  cases hjb : Nat.beq j id with
  | false =>
    rw [hjb] at hj
    exact hΛ j S' hj b hb
  | true =>
    rw [hjb] at hj
    cases hj
    rw [Nat.eq_of_beq_eq_true hjb] at hb
    rw [h] at hb
    simp at hb
    subst hb
    exact hS

end Go.Proofs.Ytakimbknciffnaa

/- FnDesignTimes: its trees. Conditions: bytes. -/
namespace Go.Proofs.Ytakimbknciffnaa
open Go.RowKit
set_option maxRecDepth 100000

noncomputable abbrev fFM : Func := Try.f11
abbrev lvFM : Ex → List Nat := lv3 [3, 4, 5, 9] [5] [2]
abbrev stFM (n k j : Nat) (i : Nat) : List AV := [.own 1 n, .own 2 k, .sl 3 9 0 0 j (some j), .v (i64 (7 * (i : Int)))]
abbrev hpFM (m : Nat) (b : Nat → Int) (n : Nat) (f : Nat → Nat → Int) (k : Nat) (g : Nat → Nat → Int) (j : Nat) (h : Nat → Nat → Int) : List AB := [.row false m 1 (rowB b) 5, .row true n 9 (row9 f) 58, .row true k 9 (row9 g) 58, .row false j 9 (row9 h) 58]
def gmFM (dv : (Nat → Nat → Int) → Int → Nat → Nat → Int) (dk : (Nat → Nat → Int) → Int → Nat → Bool) (pr : (Nat → Int) → (Nat → Int) → Nat → Int) (pk : (Nat → Int) → (Nat → Int) → Bool) : Gam := ext (ext g0 23 (specR md_wv (FDAo dv dk))) 49 (specR [.val, .val] (FctO pr pk))
theorem rndFM (dv : (Nat → Nat → Int) → Int → Nat → Nat → Int) (dk : (Nat → Nat → Int) → Int → Nat → Bool) (pr : (Nat → Int) → (Nat → Int) → Nat → Int) (pk : (Nat → Int) → (Nat → Int) → Bool) (m : Nat) (b : Nat → Int) (n : Nat) (f : Nat → Nat → Int) (k : Nat) (g : Nat → Nat → Int) (j : Nat) (h : Nat → Nat → Int) (i : Nat) : execC Try.prog (gmFM dv dk pr pk) 100 noLam (loopAt 0 fFM) (mkT 0 104 ((lvFM .normal).zip (stFM n k j i))) (hpFM m b n f k g j h) (leafV 104 lvFM 1)
    = bif decide ((7 : Int) * (↑i : Int) < (24 : Int)) then needs [Nat.ble n n, allW n (row9 f), decide (n ≤ (274877906944 : Nat)), Nat.ble k k, allW k (row9 g), decide (k ≤ (274877906944 : Nat)), Nat.ble ((0 : Nat) + j) j, allW j fun q ↦ row9 h ((0 : Nat) + q), decide (j ≤ (274877906944 : Nat))] (bif dk (itW (row9 f)) ((7 : Int) * (↑i : Int)) n then bif dk (itW (row9 g)) ((7 : Int) * (↑i : Int)) k then bif dk (itW fun q ↦ row9 h ((0 : Nat) + q)) ((7 : Int) * (↑i : Int)) j then bif pk (w8 (dv (itW (row9 f)) ((7 : Int) * (↑i : Int)) n)) (w8 (dv (itW (row9 g)) ((7 : Int) * (↑i : Int)) k)) then bif !(dv (itW fun q ↦ row9 h ((0 : Nat) + q)) ((7 : Int) * (↑i : Int)) j (0 : Nat) == pr (w8 (dv (itW (row9 f)) ((7 : Int) * (↑i : Int)) n)) (w8 (dv (itW (row9 g)) ((7 : Int) * (↑i : Int)) k)) (0 : Nat) && (dv (itW fun q ↦ row9 h ((0 : Nat) + q)) ((7 : Int) * (↑i : Int)) j (1 : Nat) == pr (w8 (dv (itW (row9 f)) ((7 : Int) * (↑i : Int)) n)) (w8 (dv (itW (row9 g)) ((7 : Int) * (↑i : Int)) k)) (1 : Nat) && (dv (itW fun q ↦ row9 h ((0 : Nat) + q)) ((7 : Int) * (↑i : Int)) j (2 : Nat) == pr (w8 (dv (itW (row9 f)) ((7 : Int) * (↑i : Int)) n)) (w8 (dv (itW (row9 g)) ((7 : Int) * (↑i : Int)) k)) (2 : Nat) && (dv (itW fun q ↦ row9 h ((0 : Nat) + q)) ((7 : Int) * (↑i : Int)) j (3 : Nat) == pr (w8 (dv (itW (row9 f)) ((7 : Int) * (↑i : Int)) n)) (w8 (dv (itW (row9 g)) ((7 : Int) * (↑i : Int)) k)) (3 : Nat) && (dv (itW fun q ↦ row9 h ((0 : Nat) + q)) ((7 : Int) * (↑i : Int)) j (4 : Nat) == pr (w8 (dv (itW (row9 f)) ((7 : Int) * (↑i : Int)) n)) (w8 (dv (itW (row9 g)) ((7 : Int) * (↑i : Int)) k)) (4 : Nat) && (dv (itW fun q ↦ row9 h ((0 : Nat) + q)) ((7 : Int) * (↑i : Int)) j (5 : Nat) == pr (w8 (dv (itW (row9 f)) ((7 : Int) * (↑i : Int)) n)) (w8 (dv (itW (row9 g)) ((7 : Int) * (↑i : Int)) k)) (5 : Nat) && (dv (itW fun q ↦ row9 h ((0 : Nat) + q)) ((7 : Int) * (↑i : Int)) j (6 : Nat) == pr (w8 (dv (itW (row9 f)) ((7 : Int) * (↑i : Int)) n)) (w8 (dv (itW (row9 g)) ((7 : Int) * (↑i : Int)) k)) (6 : Nat) && (dv (itW fun q ↦ row9 h ((0 : Nat) + q)) ((7 : Int) * (↑i : Int)) j (7 : Nat) == pr (w8 (dv (itW (row9 f)) ((7 : Int) * (↑i : Int)) n)) (w8 (dv (itW (row9 g)) ((7 : Int) * (↑i : Int)) k)) (7 : Nat) && true))))))) && true) then Res.out Ex.ret [AV.v (Value.bool false)] [AB.row false m (1 : Nat) (rowB b) (5 : TypeId)] else Res.out Ex.normal [AV.own (1 : Nat) n, AV.own (2 : Nat) k, AV.sl (3 : Nat) (9 : Nat) (0 : Nat) (0 : Nat) j (some j), AV.v (Value.int IntKind.i64 (IntKind.wrap IntKind.i64 ((7 : Int) * (↑i : Int) + (7 : Int))))] [AB.row false m (1 : Nat) (rowB b) (5 : TypeId), AB.row true n (9 : Nat) (row9 f) (58 : TypeId), AB.row true k (9 : Nat) (row9 g) (58 : TypeId), AB.row false j (9 : Nat) (row9 h) (58 : TypeId)] else Res.out Ex.normal [AV.own (1 : Nat) n, AV.own (2 : Nat) k, AV.sl (3 : Nat) (9 : Nat) (0 : Nat) (0 : Nat) j (some j), AV.v (Value.int IntKind.i64 (IntKind.wrap IntKind.i64 ((7 : Int) * (↑i : Int) + (7 : Int))))] [AB.row false m (1 : Nat) (rowB b) (5 : TypeId), AB.row true n (9 : Nat) (row9 f) (58 : TypeId), AB.row true k (9 : Nat) (row9 g) (58 : TypeId), AB.row false j (9 : Nat) (row9 h) (58 : TypeId)] else Res.out Ex.normal [AV.own (1 : Nat) n, AV.own (2 : Nat) k, AV.sl (3 : Nat) (9 : Nat) (0 : Nat) (0 : Nat) j (some j), AV.v (Value.int IntKind.i64 (IntKind.wrap IntKind.i64 ((7 : Int) * (↑i : Int) + (7 : Int))))] [AB.row false m (1 : Nat) (rowB b) (5 : TypeId), AB.row true n (9 : Nat) (row9 f) (58 : TypeId), AB.row true k (9 : Nat) (row9 g) (58 : TypeId), AB.row false j (9 : Nat) (row9 h) (58 : TypeId)] else Res.out Ex.normal [AV.own (1 : Nat) n, AV.own (2 : Nat) k, AV.sl (3 : Nat) (9 : Nat) (0 : Nat) (0 : Nat) j (some j), AV.v (Value.int IntKind.i64 (IntKind.wrap IntKind.i64 ((7 : Int) * (↑i : Int) + (7 : Int))))] [AB.row false m (1 : Nat) (rowB b) (5 : TypeId), AB.row true n (9 : Nat) (row9 f) (58 : TypeId), AB.row true k (9 : Nat) (row9 g) (58 : TypeId), AB.row false j (9 : Nat) (row9 h) (58 : TypeId)] else Res.out Ex.normal [AV.own (1 : Nat) n, AV.own (2 : Nat) k, AV.sl (3 : Nat) (9 : Nat) (0 : Nat) (0 : Nat) j (some j), AV.v (Value.int IntKind.i64 (IntKind.wrap IntKind.i64 ((7 : Int) * (↑i : Int) + (7 : Int))))] [AB.row false m (1 : Nat) (rowB b) (5 : TypeId), AB.row true n (9 : Nat) (row9 f) (58 : TypeId), AB.row true k (9 : Nat) (row9 g) (58 : TypeId), AB.row false j (9 : Nat) (row9 h) (58 : TypeId)]) else Res.out (Ex.exit (0 : Nat)) [AV.sl (1 : Nat) (9 : Nat) (0 : Nat) (0 : Nat) j (some j)] [AB.row false m (1 : Nat) (rowB b) (5 : TypeId), AB.row false j (9 : Nat) (row9 h) (58 : TypeId)] := by kernel_rfl

noncomputable abbrev lamFM (m : Nat) (b : Nat → Int) (n : Nat) (f : Nat → Nat → Int) (k : Nat) (g : Nat → Nat → Int) (j : Nat) (h : Nat → Nat → Int) : Nat → Option Sum := oneL 0 (atS 104 (lvFM .normal) 1 (stFM n k j 0) (hpFM m b n f k g j h) (fun K => K .normal (mkT 0 104 [(5, .sl 1 9 0 0 j (some j))]) [.row false m 1 (rowB b) 5, .row false j 9 (row9 h) 58]))
def gmLTm (dl dm : Nat → (Nat → Int) → List Wh) (yS : List Wh → List Wh → Bool) (tS : List Wh → List Wh → List Wh) (eq : List Wh → List Wh → Bool) (okd : List Wh → Bool) : Gam :=
  ext (ext (ext (ext (ext g0 46 (specR md_co (FdrO fun m b => frLL (dl m b) (dm m b)))) 47 (specU md_eqWS (UO2 yS tS))) 48 (specR md_eqWS (FtmS yS tS))) 18 (specR md_eqWS (FeqB eq))) 50 (specR md_ws (FdvO okd))
theorem lawTm (dl dm : Nat → (Nat → Int) → List Wh) (yS : List Wh → List Wh → Bool) (tS : List Wh → List Wh → List Wh) (eq : List Wh → List Wh → Bool) (okd : List Wh → Bool) (m : Nat) (b : Nat → Int) (n : Nat) (f : Nat → Nat → Int) (k : Nat) (g : Nat → Nat → Int) (j : Nat) (h : Nat → Nat → Int) : execF Try.prog (gmLTm dl dm yS tS eq okd) (lamFM m b n f k g j h) 100 fFM [.sl 0 1 0 0 m none] [.row false m 1 (rowB b) 5] (packK 1)
    = bif decide ((↑m : Int) > (1048576 : Int)) then Res.out Ex.ret [AV.v (Value.bool true)] [AB.row false m (1 : Nat) (rowB b) (5 : TypeId)] else needs [Nat.ble ((0 : Nat) + m) m, okB m fun q ↦ rowB b ((0 : Nat) + q), decide (m ≤ (2097152 : Nat)), Nat.ble (List.length (dl m (itB fun q ↦ rowB b ((0 : Nat) + q)))) (List.length (dl m (itB fun q ↦ rowB b ((0 : Nat) + q)))), Nat.ble (List.length (dm m (itB fun q ↦ rowB b ((0 : Nat) + q)))) (List.length (dm m (itB fun q ↦ rowB b ((0 : Nat) + q)))), allW (List.length (dl m (itB fun q ↦ rowB b ((0 : Nat) + q)))) (row9 (wfun (dl m (itB fun q ↦ rowB b ((0 : Nat) + q))))), allW (List.length (dm m (itB fun q ↦ rowB b ((0 : Nat) + q)))) (row9 (wfun (dm m (itB fun q ↦ rowB b ((0 : Nat) + q))))), decide (List.length (dl m (itB fun q ↦ rowB b ((0 : Nat) + q))) ≤ (274877906944 : Nat)), decide (List.length (dm m (itB fun q ↦ rowB b ((0 : Nat) + q))) ≤ (274877906944 : Nat)), Nat.ble (List.length (dl m (itB fun q ↦ rowB b ((0 : Nat) + q)))) (List.length (dl m (itB fun q ↦ rowB b ((0 : Nat) + q)))), Nat.ble (List.length (dm m (itB fun q ↦ rowB b ((0 : Nat) + q)))) (List.length (dm m (itB fun q ↦ rowB b ((0 : Nat) + q)))), allW (List.length (dl m (itB fun q ↦ rowB b ((0 : Nat) + q)))) (row9 (wfun (dl m (itB fun q ↦ rowB b ((0 : Nat) + q))))), allW (List.length (dm m (itB fun q ↦ rowB b ((0 : Nat) + q)))) (row9 (wfun (dm m (itB fun q ↦ rowB b ((0 : Nat) + q))))), decide (List.length (dl m (itB fun q ↦ rowB b ((0 : Nat) + q))) ≤ (274877906944 : Nat)), decide (List.length (dm m (itB fun q ↦ rowB b ((0 : Nat) + q))) ≤ (274877906944 : Nat))] (bif !yS (listW (itW (row9 (wfun (dl m (itB fun q ↦ rowB b ((0 : Nat) + q)))))) (List.length (dl m (itB fun q ↦ rowB b ((0 : Nat) + q))))) (listW (itW (row9 (wfun (dm m (itB fun q ↦ rowB b ((0 : Nat) + q)))))) (List.length (dm m (itB fun q ↦ rowB b ((0 : Nat) + q))))) == yS (listW (itW (row9 (wfun (dl m (itB fun q ↦ rowB b ((0 : Nat) + q)))))) (List.length (dl m (itB fun q ↦ rowB b ((0 : Nat) + q))))) (listW (itW (row9 (wfun (dm m (itB fun q ↦ rowB b ((0 : Nat) + q)))))) (List.length (dm m (itB fun q ↦ rowB b ((0 : Nat) + q))))) then bif yS (listW (itW (row9 (wfun (dl m (itB fun q ↦ rowB b ((0 : Nat) + q)))))) (List.length (dl m (itB fun q ↦ rowB b ((0 : Nat) + q))))) (listW (itW (row9 (wfun (dm m (itB fun q ↦ rowB b ((0 : Nat) + q)))))) (List.length (dm m (itB fun q ↦ rowB b ((0 : Nat) + q))))) == yS (listW (itW (row9 (wfun (dl m (itB fun q ↦ rowB b ((0 : Nat) + q)))))) (List.length (dl m (itB fun q ↦ rowB b ((0 : Nat) + q))))) (listW (itW (row9 (wfun (dm m (itB fun q ↦ rowB b ((0 : Nat) + q)))))) (List.length (dm m (itB fun q ↦ rowB b ((0 : Nat) + q))))) then needs [Nat.ble ((0 : Nat) + List.length (tS (listW (itW (row9 (wfun (dl m (itB fun q ↦ rowB b ((0 : Nat) + q)))))) (List.length (dl m (itB fun q ↦ rowB b ((0 : Nat) + q))))) (listW (itW (row9 (wfun (dm m (itB fun q ↦ rowB b ((0 : Nat) + q)))))) (List.length (dm m (itB fun q ↦ rowB b ((0 : Nat) + q))))))) (List.length (tS (listW (itW (row9 (wfun (dl m (itB fun q ↦ rowB b ((0 : Nat) + q)))))) (List.length (dl m (itB fun q ↦ rowB b ((0 : Nat) + q))))) (listW (itW (row9 (wfun (dm m (itB fun q ↦ rowB b ((0 : Nat) + q)))))) (List.length (dm m (itB fun q ↦ rowB b ((0 : Nat) + q))))))), Nat.ble (List.length (tS (listW (itW (row9 (wfun (dl m (itB fun q ↦ rowB b ((0 : Nat) + q)))))) (List.length (dl m (itB fun q ↦ rowB b ((0 : Nat) + q))))) (listW (itW (row9 (wfun (dm m (itB fun q ↦ rowB b ((0 : Nat) + q)))))) (List.length (dm m (itB fun q ↦ rowB b ((0 : Nat) + q))))))) (List.length (tS (listW (itW (row9 (wfun (dl m (itB fun q ↦ rowB b ((0 : Nat) + q)))))) (List.length (dl m (itB fun q ↦ rowB b ((0 : Nat) + q))))) (listW (itW (row9 (wfun (dm m (itB fun q ↦ rowB b ((0 : Nat) + q)))))) (List.length (dm m (itB fun q ↦ rowB b ((0 : Nat) + q))))))), allW (List.length (tS (listW (itW (row9 (wfun (dl m (itB fun q ↦ rowB b ((0 : Nat) + q)))))) (List.length (dl m (itB fun q ↦ rowB b ((0 : Nat) + q))))) (listW (itW (row9 (wfun (dm m (itB fun q ↦ rowB b ((0 : Nat) + q)))))) (List.length (dm m (itB fun q ↦ rowB b ((0 : Nat) + q))))))) fun q ↦ row9 (wfun (tS (listW (itW (row9 (wfun (dl m (itB fun q ↦ rowB b ((0 : Nat) + q)))))) (List.length (dl m (itB fun q ↦ rowB b ((0 : Nat) + q))))) (listW (itW (row9 (wfun (dm m (itB fun q ↦ rowB b ((0 : Nat) + q)))))) (List.length (dm m (itB fun q ↦ rowB b ((0 : Nat) + q))))))) ((0 : Nat) + q), allW (List.length (tS (listW (itW (row9 (wfun (dl m (itB fun q ↦ rowB b ((0 : Nat) + q)))))) (List.length (dl m (itB fun q ↦ rowB b ((0 : Nat) + q))))) (listW (itW (row9 (wfun (dm m (itB fun q ↦ rowB b ((0 : Nat) + q)))))) (List.length (dm m (itB fun q ↦ rowB b ((0 : Nat) + q))))))) (row9 (wfun (tS (listW (itW (row9 (wfun (dl m (itB fun q ↦ rowB b ((0 : Nat) + q)))))) (List.length (dl m (itB fun q ↦ rowB b ((0 : Nat) + q))))) (listW (itW (row9 (wfun (dm m (itB fun q ↦ rowB b ((0 : Nat) + q)))))) (List.length (dm m (itB fun q ↦ rowB b ((0 : Nat) + q)))))))), decide (List.length (tS (listW (itW (row9 (wfun (dl m (itB fun q ↦ rowB b ((0 : Nat) + q)))))) (List.length (dl m (itB fun q ↦ rowB b ((0 : Nat) + q))))) (listW (itW (row9 (wfun (dm m (itB fun q ↦ rowB b ((0 : Nat) + q)))))) (List.length (dm m (itB fun q ↦ rowB b ((0 : Nat) + q)))))) ≤ (274877906944 : Nat))] (Res.out Ex.ret [AV.v (Value.bool (eq (listW (itW fun q ↦ row9 (wfun (tS (listW (itW (row9 (wfun (dl m (itB fun q ↦ rowB b ((0 : Nat) + q)))))) (List.length (dl m (itB fun q ↦ rowB b ((0 : Nat) + q))))) (listW (itW (row9 (wfun (dm m (itB fun q ↦ rowB b ((0 : Nat) + q)))))) (List.length (dm m (itB fun q ↦ rowB b ((0 : Nat) + q))))))) ((0 : Nat) + q)) (List.length (tS (listW (itW (row9 (wfun (dl m (itB fun q ↦ rowB b ((0 : Nat) + q)))))) (List.length (dl m (itB fun q ↦ rowB b ((0 : Nat) + q))))) (listW (itW (row9 (wfun (dm m (itB fun q ↦ rowB b ((0 : Nat) + q)))))) (List.length (dm m (itB fun q ↦ rowB b ((0 : Nat) + q)))))))) (listW (itW (row9 (wfun (tS (listW (itW (row9 (wfun (dl m (itB fun q ↦ rowB b ((0 : Nat) + q)))))) (List.length (dl m (itB fun q ↦ rowB b ((0 : Nat) + q))))) (listW (itW (row9 (wfun (dm m (itB fun q ↦ rowB b ((0 : Nat) + q)))))) (List.length (dm m (itB fun q ↦ rowB b ((0 : Nat) + q))))))))) (List.length (tS (listW (itW (row9 (wfun (dl m (itB fun q ↦ rowB b ((0 : Nat) + q)))))) (List.length (dl m (itB fun q ↦ rowB b ((0 : Nat) + q))))) (listW (itW (row9 (wfun (dm m (itB fun q ↦ rowB b ((0 : Nat) + q)))))) (List.length (dm m (itB fun q ↦ rowB b ((0 : Nat) + q))))))))))] [AB.row false m (1 : Nat) (rowB b) (5 : TypeId)]) else Res.out Ex.ret [AV.v (Value.bool false)] [AB.row false m (1 : Nat) (rowB b) (5 : TypeId)] else needs [Nat.ble ((0 : Nat) + List.length (tS (listW (itW (row9 (wfun (dl m (itB fun q ↦ rowB b ((0 : Nat) + q)))))) (List.length (dl m (itB fun q ↦ rowB b ((0 : Nat) + q))))) (listW (itW (row9 (wfun (dm m (itB fun q ↦ rowB b ((0 : Nat) + q)))))) (List.length (dm m (itB fun q ↦ rowB b ((0 : Nat) + q))))))) (List.length (tS (listW (itW (row9 (wfun (dl m (itB fun q ↦ rowB b ((0 : Nat) + q)))))) (List.length (dl m (itB fun q ↦ rowB b ((0 : Nat) + q))))) (listW (itW (row9 (wfun (dm m (itB fun q ↦ rowB b ((0 : Nat) + q)))))) (List.length (dm m (itB fun q ↦ rowB b ((0 : Nat) + q))))))), Nat.ble (List.length (tS (listW (itW (row9 (wfun (dl m (itB fun q ↦ rowB b ((0 : Nat) + q)))))) (List.length (dl m (itB fun q ↦ rowB b ((0 : Nat) + q))))) (listW (itW (row9 (wfun (dm m (itB fun q ↦ rowB b ((0 : Nat) + q)))))) (List.length (dm m (itB fun q ↦ rowB b ((0 : Nat) + q))))))) (List.length (tS (listW (itW (row9 (wfun (dl m (itB fun q ↦ rowB b ((0 : Nat) + q)))))) (List.length (dl m (itB fun q ↦ rowB b ((0 : Nat) + q))))) (listW (itW (row9 (wfun (dm m (itB fun q ↦ rowB b ((0 : Nat) + q)))))) (List.length (dm m (itB fun q ↦ rowB b ((0 : Nat) + q))))))), allW (List.length (tS (listW (itW (row9 (wfun (dl m (itB fun q ↦ rowB b ((0 : Nat) + q)))))) (List.length (dl m (itB fun q ↦ rowB b ((0 : Nat) + q))))) (listW (itW (row9 (wfun (dm m (itB fun q ↦ rowB b ((0 : Nat) + q)))))) (List.length (dm m (itB fun q ↦ rowB b ((0 : Nat) + q))))))) fun q ↦ row9 (wfun (tS (listW (itW (row9 (wfun (dl m (itB fun q ↦ rowB b ((0 : Nat) + q)))))) (List.length (dl m (itB fun q ↦ rowB b ((0 : Nat) + q))))) (listW (itW (row9 (wfun (dm m (itB fun q ↦ rowB b ((0 : Nat) + q)))))) (List.length (dm m (itB fun q ↦ rowB b ((0 : Nat) + q))))))) ((0 : Nat) + q), allW (List.length (tS (listW (itW (row9 (wfun (dl m (itB fun q ↦ rowB b ((0 : Nat) + q)))))) (List.length (dl m (itB fun q ↦ rowB b ((0 : Nat) + q))))) (listW (itW (row9 (wfun (dm m (itB fun q ↦ rowB b ((0 : Nat) + q)))))) (List.length (dm m (itB fun q ↦ rowB b ((0 : Nat) + q))))))) (row9 (wfun (tS (listW (itW (row9 (wfun (dl m (itB fun q ↦ rowB b ((0 : Nat) + q)))))) (List.length (dl m (itB fun q ↦ rowB b ((0 : Nat) + q))))) (listW (itW (row9 (wfun (dm m (itB fun q ↦ rowB b ((0 : Nat) + q)))))) (List.length (dm m (itB fun q ↦ rowB b ((0 : Nat) + q)))))))), decide (List.length (tS (listW (itW (row9 (wfun (dl m (itB fun q ↦ rowB b ((0 : Nat) + q)))))) (List.length (dl m (itB fun q ↦ rowB b ((0 : Nat) + q))))) (listW (itW (row9 (wfun (dm m (itB fun q ↦ rowB b ((0 : Nat) + q)))))) (List.length (dm m (itB fun q ↦ rowB b ((0 : Nat) + q)))))) ≤ (274877906944 : Nat))] (bif !eq (listW (itW fun q ↦ row9 (wfun (tS (listW (itW (row9 (wfun (dl m (itB fun q ↦ rowB b ((0 : Nat) + q)))))) (List.length (dl m (itB fun q ↦ rowB b ((0 : Nat) + q))))) (listW (itW (row9 (wfun (dm m (itB fun q ↦ rowB b ((0 : Nat) + q)))))) (List.length (dm m (itB fun q ↦ rowB b ((0 : Nat) + q))))))) ((0 : Nat) + q)) (List.length (tS (listW (itW (row9 (wfun (dl m (itB fun q ↦ rowB b ((0 : Nat) + q)))))) (List.length (dl m (itB fun q ↦ rowB b ((0 : Nat) + q))))) (listW (itW (row9 (wfun (dm m (itB fun q ↦ rowB b ((0 : Nat) + q)))))) (List.length (dm m (itB fun q ↦ rowB b ((0 : Nat) + q)))))))) (listW (itW (row9 (wfun (tS (listW (itW (row9 (wfun (dl m (itB fun q ↦ rowB b ((0 : Nat) + q)))))) (List.length (dl m (itB fun q ↦ rowB b ((0 : Nat) + q))))) (listW (itW (row9 (wfun (dm m (itB fun q ↦ rowB b ((0 : Nat) + q)))))) (List.length (dm m (itB fun q ↦ rowB b ((0 : Nat) + q))))))))) (List.length (tS (listW (itW (row9 (wfun (dl m (itB fun q ↦ rowB b ((0 : Nat) + q)))))) (List.length (dl m (itB fun q ↦ rowB b ((0 : Nat) + q))))) (listW (itW (row9 (wfun (dm m (itB fun q ↦ rowB b ((0 : Nat) + q)))))) (List.length (dm m (itB fun q ↦ rowB b ((0 : Nat) + q)))))))) then bif yS (listW (itW (row9 (wfun (dl m (itB fun q ↦ rowB b ((0 : Nat) + q)))))) (List.length (dl m (itB fun q ↦ rowB b ((0 : Nat) + q))))) (listW (itW (row9 (wfun (dm m (itB fun q ↦ rowB b ((0 : Nat) + q)))))) (List.length (dm m (itB fun q ↦ rowB b ((0 : Nat) + q))))) == yS (listW (itW (row9 (wfun (dl m (itB fun q ↦ rowB b ((0 : Nat) + q)))))) (List.length (dl m (itB fun q ↦ rowB b ((0 : Nat) + q))))) (listW (itW (row9 (wfun (dm m (itB fun q ↦ rowB b ((0 : Nat) + q)))))) (List.length (dm m (itB fun q ↦ rowB b ((0 : Nat) + q))))) then needs [Nat.ble ((0 : Nat) + List.length (tS (listW (itW (row9 (wfun (dl m (itB fun q ↦ rowB b ((0 : Nat) + q)))))) (List.length (dl m (itB fun q ↦ rowB b ((0 : Nat) + q))))) (listW (itW (row9 (wfun (dm m (itB fun q ↦ rowB b ((0 : Nat) + q)))))) (List.length (dm m (itB fun q ↦ rowB b ((0 : Nat) + q))))))) (List.length (tS (listW (itW (row9 (wfun (dl m (itB fun q ↦ rowB b ((0 : Nat) + q)))))) (List.length (dl m (itB fun q ↦ rowB b ((0 : Nat) + q))))) (listW (itW (row9 (wfun (dm m (itB fun q ↦ rowB b ((0 : Nat) + q)))))) (List.length (dm m (itB fun q ↦ rowB b ((0 : Nat) + q))))))), Nat.ble (List.length (tS (listW (itW (row9 (wfun (dl m (itB fun q ↦ rowB b ((0 : Nat) + q)))))) (List.length (dl m (itB fun q ↦ rowB b ((0 : Nat) + q))))) (listW (itW (row9 (wfun (dm m (itB fun q ↦ rowB b ((0 : Nat) + q)))))) (List.length (dm m (itB fun q ↦ rowB b ((0 : Nat) + q))))))) (List.length (tS (listW (itW (row9 (wfun (dl m (itB fun q ↦ rowB b ((0 : Nat) + q)))))) (List.length (dl m (itB fun q ↦ rowB b ((0 : Nat) + q))))) (listW (itW (row9 (wfun (dm m (itB fun q ↦ rowB b ((0 : Nat) + q)))))) (List.length (dm m (itB fun q ↦ rowB b ((0 : Nat) + q))))))), allW (List.length (tS (listW (itW (row9 (wfun (dl m (itB fun q ↦ rowB b ((0 : Nat) + q)))))) (List.length (dl m (itB fun q ↦ rowB b ((0 : Nat) + q))))) (listW (itW (row9 (wfun (dm m (itB fun q ↦ rowB b ((0 : Nat) + q)))))) (List.length (dm m (itB fun q ↦ rowB b ((0 : Nat) + q))))))) fun q ↦ row9 (wfun (tS (listW (itW (row9 (wfun (dl m (itB fun q ↦ rowB b ((0 : Nat) + q)))))) (List.length (dl m (itB fun q ↦ rowB b ((0 : Nat) + q))))) (listW (itW (row9 (wfun (dm m (itB fun q ↦ rowB b ((0 : Nat) + q)))))) (List.length (dm m (itB fun q ↦ rowB b ((0 : Nat) + q))))))) ((0 : Nat) + q), allW (List.length (tS (listW (itW (row9 (wfun (dl m (itB fun q ↦ rowB b ((0 : Nat) + q)))))) (List.length (dl m (itB fun q ↦ rowB b ((0 : Nat) + q))))) (listW (itW (row9 (wfun (dm m (itB fun q ↦ rowB b ((0 : Nat) + q)))))) (List.length (dm m (itB fun q ↦ rowB b ((0 : Nat) + q))))))) (row9 (wfun (tS (listW (itW (row9 (wfun (dl m (itB fun q ↦ rowB b ((0 : Nat) + q)))))) (List.length (dl m (itB fun q ↦ rowB b ((0 : Nat) + q))))) (listW (itW (row9 (wfun (dm m (itB fun q ↦ rowB b ((0 : Nat) + q)))))) (List.length (dm m (itB fun q ↦ rowB b ((0 : Nat) + q)))))))), decide (List.length (tS (listW (itW (row9 (wfun (dl m (itB fun q ↦ rowB b ((0 : Nat) + q)))))) (List.length (dl m (itB fun q ↦ rowB b ((0 : Nat) + q))))) (listW (itW (row9 (wfun (dm m (itB fun q ↦ rowB b ((0 : Nat) + q)))))) (List.length (dm m (itB fun q ↦ rowB b ((0 : Nat) + q)))))) ≤ (274877906944 : Nat))] (Res.out Ex.ret [AV.v (Value.bool (eq (listW (itW fun q ↦ row9 (wfun (tS (listW (itW (row9 (wfun (dl m (itB fun q ↦ rowB b ((0 : Nat) + q)))))) (List.length (dl m (itB fun q ↦ rowB b ((0 : Nat) + q))))) (listW (itW (row9 (wfun (dm m (itB fun q ↦ rowB b ((0 : Nat) + q)))))) (List.length (dm m (itB fun q ↦ rowB b ((0 : Nat) + q))))))) ((0 : Nat) + q)) (List.length (tS (listW (itW (row9 (wfun (dl m (itB fun q ↦ rowB b ((0 : Nat) + q)))))) (List.length (dl m (itB fun q ↦ rowB b ((0 : Nat) + q))))) (listW (itW (row9 (wfun (dm m (itB fun q ↦ rowB b ((0 : Nat) + q)))))) (List.length (dm m (itB fun q ↦ rowB b ((0 : Nat) + q)))))))) (listW (itW (row9 (wfun (tS (listW (itW (row9 (wfun (dl m (itB fun q ↦ rowB b ((0 : Nat) + q)))))) (List.length (dl m (itB fun q ↦ rowB b ((0 : Nat) + q))))) (listW (itW (row9 (wfun (dm m (itB fun q ↦ rowB b ((0 : Nat) + q)))))) (List.length (dm m (itB fun q ↦ rowB b ((0 : Nat) + q))))))))) (List.length (tS (listW (itW (row9 (wfun (dl m (itB fun q ↦ rowB b ((0 : Nat) + q)))))) (List.length (dl m (itB fun q ↦ rowB b ((0 : Nat) + q))))) (listW (itW (row9 (wfun (dm m (itB fun q ↦ rowB b ((0 : Nat) + q)))))) (List.length (dm m (itB fun q ↦ rowB b ((0 : Nat) + q))))))))))] [AB.row false m (1 : Nat) (rowB b) (5 : TypeId)]) else Res.out Ex.ret [AV.v (Value.bool false)] [AB.row false m (1 : Nat) (rowB b) (5 : TypeId)] else bif !yS (listW (itW (row9 (wfun (dl m (itB fun q ↦ rowB b ((0 : Nat) + q)))))) (List.length (dl m (itB fun q ↦ rowB b ((0 : Nat) + q))))) (listW (itW (row9 (wfun (dm m (itB fun q ↦ rowB b ((0 : Nat) + q)))))) (List.length (dm m (itB fun q ↦ rowB b ((0 : Nat) + q))))) then bif yS (listW (itW (row9 (wfun (dl m (itB fun q ↦ rowB b ((0 : Nat) + q)))))) (List.length (dl m (itB fun q ↦ rowB b ((0 : Nat) + q))))) (listW (itW (row9 (wfun (dm m (itB fun q ↦ rowB b ((0 : Nat) + q)))))) (List.length (dm m (itB fun q ↦ rowB b ((0 : Nat) + q))))) == yS (listW (itW (row9 (wfun (dl m (itB fun q ↦ rowB b ((0 : Nat) + q)))))) (List.length (dl m (itB fun q ↦ rowB b ((0 : Nat) + q))))) (listW (itW (row9 (wfun (dm m (itB fun q ↦ rowB b ((0 : Nat) + q)))))) (List.length (dm m (itB fun q ↦ rowB b ((0 : Nat) + q))))) then needs [Nat.ble ((0 : Nat) + List.length (tS (listW (itW (row9 (wfun (dl m (itB fun q ↦ rowB b ((0 : Nat) + q)))))) (List.length (dl m (itB fun q ↦ rowB b ((0 : Nat) + q))))) (listW (itW (row9 (wfun (dm m (itB fun q ↦ rowB b ((0 : Nat) + q)))))) (List.length (dm m (itB fun q ↦ rowB b ((0 : Nat) + q))))))) (List.length (tS (listW (itW (row9 (wfun (dl m (itB fun q ↦ rowB b ((0 : Nat) + q)))))) (List.length (dl m (itB fun q ↦ rowB b ((0 : Nat) + q))))) (listW (itW (row9 (wfun (dm m (itB fun q ↦ rowB b ((0 : Nat) + q)))))) (List.length (dm m (itB fun q ↦ rowB b ((0 : Nat) + q))))))), Nat.ble (List.length (tS (listW (itW (row9 (wfun (dl m (itB fun q ↦ rowB b ((0 : Nat) + q)))))) (List.length (dl m (itB fun q ↦ rowB b ((0 : Nat) + q))))) (listW (itW (row9 (wfun (dm m (itB fun q ↦ rowB b ((0 : Nat) + q)))))) (List.length (dm m (itB fun q ↦ rowB b ((0 : Nat) + q))))))) (List.length (tS (listW (itW (row9 (wfun (dl m (itB fun q ↦ rowB b ((0 : Nat) + q)))))) (List.length (dl m (itB fun q ↦ rowB b ((0 : Nat) + q))))) (listW (itW (row9 (wfun (dm m (itB fun q ↦ rowB b ((0 : Nat) + q)))))) (List.length (dm m (itB fun q ↦ rowB b ((0 : Nat) + q))))))), allW (List.length (tS (listW (itW (row9 (wfun (dl m (itB fun q ↦ rowB b ((0 : Nat) + q)))))) (List.length (dl m (itB fun q ↦ rowB b ((0 : Nat) + q))))) (listW (itW (row9 (wfun (dm m (itB fun q ↦ rowB b ((0 : Nat) + q)))))) (List.length (dm m (itB fun q ↦ rowB b ((0 : Nat) + q))))))) fun q ↦ row9 (wfun (tS (listW (itW (row9 (wfun (dl m (itB fun q ↦ rowB b ((0 : Nat) + q)))))) (List.length (dl m (itB fun q ↦ rowB b ((0 : Nat) + q))))) (listW (itW (row9 (wfun (dm m (itB fun q ↦ rowB b ((0 : Nat) + q)))))) (List.length (dm m (itB fun q ↦ rowB b ((0 : Nat) + q))))))) ((0 : Nat) + q), allW (List.length (tS (listW (itW (row9 (wfun (dl m (itB fun q ↦ rowB b ((0 : Nat) + q)))))) (List.length (dl m (itB fun q ↦ rowB b ((0 : Nat) + q))))) (listW (itW (row9 (wfun (dm m (itB fun q ↦ rowB b ((0 : Nat) + q)))))) (List.length (dm m (itB fun q ↦ rowB b ((0 : Nat) + q))))))) (row9 (wfun (tS (listW (itW (row9 (wfun (dl m (itB fun q ↦ rowB b ((0 : Nat) + q)))))) (List.length (dl m (itB fun q ↦ rowB b ((0 : Nat) + q))))) (listW (itW (row9 (wfun (dm m (itB fun q ↦ rowB b ((0 : Nat) + q)))))) (List.length (dm m (itB fun q ↦ rowB b ((0 : Nat) + q)))))))), decide (List.length (tS (listW (itW (row9 (wfun (dl m (itB fun q ↦ rowB b ((0 : Nat) + q)))))) (List.length (dl m (itB fun q ↦ rowB b ((0 : Nat) + q))))) (listW (itW (row9 (wfun (dm m (itB fun q ↦ rowB b ((0 : Nat) + q)))))) (List.length (dm m (itB fun q ↦ rowB b ((0 : Nat) + q)))))) ≤ (274877906944 : Nat))] (Res.out Ex.ret [AV.v (Value.bool (eq (listW (itW fun q ↦ row9 (wfun (tS (listW (itW (row9 (wfun (dl m (itB fun q ↦ rowB b ((0 : Nat) + q)))))) (List.length (dl m (itB fun q ↦ rowB b ((0 : Nat) + q))))) (listW (itW (row9 (wfun (dm m (itB fun q ↦ rowB b ((0 : Nat) + q)))))) (List.length (dm m (itB fun q ↦ rowB b ((0 : Nat) + q))))))) ((0 : Nat) + q)) (List.length (tS (listW (itW (row9 (wfun (dl m (itB fun q ↦ rowB b ((0 : Nat) + q)))))) (List.length (dl m (itB fun q ↦ rowB b ((0 : Nat) + q))))) (listW (itW (row9 (wfun (dm m (itB fun q ↦ rowB b ((0 : Nat) + q)))))) (List.length (dm m (itB fun q ↦ rowB b ((0 : Nat) + q)))))))) (listW (itW (row9 (wfun (tS (listW (itW (row9 (wfun (dl m (itB fun q ↦ rowB b ((0 : Nat) + q)))))) (List.length (dl m (itB fun q ↦ rowB b ((0 : Nat) + q))))) (listW (itW (row9 (wfun (dm m (itB fun q ↦ rowB b ((0 : Nat) + q)))))) (List.length (dm m (itB fun q ↦ rowB b ((0 : Nat) + q))))))))) (List.length (tS (listW (itW (row9 (wfun (dl m (itB fun q ↦ rowB b ((0 : Nat) + q)))))) (List.length (dl m (itB fun q ↦ rowB b ((0 : Nat) + q))))) (listW (itW (row9 (wfun (dm m (itB fun q ↦ rowB b ((0 : Nat) + q)))))) (List.length (dm m (itB fun q ↦ rowB b ((0 : Nat) + q))))))))))] [AB.row false m (1 : Nat) (rowB b) (5 : TypeId)]) else Res.out Ex.ret [AV.v (Value.bool false)] [AB.row false m (1 : Nat) (rowB b) (5 : TypeId)] else needs [chk ([AV.own (1 : Nat) (List.length (dl m (itB fun q ↦ rowB b ((0 : Nat) + q)))), AV.own (2 : Nat) (List.length (dm m (itB fun q ↦ rowB b ((0 : Nat) + q)))), AV.sl (3 : Nat) (9 : Nat) (0 : Nat) (0 : Nat) (List.length (tS (listW (itW (row9 (wfun (dl m (itB fun q ↦ rowB b ((0 : Nat) + q)))))) (List.length (dl m (itB fun q ↦ rowB b ((0 : Nat) + q))))) (listW (itW (row9 (wfun (dm m (itB fun q ↦ rowB b ((0 : Nat) + q)))))) (List.length (dm m (itB fun q ↦ rowB b ((0 : Nat) + q))))))) (some (List.length (tS (listW (itW (row9 (wfun (dl m (itB fun q ↦ rowB b ((0 : Nat) + q)))))) (List.length (dl m (itB fun q ↦ rowB b ((0 : Nat) + q))))) (listW (itW (row9 (wfun (dm m (itB fun q ↦ rowB b ((0 : Nat) + q)))))) (List.length (dm m (itB fun q ↦ rowB b ((0 : Nat) + q)))))))), AV.v (Value.int IntKind.i64 (0 : Int))] = stFM n k j (0 : Nat) ∧ Hsim [AB.row false m (1 : Nat) (rowB b) (5 : TypeId), AB.row true (List.length (dl m (itB fun q ↦ rowB b ((0 : Nat) + q)))) (9 : Nat) (row9 (wfun (dl m (itB fun q ↦ rowB b ((0 : Nat) + q))))) (58 : TypeId), AB.row true (List.length (dm m (itB fun q ↦ rowB b ((0 : Nat) + q)))) (9 : Nat) (row9 (wfun (dm m (itB fun q ↦ rowB b ((0 : Nat) + q))))) (58 : TypeId), AB.row false (List.length (tS (listW (itW (row9 (wfun (dl m (itB fun q ↦ rowB b ((0 : Nat) + q)))))) (List.length (dl m (itB fun q ↦ rowB b ((0 : Nat) + q))))) (listW (itW (row9 (wfun (dm m (itB fun q ↦ rowB b ((0 : Nat) + q)))))) (List.length (dm m (itB fun q ↦ rowB b ((0 : Nat) + q))))))) (9 : Nat) (row9 (wfun (tS (listW (itW (row9 (wfun (dl m (itB fun q ↦ rowB b ((0 : Nat) + q)))))) (List.length (dl m (itB fun q ↦ rowB b ((0 : Nat) + q))))) (listW (itW (row9 (wfun (dm m (itB fun q ↦ rowB b ((0 : Nat) + q)))))) (List.length (dm m (itB fun q ↦ rowB b ((0 : Nat) + q)))))))) (58 : TypeId)] (hpFM m b n f k g j h)), Nat.ble ((0 : Nat) + j) j, allW j fun q ↦ row9 h ((0 : Nat) + q), decide (j ≤ (549755813888 : Nat))] (Res.out Ex.ret [AV.v (Value.bool (okd (listW (itW fun q ↦ row9 h ((0 : Nat) + q)) j)))] [AB.row false m (1 : Nat) (rowB b) (5 : TypeId)]))) := by kernel_rfl

end Go.Proofs.Ytakimbknciffnaa

/- FnDesignTimes returns true, whatever the bytes are. Conditions: bytes. -/
namespace Go.Proofs.Ytakimbknciffnaa
open Go.RowKit
set_option maxRecDepth 100000

theorem gmFM_ok : GamOk Try.prog (gmFM daV daOk prF okM) := ext_ok (ext_ok g0_ok ok_DAI) ok_ctI
theorem gmLTm_ok : GamOk Try.prog (gmLTm (fun m b => (bTwo m b).1) (fun m b => (bTwo m b).2) yesTm tmL eqL okD) := by
  refine ext_ok (ext_ok (ext_ok (ext_ok (ext_ok g0_ok ok_drTm) ok_UTm) ok_tmS) ok_sameW) ?_
  rw [FdvO_eq]
  exact ok_dvI
theorem tmL_len (A B : List Wh) : (tmL A B).length ≤ 12 := by
  cases h : yesTm A B with
  | true => exact okD_len (tidy_okD (tm_spec h).1)
  | false => rw [tmL_no h]; exact Nat.zero_le _
theorem sumFM (m : Nat) (b : Nat → Int) (A B : List Wh) (hA : A.length ≤ 12) (hB : B.length ≤ 12) (hy : yesTm A B = true) :
    SumOk Try.prog 1 (.block 0 (.loop (loopAt 0 fFM))) (atS 104 (lvFM .normal) 1 (stFM A.length B.length (tmL A B).length 0) (hpFM m b A.length (wfun A) B.length (wfun B) (tmL A B).length (wfun (tmL A B))) (fun K => K .normal (mkT 0 104 [(5, .sl 1 9 0 0 (tmL A B).length (some (tmL A B).length))]) [.row false m 1 (rowB b) 5, .row false (tmL A B).length 9 (row9 (wfun (tmL A B))) 58])) := by
  refine for_at gmFM_ok (n := 100) (m := 1) (lv := lvFM) (fun i => stFM A.length B.length (tmL A B).length i) (fun _ => hpFM m b A.length (wfun A) B.length (wfun B) (tmL A B).length (wfun (tmL A B))) (fun _ => True) 4 (fun _ => noLam) (lv3_ris rfl rfl rfl) (Nat.le_refl _) trivial fun K Q hk i _ hi => ⟨noLam_ok _ _ _, ?_⟩
  rw [rndFM]
  have hT := tmL_len A B
  simp only [row0, daOk_row, daV_row]
  refine good_cond (fun c1 => ?_) fun c1 => ?_
  · have c1 := of_decide_eq_true c1
    have c1' : i < 4 := by omega
    have e1 : IntKind.wrap IntKind.i64 (7 * (i : Int) + 7) = 7 * ((i + 1 : Nat) : Int) := by rw [wr_in (by omega)]; omega
    rw [e1]
    have nx : GoodQ (.out .normal [AV.own 1 A.length, AV.own 2 B.length, AV.sl 3 9 0 0 (tmL A B).length (some (tmL A B).length), AV.v (Value.int IntKind.i64 (7 * ((i + 1 : Nat) : Int)))] (hpFM m b A.length (wfun A) B.length (wfun B) (tmL A B).length (wfun (tmL A B)))) (RoundV 104 0 lvFM (fun i => stFM A.length B.length (tmL A B).length i) (fun _ => hpFM m b A.length (wfun A) B.length (wfun B) (tmL A B).length (wfun (tmL A B))) (fun s' => s' = i + 1 ∧ i < 4 ∧ True) K Q) := good_out ⟨i + 1, ⟨rfl, c1', trivial⟩, rfl, Hsim.refl _⟩
    refine good_needs (by simp only [ob_cons, ob_nil, and_true, decide_eq_true_eq, Nat.ble_eq, allW_row, true_and]; omega) (good_cond (fun h1 => good_cond (fun h2 => good_cond (fun h3 => good_cond (fun h4 => good_cond (fun q => ?_) fun _ => nx) fun _ => nx) fun _ => nx) fun _ => nx) fun _ => nx)
    refine (not_eq8 (fun k hk => ?_) q).elim
    rw [(da_list h3).2.2.1 k hk, (tm_spec hy).2 _ k hk, prF_exact h4 k hk]
    exact (mul_congr (fun j hj => by rw [w8_at _ j hj, (da_list h1).2.2.1 j hj]) (fun j hj => by rw [w8_at _ j hj, (da_list h2).2.2.1 j hj]) k).symm
  · have c1 := of_decide_eq_false c1
    have : i = 4 := by omega
    subst this
    refine good_out ⟨_, Hsim.refl _, ?_⟩
    rw [if_pos rfl]
    exact hk

theorem yes_dtm (m : Nat) (b : Nat → Int) (_ : m ≤ 9223372036854775807) (hb : okB m (rowB b) = true) : ∃ Γ n Λ, GamOk Try.prog Γ ∧ (∀ cc, fFM.body = some cc → LamOk Try.prog 1 Λ cc) ∧ GoodQ (execF Try.prog Γ Λ n fFM [.sl 0 1 0 0 m none] [.row false m 1 (rowB b) 5] (packK 1)) SaysYes := by
  obtain ⟨l1, l2⟩ := bTwo_len m b
  have main : ∀ A' B' : List Wh, (yesTm (bTwo m b).1 (bTwo m b).2 = true → A' = (bTwo m b).1 ∧ B' = (bTwo m b).2) → GoodQ (execF Try.prog (gmLTm (fun m b => (bTwo m b).1) (fun m b => (bTwo m b).2) yesTm tmL eqL okD) (lamFM m b A'.length (wfun A') B'.length (wfun B') (tmL A' B').length (wfun (tmL A' B'))) 100 fFM [.sl 0 1 0 0 m none] [.row false m 1 (rowB b) 5] (packK 1)) SaysYes := by
    intro A' B' hL
    rw [lawTm]
    refine good_cond (fun _ => good_out rfl) fun c => ?_
    have c := of_decide_eq_false c
    have b21 : decide (m ≤ 2097152) = true := decide_eq_true (by omega)
    simp only [Nat.zero_add, itB_row]
    generalize (bTwo m b).1 = A at l1 hL ⊢
    generalize (bTwo m b).2 = B at l2 hL ⊢
    have ht := tmL_len A B
    have ht' := tmL_len A' B'
    have b39 : decide ((tmL A' B').length ≤ 549755813888) = true := decide_eq_true (by omega)
    simp only [hb, b21, b39, ble_me, allW_row, b38 l1, b38 l2, b38 ht, needs_t, needs_nil, beq_self_eq_true, Bool.not_true, cond_false, cond_true, listW_me, eqL_me]
    refine good_cond (fun _ => good_out rfl) fun h1 => ?_
    rw [Bool.not_eq_false'] at h1
    obtain ⟨rfl, rfl⟩ := hL h1
    refine good_needs ?_ (say (tidy_okD (tm_spec h1).1))
    simp only [ob_cons, ob_nil, and_true, true_and]
    exact chk_of ⟨rfl, Hsim.refl _⟩
  by_cases hy : yesTm (bTwo m b).1 (bTwo m b).2 = true
  · exact ⟨_, 100, _, gmLTm_ok, lam1 (by kernel_rfl) (sumFM m b (bTwo m b).1 (bTwo m b).2 l1 l2 hy), main _ _ fun _ => ⟨rfl, rfl⟩⟩
  · exact ⟨_, 100, _, gmLTm_ok, lam1 (by kernel_rfl) (sumFM m b [] [] (Nat.zero_le _) (Nat.zero_le _) (by decide +kernel)), main [] [] fun h => absurd h hy⟩

end Go.Proofs.Ytakimbknciffnaa

/- Points of products are products: FnDesignTimes returns true, whatever the bytes are, and they read as before. No conditions. -/
namespace Go.Proofs.Ytakimbknciffnaa
open Go.ChangeShapes Go.WideShapes Go.ChangeAt Go.RowKit

set_option maxRecDepth 100000 in
theorem dtm_lifted (os : Os) (started : os.Started) (H : Type) (enc : TypeId × Value → H) :
    ReturnsInHanded {} Try.checked os 11 .any (Rows.fnDesignTimesSpec.pre6 enc Try.prog Try.f11 Rows.fnDesignTimesRow.domain false) (Rows.fnDesignTimesSpec.post enc Try.prog Try.f11 false true false false) := by
  refine returnsInHanded_of_change (C := Try.checked) own started (by kernel_rfl) Try.func11
    (ChangeSpec.witness6 (enc := enc) (C := Try.checked) false ⟨#[], #[.slice none 0 0], []⟩ 8 (by kernel_rfl) (by kernel_rfl) (by kernel_rfl) (by kernel_rfl)) ?_
  intro W base args ds gs before hval hW _ _
  exact contractB (spec := Rows.fnDesignTimesSpec) Try.func11 rfl rfl rfl (fun _ _ => rfl) (fun m b hm hb => yes_dtm m b hm hb) H enc W base args ds gs before hval hW

set_option maxRecDepth 100000 in
theorem dtm_f1 : Rows.fnDesignTimesRow.wf (OpenSpec.ofChange Rows.fnDesignTimesSpec) = true := by kernel_rfl
set_option maxRecDepth 100000 in
theorem dtm_f2 : (Rows.fnDesignTimesRow.inPlace == Try.prog.inPlace 11) = true := by kernel_rfl
set_option maxRecDepth 100000 in
theorem dtm_f3 : (Rows.fnDesignTimesRow.unfollowed == Try.prog.unfollowed 11) = true := by kernel_rfl
set_option maxRecDepth 100000 in
theorem dtm_f4 : (Rows.fnDesignTimesRow.recurses == Try.prog.recurses 11) = true := by kernel_rfl
set_option maxRecDepth 100000 in
theorem dtm_f5 : (Rows.fnDesignTimesRow.named == Try.prog.varsNamed 11) = true := by kernel_rfl
set_option maxRecDepth 100000 in
theorem dtm_f6 : Try.prog.funcNamed Rows.fnDesignTimesRow.func = some 11 := by kernel_rfl
theorem dtm_f7 : (Rows.fnDesignTimesRow.lifted == Try.prog.liftsFinal) = true := jfG
theorem dtm_f8 : (Try.prog.make == some Rows.fnDesignTimesRow.make) = true := jfH
theorem dtm_f9 : (Rows.fnDesignTimesRow.plainKeys == Try.prog.plainKeys) = true := jfI
set_option maxRecDepth 100000 in
theorem dtm_joined : joinedFacts Try.prog 11 Try.f11 Rows.fnDesignTimesSpec Rows.fnDesignTimesRow = true := by
  unfold joinedFacts
  rw [jfA, jfB, jfC, jfD, jfE, jfF, dtm_f1, dtm_f2, dtm_f3, dtm_f4, dtm_f5, dtm_f7, dtm_f8, dtm_f9]
  kernel_rfl

theorem dtm_holds : Rows.FnDesignTimesSaid :=
  OpenClaim.holds_of_wide 11 Try.f11 rfl rfl rfl rfl rfl rfl rfl ⟨rfl, rfl, rfl, rfl, rfl⟩ rfl rfl rfl rfl rfl dtm_f6 Try.func11 dtm_joined
    (of_decide_eq_true (by kernel_rfl)) (by unfold Func.isWrapper; first | (rw [if_pos (by decide +kernel)]; kernel_rfl) | (rw [if_neg (by decide +kernel)]; exact ⟨rfl, rfl⟩))
    (fun os started H enc _ => dtm_lifted os started H enc)
#print axioms dtm_holds
end Go.Proofs.Ytakimbknciffnaa
