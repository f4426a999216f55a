/- DesignAkin of the program and of the reference return the same, for whatever two lists: FnExactDesignAkin returns true, and its arguments read as before. No conditions. -/
import Derived.Test.YtmdcafhnjihckaaZD0
import Derived.Test.YtmdcafhnjihckaaZD1
import Derived.Test.YtmdcafhnjihckaaZD2
import Derived.Test.YtmdcafhnjihckaaZD3
import Derived.Test.YtmdcafhnjihckaaZD4
import Derived.Test.YtmdcafhnjihckaaZD5
import Derived.Test.YtmdcafhnjihckaaZD6
import Derived.Test.YtmdcafhnjihckaaZE0
import Derived.Test.YtmdcafhnjihckaaZE1
import Derived.Test.YtmdcafhnjihckaaZE2
/- A list of wheels that came in. No conditions. -/
namespace Go.Proofs.Ytmdcafhnjihckaa
open Go.ChangeShapes Go.WideShapes Go.ChangeAt Go.RowKit Go.Deep
set_option maxRecDepth 100000

section
variable {H : Type} {enc : TypeId × Value → H} {W : World}
theorem cyc_elemL (n : Nat) (cs : List Value) (x : DataW H × List MemPlace) (hl : cs.length = 8) (h : DataW.trod enc Try.prog W 0 (fun _ => true) true n 107 cs = some x) :
    ∃ f : Nat → Int, cs = [i64 (f 0), i64 (f 1), i64 (f 2), i64 (f 3), i64 (f 4), i64 (f 5), i64 (f 6), i64 (f 7)] := by
  obtain ⟨xs, n', _, _, _, hlen, hg⟩ := DataW.trod_struct Try.underlying107 h
  have h0 : DataW.trod enc Try.prog W 0 (fun _ => true) true n' 29 ((cs.drop 0).take (Try.prog.cellsOf 29)) = xs[0]? := hg 0 _ rfl
  have hx0 : xs[0]? = some (xs[0]'(by rw [hlen]; decide)) := List.getElem?_eq_getElem _
  rw [hx0] at h0
  obtain ⟨ys, n2, _, _, _, hlen2, hg2⟩ := DataW.trod_array Try.underlying29 h0
  have c44 : Try.prog.cellsOf 29 = 8 := by kernel_rfl
  have c3 : Try.prog.cellsOf 3 = 1 := by kernel_rfl
  simp only [c44, c3, List.drop_zero, Nat.mul_one, List.take_of_length_le (Nat.le_of_eq hl)] at hg2
  have each : ∀ i, i < 8 → ∃ k, (cs.drop i).take 1 = [i64 k] := by
    intro i hi
    have h1 := hg2 i hi
    have hy : ys[i]? = some (ys[i]'(by omega)) := List.getElem?_eq_getElem _
    rw [hy] at h1
    obtain ⟨k, e1, _, _⟩ := DataW.trod_int Try.underlying3 h1
    exact ⟨k, e1⟩
  match cs, hl with
  | [c0, c1, c2, c3, c4, c5, c6, c7], _ =>
    obtain ⟨k0, e0⟩ := each 0 (by omega)
    obtain ⟨k1, e1⟩ := each 1 (by omega)
    obtain ⟨k2, e2⟩ := each 2 (by omega)
    obtain ⟨k3, e3⟩ := each 3 (by omega)
    obtain ⟨k4, e4⟩ := each 4 (by omega)
    obtain ⟨k5, e5⟩ := each 5 (by omega)
    obtain ⟨k6, e6⟩ := each 6 (by omega)
    obtain ⟨k7, e7⟩ := each 7 (by omega)
    simp at e0 e1 e2 e3 e4 e5 e6 e7
    subst e0 e1 e2 e3 e4 e5 e6 e7
    exact ⟨v8 k0 k1 k2 k3 k4 k5 k6 k7, rfl⟩
theorem wheel_elem (n : Nat) (cs : List Value) (x : DataW H × List MemPlace) (hl : cs.length = 9) (h : DataW.trod enc Try.prog W 0 (fun _ => true) true n 109 cs = some x) :
    ∃ f : Nat → Int, True ∧ cs = [i64 (f 0), i64 (f 1), i64 (f 2), i64 (f 3), i64 (f 4), i64 (f 5), i64 (f 6), i64 (f 7), i64 (f 8)] := by
  obtain ⟨xs, n', _, _, _, hlen, hg⟩ := DataW.trod_struct Try.underlying109 h
  have h0 : DataW.trod enc Try.prog W 0 (fun _ => true) true n' 3 ((cs.drop 0).take (Try.prog.cellsOf 3)) = xs[0]? := hg 0 _ rfl
  have h1 : DataW.trod enc Try.prog W 0 (fun _ => true) true n' 107 ((cs.drop 1).take (Try.prog.cellsOf 107)) = xs[1]? := hg 1 _ rfl
  have c3 : Try.prog.cellsOf 3 = 1 := by kernel_rfl
  have c8 : Try.prog.cellsOf 107 = 8 := by kernel_rfl
  have hx0 : xs[0]? = some (xs[0]'(by rw [hlen]; decide)) := List.getElem?_eq_getElem _
  have hx1 : xs[1]? = some (xs[1]'(by rw [hlen]; decide)) := List.getElem?_eq_getElem _
  rw [hx0, c3] at h0
  rw [hx1, c8] at h1
  obtain ⟨k, e0, _, _⟩ := DataW.trod_int Try.underlying3 h0
  match cs, hl with
  | [c0, c1, c2, c3, c4, c5, c6, c7, c8], _ =>
    obtain ⟨f, ef⟩ := cyc_elemL _ _ _ (by simp) h1
    simp at e0 ef
    obtain ⟨rfl, rfl, rfl, rfl, rfl, rfl, rfl, rfl⟩ := ef
    subst e0
    exact ⟨whN ⟨k, ⟨f 0, f 1, f 2, f 3, f 4, f 5, f 6, f 7⟩⟩, trivial, rfl⟩
end

/-- A law over a list of wheels: what it comes to, whatever came in. -/
theorem contractW {f : FuncId} {fn : Func} {spec : ChangeSpec} (hf : Try.prog.funcs[f]? = some fn) (hp : fn.params = #[63]) (hr : fn.resultTypes = #[4]) (hvars : spec.vars = []) (hspec : ∀ (H : Type) (d : DataW H), spec.fn H [d] = { results := [.lit (.bool true)], args := [d] })
    (yes : ∀ (m : Nat) (a : Nat → Nat → Int), m ≤ 9223372036854775807 → ∃ Γ n, GamOk Try.prog Γ ∧ GoodQ (execF Try.prog Γ noLam n fn [.sl 0 9 0 0 m none] [.row false m 9 (row9 a) 46] (packK 1)) SaysYes)
    (H : Type) (enc : TypeId × Value → H) (W : World) (base : Nat) (args : Array Value) (ds gs : List (DataW H)) (before : List MemPlace)
    (hval : ∀ (j : Nat) t v, fn.params[j]? = some t → args[j]? = some v → Value.okWide Try.prog W .any base t v)
    (hW : DataW.Whole enc Try.prog fn.params.toList spec.vars false W args.toList ds gs before) :
    Calls Try.prog f args W fun e W' => ∃ v, e = .returned v ∧ spec.post enc Try.prog fn false true false false W args v W' := by
  have hW' := hW
  obtain ⟨p, q, hA0, hV, rfl, hfz, hnd⟩ := hW
  have hA : DataW.TrodAll enc Try.prog W 0 (fun _ => true) true fn.params.toList args.toList ds p := hA0
  rw [hp] at hA hval
  rw [hvars] at hV
  obtain ⟨v0, vs0, d0, ds0, p0, q0, hargs, rfl, rfl, h0, r0⟩ := trodAll_cons hA
  obtain ⟨rfl, rfl, rfl⟩ := trodAll_nil r0
  obtain rfl : args = #[v0] := by cases args; simp_all
  obtain ⟨rfl, rfl⟩ := trodVars_none hV
  clear hA0 hA r0
  obtain ⟨m, ν, g, hm, _, hvr, hRH, hdom⟩ := arg_row (H := H) Try.underlying63 (by kernel_rfl) (by omega) (hval 0 63 v0 rfl rfl) h0 (fun f => [i64 (f 0), i64 (f 1), i64 (f 2), i64 (f 3), i64 (f 4), i64 (f 5), i64 (f 6), i64 (f 7), i64 (f 8)]) (fun _ => True) (fun f => ⟨rfl, by simp [Value.oneCell']⟩) wheel_elem 46
  obtain ⟨Γ, n, hΓ, hgood⟩ := yes m g hm
  have hcall := yes_calls hΓ (n := n) (vals := [v0]) (w := W) hf (Λ := noLam) (fun c _ => noLam_ok _ _ _) hgood (by simp only [VRs, and_true]; exact hvr) hRH hdom
  refine hcall.mono fun e W' ⟨he, hb⟩ => ?_
  subst he
  have hlt : ∀ x ∈ p0, x.block < W.heap.size := fun x hx => by simpa using hW'.lt x (by simpa using hx)
  refine ⟨_, rfl, post_below (pa := p0) (pv := []) hW' ?_ ?_ ?_ (by simp) hb ?_⟩
  · intro b sp hd
    rw [hr]
    simp only [List.append_nil, hspec]
    exact trodAll_cons_mk (shut_bool Try.underlying4 _) trodAll_mk0
  · intro sp hsp
    rw [hp]
    simp only [List.append_nil, hspec]
    refine trodAll_mk1 (WideElems.Trod_stays laidOut (by kernel_rfl) (of_decide_eq_true (by kernel_rfl)) h0 (fun x hx => hb.same (hlt x hx)) fun x hx => hsp x (by simpa using hx))
  · intro sp _
    rw [hvars]
    simp only [List.append_nil, hspec]
    rfl
  · exact ok_one hr rfl (okWide_bool_mk Try.underlying4 _)

end Go.Proofs.Ytmdcafhnjihckaa

/- A law on a list of wheels and another one. No conditions. -/
namespace Go.Proofs.Ytmdcafhnjihckaa
open Go.ChangeShapes Go.WideShapes Go.ChangeAt Go.RowKit Go.Deep
set_option maxRecDepth 100000

/-- A law over two lists of wheels: what it comes to, whatever came in. -/
theorem contractWW {f : FuncId} {fn : Func} {spec : ChangeSpec} (hf : Try.prog.funcs[f]? = some fn) (hp : fn.params = #[63, 63]) (hr : fn.resultTypes = #[4]) (hvars : spec.vars = []) (hspec : ∀ (H : Type) (d d' : DataW H), spec.fn H [d, d'] = { results := [.lit (.bool true)], args := [d, d'] })
    (yes : ∀ (m : Nat) (a : Nat → Nat → Int) (n : Nat) (b : Nat → Nat → Int), m ≤ 9223372036854775807 → n ≤ 9223372036854775807 → ∃ Γ k, GamOk Try.prog Γ ∧ GoodQ (execF Try.prog Γ noLam k fn [.sl 0 9 0 0 m none, .sl 1 9 0 0 n none] [.row false m 9 (row9 a) 46, .row false n 9 (row9 b) 46] (packK 2)) SaysYes)
    (H : Type) (enc : TypeId × Value → H) (W : World) (base : Nat) (args : Array Value) (ds gs : List (DataW H)) (before : List MemPlace)
    (hval : ∀ (j : Nat) t v, fn.params[j]? = some t → args[j]? = some v → Value.okWide Try.prog W .any base t v)
    (hW : DataW.Whole enc Try.prog fn.params.toList spec.vars false W args.toList ds gs before) :
    Calls Try.prog f args W fun e W' => ∃ v, e = .returned v ∧ spec.post enc Try.prog fn false true false false W args v W' := by
  have hW' := hW
  obtain ⟨p, q, hA0, hV, rfl, hfz, hnd⟩ := hW
  have hA : DataW.TrodAll enc Try.prog W 0 (fun _ => true) true fn.params.toList args.toList ds p := hA0
  rw [hp] at hA hval
  rw [hvars] at hV
  obtain ⟨v0, v1, d0, d1, p0, p1, rfl, rfl, rfl, h0, h1⟩ := trodAll_two hA
  obtain ⟨rfl, rfl⟩ := trodVars_none hV
  clear hA0 hA
  obtain ⟨m, ν, g, hm, _, hvr, hRH, hdom⟩ := arg_row (H := H) Try.underlying63 (by kernel_rfl) (by omega) (hval 0 63 v0 rfl rfl) h0 (fun f => [i64 (f 0), i64 (f 1), i64 (f 2), i64 (f 3), i64 (f 4), i64 (f 5), i64 (f 6), i64 (f 7), i64 (f 8)]) (fun _ => True) (fun f => ⟨rfl, by simp [Value.oneCell']⟩) wheel_elem 46
  obtain ⟨n, ν2, g2, hn, _, hvr2, hRH2, hdom2⟩ := arg_row (H := H) Try.underlying63 (by kernel_rfl) (by omega) (hval 1 63 v1 rfl rfl) h1 (fun f => [i64 (f 0), i64 (f 1), i64 (f 2), i64 (f 3), i64 (f 4), i64 (f 5), i64 (f 6), i64 (f 7), i64 (f 8)]) (fun _ => True) (fun f => ⟨rfl, by simp [Value.oneCell']⟩) wheel_elem 46
  obtain ⟨Γ, k, hΓ, hgood⟩ := yes m g n g2 hm hn
  have hb0 : ∀ i, BR (fun i => if i = 0 then ν 0 else if i = 1 then ν2 0 else none) i (([.row false m 9 (row9 g) 46, .row false n 9 (row9 g2) 46] : List AB).getD i .gone) W := by
    intro i
    match i with
    | 0 => exact hRH.br 0
    | 1 => exact hRH2.br 0
    | i + 2 => trivial
  have hw0 : ∀ i, ((([.row false m 9 (row9 g) 46, .row false n 9 (row9 g2) 46] : List AB).getD i .gone).wr = true) → False := by
    intro i hw
    match i with
    | 0 => cases hw
    | 1 => cases hw
    | i + 2 => cases hw
  have hl0 : ∀ i b, (if i = 0 then ν 0 else if i = 1 then ν2 0 else none) = some b → b.n < W.heap.size ∧ i < 2 := by
    intro i b hb
    match i with
    | 0 => exact ⟨hRH.lt 0 b (by simpa using hb), by omega⟩
    | 1 => exact ⟨hRH2.lt 0 b (by simpa using hb), by omega⟩
    | i + 2 => simp at hb
  have hcall := yes_calls hΓ (n := k) (vals := [v0, v1]) (w := W) (ν := fun i => if i = 0 then ν 0 else if i = 1 then ν2 0 else none) hf (Λ := noLam) (fun c _ => noLam_ok _ _ _) hgood
    (by
      simp only [VRs, VR, and_true] at hvr hvr2 ⊢
      exact ⟨by simpa using hvr, by simpa using hvr2⟩)
    ⟨hb0, fun i j b b' _ hw => (hw0 i hw).elim, fun i b hw => (hw0 i hw).elim, fun i b hb => (hl0 i b hb).1⟩ (fun i b hb => (hl0 i b hb).2)
  refine hcall.mono fun e W' ⟨he, hb⟩ => ?_
  subst he
  have hlt : ∀ x ∈ (p0 ++ p1), x.block < W.heap.size := fun x hx => by simpa using hW'.lt x (by simpa using hx)
  refine ⟨_, rfl, post_below (pa := (p0 ++ p1)) (pv := []) hW' ?_ ?_ ?_ (by simp) hb ?_⟩
  · intro b sp hd
    rw [hr]
    simp only [List.append_nil, hspec]
    exact trodAll_cons_mk (shut_bool Try.underlying4 _) trodAll_mk0
  · intro sp hsp
    rw [hp]
    simp only [List.append_nil, hspec]
    refine trodAll_mk2 (WideElems.Trod_stays laidOut (by kernel_rfl) (of_decide_eq_true (by kernel_rfl)) h0 (fun x hx => hb.same (hlt x (by simp [hx]))) fun x hx => hsp x (by simp [hx])) (WideElems.Trod_stays laidOut (by kernel_rfl) (of_decide_eq_true (by kernel_rfl)) h1 (fun x hx => hb.same (hlt x (by simp [hx]))) fun x hx => hsp x (by simp [hx]))
  · intro sp _
    rw [hvars]
    simp only [List.append_nil, hspec]
    rfl
  · exact ok_one hr rfl (okWide_bool_mk Try.underlying4 _)

end Go.Proofs.Ytmdcafhnjihckaa

/- FnExactDesignAkin: the whole. Conditions: two lists of wheels. -/
namespace Go.Proofs.Ytmdcafhnjihckaa
open Go.RowKit
set_option maxRecDepth 100000

theorem lawXa (nn : List Wh → List Wh → Int) (yes : List Wh → List Wh → Bool) (m : Nat) (f : Nat → Nat → Int) (t : TypeId) (n : Nat) (g : Nat → Nat → Int) (t2 : TypeId) : execF Try.prog (ext (ext gmH 40 (specR md_eqWS (FakV nn yes))) 39 (specR md_eqWS (FakV nn yes))) noLam 100 Try.f10 [.sl 0 9 0 0 m none, .sl 1 9 0 0 n none] [.row false m 9 (row9 f) t, .row false n 9 (row9 g) t2] (packK 2)
    = bif decide (IntKind.wrap IntKind.i64 ((1048576 : Int) - (↑m : Int)) < (0 : Int)) then Res.out Ex.ret [AV.v (Value.bool true)] [AB.row false m (9 : Nat) (row9 f) t, AB.row false n (9 : Nat) (row9 g) t2] else bif decide (IntKind.wrap IntKind.i64 ((1048576 : Int) - (↑m : Int)) < (0 : Int)) then Res.out Ex.ret [AV.v (Value.bool true)] [AB.row false m (9 : Nat) (row9 f) t, AB.row false n (9 : Nat) (row9 g) t2] else bif decide (IntKind.wrap IntKind.i64 (IntKind.wrap IntKind.i64 ((1048576 : Int) - (↑m : Int)) - (↑n : Int)) < (0 : Int)) then Res.out Ex.ret [AV.v (Value.bool true)] [AB.row false m (9 : Nat) (row9 f) t, AB.row false n (9 : Nat) (row9 g) t2] else bif decide (IntKind.wrap IntKind.i64 (IntKind.wrap IntKind.i64 ((1048576 : Int) - (↑m : Int)) - (↑n : Int)) < (0 : Int)) then Res.out Ex.ret [AV.v (Value.bool true)] [AB.row false m (9 : Nat) (row9 f) t, AB.row false n (9 : Nat) (row9 g) t2] else needs [Nat.ble ((0 : Nat) + m) m, allW m fun q ↦ row9 f ((0 : Nat) + q), decide (m ≤ (549755813888 : Nat)), Nat.ble ((0 : Nat) + n) n, allW n fun q ↦ row9 g ((0 : Nat) + q), decide (n ≤ (549755813888 : Nat)), Nat.ble m m, Nat.ble n n, allW m (row9 (itW fun q ↦ row9 f ((0 : Nat) + q))), allW n (row9 (itW fun q ↦ row9 g ((0 : Nat) + q))), decide (m ≤ (274877906944 : Nat)), decide (n ≤ (274877906944 : Nat)), Nat.ble ((0 : Nat) + m) m, allW m fun q ↦ row9 f ((0 : Nat) + q), decide (m ≤ (549755813888 : Nat)), Nat.ble ((0 : Nat) + n) n, allW n fun q ↦ row9 g ((0 : Nat) + q), decide (n ≤ (549755813888 : Nat)), Nat.ble m m, Nat.ble n n, allW m (row9 (itW fun q ↦ row9 f ((0 : Nat) + q))), allW n (row9 (itW fun q ↦ row9 g ((0 : Nat) + q))), decide (m ≤ (274877906944 : Nat)), decide (n ≤ (274877906944 : Nat))] (bif nn (listW (itW (row9 (itW fun q ↦ row9 f ((0 : Nat) + q)))) m) (listW (itW (row9 (itW fun q ↦ row9 g ((0 : Nat) + q)))) n) != nn (listW (itW (row9 (itW fun q ↦ row9 f ((0 : Nat) + q)))) m) (listW (itW (row9 (itW fun q ↦ row9 g ((0 : Nat) + q)))) n) then Res.out Ex.ret [AV.v (Value.bool false)] [AB.row false m (9 : Nat) (row9 f) t, AB.row false n (9 : Nat) (row9 g) t2] else bif !yes (listW (itW (row9 (itW fun q ↦ row9 f ((0 : Nat) + q)))) m) (listW (itW (row9 (itW fun q ↦ row9 g ((0 : Nat) + q)))) n) == yes (listW (itW (row9 (itW fun q ↦ row9 f ((0 : Nat) + q)))) m) (listW (itW (row9 (itW fun q ↦ row9 g ((0 : Nat) + q)))) n) then Res.out Ex.ret [AV.v (Value.bool false)] [AB.row false m (9 : Nat) (row9 f) t, AB.row false n (9 : Nat) (row9 g) t2] else needs [Nat.ble ((0 : Nat) + m) m, allW m fun q ↦ row9 f ((0 : Nat) + q), decide (m ≤ (549755813888 : Nat)), Nat.ble m m, Nat.ble m m, Nat.beq m m, allW m (row9 (itW fun q ↦ row9 f ((0 : Nat) + q))), allW m (row9 (itW fun q ↦ row9 f ((0 : Nat) + q))), sameW m (itW (row9 (itW fun q ↦ row9 f ((0 : Nat) + q)))) (itW (row9 (itW fun q ↦ row9 f ((0 : Nat) + q)))), decide (m ≤ (1099511627776 : Nat)), Nat.ble ((0 : Nat) + n) n, allW n fun q ↦ row9 g ((0 : Nat) + q), decide (n ≤ (549755813888 : Nat)), Nat.ble n n, Nat.ble n n, Nat.beq n n, allW n (row9 (itW fun q ↦ row9 g ((0 : Nat) + q))), allW n (row9 (itW fun q ↦ row9 g ((0 : Nat) + q))), sameW n (itW (row9 (itW fun q ↦ row9 g ((0 : Nat) + q)))) (itW (row9 (itW fun q ↦ row9 g ((0 : Nat) + q)))), decide (n ≤ (1099511627776 : Nat))] (Res.out Ex.ret [AV.v (Value.bool true)] [AB.row false m (9 : Nat) (row9 f) t, AB.row false n (9 : Nat) (row9 g) t2])) := by kernel_rfl

theorem yes_xak (m : Nat) (f : Nat → Nat → Int) (t : TypeId) (n : Nat) (g : Nat → Nat → Int) (t2 : TypeId) (hm : m ≤ 9223372036854775807) (hn : n ≤ 9223372036854775807) : ∃ Γ, GamOk Try.prog Γ ∧ GoodQ (execF Try.prog Γ noLam 100 Try.f10 [.sl 0 9 0 0 m none, .sl 1 9 0 0 n none] [.row false m 9 (row9 f) t, .row false n 9 (row9 g) t2] (packK 2)) SaysYes := by
  have e1 : IntKind.wrap IntKind.i64 ((1048576 : Int) - (m : Int)) = 1048576 - m := wr_in (by omega)
  refine ⟨_, ext_ok (ext_ok gmH_ok ok_akS) ok_akI, ?_⟩
  rw [lawXa]
  by_cases hb : m ≤ 1048576
  · have c1 : decide ((1048576 : Int) - m < 0) = false := decide_eq_false (by omega)
    have e2 : IntKind.wrap IntKind.i64 ((1048576 : Int) - (m : Int) - (n : Int)) = 1048576 - m - n := wr_in (by omega)
    by_cases hb2 : m + n ≤ 1048576
    · have c2 : decide ((1048576 : Int) - m - n < 0) = false := decide_eq_false (by omega)
      have b40 : decide (m ≤ 1099511627776) = true := decide_eq_true (by omega)
      have b39 : decide (m ≤ 549755813888) = true := decide_eq_true (by omega)
      have b38 : decide (m ≤ 274877906944) = true := decide_eq_true (by omega)
      have a40 : decide (n ≤ 1099511627776) = true := decide_eq_true (by omega)
      have a39 : decide (n ≤ 549755813888) = true := decide_eq_true (by omega)
      have a38 : decide (n ≤ 274877906944) = true := decide_eq_true (by omega)
      simp only [row9_itW, listW_itW, e1, e2, c1, c2, b40, b39, b38, a40, a39, a38, allW_row, sameW_self, ble_me, beq_me, needs_t, needs_nil, cond_false, Nat.zero_add, bne_self_eq_false, beq_self_eq_true, Bool.not_true]
      exact good_out rfl
    · rw [e1, e2, c1, show decide ((1048576 : Int) - m - n < 0) = true from decide_eq_true (by omega)]
      exact good_out rfl
  · rw [e1, show decide ((1048576 : Int) - m < 0) = true from decide_eq_true (by omega)]
    exact good_out rfl

end Go.Proofs.Ytmdcafhnjihckaa

/- DesignAkin of the program and of the reference return the same, for whatever two lists: FnExactDesignAkin returns true, and its arguments read as before. No conditions. -/
namespace Go.Proofs.Ytmdcafhnjihckaa
open Go.ChangeShapes Go.WideShapes Go.ChangeAt Go.RowKit

set_option maxRecDepth 100000 in
theorem xak_lifted (os : Os) (started : os.Started) (H : Type) (enc : TypeId × Value → H) :
    ReturnsInHanded {} Try.checked os 10 .any (Rows.fnExactDesignAkinSpec.pre6 enc Try.prog Try.f10 Rows.fnExactDesignAkinRow.domain false) (Rows.fnExactDesignAkinSpec.post enc Try.prog Try.f10 false true false false) := by
  refine returnsInHanded_of_change (C := Try.checked) own started (by kernel_rfl) Try.func10
    (ChangeSpec.witness6 (enc := enc) (C := Try.checked) false ⟨#[], #[.slice none 0 0, .slice none 0 0], []⟩ 8 (by kernel_rfl) (by kernel_rfl) (by kernel_rfl) (by kernel_rfl)) ?_
  intro W base args ds gs before hval hW _ _
  exact contractWW (spec := Rows.fnExactDesignAkinSpec) Try.func10 rfl rfl rfl (fun _ _ _ => rfl) (fun m a n b hm hn => (yes_xak m a 46 n b 46 hm hn).elim fun Γ h => ⟨Γ, 100, h⟩) H enc W base args ds gs before hval hW

set_option maxRecDepth 100000 in
theorem xak_f1 : Rows.fnExactDesignAkinRow.wf (OpenSpec.ofChange Rows.fnExactDesignAkinSpec) = true := by kernel_rfl
set_option maxRecDepth 100000 in
theorem xak_f2 : (Rows.fnExactDesignAkinRow.inPlace == Try.prog.inPlace 10) = true := by kernel_rfl
set_option maxRecDepth 100000 in
theorem xak_f3 : (Rows.fnExactDesignAkinRow.unfollowed == Try.prog.unfollowed 10) = true := by kernel_rfl
set_option maxRecDepth 100000 in
theorem xak_f4 : (Rows.fnExactDesignAkinRow.recurses == Try.prog.recurses 10) = true := by kernel_rfl
set_option maxRecDepth 100000 in
theorem xak_f5 : (Rows.fnExactDesignAkinRow.named == Try.prog.varsNamed 10) = true := by kernel_rfl
set_option maxRecDepth 100000 in
theorem xak_f6 : Try.prog.funcNamed Rows.fnExactDesignAkinRow.func = some 10 := by kernel_rfl
theorem xak_f7 : (Rows.fnExactDesignAkinRow.lifted == Try.prog.liftsFinal) = true := jfG
theorem xak_f8 : (Try.prog.make == some Rows.fnExactDesignAkinRow.make) = true := jfH
theorem xak_f9 : (Rows.fnExactDesignAkinRow.plainKeys == Try.prog.plainKeys) = true := jfI
set_option maxRecDepth 100000 in
theorem xak_joined : joinedFacts Try.prog 10 Try.f10 Rows.fnExactDesignAkinSpec Rows.fnExactDesignAkinRow = true := by
  unfold joinedFacts
  rw [jfA, jfB, jfC, jfD, jfE, jfF, xak_f1, xak_f2, xak_f3, xak_f4, xak_f5, xak_f7, xak_f8, xak_f9]
  kernel_rfl

theorem xak_holds : Rows.FnExactDesignAkinSaid :=
  OpenClaim.holds_of_wide 10 Try.f10 rfl rfl rfl rfl rfl rfl rfl ⟨rfl, rfl, rfl, rfl, rfl⟩ rfl rfl rfl rfl rfl xak_f6 Try.func10 xak_joined
    (of_decide_eq_true (by kernel_rfl)) (by unfold Func.isWrapper; first | (rw [if_pos (by decide +kernel)]; kernel_rfl) | (rw [if_neg (by decide +kernel)]; exact ⟨rfl, rfl⟩))
    (fun os started H enc _ => xak_lifted os started H enc)
#print axioms xak_holds
end Go.Proofs.Ytmdcafhnjihckaa
