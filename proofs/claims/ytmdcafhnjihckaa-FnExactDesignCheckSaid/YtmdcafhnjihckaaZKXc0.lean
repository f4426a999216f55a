/- DesignCheck of the program and of the reference return the same, for whatever list: FnExactDesignCheck returns true, and its argument reads as before. No conditions. -/
import Derived.Test.YtmdcafhnjihckaaZD0
import Derived.Test.YtmdcafhnjihckaaZD1
import Derived.Test.YtmdcafhnjihckaaZD2
import Derived.Test.YtmdcafhnjihckaaZD3
import Derived.Test.YtmdcafhnjihckaaZD4
import Derived.Test.YtmdcafhnjihckaaZD5
import Derived.Test.YtmdcafhnjihckaaZD6
/- A list of wheels that came in. No conditions. -/
namespace Go.Proofs.Ytmdcafhnjihckaa
open Go.ChangeShapes Go.WideShapes Go.ChangeAt Go.RowKit Go.Deep
set_option maxRecDepth 100000

section
variable {H : Type} {enc : TypeId × Value → H} {W : World}
theorem cyc_elemL (n : Nat) (cs : List Value) (x : DataW H × List MemPlace) (hl : cs.length = 8) (h : DataW.trod enc Try.prog W 0 (fun _ => true) true n 107 cs = some x) :
    ∃ f : Nat → Int, cs = [i64 (f 0), i64 (f 1), i64 (f 2), i64 (f 3), i64 (f 4), i64 (f 5), i64 (f 6), i64 (f 7)] := by
  obtain ⟨xs, n', _, _, _, hlen, hg⟩ := DataW.trod_struct Try.underlying107 h
  have h0 : DataW.trod enc Try.prog W 0 (fun _ => true) true n' 29 ((cs.drop 0).take (Try.prog.cellsOf 29)) = xs[0]? := hg 0 _ rfl
  have hx0 : xs[0]? = some (xs[0]'(by rw [hlen]; decide)) := List.getElem?_eq_getElem _
  rw [hx0] at h0
  obtain ⟨ys, n2, _, _, _, hlen2, hg2⟩ := DataW.trod_array Try.underlying29 h0
  have c44 : Try.prog.cellsOf 29 = 8 := by kernel_rfl
  have c3 : Try.prog.cellsOf 3 = 1 := by kernel_rfl
  simp only [c44, c3, List.drop_zero, Nat.mul_one, List.take_of_length_le (Nat.le_of_eq hl)] at hg2
  have each : ∀ i, i < 8 → ∃ k, (cs.drop i).take 1 = [i64 k] := by
    intro i hi
    have h1 := hg2 i hi
    have hy : ys[i]? = some (ys[i]'(by omega)) := List.getElem?_eq_getElem _
    rw [hy] at h1
    obtain ⟨k, e1, _, _⟩ := DataW.trod_int Try.underlying3 h1
    exact ⟨k, e1⟩
  match cs, hl with
  | [c0, c1, c2, c3, c4, c5, c6, c7], _ =>
    obtain ⟨k0, e0⟩ := each 0 (by omega)
    obtain ⟨k1, e1⟩ := each 1 (by omega)
    obtain ⟨k2, e2⟩ := each 2 (by omega)
    obtain ⟨k3, e3⟩ := each 3 (by omega)
    obtain ⟨k4, e4⟩ := each 4 (by omega)
    obtain ⟨k5, e5⟩ := each 5 (by omega)
    obtain ⟨k6, e6⟩ := each 6 (by omega)
    obtain ⟨k7, e7⟩ := each 7 (by omega)
    simp at e0 e1 e2 e3 e4 e5 e6 e7
    subst e0 e1 e2 e3 e4 e5 e6 e7
    exact ⟨v8 k0 k1 k2 k3 k4 k5 k6 k7, rfl⟩
theorem wheel_elem (n : Nat) (cs : List Value) (x : DataW H × List MemPlace) (hl : cs.length = 9) (h : DataW.trod enc Try.prog W 0 (fun _ => true) true n 109 cs = some x) :
    ∃ f : Nat → Int, True ∧ cs = [i64 (f 0), i64 (f 1), i64 (f 2), i64 (f 3), i64 (f 4), i64 (f 5), i64 (f 6), i64 (f 7), i64 (f 8)] := by
  obtain ⟨xs, n', _, _, _, hlen, hg⟩ := DataW.trod_struct Try.underlying109 h
  have h0 : DataW.trod enc Try.prog W 0 (fun _ => true) true n' 3 ((cs.drop 0).take (Try.prog.cellsOf 3)) = xs[0]? := hg 0 _ rfl
  have h1 : DataW.trod enc Try.prog W 0 (fun _ => true) true n' 107 ((cs.drop 1).take (Try.prog.cellsOf 107)) = xs[1]? := hg 1 _ rfl
  have c3 : Try.prog.cellsOf 3 = 1 := by kernel_rfl
  have c8 : Try.prog.cellsOf 107 = 8 := by kernel_rfl
  have hx0 : xs[0]? = some (xs[0]'(by rw [hlen]; decide)) := List.getElem?_eq_getElem _
  have hx1 : xs[1]? = some (xs[1]'(by rw [hlen]; decide)) := List.getElem?_eq_getElem _
  rw [hx0, c3] at h0
  rw [hx1, c8] at h1
  obtain ⟨k, e0, _, _⟩ := DataW.trod_int Try.underlying3 h0
  match cs, hl with
  | [c0, c1, c2, c3, c4, c5, c6, c7, c8], _ =>
    obtain ⟨f, ef⟩ := cyc_elemL _ _ _ (by simp) h1
    simp at e0 ef
    obtain ⟨rfl, rfl, rfl, rfl, rfl, rfl, rfl, rfl⟩ := ef
    subst e0
    exact ⟨whN ⟨k, ⟨f 0, f 1, f 2, f 3, f 4, f 5, f 6, f 7⟩⟩, trivial, rfl⟩
end

/-- A law over a list of wheels: what it comes to, whatever came in. -/
theorem contractW {f : FuncId} {fn : Func} {spec : ChangeSpec} (hf : Try.prog.funcs[f]? = some fn) (hp : fn.params = #[63]) (hr : fn.resultTypes = #[4]) (hvars : spec.vars = []) (hspec : ∀ (H : Type) (d : DataW H), spec.fn H [d] = { results := [.lit (.bool true)], args := [d] })
    (yes : ∀ (m : Nat) (a : Nat → Nat → Int), m ≤ 9223372036854775807 → ∃ Γ n, GamOk Try.prog Γ ∧ GoodQ (execF Try.prog Γ noLam n fn [.sl 0 9 0 0 m none] [.row false m 9 (row9 a) 46] (packK 1)) SaysYes)
    (H : Type) (enc : TypeId × Value → H) (W : World) (base : Nat) (args : Array Value) (ds gs : List (DataW H)) (before : List MemPlace)
    (hval : ∀ (j : Nat) t v, fn.params[j]? = some t → args[j]? = some v → Value.okWide Try.prog W .any base t v)
    (hW : DataW.Whole enc Try.prog fn.params.toList spec.vars false W args.toList ds gs before) :
    Calls Try.prog f args W fun e W' => ∃ v, e = .returned v ∧ spec.post enc Try.prog fn false true false false W args v W' := by
  have hW' := hW
  obtain ⟨p, q, hA0, hV, rfl, hfz, hnd⟩ := hW
  have hA : DataW.TrodAll enc Try.prog W 0 (fun _ => true) true fn.params.toList args.toList ds p := hA0
  rw [hp] at hA hval
  rw [hvars] at hV
  obtain ⟨v0, vs0, d0, ds0, p0, q0, hargs, rfl, rfl, h0, r0⟩ := trodAll_cons hA
  obtain ⟨rfl, rfl, rfl⟩ := trodAll_nil r0
  obtain rfl : args = #[v0] := by cases args; simp_all
  obtain ⟨rfl, rfl⟩ := trodVars_none hV
  clear hA0 hA r0
  obtain ⟨m, ν, g, hm, _, hvr, hRH, hdom⟩ := arg_row (H := H) Try.underlying63 (by kernel_rfl) (by omega) (hval 0 63 v0 rfl rfl) h0 (fun f => [i64 (f 0), i64 (f 1), i64 (f 2), i64 (f 3), i64 (f 4), i64 (f 5), i64 (f 6), i64 (f 7), i64 (f 8)]) (fun _ => True) (fun f => ⟨rfl, by simp [Value.oneCell']⟩) wheel_elem 46
  obtain ⟨Γ, n, hΓ, hgood⟩ := yes m g hm
  have hcall := yes_calls hΓ (n := n) (vals := [v0]) (w := W) hf (Λ := noLam) (fun c _ => noLam_ok _ _ _) hgood (by simp only [VRs, and_true]; exact hvr) hRH hdom
  refine hcall.mono fun e W' ⟨he, hb⟩ => ?_
  subst he
  have hlt : ∀ x ∈ p0, x.block < W.heap.size := fun x hx => by simpa using hW'.lt x (by simpa using hx)
  refine ⟨_, rfl, post_below (pa := p0) (pv := []) hW' ?_ ?_ ?_ (by simp) hb ?_⟩
  · intro b sp hd
    rw [hr]
    simp only [List.append_nil, hspec]
    exact trodAll_cons_mk (shut_bool Try.underlying4 _) trodAll_mk0
  · intro sp hsp
    rw [hp]
    simp only [List.append_nil, hspec]
    refine trodAll_mk1 (WideElems.Trod_stays laidOut (by kernel_rfl) (of_decide_eq_true (by kernel_rfl)) h0 (fun x hx => hb.same (hlt x hx)) fun x hx => hsp x (by simpa using hx))
  · intro sp _
    rw [hvars]
    simp only [List.append_nil, hspec]
    rfl
  · exact ok_one hr rfl (okWide_bool_mk Try.underlying4 _)

end Go.Proofs.Ytmdcafhnjihckaa

/- Single points of both. Conditions: a point. -/
namespace Go.Proofs.Ytmdcafhnjihckaa
open Go.RowKit
set_option maxRecDepth 100000

/-- The roots, as single numbers. -/
def rtR : Nat → Nat
  | 0 => 1065353216
  | 1 => 1064781546
  | 2 => 1063105495
  | 3 => 1060439283
  | 4 => 1056964608
  | 5 => 1048871918
  | 6 => 0
  | _ => 3196355566
def rtM : Nat → Nat
  | 0 => 0
  | 1 => 1048871918
  | 2 => 1056964608
  | 3 => 1060439283
  | 4 => 1063105495
  | 5 => 1064781546
  | 6 => 1065353216
  | _ => 1064781546
def pdR (a : Nat → Int) (k : Nat) : Option Nat := FloatKind.f32.format.mul (FloatKind.f32.nearest (a k)) (rtR k)
def pdM (a : Nat → Int) (k : Nat) : Option Nat := FloatKind.f32.format.mul (FloatKind.f32.nearest (a k)) (rtM k)
def smR (a : Nat → Int) : Nat → Nat
  | 0 => 0
  | k + 1 => (FloatKind.f32.format.add (smR a k) ((pdR a k).getD 0)).getD 0
def smM (a : Nat → Int) : Nat → Nat
  | 0 => 0
  | k + 1 => (FloatKind.f32.format.add (smM a k) ((pdM a k).getD 0)).getD 0
def obS (a : Nat → Int) : List Bool := (List.range 8).flatMap fun k => [(pdR a k).isSome, (pdM a k).isSome, (FloatKind.f32.format.add (smR a k) ((pdR a k).getD 0)).isSome, (FloatKind.f32.format.add (smM a k) ((pdM a k).getD 0)).isSome]
theorem exSg (a : Nat → Int) : execF Try.prog g0 noLam 100 Try.f88 [.v (cyv a)] [] valK = needs (obS a) (.out .ret [.v (.complex .f32 (smR a 8) (smM a 8))] []) := by kernel_rfl
def gmCv (ok : (Nat → Int) → Bool) : Gam := ext g0 121 (specV (fOkc ok))
theorem exSp (ok : (Nat → Int) → Bool) (a : Nat → Int) : execF Try.prog (gmCv ok) noLam 100 Try.f90 [.v (cyv a)] [] (packK 0) = cond (!ok (w8 a)) (.out .ret [.tup [.v (.complex .f32 0 0), .v (.bool false)]] []) (needs (obS a) (.out .ret [.tup [.v (.complex .f32 (smR a 8) (smM a 8)), .v (.bool true)]] [])) := by kernel_rfl

end Go.Proofs.Ytmdcafhnjihckaa

/- Single numbers that stay finite: sums and products of small ones. No program, no conditions. -/
namespace Go.Proofs.Ytmdcafhnjihckaa
open Go.RowKit

/-- A word that stands for a number below 2 to e + 1. -/
def Fin32 (x : Nat) (e : Int) : Prop := ∃ s m i, FloatKind.f32.format.read x = .number s m i ∧ i + (m.log2 : Int) ≤ e
theorem Fin32.mono {x : Nat} {e d : Int} (h : Fin32 x e) (hd : e ≤ d) : Fin32 x d := by
  obtain ⟨s, m, i, h1, h2⟩ := h
  exact ⟨s, m, i, h1, by omega⟩
def finB (x : Nat) (e : Int) : Bool := match FloatKind.f32.format.read x with
  | .number _ m i => decide (i + (m.log2 : Int) ≤ e)
  | _ => false
theorem fin_of {x : Nat} {e : Int} (h : finB x e = true) : Fin32 x e := by
  unfold finB at h
  split at h
  · rename_i s m i hr
    exact ⟨s, m, i, hr, of_decide_eq_true h⟩
  · cases h
theorem log2_lt (n : Nat) : n < 2 ^ (n.log2 + 1) := Nat.lt_log2_self
theorem log2_le {n k : Nat} (h : n < 2 ^ (k + 1)) : n.log2 ≤ k := by
  rcases Nat.eq_zero_or_pos n with rfl | h0
  · rw [show Nat.log2 0 = 0 by decide]
    omega
  · have := (Nat.log2_lt (by omega)).2 h
    omega
theorem f32_binade : FloatKind.f32.format.binade = 8388608 := by decide
theorem f32_inf : FloatKind.f32.format.infRung = 2139095040 := by decide
theorem f32_sign : FloatKind.f32.format.signWeight = 2147483648 := by decide
theorem f32_least : FloatKind.f32.format.leastPlace = -149 := by decide
theorem f32_frac : FloatKind.f32.format.fractionBits = 23 := rfl
theorem cut_le (s : Bool) (n drop : Nat) : Ieee.Toward.even.cut s n drop ≤ n / 2 ^ min drop (n.log2 + 2) + 1 := by
  unfold Ieee.Toward.cut
  simp only [Nat.shiftLeft_eq, Nat.one_mul]
  have : ∀ b : Bool, b.toNat ≤ 1 := fun b => by cases b <;> decide
  exact Nat.add_le_add_left (this _) _
theorem kept_le {s : Bool} {m : Nat} {i last : Int} (hl : i + (m.log2 : Int) - 23 ≤ last) : Ieee.Toward.even.cut s (m <<< (i - last).toNat) (last - i).toNat ≤ 16777216 := by
  refine Nat.le_trans (cut_le _ _ _) ?_
  suffices h : m <<< (i - last).toNat / 2 ^ min (last - i).toNat ((m <<< (i - last).toNat).log2 + 2) < 16777216 by omega
  rw [Nat.shiftLeft_eq]
  have hm := log2_lt m
  by_cases hc : last ≤ i
  · have h1 : (last - i).toNat = 0 := by omega
    rw [h1, Nat.zero_min, Nat.pow_zero, Nat.div_one]
    calc m * 2 ^ (i - last).toNat < 2 ^ (m.log2 + 1) * 2 ^ (i - last).toNat := Nat.mul_lt_mul_of_pos_right hm (Nat.two_pow_pos _)
      _ = 2 ^ (m.log2 + 1 + (i - last).toNat) := (Nat.pow_add ..).symm
      _ ≤ 2 ^ 24 := Nat.pow_le_pow_right (by omega) (by omega)
  · have h1 : (i - last).toNat = 0 := by omega
    rw [h1, Nat.pow_zero, Nat.mul_one]
    rw [Nat.div_lt_iff_lt_mul (Nat.two_pow_pos _)]
    by_cases hd : (last - i).toNat ≤ m.log2 + 2
    · rw [Nat.min_eq_left hd]
      calc m < 2 ^ (m.log2 + 1) := hm
        _ ≤ 2 ^ (24 + (last - i).toNat) := Nat.pow_le_pow_right (by omega) (by omega)
        _ = 16777216 * 2 ^ (last - i).toNat := by rw [Nat.pow_add]
    · rw [Nat.min_eq_right (by omega)]
      calc m < 2 ^ (m.log2 + 1) := hm
        _ ≤ 2 ^ (24 + (m.log2 + 2)) := Nat.pow_le_pow_right (by omega) (by omega)
        _ = 16777216 * 2 ^ (m.log2 + 2) := by rw [Nat.pow_add]
theorem read_word (s : Bool) {R : Nat} (hR : R < 2139095040) : ∃ m i, FloatKind.f32.format.read (FloatKind.f32.format.word s R) = .number s m i ∧ i + (m.log2 : Int) ≤ max ((R / 8388608 : Nat) : Int) 1 - 127 := by
  have e1 : FloatKind.f32.format.word s R % 2147483648 = R := by
    unfold Ieee.Format.word
    rw [f32_sign]
    cases s
    · simp only [Bool.false_eq_true, if_false]; omega
    · simp only [if_true]; omega
  have e2 : (FloatKind.f32.format.word s R / 2147483648 % 2 == 1) = s := by
    unfold Ieee.Format.word
    rw [f32_sign]
    cases s
    · simp only [Bool.false_eq_true, if_false]
      rw [show R / 2147483648 = 0 by omega]
      rfl
    · simp only [if_true]
      rw [show (2147483648 + R) / 2147483648 = 1 by omega]
      rfl
  unfold Ieee.Format.read
  simp only [f32_sign, f32_binade, f32_inf, f32_least, e1, e2]
  by_cases h1 : R < 8388608
  · rw [if_pos h1]
    refine ⟨_, _, rfl, ?_⟩
    have : R.log2 ≤ 22 := log2_le (by omega)
    omega
  · rw [if_neg h1, if_pos hR]
    refine ⟨_, _, rfl, ?_⟩
    have : (8388608 + R % 8388608).log2 ≤ 23 := log2_le (by omega)
    omega
theorem nearest_fin (s : Bool) (m : Nat) (i : Int) {e : Int} (h : i + (m.log2 : Int) ≤ e) (h0 : -120 ≤ e) (h1 : e ≤ 100) : Fin32 (FloatKind.f32.format.nearest s m i) (e + 1) := by
  unfold Ieee.Format.nearest
  by_cases hm : m = 0
  · rw [if_pos hm]
    obtain ⟨m', i', e1, e2⟩ := read_word s (R := 0) (by omega)
    exact ⟨s, m', i', e1, by omega⟩
  · rw [if_neg hm]
    simp only [f32_frac, f32_least, f32_binade, f32_inf]
    have hk : Ieee.Toward.even.cut s (m <<< (i - max (i + (m.log2 : Int) - ((23 : Nat) : Int)) (-149)).toNat) (max (i + (m.log2 : Int) - ((23 : Nat) : Int)) (-149) - i).toNat ≤ 16777216 := kept_le (by omega)
    generalize hl : max (i + (m.log2 : Int) - ((23 : Nat) : Int)) (-149) = last at hk ⊢
    generalize Ieee.Toward.even.cut s (m <<< (i - last).toNat) (last - i).toNat = kept at hk ⊢
    have hlast : -149 ≤ last ∧ last ≤ 77 ∧ last ≤ max (e - 23) (-149) := by omega
    have hmin : min ((last - -149).toNat * 8388608 + kept) 2139095040 = (last - -149).toNat * 8388608 + kept := by omega
    rw [hmin]
    obtain ⟨m', i', e1, e2⟩ := read_word s (R := (last - -149).toNat * 8388608 + kept) (by omega)
    refine ⟨s, m', i', e1, ?_⟩
    have : ((last - -149).toNat * 8388608 + kept) / 8388608 ≤ (last - -149).toNat + 2 := by omega
    omega
theorem mul_fin {x y : Nat} {e d : Int} (hx : Fin32 x e) (hy : Fin32 y d) (h0 : -120 ≤ e + d + 1) (h1 : e + d + 1 ≤ 100) : (FloatKind.f32.format.mul x y).isSome = true ∧ Fin32 ((FloatKind.f32.format.mul x y).getD 0) (e + d + 2) := by
  obtain ⟨s, m, i, r1, b1⟩ := hx
  obtain ⟨t, n, j, r2, b2⟩ := hy
  have hm : FloatKind.f32.format.mul x y = some (FloatKind.f32.format.nearest (s ^^ t) (m * n) (i + j)) := by
    unfold Ieee.Format.mul
    rw [r1, r2]
    rfl
  rw [hm]
  refine ⟨rfl, ?_⟩
  have hl : (m * n).log2 ≤ m.log2 + n.log2 + 1 := log2_le (by
    calc m * n < 2 ^ (m.log2 + 1) * 2 ^ (n.log2 + 1) := Nat.mul_lt_mul'' (log2_lt m) (log2_lt n)
      _ = 2 ^ (m.log2 + n.log2 + 1 + 1) := by rw [← Nat.pow_add]; congr 1; omega)
  have := nearest_fin (s ^^ t) (m * n) (i + j) (e := e + d + 1) (by omega) h0 h1
  rwa [show e + d + 1 + 1 = e + d + 2 by omega] at this
theorem signed_abs (s : Bool) (m u : Nat) : (Ieee.signed s m u).natAbs = m * 2 ^ u := by
  unfold Ieee.signed
  rw [Nat.shiftLeft_eq]
  cases s
  · exact Int.natAbs_natCast _
  · exact (Int.natAbs_neg _).trans (Int.natAbs_natCast _)
theorem part_lt {m : Nat} {i base e : Int} (h : i + (m.log2 : Int) ≤ e) (hb : base ≤ i) : m * 2 ^ (i - base).toNat < 2 ^ ((e - base).toNat + 1) := by
  calc m * 2 ^ (i - base).toNat < 2 ^ (m.log2 + 1) * 2 ^ (i - base).toNat := Nat.mul_lt_mul_of_pos_right (log2_lt m) (Nat.two_pow_pos _)
    _ = 2 ^ (m.log2 + 1 + (i - base).toNat) := (Nat.pow_add ..).symm
    _ ≤ 2 ^ ((e - base).toNat + 1) := Nat.pow_le_pow_right (by omega) (by omega)
theorem add_fin {x y : Nat} {e : Int} (hx : Fin32 x e) (hy : Fin32 y e) (h0 : -120 ≤ e + 1) (h1 : e + 1 ≤ 100) : (FloatKind.f32.format.add x y).isSome = true ∧ Fin32 ((FloatKind.f32.format.add x y).getD 0) (e + 2) := by
  obtain ⟨s, m, i, r1, b1⟩ := hx
  obtain ⟨t, n, j, r2, b2⟩ := hy
  have hm : ∃ u, FloatKind.f32.format.add x y = some (FloatKind.f32.format.nearest u (Ieee.signed s m (i - min i j).toNat + Ieee.signed t n (j - min i j).toNat).natAbs (min i j)) := by
    unfold Ieee.Format.add
    rw [r1, r2]
    exact ⟨_, rfl⟩
  obtain ⟨u, hm⟩ := hm
  rw [hm]
  refine ⟨rfl, ?_⟩
  have hl : (Ieee.signed s m (i - min i j).toNat + Ieee.signed t n (j - min i j).toNat).natAbs.log2 ≤ (e - min i j).toNat + 1 := log2_le (by
    have h2 := Int.natAbs_add_le (Ieee.signed s m (i - min i j).toNat) (Ieee.signed t n (j - min i j).toNat)
    rw [signed_abs, signed_abs] at h2
    have h3 := part_lt b1 (base := min i j) (by omega)
    have h4 := part_lt b2 (base := min i j) (by omega)
    have h5 : 2 ^ ((e - min i j).toNat + 1 + 1) = 2 ^ ((e - min i j).toNat + 1) + 2 ^ ((e - min i j).toNat + 1) := by rw [Nat.pow_succ]; omega
    omega)
  have := nearest_fin u (Ieee.signed s m (i - min i j).toNat + Ieee.signed t n (j - min i j).toNat).natAbs (min i j) (e := e + 1) (by omega) h0 h1
  rwa [show e + 1 + 1 = e + 2 by omega] at this
theorem int_fin {n : Int} (h : -1000000 ≤ n ∧ n ≤ 1000000) : Fin32 (FloatKind.f32.nearest n) 21 := by
  have : n.natAbs.log2 ≤ 19 := log2_le (by omega)
  exact nearest_fin _ _ 0 (e := 20) (by omega) (by omega) (by omega)
theorem rtR_fin : ∀ k, k < 8 → Fin32 (rtR k) 1 := fun k hk => fin_of ((by decide +kernel : ∀ k, k < 8 → finB (rtR k) 1 = true) k hk)
theorem rtM_fin : ∀ k, k < 8 → Fin32 (rtM k) 1 := fun k hk => fin_of ((by decide +kernel : ∀ k, k < 8 → finB (rtM k) 1 = true) k hk)
theorem sm_fin {a : Nat → Int} (h : ∀ k, k < 8 → -1000000 ≤ a k ∧ a k ≤ 1000000) : ∀ k : Nat, k ≤ 8 → Fin32 (smR a k) (24 + 2 * (k : Int)) ∧ Fin32 (smM a k) (24 + 2 * (k : Int))
  | 0, _ => ⟨fin_of (show finB 0 (24 + 2 * ((0 : Nat) : Int)) = true by decide +kernel), fin_of (show finB 0 (24 + 2 * ((0 : Nat) : Int)) = true by decide +kernel)⟩
  | k + 1, hk => by
    obtain ⟨i1, i2⟩ := sm_fin h k (by omega)
    have p1 := mul_fin (int_fin (h k (by omega))) (rtR_fin k (by omega)) (by omega) (by omega)
    have p2 := mul_fin (int_fin (h k (by omega))) (rtM_fin k (by omega)) (by omega) (by omega)
    have a1 := (add_fin i1 (p1.2.mono (by omega)) (by omega) (by omega)).2
    have a2 := (add_fin i2 (p2.2.mono (by omega)) (by omega) (by omega)).2
    exact ⟨a1.mono (by omega), a2.mono (by omega)⟩
theorem obS_ok {a : Nat → Int} (h : ∀ k, k < 8 → -1000000 ≤ a k ∧ a k ≤ 1000000) : obls (obS a) = true := by
  unfold obls obS
  rw [List.all_flatMap]
  refine List.all_eq_true.2 fun k hk => ?_
  have hk := List.mem_range.1 hk
  obtain ⟨i1, i2⟩ := sm_fin h k (by omega)
  have p1 := mul_fin (int_fin (h k hk)) (rtR_fin k hk) (by omega) (by omega)
  have p2 := mul_fin (int_fin (h k hk)) (rtM_fin k hk) (by omega) (by omega)
  have a1 := add_fin i1 (p1.2.mono (by omega)) (by omega) (by omega)
  have a2 := add_fin i2 (p2.2.mono (by omega)) (by omega) (by omega)
  simp only [List.all_cons, List.all_nil, Bool.and_true, id]
  rw [show (pdR a k).isSome = true from p1.1, show (pdM a k).isSome = true from p2.1, show (FloatKind.f32.format.add (smR a k) ((pdR a k).getD 0)).isSome = true from a1.1, show (FloatKind.f32.format.add (smM a k) ((pdM a k).getD 0)).isSome = true from a2.1]
  rfl

end Go.Proofs.Ytmdcafhnjihckaa

/- DesignCheck of both: trees. Conditions: a list of wheels. -/
namespace Go.Proofs.Ytmdcafhnjihckaa
open Go.RowKit
set_option maxRecDepth 100000

/-- A single point of a point. -/
def f_sg (R M : (Nat → Int) → Nat) (ok : (Nat → Int) → Bool) : List Value → Option (Value × List Bool)
  | [.agg ⟨[.int .i64 a0, .int .i64 a1, .int .i64 a2, .int .i64 a3, .int .i64 a4, .int .i64 a5, .int .i64 a6, .int .i64 a7]⟩] => some (.complex .f32 (R (v8 a0 a1 a2 a3 a4 a5 a6 a7)) (M (v8 a0 a1 a2 a3 a4 a5 a6 a7)), [ok (v8 a0 a1 a2 a3 a4 a5 a6 a7)])
  | _ => none
/-- A single point, and whether the point is one. -/
def FspO (R M : (Nat → Int) → Nat) (ok : (Nat → Int) → Bool) : List SA → Option FR
  | [.v (.agg ⟨[.int .i64 a0, .int .i64 a1, .int .i64 a2, .int .i64 a3, .int .i64 a4, .int .i64 a5, .int .i64 a6, .int .i64 a7]⟩)] => some { val := .tup [.v (.complex .f32 (R (v8 a0 a1 a2 a3 a4 a5 a6 a7)) (M (v8 a0 a1 a2 a3 a4 a5 a6 a7))), .v (.bool (ok (v8 a0 a1 a2 a3 a4 a5 a6 a7)))] }
  | _ => none
def gmCkI (dv : (Nat → Nat → Int) → Int → Nat → Nat → Int) (dk : (Nat → Nat → Int) → Int → Nat → Bool) (R M : (Nat → Int) → Nat) (ok : (Nat → Int) → Bool) : Gam := ext (ext g0 18 (specR md_wv (FDAo dv dk))) 88 (specV (f_sg R M ok))
noncomputable abbrev fCkI : Func := Try.f35
abbrev lvCkI : Ex → List Nat := lv3 [4, 6, 20] [6] [2, 3]
abbrev stCkI (q : Nat) (h : Int) (i : Nat) : List AV := [.sl 1 9 0 0 q (some q), .v (.int .u32 h), .v (i64 i)]
abbrev hpCk (m : Nat) (f : Nat → Nat → Int) (q : Nat) (g : Nat → Nat → Int) : List AB := [.row false m 9 (row9 f) 46, .row false q 9 (row9 g) 46]
theorem rndCkI (dv : (Nat → Nat → Int) → Int → Nat → Nat → Int) (dk : (Nat → Nat → Int) → Int → Nat → Bool) (R M : (Nat → Int) → Nat) (ok : (Nat → Int) → Bool) (m : Nat) (f : Nat → Nat → Int) (q : Nat) (g : Nat → Nat → Int) (h : Int) (i : Nat) : execC Try.prog (gmCkI dv dk R M ok) 100 noLam (loopAt 0 fCkI) (mkT 0 49 ((lvCkI .normal).zip (stCkI q h i))) (hpCk m f q g) (leafV 49 lvCkI 1)
    = bif decide ((↑i : Int) < (24 : Int)) then needs [Nat.ble ((0 : Nat) + q) q, allW q fun q ↦ row9 g ((0 : Nat) + q), decide (q ≤ (274877906944 : Nat))] (bif !dk (itW fun q ↦ row9 g ((0 : Nat) + q)) (↑i : Int) q then Res.out Ex.ret [AV.v (Value.int IntKind.u32 (0 : Int)), AV.v (Value.bool false)] [AB.row false m (9 : Nat) (row9 f) (46 : TypeId)] else needs [ok (w8 (dv (itW fun q ↦ row9 g ((0 : Nat) + q)) (↑i : Int) q))] (Res.out Ex.normal [AV.sl (1 : Nat) (9 : Nat) (0 : Nat) (0 : Nat) q (some q), AV.v (Value.int IntKind.u32 (IntKind.wrap IntKind.u32 (IntKind.wrap IntKind.u32 (↑(BitVec.toNat (BitVec.ofInt (32 : Nat) (IntKind.wrap IntKind.u32 (IntKind.wrap IntKind.u32 (↑(BitVec.toNat (BitVec.ofInt (32 : Nat) h ^^^ BitVec.ofInt (32 : Nat) (↑(R (w8 (dv (itW fun q ↦ row9 g ((0 : Nat) + q)) (↑i : Int) q))) : Int))) : Int) * (16777619 : Int))) ^^^ BitVec.ofInt (32 : Nat) (↑(M (w8 (dv (itW fun q ↦ row9 g ((0 : Nat) + q)) (↑i : Int) q))) : Int))) : Int) * (16777619 : Int)))), AV.v (Value.int IntKind.i64 (IntKind.wrap IntKind.i64 ((↑i : Int) + (1 : Int))))] [AB.row false m (9 : Nat) (row9 f) (46 : TypeId), AB.row false q (9 : Nat) (row9 g) (46 : TypeId)])) else Res.out (Ex.exit (0 : Nat)) [AV.v (Value.int IntKind.u32 h)] [AB.row false m (9 : Nat) (row9 f) (46 : TypeId)] := by kernel_rfl

def gmCkS (dv : (Nat → Nat → Int) → Int → Nat → Nat → Int) (dk : (Nat → Nat → Int) → Int → Nat → Bool) (R M : (Nat → Int) → Nat) (ok : (Nat → Int) → Bool) : Gam := ext (ext g0 75 (specR md_wv (FDAo dv dk))) 90 (specR [.val] (FspO R M ok))
noncomputable abbrev fCkS : Func := Try.f36
abbrev lvCkS : Ex → List Nat := lv3 [4, 6, 7] [6] [2, 3]
abbrev stCkS (q : Nat) (h : Int) (i : Nat) : List AV := [.own 1 q, .v (.int .u32 h), .v (i64 i)]
abbrev hpCkS (m : Nat) (f : Nat → Nat → Int) (q : Nat) (g : Nat → Nat → Int) : List AB := [.row false m 9 (row9 f) 46, .row true q 9 (row9 g) 46]
theorem rndCkS (dv : (Nat → Nat → Int) → Int → Nat → Nat → Int) (dk : (Nat → Nat → Int) → Int → Nat → Bool) (R M : (Nat → Int) → Nat) (ok : (Nat → Int) → Bool) (m : Nat) (f : Nat → Nat → Int) (q : Nat) (g : Nat → Nat → Int) (h : Int) (i : Nat) : execC Try.prog (gmCkS dv dk R M ok) 100 noLam (loopAt 0 fCkS) (mkT 0 53 ((lvCkS .normal).zip (stCkS q h i))) (hpCkS m f q g) (leafV 53 lvCkS 1)
    = bif decide ((↑i : Int) < (24 : Int)) then needs [Nat.ble q q, allW q (row9 g), decide (q ≤ (274877906944 : Nat))] (bif !dk (itW (row9 g)) (↑i : Int) q then Res.out Ex.ret [AV.v (Value.int IntKind.u32 (0 : Int)), AV.v (Value.bool false)] [AB.row false m (9 : Nat) (row9 f) (46 : TypeId)] else bif !ok (w8 (dv (itW (row9 g)) (↑i : Int) q)) then Res.out Ex.ret [AV.v (Value.int IntKind.u32 (0 : Int)), AV.v (Value.bool false)] [AB.row false m (9 : Nat) (row9 f) (46 : TypeId)] else Res.out Ex.normal [AV.own (1 : Nat) q, AV.v (Value.int IntKind.u32 (IntKind.wrap IntKind.u32 (IntKind.wrap IntKind.u32 (↑(BitVec.toNat (BitVec.ofInt (32 : Nat) (IntKind.wrap IntKind.u32 (IntKind.wrap IntKind.u32 (↑(BitVec.toNat (BitVec.ofInt (32 : Nat) h ^^^ BitVec.ofInt (32 : Nat) (↑(R (w8 (dv (itW (row9 g)) (↑i : Int) q))) : Int))) : Int) * (16777619 : Int))) ^^^ BitVec.ofInt (32 : Nat) (↑(M (w8 (dv (itW (row9 g)) (↑i : Int) q))) : Int))) : Int) * (16777619 : Int)))), AV.v (Value.int IntKind.i64 (IntKind.wrap IntKind.i64 ((↑i : Int) + (1 : Int))))] [AB.row false m (9 : Nat) (row9 f) (46 : TypeId), AB.row true q (9 : Nat) (row9 g) (46 : TypeId)]) else Res.out (Ex.exit (0 : Nat)) [AV.v (Value.int IntKind.u32 h)] [AB.row false m (9 : Nat) (row9 f) (46 : TypeId)] := by kernel_rfl

end Go.Proofs.Ytmdcafhnjihckaa

/- DesignCheck of both: single points, loops. Conditions: a list of wheels. -/
namespace Go.Proofs.Ytmdcafhnjihckaa
open Go.RowKit
set_option maxRecDepth 100000

abbrev hpC (m : Nat) (f : Nat → Nat → Int) : List AB := [.row false m 9 (row9 f) 46]
theorem good_needsV {bs : List Bool} {r : Res} {x : Value} (h : obls bs = true) (k : Good r x) : Good (needs bs r) x := by
  induction bs with
  | nil => exact k
  | cons b bs ih =>
    have : b = true ∧ obls bs = true := by simpa [obls] using h
    rw [this.1]
    exact ⟨(ih this.2).out⟩
def spO (a : Nat → Int) : Bool := cyOk (cyOf a)
def sgR (a : Nat → Int) : Nat := bif spO a then smR a 8 else 0
def sgM (a : Nat → Int) : Nat := bif spO a then smM a 8 else 0
theorem obS_of {a : Nat → Int} (h : spO a = true) : obls (obS a) = true := obS_ok fun k hk => by
  have h1 := smallF_iff.1 h k hk
  have e : (cyOf a).f k = a k := by
    match k, hk with
    | 0, _ => rfl
    | 1, _ => rfl
    | 2, _ => rfl
    | 3, _ => rfl
    | 4, _ => rfl
    | 5, _ => rfl
    | 6, _ => rfl
    | 7, _ => rfl
  omega
theorem ok_sg : SpecOk Try.prog 88 (specV (f_sg sgR sgM spO)) := by
  refine mkV (n := 100) g0_ok Try.func88 rfl fun vs v ob hF ho => ?_
  unfold f_sg at hF
  split at hF
  · rename_i a0 a1 a2 a3 a4 a5 a6 a7
    cases hF
    rw [ob_cons] at ho
    have ho := ho.1
    show Good (execF Try.prog g0 noLam 100 Try.f88 [.v (cyv (v8 a0 a1 a2 a3 a4 a5 a6 a7))] [] valK) _
    rw [exSg]
    refine good_needsV (obS_of ho) (one ?_)
    rw [sgR, sgM, ho]
    rfl
  · cases hF
theorem ok_sp : SpecOk Try.prog 90 (specR [.val] (FspO sgR sgM spO)) := by
  have hg : GamOk Try.prog (gmCv fun v => cyOk (cyOf v)) := by
    unfold gmCv
    rw [fOkc_eq]
    exact ext_ok g0_ok ok_cv
  refine specR_hr hg Try.func90 rfl fun sas fr hF ho => ?_
  unfold FspO at hF
  split at hF
  · rename_i a0 a1 a2 a3 a4 a5 a6 a7
    cases hF
    refine ⟨[], noLam, 100, .nil, noLam' _, ?_⟩
    show GoodQ (execF Try.prog (gmCv fun v => cyOk (cyOf v)) noLam 100 Try.f90 [.v (cyv (v8 a0 a1 a2 a3 a4 a5 a6 a7))] [] (packK 0)) _
    rw [exSp]
    refine good_cond (fun q => ?_) fun q => ?_
    · have q : spO (v8 a0 a1 a2 a3 a4 a5 a6 a7) = false := by
        have q' : (!spO (v8 a0 a1 a2 a3 a4 a5 a6 a7)) = true := q
        simpa using q'
      refine good_out ⟨_, rfl, ?_, .nil⟩
      rw [sgR, sgM, q]
      rfl
    · have q : spO (v8 a0 a1 a2 a3 a4 a5 a6 a7) = true := by
        have q' : (!spO (v8 a0 a1 a2 a3 a4 a5 a6 a7)) = false := q
        simpa using q'
      refine good_needs (obS_of q) (good_out ⟨_, rfl, ?_, .nil⟩)
      rw [sgR, sgM, q]
      rfl
  · cases hF

/-- One step of the sum: both numbers of a point. -/
def hsh (h : Int) (R M : Nat) : Int := IntKind.wrap IntKind.u32 (IntKind.wrap IntKind.u32 (((BitVec.ofInt 32 (IntKind.wrap IntKind.u32 (IntKind.wrap IntKind.u32 (((BitVec.ofInt 32 h ^^^ BitVec.ofInt 32 (R : Int)).toNat : Nat) : Int) * 16777619)) ^^^ BitVec.ofInt 32 (M : Int)).toNat : Nat) : Int) * 16777619)
/-- The sum after i turns. -/
def ckH (f : Nat → Nat → Int) (q : Nat) : Nat → Int
  | 0 => 2166136261
  | i + 1 => hsh (ckH f q i) (sgR (w8 (daV f i q))) (sgM (w8 (daV f i q)))
def badCk (f : Nat → Nat → Int) (q : Nat) (i : Nat) : Bool := !daOk f i q
theorem cyOf_w8 (a : Nat → Int) : cyOf (w8 a) = cyOf a := rfl
theorem da_sp {f : Nat → Nat → Int} {n : Int} {m : Nat} (h : daOk f n m = true) : spO (w8 (daV f n m)) = true := by
  have h2 := h
  unfold daOk at h2
  rw [Bool.and_eq_true] at h2
  rw [spO, cyOf_w8, daV, h, cond_true]
  exact h2.2
theorem gmCkI_ok : GamOk Try.prog (gmCkI daV daOk sgR sgM spO) := ext_ok (ext_ok g0_ok ok_DAI) ok_sg
theorem gmCkS_ok : GamOk Try.prog (gmCkS daV daOk sgR sgM spO) := by
  refine ext_ok (ext_ok g0_ok ?_) ok_sp
  rw [FDAo_eq]
  exact ok_DA
theorem sumCkI (m : Nat) (f : Nat → Nat → Int) (q : Nat) (g : Nat → Nat → Int) (hq : q ≤ 12) :
    SumOk Try.prog 1 (.block 0 (.loop (loopAt 0 fCkI))) (atS 49 (lvCkI .normal) 1 (stCkI q 2166136261 0) (hpCk m f q g) (fun K => cond (noneTo (badCk g q) 24) (K .normal (mkT 0 49 [(6, .v (.int .u32 (ckH g q 24)))]) (hpC m f)) (K .ret (mkT 0 49 [(2, .v (.int .u32 0)), (3, .v (.bool false))]) (hpC m f)))) := by
  refine for_at gmCkI_ok (n := 100) (m := 1) (lv := lvCkI) (fun i => stCkI q (ckH g q i) i) (fun _ => hpCk m f q g) (fun i => noneTo (badCk g q) i = true) 24 (fun _ => noLam) (lv3_ris rfl rfl rfl) (Nat.le_refl _) rfl fun K Q hk i hi h24 => ⟨noLam_ok _ _ _, ?_⟩
  rw [rndCkI]
  refine good_cond (fun c1 => ?_) fun c1 => ?_
  · have c1 := of_decide_eq_true c1
    have c1' : i < 24 := by omega
    simp only [row0, daOk_row, daV_row]
    rw [wr_in (x := (i : Int) + 1) (by omega)]
    refine good_needs (by simp only [ob_cons, ob_nil, and_true, decide_eq_true_eq, Nat.ble_eq, allW_row, true_and]; omega) (good_cond (fun p => ?_) fun p => ?_)
    · refine good_out ⟨_, Hsim.refl _, ?_⟩
      have hb : badCk g q i = true := p
      rw [noneTo_no c1' hb] at hk
      exact hk
    · have hb : badCk g q i = false := p
      have hd : daOk g i q = true := by simpa [badCk] using hb
      exact good_needs (by rw [ob_cons]; exact ⟨da_sp hd, rfl⟩) (good_out ⟨i + 1, ⟨rfl, c1', noneTo_succ hi hb⟩, rfl, Hsim.refl _⟩)
  · have c1 := of_decide_eq_false c1
    have : i = 24 := by omega
    subst this
    refine good_out ⟨_, Hsim.refl _, ?_⟩
    rw [if_pos rfl]
    rw [hi] at hk
    exact hk
theorem sumCkS (m : Nat) (f : Nat → Nat → Int) (q : Nat) (g : Nat → Nat → Int) (hq : q ≤ 12) :
    SumOk Try.prog 1 (.block 0 (.loop (loopAt 0 fCkS))) (atS 53 (lvCkS .normal) 1 (stCkS q 2166136261 0) (hpCkS m f q g) (fun K => cond (noneTo (badCk g q) 24) (K .normal (mkT 0 53 [(6, .v (.int .u32 (ckH g q 24)))]) (hpC m f)) (K .ret (mkT 0 53 [(2, .v (.int .u32 0)), (3, .v (.bool false))]) (hpC m f)))) := by
  refine for_at gmCkS_ok (n := 100) (m := 1) (lv := lvCkS) (fun i => stCkS q (ckH g q i) i) (fun _ => hpCkS m f q g) (fun i => noneTo (badCk g q) i = true) 24 (fun _ => noLam) (lv3_ris rfl rfl rfl) (Nat.le_refl _) rfl fun K Q hk i hi h24 => ⟨noLam_ok _ _ _, ?_⟩
  rw [rndCkS]
  refine good_cond (fun c1 => ?_) fun c1 => ?_
  · have c1 := of_decide_eq_true c1
    have c1' : i < 24 := by omega
    simp only [row0, daOk_row, daV_row]
    rw [wr_in (x := (i : Int) + 1) (by omega)]
    refine good_needs (by simp only [ob_cons, ob_nil, and_true, decide_eq_true_eq, Nat.ble_eq, allW_row, true_and]; omega) (good_cond (fun p => ?_) fun p => ?_)
    · refine good_out ⟨_, Hsim.refl _, ?_⟩
      have hb : badCk g q i = true := p
      rw [noneTo_no c1' hb] at hk
      exact hk
    · have hb : badCk g q i = false := p
      have hd : daOk g i q = true := by simpa [badCk] using hb
      rw [da_sp hd]
      exact good_false rfl (good_out ⟨i + 1, ⟨rfl, c1', noneTo_succ hi hb⟩, rfl, Hsim.refl _⟩)
  · have c1 := of_decide_eq_false c1
    have : i = 24 := by omega
    subst this
    refine good_out ⟨_, Hsim.refl _, ?_⟩
    rw [if_pos rfl]
    rw [hi] at hk
    exact hk

noncomputable abbrev lamCkI (m : Nat) (f : Nat → Nat → Int) (q : Nat) (g : Nat → Nat → Int) (c : Bool) (x : Int) : Nat → Option Sum := oneL 0 (atS 49 (lvCkI .normal) 1 (stCkI q 2166136261 0) (hpCk m f q g) (fun K => cond c (K .normal (mkT 0 49 [(6, .v (.int .u32 x))]) (hpC m f)) (K .ret (mkT 0 49 [(2, .v (.int .u32 0)), (3, .v (.bool false))]) (hpC m f))))
noncomputable abbrev lamCkS (m : Nat) (f : Nat → Nat → Int) (q : Nat) (g : Nat → Nat → Int) (c : Bool) (x : Int) : Nat → Option Sum := oneL 0 (atS 53 (lvCkS .normal) 1 (stCkS q 2166136261 0) (hpCkS m f q g) (fun K => cond c (K .normal (mkT 0 53 [(6, .v (.int .u32 x))]) (hpC m f)) (K .ret (mkT 0 53 [(2, .v (.int .u32 0)), (3, .v (.bool false))]) (hpC m f))))
def gmTdI (yI : List Wh → Bool) (tI : List Wh → List Wh) : Gam := ext g0 37 (specU md_ws (UO0 yI tI))
def gmTdS (yI : List Wh → Bool) (tI : List Wh → List Wh) : Gam := ext g0 73 (specR md_ws (FOw yI tI))
theorem treeCkI (yI : List Wh → Bool) (tI : List Wh → List Wh) (m : Nat) (f : Nat → Nat → Int) (q : Nat) (g : Nat → Nat → Int) (c : Bool) (x : Int) : execF Try.prog (gmTdI yI tI) (lamCkI m f q g c x) 100 fCkI [.sl 0 9 0 0 m none] (hpC m f) (packK 1)
    = needs [Nat.ble ((0 : Nat) + m) m, allW m fun q ↦ row9 f ((0 : Nat) + q), decide (m ≤ (274877906944 : Nat))] (bif !yI (listW (itW fun q ↦ row9 f ((0 : Nat) + q)) m) then Res.out Ex.ret [AV.tup [AV.v (Value.int IntKind.u32 (0 : Int)), AV.v (Value.bool false)]] [AB.row false m (9 : Nat) (row9 f) (46 : TypeId)] else needs [chk ([AV.sl (1 : Nat) (9 : Nat) (0 : Nat) (0 : Nat) (List.length (tI (listW (itW fun q ↦ row9 f ((0 : Nat) + q)) m))) (some (List.length (tI (listW (itW fun q ↦ row9 f ((0 : Nat) + q)) m)))), AV.v (Value.int IntKind.u32 (2166136261 : Int)), AV.v (Value.int IntKind.i64 (0 : Int))] = stCkI q (2166136261 : Int) (0 : Nat) ∧ Hsim [AB.row false m (9 : Nat) (row9 f) (46 : TypeId), AB.row false (List.length (tI (listW (itW fun q ↦ row9 f ((0 : Nat) + q)) m))) (9 : Nat) (row9 (wfun (tI (listW (itW fun q ↦ row9 f ((0 : Nat) + q)) m)))) (46 : TypeId)] (hpCk m f q g))] (bif c then Res.out Ex.ret [AV.tup [AV.v (Value.int IntKind.u32 x), AV.v (Value.bool true)]] [AB.row false m (9 : Nat) (row9 f) (46 : TypeId)] else Res.out Ex.ret [AV.tup [AV.v (Value.int IntKind.u32 (0 : Int)), AV.v (Value.bool false)]] [AB.row false m (9 : Nat) (row9 f) (46 : TypeId)])) := by kernel_rfl

theorem treeCkS (yI : List Wh → Bool) (tI : List Wh → List Wh) (m : Nat) (f : Nat → Nat → Int) (q : Nat) (g : Nat → Nat → Int) (c : Bool) (x : Int) : execF Try.prog (gmTdS yI tI) (lamCkS m f q g c x) 100 fCkS [.sl 0 9 0 0 m none] (hpC m f) (packK 1)
    = needs [Nat.ble ((0 : Nat) + m) m, allW m fun q ↦ row9 f ((0 : Nat) + q), decide (m ≤ (274877906944 : Nat))] (bif !yI (listW (itW fun q ↦ row9 f ((0 : Nat) + q)) m) then Res.out Ex.ret [AV.tup [AV.v (Value.int IntKind.u32 (0 : Int)), AV.v (Value.bool false)]] [AB.row false m (9 : Nat) (row9 f) (46 : TypeId)] else needs [chk ([AV.own (1 : Nat) (List.length (tI (listW (itW fun q ↦ row9 f ((0 : Nat) + q)) m))), AV.v (Value.int IntKind.u32 (2166136261 : Int)), AV.v (Value.int IntKind.i64 (0 : Int))] = stCkS q (2166136261 : Int) (0 : Nat) ∧ Hsim [AB.row false m (9 : Nat) (row9 f) (46 : TypeId), AB.row true (List.length (tI (listW (itW fun q ↦ row9 f ((0 : Nat) + q)) m))) (9 : Nat) (row9 (wfun (tI (listW (itW fun q ↦ row9 f ((0 : Nat) + q)) m)))) (46 : TypeId)] (hpCkS m f q g))] (bif c then Res.out Ex.ret [AV.tup [AV.v (Value.int IntKind.u32 x), AV.v (Value.bool true)]] [AB.row false m (9 : Nat) (row9 f) (46 : TypeId)] else Res.out Ex.ret [AV.tup [AV.v (Value.int IntKind.u32 (0 : Int)), AV.v (Value.bool false)]] [AB.row false m (9 : Nat) (row9 f) (46 : TypeId)])) := by kernel_rfl

end Go.Proofs.Ytmdcafhnjihckaa

/- DesignCheck of both: their word. Conditions: a list of wheels. -/
namespace Go.Proofs.Ytmdcafhnjihckaa
open Go.RowKit
set_option maxRecDepth 100000

/-- A sum is there: the list is tidied, and has a point at each turn. -/
def ckY (L : List Wh) : Bool := yI L && noneTo (badCk (wfun (tI L)) (tI L).length) 24
def ckV (L : List Wh) : Int := bif ckY L then ckH (wfun (tI L)) (tI L).length 24 else 0
def FckO (v : List Wh → Int) (y : List Wh → Bool) : List SA → Option FR
  | [.row m g] => some { val := .tup [.v (.int .u32 (v (listW (itW g) m))), .v (.bool (y (listW (itW g) m)))], obl := [allW m g, decide (m ≤ 2 ^ 38)] }
  | _ => none
theorem tI_len12 (L : List Wh) : (tI L).length ≤ 12 := by
  cases h : yI L with
  | true =>
    rw [tI, h, cond_true]
    rw [yI, Bool.and_eq_true] at h
    exact tidyL_len h.2
  | false => rw [tI_no h]; exact Nat.zero_le _
theorem ok_ckI : SpecOk Try.prog 35 (specR md_ws (FckO ckV ckY)) := by
  refine specR_hr (Γ := gmTdI yI tI) (ext_ok g0_ok ok_UTi) Try.func35 rfl fun sas fr hF ho => ?_
  unfold FckO at hF
  split at hF
  · rename_i m g
    cases hF
    simp only [ob_cons] at ho
    obtain ⟨h1, h2, _⟩ := ho
    have hm := of_decide_eq_true h2
    have fin : ∀ v b, ckV (listW (itW g) m) = v → ckY (listW (itW g) m) = b → GoodQ (.out .ret [.tup [.v (.int .u32 v), .v (.bool b)]] (hpC m (itW g))) (GivR (abP md_ws [.row m g] []) { val := .tup [.v (.int .u32 (ckV (listW (itW g) m))), .v (.bool (ckY (listW (itW g) m)))], obl := [allW m g, decide (m ≤ 2 ^ 38)] }) := fun v b hv hb =>
      good_out ⟨_, rfl, by rw [hv, hb], .cons (ABeq.row fun j hj => (allW_get h1 j hj).symm) .nil⟩
    have no : ckY (listW (itW g) m) = false → GoodQ (.out .ret [.tup [.v (.int .u32 0), .v (.bool false)]] (hpC m (itW g))) (GivR (abP md_ws [.row m g] []) { val := .tup [.v (.int .u32 (ckV (listW (itW g) m))), .v (.bool (ckY (listW (itW g) m)))], obl := [allW m g, decide (m ≤ 2 ^ 38)] }) := fun h => fin 0 false (by rw [ckV, h]; rfl) h
    refine ⟨hpC m (itW g), lamCkI m (itW g) (tI (listW (itW g) m)).length (wfun (tI (listW (itW g) m))) (noneTo (badCk (wfun (tI (listW (itW g) m))) (tI (listW (itW g) m)).length) 24) (ckH (wfun (tI (listW (itW g) m))) (tI (listW (itW g) m)).length 24), 100, .cons (ABeq.row fun j hj => allW_get h1 j hj) .nil, lam1 (by kernel_rfl) (sumCkI m (itW g) _ _ (tI_len12 _)), ?_⟩
    show GoodQ (execF Try.prog (gmTdI yI tI) (lamCkI m (itW g) (tI (listW (itW g) m)).length (wfun (tI (listW (itW g) m))) (noneTo (badCk (wfun (tI (listW (itW g) m))) (tI (listW (itW g) m)).length) 24) (ckH (wfun (tI (listW (itW g) m))) (tI (listW (itW g) m)).length 24)) 100 fCkI [.sl 0 9 0 0 m none] (hpC m (itW g)) (packK 1)) _
    rw [treeCkI]
    simp only [row0, listW_itW]
    generalize listW (itW g) m = L at fin no ⊢
    refine good_needs (by simp only [ob_cons, ob_nil, and_true, decide_eq_true_eq, Nat.ble_eq, allW_row, true_and]; omega) (good_cond (fun q => ?_) fun q => good_needs (by rw [ob_cons]; exact ⟨chk_of ⟨rfl, Hsim.refl _⟩, rfl⟩) (good_cond (fun q2 => ?_) fun q2 => ?_))
    · rw [Bool.not_eq_true'] at q
      exact no (by rw [ckY, q]; rfl)
    · rw [Bool.not_eq_false'] at q
      have h : ckY L = true := by rw [ckY, q, q2]; rfl
      exact fin _ true (by rw [ckV, h]; rfl) h
    · rw [Bool.not_eq_false'] at q
      exact no (by rw [ckY, q, q2]; rfl)
  · cases hF
theorem ok_ckS : SpecOk Try.prog 36 (specR md_ws (FckO ckV ckY)) := by
  refine specR_hr (Γ := gmTdS yI tI) (ext_ok g0_ok ok_tiS) Try.func36 rfl fun sas fr hF ho => ?_
  unfold FckO at hF
  split at hF
  · rename_i m g
    cases hF
    simp only [ob_cons] at ho
    obtain ⟨h1, h2, _⟩ := ho
    have hm := of_decide_eq_true h2
    have fin : ∀ v b, ckV (listW (itW g) m) = v → ckY (listW (itW g) m) = b → GoodQ (.out .ret [.tup [.v (.int .u32 v), .v (.bool b)]] (hpC m (itW g))) (GivR (abP md_ws [.row m g] []) { val := .tup [.v (.int .u32 (ckV (listW (itW g) m))), .v (.bool (ckY (listW (itW g) m)))], obl := [allW m g, decide (m ≤ 2 ^ 38)] }) := fun v b hv hb =>
      good_out ⟨_, rfl, by rw [hv, hb], .cons (ABeq.row fun j hj => (allW_get h1 j hj).symm) .nil⟩
    have no : ckY (listW (itW g) m) = false → GoodQ (.out .ret [.tup [.v (.int .u32 0), .v (.bool false)]] (hpC m (itW g))) (GivR (abP md_ws [.row m g] []) { val := .tup [.v (.int .u32 (ckV (listW (itW g) m))), .v (.bool (ckY (listW (itW g) m)))], obl := [allW m g, decide (m ≤ 2 ^ 38)] }) := fun h => fin 0 false (by rw [ckV, h]; rfl) h
    refine ⟨hpC m (itW g), lamCkS m (itW g) (tI (listW (itW g) m)).length (wfun (tI (listW (itW g) m))) (noneTo (badCk (wfun (tI (listW (itW g) m))) (tI (listW (itW g) m)).length) 24) (ckH (wfun (tI (listW (itW g) m))) (tI (listW (itW g) m)).length 24), 100, .cons (ABeq.row fun j hj => allW_get h1 j hj) .nil, lam1 (by kernel_rfl) (sumCkS m (itW g) _ _ (tI_len12 _)), ?_⟩
    show GoodQ (execF Try.prog (gmTdS yI tI) (lamCkS m (itW g) (tI (listW (itW g) m)).length (wfun (tI (listW (itW g) m))) (noneTo (badCk (wfun (tI (listW (itW g) m))) (tI (listW (itW g) m)).length) 24) (ckH (wfun (tI (listW (itW g) m))) (tI (listW (itW g) m)).length 24)) 100 fCkS [.sl 0 9 0 0 m none] (hpC m (itW g)) (packK 1)) _
    rw [treeCkS]
    simp only [row0, listW_itW]
    generalize listW (itW g) m = L at fin no ⊢
    refine good_needs (by simp only [ob_cons, ob_nil, and_true, decide_eq_true_eq, Nat.ble_eq, allW_row, true_and]; omega) (good_cond (fun q => ?_) fun q => good_needs (by rw [ob_cons]; exact ⟨chk_of ⟨rfl, Hsim.refl _⟩, rfl⟩) (good_cond (fun q2 => ?_) fun q2 => ?_))
    · rw [Bool.not_eq_true'] at q
      exact no (by rw [ckY, q]; rfl)
    · rw [Bool.not_eq_false'] at q
      have h : ckY L = true := by rw [ckY, q, q2]; rfl
      exact fin _ true (by rw [ckV, h]; rfl) h
    · rw [Bool.not_eq_false'] at q
      exact no (by rw [ckY, q, q2]; rfl)
  · cases hF

end Go.Proofs.Ytmdcafhnjihckaa

/- The laws' helpers on lists of wheels: trees. Conditions: a list of wheels. -/
namespace Go.Proofs.Ytmdcafhnjihckaa
open Go.RowKit
set_option maxRecDepth 100000

abbrev lvTW : Ex → List Nat := lv3 [0, 3, 4] [3] [2]
abbrev hpTW (m : Nat) (f : Nat → Nat → Int) (t : TypeId) (h : Nat → Nat → Int) : List AB := [.row false m 9 (row9 f) t, .row true m 9 (row9 h) 46]
theorem rndTW (m : Nat) (f : Nat → Nat → Int) (t : TypeId) (h : Nat → Nat → Int) (i : Nat) : execC Try.prog g0 100 noLam (loopAt 0 Try.f49) (mkT 0 23 ((lvTW .normal).zip [.sl 0 9 0 0 m none, .own 1 m, .v (i64 i)])) (hpTW m f t h) (leafV 23 lvTW 1)
    = bif decide ((↑i : Int) < (↑m : Int)) then needs [decide ((↑i : Int) < (↑m : Int)), decide ((0 : Nat) + Int.toNat (↑i : Int) < m), decide ((↑i : Int) < (↑m : Int)), decide (Int.toNat (↑i : Int) < m)] (Res.out Ex.normal [AV.sl (0 : Nat) (9 : Nat) (0 : Nat) (0 : Nat) m none, AV.own (1 : Nat) m, AV.v (Value.int IntKind.i64 (IntKind.wrap IntKind.i64 ((↑i : Int) + (1 : Int))))] [AB.row false m (9 : Nat) (row9 f) t, AB.row true m (9 : Nat) (fun q ↦ [Value.int IntKind.i64 (bif Nat.beq q (Int.toNat (↑i : Int)) then f ((0 : Nat) + Int.toNat (↑i : Int)) (0 : Nat) else h q (0 : Nat)), Value.int IntKind.i64 (bif Nat.beq q (Int.toNat (↑i : Int)) then f ((0 : Nat) + Int.toNat (↑i : Int)) (1 : Nat) else h q (1 : Nat)), Value.int IntKind.i64 (bif Nat.beq q (Int.toNat (↑i : Int)) then f ((0 : Nat) + Int.toNat (↑i : Int)) (2 : Nat) else h q (2 : Nat)), Value.int IntKind.i64 (bif Nat.beq q (Int.toNat (↑i : Int)) then f ((0 : Nat) + Int.toNat (↑i : Int)) (3 : Nat) else h q (3 : Nat)), Value.int IntKind.i64 (bif Nat.beq q (Int.toNat (↑i : Int)) then f ((0 : Nat) + Int.toNat (↑i : Int)) (4 : Nat) else h q (4 : Nat)), Value.int IntKind.i64 (bif Nat.beq q (Int.toNat (↑i : Int)) then f ((0 : Nat) + Int.toNat (↑i : Int)) (5 : Nat) else h q (5 : Nat)), Value.int IntKind.i64 (bif Nat.beq q (Int.toNat (↑i : Int)) then f ((0 : Nat) + Int.toNat (↑i : Int)) (6 : Nat) else h q (6 : Nat)), Value.int IntKind.i64 (bif Nat.beq q (Int.toNat (↑i : Int)) then f ((0 : Nat) + Int.toNat (↑i : Int)) (7 : Nat) else h q (7 : Nat)), Value.int IntKind.i64 (bif Nat.beq q (Int.toNat (↑i : Int)) then f ((0 : Nat) + Int.toNat (↑i : Int)) (8 : Nat) else h q (8 : Nat))]) (46 : TypeId)]) else Res.out (Ex.exit (0 : Nat)) [AV.own (1 : Nat) m] [AB.row false m (9 : Nat) (row9 f) t, AB.row true m (9 : Nat) (row9 h) (46 : TypeId)] := by kernel_rfl

noncomputable abbrev lamTW (m : Nat) (f : Nat → Nat → Int) (t : TypeId) : Nat → Option Sum := oneL 0 (atS 23 (lvTW .normal) 1 [.sl 0 9 0 0 m none, .own 1 m, .v (i64 (0 : Nat))] (hpTW m f t (fun j k => bif Nat.blt j 0 then f j k else 0)) (fun K => K .normal (mkT 0 23 [(3, .own 1 m)]) (hpTW m f t f)))
theorem treeTW (m : Nat) (f : Nat → Nat → Int) (t : TypeId) : execF Try.prog g0 (lamTW m f t) 100 Try.f49 [.sl 0 9 0 0 m none] [.row false m 9 (row9 f) t] (packK 1)
    = needs [decide ((↑m : Int) ≤ (↑m : Int)), decide ((↑m : Int) ≤ (1099511627776 : Int)), chk ([AV.sl (0 : Nat) (9 : Nat) (0 : Nat) (0 : Nat) m none, AV.own (1 : Nat) (Int.toNat (↑m : Int)), AV.v (Value.int IntKind.i64 (0 : Int))] = [AV.sl (0 : Nat) (9 : Nat) (0 : Nat) (0 : Nat) m none, AV.own (1 : Nat) m, AV.v (Value.int IntKind.i64 (0 : Int))] ∧ Hsim [AB.row false m (9 : Nat) (row9 f) t, AB.row true (Int.toNat (↑m : Int)) (9 : Nat) (fun _ ↦ [Value.int IntKind.i64 (0 : Int), Value.int IntKind.i64 (0 : Int), Value.int IntKind.i64 (0 : Int), Value.int IntKind.i64 (0 : Int), Value.int IntKind.i64 (0 : Int), Value.int IntKind.i64 (0 : Int), Value.int IntKind.i64 (0 : Int), Value.int IntKind.i64 (0 : Int), Value.int IntKind.i64 (0 : Int)]) (46 : Nat)] (hpTW m f t fun j k ↦ bif Nat.blt j (0 : Nat) then f j k else (0 : Int)))] (Res.out Ex.ret [AV.own (1 : Nat) m] [AB.row false m (9 : Nat) (row9 f) t, AB.row true m (9 : Nat) (row9 f) (46 : TypeId)]) := by kernel_rfl

theorem treeQW (a b : Nat → Int) : execF Try.prog g0 noLam 100 Try.f104 ([Value.agg ⟨[i64 (a 0), i64 (a 1), i64 (a 2), i64 (a 3), i64 (a 4), i64 (a 5), i64 (a 6), i64 (a 7), i64 (a 8)]⟩, Value.agg ⟨[i64 (b 0), i64 (b 1), i64 (b 2), i64 (b 3), i64 (b 4), i64 (b 5), i64 (b 6), i64 (b 7), i64 (b 8)]⟩].map .v) [] valK
    = bif a (0 : Nat) != b (0 : Nat) then Res.out Ex.ret [AV.v (Value.bool false)] [] else bif a (1 : Nat) != b (1 : Nat) then Res.out Ex.ret [AV.v (Value.bool false)] [] else bif a (2 : Nat) != b (2 : Nat) then Res.out Ex.ret [AV.v (Value.bool false)] [] else bif a (3 : Nat) != b (3 : Nat) then Res.out Ex.ret [AV.v (Value.bool false)] [] else bif a (4 : Nat) != b (4 : Nat) then Res.out Ex.ret [AV.v (Value.bool false)] [] else bif a (5 : Nat) != b (5 : Nat) then Res.out Ex.ret [AV.v (Value.bool false)] [] else bif a (6 : Nat) != b (6 : Nat) then Res.out Ex.ret [AV.v (Value.bool false)] [] else bif a (7 : Nat) != b (7 : Nat) then Res.out Ex.ret [AV.v (Value.bool false)] [] else bif a (8 : Nat) != b (8 : Nat) then Res.out Ex.ret [AV.v (Value.bool false)] [] else Res.out Ex.ret [AV.v (Value.bool true)] [] := by kernel_rfl

def f_eqW : List Value → Option (Value × List Bool)
  | [.agg ⟨[.int .i64 a0, .int .i64 a1, .int .i64 a2, .int .i64 a3, .int .i64 a4, .int .i64 a5, .int .i64 a6, .int .i64 a7, .int .i64 a8]⟩, .agg ⟨[.int .i64 b0, .int .i64 b1, .int .i64 b2, .int .i64 b3, .int .i64 b4, .int .i64 b5, .int .i64 b6, .int .i64 b7, .int .i64 b8]⟩] => some (.bool true, [decide (a0 = b0), decide (a1 = b1), decide (a2 = b2), decide (a3 = b3), decide (a4 = b4), decide (a5 = b5), decide (a6 = b6), decide (a7 = b7), decide (a8 = b8)])
  | _ => none
def gmQ : Gam := ext g0 104 (specV f_eqW)
abbrev lvQW : Ex → List Nat := lv3 [0, 1, 5] [] [4]
theorem rndQW (m : Nat) (f h : Nat → Nat → Int) (i : Nat) : execC Try.prog gmQ 100 noLam (loopAt 0 Try.f50) (mkT 0 27 ((lvQW .normal).zip [.sl 0 9 0 0 m none, .sl 1 9 0 0 m none, .v (i64 i)])) (hpQW m f h) (leafV 27 lvQW 2)
    = bif decide ((↑i : Int) < (↑m : Int)) then needs [decide ((↑i : Int) < (↑m : Int)), decide ((0 : Nat) + Int.toNat (↑i : Int) < m), decide ((↑i : Int) < (↑m : Int)), decide ((0 : Nat) + Int.toNat (↑i : Int) < m), decide (f ((0 : Nat) + Int.toNat (↑i : Int)) (0 : Nat) = h ((0 : Nat) + Int.toNat (↑i : Int)) (0 : Nat)), decide (f ((0 : Nat) + Int.toNat (↑i : Int)) (1 : Nat) = h ((0 : Nat) + Int.toNat (↑i : Int)) (1 : Nat)), decide (f ((0 : Nat) + Int.toNat (↑i : Int)) (2 : Nat) = h ((0 : Nat) + Int.toNat (↑i : Int)) (2 : Nat)), decide (f ((0 : Nat) + Int.toNat (↑i : Int)) (3 : Nat) = h ((0 : Nat) + Int.toNat (↑i : Int)) (3 : Nat)), decide (f ((0 : Nat) + Int.toNat (↑i : Int)) (4 : Nat) = h ((0 : Nat) + Int.toNat (↑i : Int)) (4 : Nat)), decide (f ((0 : Nat) + Int.toNat (↑i : Int)) (5 : Nat) = h ((0 : Nat) + Int.toNat (↑i : Int)) (5 : Nat)), decide (f ((0 : Nat) + Int.toNat (↑i : Int)) (6 : Nat) = h ((0 : Nat) + Int.toNat (↑i : Int)) (6 : Nat)), decide (f ((0 : Nat) + Int.toNat (↑i : Int)) (7 : Nat) = h ((0 : Nat) + Int.toNat (↑i : Int)) (7 : Nat)), decide (f ((0 : Nat) + Int.toNat (↑i : Int)) (8 : Nat) = h ((0 : Nat) + Int.toNat (↑i : Int)) (8 : Nat))] (Res.out Ex.normal [AV.sl (0 : Nat) (9 : Nat) (0 : Nat) (0 : Nat) m none, AV.sl (1 : Nat) (9 : Nat) (0 : Nat) (0 : Nat) m none, AV.v (Value.int IntKind.i64 (IntKind.wrap IntKind.i64 ((↑i : Int) + (1 : Int))))] [AB.row false m (9 : Nat) (row9 f) (46 : TypeId), AB.row false m (9 : Nat) (row9 h) (46 : TypeId)]) else Res.out (Ex.exit (0 : Nat)) [] [AB.row false m (9 : Nat) (row9 f) (46 : TypeId), AB.row false m (9 : Nat) (row9 h) (46 : TypeId)] := by kernel_rfl

noncomputable abbrev lamQW (m : Nat) (f h : Nat → Nat → Int) : Nat → Option Sum := oneL 0 (atS 27 (lvQW .normal) 2 [.sl 0 9 0 0 m none, .sl 1 9 0 0 m none, .v (i64 (0 : Nat))] (hpQW m f h) (fun K => K .normal (mkT 0 27 []) (hpQW m f h)))
theorem treeQS (m : Nat) (f h : Nat → Nat → Int) : execF Try.prog g0 (lamQW m f h) 100 Try.f50 [.sl 0 9 0 0 m none, .sl 1 9 0 0 m none] (hpQW m f h) (packK 2)
    = bif (↑m : Int) != (↑m : Int) then Res.out Ex.ret [AV.v (Value.bool false)] [AB.row false m (9 : Nat) (row9 f) (46 : TypeId), AB.row false m (9 : Nat) (row9 h) (46 : TypeId)] else needs [chk ([AV.sl (0 : Nat) (9 : Nat) (0 : Nat) (0 : Nat) m none, AV.sl (1 : Nat) (9 : Nat) (0 : Nat) (0 : Nat) m none, AV.v (Value.int IntKind.i64 (0 : Int))] = [AV.sl (0 : Nat) (9 : Nat) (0 : Nat) (0 : Nat) m none, AV.sl (1 : Nat) (9 : Nat) (0 : Nat) (0 : Nat) m none, AV.v (Value.int IntKind.i64 (0 : Int))] ∧ Hsim [AB.row false m (9 : Nat) (row9 f) (46 : TypeId), AB.row false m (9 : Nat) (row9 h) (46 : TypeId)] (hpQW m f h))] (Res.out Ex.ret [AV.v (Value.bool true)] [AB.row false m (9 : Nat) (row9 f) (46 : TypeId), AB.row false m (9 : Nat) (row9 h) (46 : TypeId)]) := by kernel_rfl

abbrev lvHW : Ex → List Nat := lv3 [0, 1, 5] [1] [4]
abbrev hpHW (m : Nat) (f : Nat → Nat → Int) : List AB := [.row false m 9 (row9 f) 46]
theorem rndHW (m : Nat) (f : Nat → Nat → Int) (k : Int) (i : Nat) : execC Try.prog g0 100 noLam (loopAt 0 Try.f56) (mkT 0 39 ((lvHW .normal).zip [.sl 0 9 0 0 m none, .v (i64 k), .v (i64 i)])) (hpHW m f) (leafV 39 lvHW 1)
    = bif decide ((↑i : Int) < (↑m : Int)) then needs [decide ((↑i : Int) < (↑m : Int)), decide ((0 : Nat) + Int.toNat (↑i : Int) < m)] (bif f ((0 : Nat) + Int.toNat (↑i : Int)) (0 : Nat) != k then Res.out Ex.ret [AV.v (Value.int IntKind.i64 (-1 : Int))] [AB.row false m (9 : Nat) (row9 f) (46 : TypeId)] else needs [decide ((↑i : Int) < (↑m : Int)), decide ((0 : Nat) + Int.toNat (↑i : Int) < m)] (bif f ((0 : Nat) + Int.toNat (↑i : Int)) (1 : Nat) != IntKind.wrap IntKind.i64 (k + (1 : Int)) then Res.out Ex.ret [AV.v (Value.int IntKind.i64 (-1 : Int))] [AB.row false m (9 : Nat) (row9 f) (46 : TypeId)] else needs [decide ((↑i : Int) < (↑m : Int)), decide ((0 : Nat) + Int.toNat (↑i : Int) < m)] (bif f ((0 : Nat) + Int.toNat (↑i : Int)) (2 : Nat) != IntKind.wrap IntKind.i64 (IntKind.wrap IntKind.i64 (k + (1 : Int)) + (1 : Int)) then Res.out Ex.ret [AV.v (Value.int IntKind.i64 (-1 : Int))] [AB.row false m (9 : Nat) (row9 f) (46 : TypeId)] else needs [decide ((↑i : Int) < (↑m : Int)), decide ((0 : Nat) + Int.toNat (↑i : Int) < m)] (bif f ((0 : Nat) + Int.toNat (↑i : Int)) (3 : Nat) != IntKind.wrap IntKind.i64 (IntKind.wrap IntKind.i64 (IntKind.wrap IntKind.i64 (k + (1 : Int)) + (1 : Int)) + (1 : Int)) then Res.out Ex.ret [AV.v (Value.int IntKind.i64 (-1 : Int))] [AB.row false m (9 : Nat) (row9 f) (46 : TypeId)] else needs [decide ((↑i : Int) < (↑m : Int)), decide ((0 : Nat) + Int.toNat (↑i : Int) < m)] (bif f ((0 : Nat) + Int.toNat (↑i : Int)) (4 : Nat) != IntKind.wrap IntKind.i64 (IntKind.wrap IntKind.i64 (IntKind.wrap IntKind.i64 (IntKind.wrap IntKind.i64 (k + (1 : Int)) + (1 : Int)) + (1 : Int)) + (1 : Int)) then Res.out Ex.ret [AV.v (Value.int IntKind.i64 (-1 : Int))] [AB.row false m (9 : Nat) (row9 f) (46 : TypeId)] else needs [decide ((↑i : Int) < (↑m : Int)), decide ((0 : Nat) + Int.toNat (↑i : Int) < m)] (bif f ((0 : Nat) + Int.toNat (↑i : Int)) (5 : Nat) != IntKind.wrap IntKind.i64 (IntKind.wrap IntKind.i64 (IntKind.wrap IntKind.i64 (IntKind.wrap IntKind.i64 (IntKind.wrap IntKind.i64 (k + (1 : Int)) + (1 : Int)) + (1 : Int)) + (1 : Int)) + (1 : Int)) then Res.out Ex.ret [AV.v (Value.int IntKind.i64 (-1 : Int))] [AB.row false m (9 : Nat) (row9 f) (46 : TypeId)] else needs [decide ((↑i : Int) < (↑m : Int)), decide ((0 : Nat) + Int.toNat (↑i : Int) < m)] (bif f ((0 : Nat) + Int.toNat (↑i : Int)) (6 : Nat) != IntKind.wrap IntKind.i64 (IntKind.wrap IntKind.i64 (IntKind.wrap IntKind.i64 (IntKind.wrap IntKind.i64 (IntKind.wrap IntKind.i64 (IntKind.wrap IntKind.i64 (k + (1 : Int)) + (1 : Int)) + (1 : Int)) + (1 : Int)) + (1 : Int)) + (1 : Int)) then Res.out Ex.ret [AV.v (Value.int IntKind.i64 (-1 : Int))] [AB.row false m (9 : Nat) (row9 f) (46 : TypeId)] else needs [decide ((↑i : Int) < (↑m : Int)), decide ((0 : Nat) + Int.toNat (↑i : Int) < m)] (bif f ((0 : Nat) + Int.toNat (↑i : Int)) (7 : Nat) != IntKind.wrap IntKind.i64 (IntKind.wrap IntKind.i64 (IntKind.wrap IntKind.i64 (IntKind.wrap IntKind.i64 (IntKind.wrap IntKind.i64 (IntKind.wrap IntKind.i64 (IntKind.wrap IntKind.i64 (k + (1 : Int)) + (1 : Int)) + (1 : Int)) + (1 : Int)) + (1 : Int)) + (1 : Int)) + (1 : Int)) then Res.out Ex.ret [AV.v (Value.int IntKind.i64 (-1 : Int))] [AB.row false m (9 : Nat) (row9 f) (46 : TypeId)] else needs [decide ((↑i : Int) < (↑m : Int)), decide ((0 : Nat) + Int.toNat (↑i : Int) < m)] (bif f ((0 : Nat) + Int.toNat (↑i : Int)) (8 : Nat) != IntKind.wrap IntKind.i64 (IntKind.wrap IntKind.i64 (IntKind.wrap IntKind.i64 (IntKind.wrap IntKind.i64 (IntKind.wrap IntKind.i64 (IntKind.wrap IntKind.i64 (IntKind.wrap IntKind.i64 (IntKind.wrap IntKind.i64 (k + (1 : Int)) + (1 : Int)) + (1 : Int)) + (1 : Int)) + (1 : Int)) + (1 : Int)) + (1 : Int)) + (1 : Int)) then Res.out Ex.ret [AV.v (Value.int IntKind.i64 (-1 : Int))] [AB.row false m (9 : Nat) (row9 f) (46 : TypeId)] else Res.out Ex.normal [AV.sl (0 : Nat) (9 : Nat) (0 : Nat) (0 : Nat) m none, AV.v (Value.int IntKind.i64 (IntKind.wrap IntKind.i64 (IntKind.wrap IntKind.i64 (IntKind.wrap IntKind.i64 (IntKind.wrap IntKind.i64 (IntKind.wrap IntKind.i64 (IntKind.wrap IntKind.i64 (IntKind.wrap IntKind.i64 (IntKind.wrap IntKind.i64 (IntKind.wrap IntKind.i64 (k + (1 : Int)) + (1 : Int)) + (1 : Int)) + (1 : Int)) + (1 : Int)) + (1 : Int)) + (1 : Int)) + (1 : Int)) + (1 : Int)))), AV.v (Value.int IntKind.i64 (IntKind.wrap IntKind.i64 ((↑i : Int) + (1 : Int))))] [AB.row false m (9 : Nat) (row9 f) (46 : TypeId)]))))))))) else Res.out (Ex.exit (0 : Nat)) [AV.v (Value.int IntKind.i64 k)] [AB.row false m (9 : Nat) (row9 f) (46 : TypeId)] := by kernel_rfl

noncomputable abbrev lamHW (m : Nat) (f : Nat → Nat → Int) (k k2 : Int) : Nat → Option Sum := oneL 0 (atS 39 (lvHW .normal) 1 [.sl 0 9 0 0 m none, .v (i64 k), .v (i64 (0 : Nat))] (hpHW m f) (fun K => K .normal (mkT 0 39 [(1, .v (i64 k2))]) (hpHW m f)))
theorem treeHW (m : Nat) (f : Nat → Nat → Int) (k k2 : Int) : execF Try.prog g0 (lamHW m f k k2) 100 Try.f56 [.sl 0 9 0 0 m none, .v (i64 k)] (hpHW m f) (packK 1)
    = needs [chk ([AV.sl (0 : Nat) (9 : Nat) (0 : Nat) (0 : Nat) m none, AV.v (Value.int IntKind.i64 k), AV.v (Value.int IntKind.i64 (0 : Int))] = [AV.sl (0 : Nat) (9 : Nat) (0 : Nat) (0 : Nat) m none, AV.v (Value.int IntKind.i64 k), AV.v (Value.int IntKind.i64 (0 : Int))] ∧ Hsim [AB.row false m (9 : Nat) (row9 f) (46 : TypeId)] (hpHW m f))] (Res.out Ex.ret [AV.v (Value.int IntKind.i64 k2)] [AB.row false m (9 : Nat) (row9 f) (46 : TypeId)]) := by kernel_rfl

abbrev lvMW : Ex → List Nat := lv3 [0, 1, 5] [1] [4]
abbrev hpMW (m : Nat) (f : Nat → Nat → Int) : List AB := [.row true m 9 (row9 f) 46]
abbrev wr1 (k : Int) : Int := IntKind.i64.wrap (k + 1)
def upd1 (G : Nat → List Value) (i q : Nat) (v : Value) : Nat → List Value := fun j => mergeL (Nat.beq j i) (splice (G i) q [v]) (G j)
theorem rndMo (m : Nat) (f : Nat → Nat → Int) (k : Int) (i : Nat) : execC Try.prog g0 100 noLam (loopAt 0 Try.f55) (mkT 0 35 ((lvMW .normal).zip [.own 0 m, .v (i64 k), .v (i64 i)])) (hpMW m f) (leafV 35 lvMW 1)
    = cond (decide ((i : Int) < m)) (needs ((List.range 9).flatMap fun _ => [decide ((i : Int) < m), decide (i < m)])
        (.out .normal [.own 0 m, .v (i64 (wr1 (wr1 (wr1 (wr1 (wr1 (wr1 (wr1 (wr1 (wr1 k)))))))))), .v (i64 (wr1 i))] [.row true m 9 (upd1 (upd1 (upd1 (upd1 (upd1 (upd1 (upd1 (upd1 (upd1 (row9 f) i 0 (i64 k)) i 1 (i64 (wr1 k))) i 2 (i64 (wr1 (wr1 k)))) i 3 (i64 (wr1 (wr1 (wr1 k))))) i 4 (i64 (wr1 (wr1 (wr1 (wr1 k)))))) i 5 (i64 (wr1 (wr1 (wr1 (wr1 (wr1 k))))))) i 6 (i64 (wr1 (wr1 (wr1 (wr1 (wr1 (wr1 k)))))))) i 7 (i64 (wr1 (wr1 (wr1 (wr1 (wr1 (wr1 (wr1 k))))))))) i 8 (i64 (wr1 (wr1 (wr1 (wr1 (wr1 (wr1 (wr1 (wr1 k)))))))))) 46]))
      (.out (.exit 0) [.v (i64 k)] (hpMW m f)) := by kernel_rfl
theorem rndMs (m : Nat) (f : Nat → Nat → Int) (k : Int) (i : Nat) : execC Try.prog g0 100 noLam (loopAt 0 Try.f55) (mkT 0 35 ((lvMW .normal).zip [.sl 0 9 0 0 m (some m), .v (i64 k), .v (i64 i)])) (hpMW m f) (leafV 35 lvMW 1)
    = cond (decide ((i : Int) < m)) (needs ((List.range 9).flatMap fun _ => [decide ((i : Int) < m), decide (0 + i < m)])
        (.out .normal [.sl 0 9 0 0 m (some m), .v (i64 (wr1 (wr1 (wr1 (wr1 (wr1 (wr1 (wr1 (wr1 (wr1 k)))))))))), .v (i64 (wr1 i))] [.row true m 9 (upd1 (upd1 (upd1 (upd1 (upd1 (upd1 (upd1 (upd1 (upd1 (row9 f) (0 + i) 0 (i64 k)) (0 + i) 1 (i64 (wr1 k))) (0 + i) 2 (i64 (wr1 (wr1 k)))) (0 + i) 3 (i64 (wr1 (wr1 (wr1 k))))) (0 + i) 4 (i64 (wr1 (wr1 (wr1 (wr1 k)))))) (0 + i) 5 (i64 (wr1 (wr1 (wr1 (wr1 (wr1 k))))))) (0 + i) 6 (i64 (wr1 (wr1 (wr1 (wr1 (wr1 (wr1 k)))))))) (0 + i) 7 (i64 (wr1 (wr1 (wr1 (wr1 (wr1 (wr1 (wr1 k))))))))) (0 + i) 8 (i64 (wr1 (wr1 (wr1 (wr1 (wr1 (wr1 (wr1 (wr1 k)))))))))) 46]))
      (.out (.exit 0) [.v (i64 k)] (hpMW m f)) := by kernel_rfl

noncomputable abbrev lamMW (s : AV) (m : Nat) (f h : Nat → Nat → Int) (k k2 : Int) : Nat → Option Sum := oneL 0 (atS 35 (lvMW .normal) 1 [s, .v (i64 k), .v (i64 (0 : Nat))] (hpMW m f) (fun K => K .normal (mkT 0 35 [(1, .v (i64 k2))]) (hpMW m h)))
theorem treeMo (m : Nat) (f h : Nat → Nat → Int) (k k2 : Int) : execF Try.prog g0 (lamMW (.own 0 m) m f h k k2) 100 Try.f55 [.own 0 m, .v (i64 k)] (hpMW m f) (packK 1)
    = needs [chk ([AV.own (0 : Nat) m, AV.v (Value.int IntKind.i64 k), AV.v (Value.int IntKind.i64 (0 : Int))] = [AV.own (0 : Nat) m, AV.v (Value.int IntKind.i64 k), AV.v (Value.int IntKind.i64 (0 : Int))] ∧ Hsim [AB.row true m (9 : Nat) (row9 f) (46 : TypeId)] (hpMW m f))] (Res.out Ex.ret [AV.v (Value.int IntKind.i64 k2)] [AB.row true m (9 : Nat) (row9 h) (46 : TypeId)]) := by kernel_rfl

theorem treeMs (m : Nat) (f h : Nat → Nat → Int) (k k2 : Int) : execF Try.prog g0 (lamMW (.sl 0 9 0 0 m (some m)) m f h k k2) 100 Try.f55 [.sl 0 9 0 0 m (some m), .v (i64 k)] (hpMW m f) (packK 1)
    = needs [chk ([AV.sl (0 : Nat) (9 : Nat) (0 : Nat) (0 : Nat) m (some m), AV.v (Value.int IntKind.i64 k), AV.v (Value.int IntKind.i64 (0 : Int))] = [AV.sl (0 : Nat) (9 : Nat) (0 : Nat) (0 : Nat) m (some m), AV.v (Value.int IntKind.i64 k), AV.v (Value.int IntKind.i64 (0 : Int))] ∧ Hsim [AB.row true m (9 : Nat) (row9 f) (46 : TypeId)] (hpMW m f))] (Res.out Ex.ret [AV.v (Value.int IntKind.i64 k2)] [AB.row true m (9 : Nat) (row9 h) (46 : TypeId)]) := by kernel_rfl

end Go.Proofs.Ytmdcafhnjihckaa

/- The laws' helpers on lists of wheels. Conditions: those that the words name. -/
namespace Go.Proofs.Ytmdcafhnjihckaa
open Go.RowKit
set_option maxRecDepth 100000

theorem sumTW (m : Nat) (f : Nat → Nat → Int) (t : TypeId) (hm : m ≤ 2 ^ 40) :
    SumOk Try.prog 1 (.block 0 (.loop (loopAt 0 Try.f49))) (atS 23 (lvTW .normal) 1 [.sl 0 9 0 0 m none, .own 1 m, .v (i64 (0 : Nat))] (hpTW m f t (fun j k => bif Nat.blt j 0 then f j k else 0)) (fun K => K .normal (mkT 0 23 [(3, .own 1 m)]) (hpTW m f t f))) := by
  refine for_at g0_ok (n := 100) (m := 1) (lv := lvTW) (fun i => [.sl 0 9 0 0 m none, .own 1 m, .v (i64 (i : Nat))]) (fun i => hpTW m f t (fun j k => bif Nat.blt j i then f j k else 0)) (fun _ => True) m (fun _ => noLam) (lv3_ris rfl rfl rfl) (Nat.le_refl _) trivial fun K Q hk i hi him => ⟨noLam_ok _ _ _, ?_⟩
  rw [rndTW]
  refine good_cond (fun c1 => ?_) fun c1 => ?_
  · have c1 := of_decide_eq_true c1
    have c1' : i < m := by omega
    rw [Int.toNat_natCast, Nat.zero_add, wr_in (x := (i : Int) + 1) (by omega)]
    refine good_needs (by simp only [ob_cons, ob_nil, and_true, decide_eq_true_eq]; omega) (good_out ⟨i + 1, ⟨rfl, c1', trivial⟩, rfl, .cons (ABeq.refl _) (.cons (ABeq.row fun q hq => ?_) .nil)⟩)
    show row9 (fun q k => bif Nat.beq q i then f i k else bif Nat.blt q i then f q k else 0) q = _
    refine row9_congr fun k hk9 => ?_
    by_cases e : q = i
    · rw [e, show Nat.beq i i = true from Nat.beq_refl i, blt_yes (Nat.lt_succ_self i), cond_true, cond_true]
    · rw [beq_ne e, cond_false]
      by_cases h : q < i
      · rw [blt_yes h, blt_yes (by omega : q < i + 1)]
      · have b1 : Nat.blt q i = false := by
          cases hb : Nat.blt q i with
          | false => rfl
          | true => rw [Nat.blt_eq] at hb; omega
        have b2 : Nat.blt q (i + 1) = false := by
          cases hb : Nat.blt q (i + 1) with
          | false => rfl
          | true => rw [Nat.blt_eq] at hb; omega
        rw [b1, b2]
  · have c1 := of_decide_eq_false c1
    have : i = m := by omega
    subst this
    refine good_out ⟨hpTW i f t f, .cons (ABeq.refl _) (.cons (ABeq.row fun q hq => ?_) .nil), ?_⟩
    · exact row9_congr fun k _ => by rw [blt_yes hq]; rfl
    · rw [if_pos rfl]
      exact hk
def F_toW : List SA → Option FR
  | [.row m g] => some { val := .own 0 m, new := [.row true m 9 (row9 (itW g)) 46], obl := [allW m g, decide (m ≤ 2 ^ 39)] }
  | _ => none
def md_toW : List Md := [.rd 9 109]
theorem ok_toW : SpecOk Try.prog 49 (specR md_toW F_toW) := by
  refine specR_hr g0_ok Try.func49 rfl fun sas fr hF ho => ?_
  unfold F_toW at hF
  split at hF
  · rename_i m g
    cases hF
    simp only [ob_cons] at ho
    obtain ⟨h1, h2, _⟩ := ho
    have hm := of_decide_eq_true h2
    refine ⟨[.row false m 9 (row9 (itW g)) 109], lamTW m (itW g) 109, 100, .cons (ABeq.row fun j hj => allW_get h1 j hj) .nil, lam1 (by kernel_rfl) (sumTW m (itW g) 109 (by omega)), ?_⟩
    show GoodQ (execF Try.prog g0 (lamTW m (itW g) 109) 100 Try.f49 [.sl 0 9 0 0 m none] [.row false m 9 (row9 (itW g)) 109] (packK 1)) _
    rw [treeTW]
    simp only [Int.toNat_natCast]
    refine good_needs ?_ (good_out ⟨_, rfl, rfl, .cons (ABeq.row fun j hj => (allW_get h1 j hj).symm) (Hsim.refl _)⟩)
    simp only [ob_cons, ob_nil, and_true]
    exact ⟨by simp, decide_eq_true (by omega), chk_of ⟨trivial, .cons (ABeq.refl _) (.cons (ABeq.row fun j hj => rfl) .nil)⟩⟩
  · cases hF

theorem ok_eqW : SpecOk Try.prog 104 (specV f_eqW) := by
  refine mkV (n := 100) g0_ok Try.func104 rfl fun vs v ob hF ho => ?_
  unfold f_eqW at hF
  split at hF
  · rename_i a0 a1 a2 a3 a4 a5 a6 a7 a8 b0 b1 b2 b3 b4 b5 b6 b7 b8
    cases hF
    simp only [ob_cons, decide_eq_true_eq] at ho
    obtain ⟨rfl, rfl, rfl, rfl, rfl, rfl, rfl, rfl, rfl, _⟩ := ho
    show Good (execF Try.prog g0 noLam 100 Try.f104 ([Value.agg ⟨[i64 (v9 a0 a1 a2 a3 a4 a5 a6 a7 a8 0), i64 (v9 a0 a1 a2 a3 a4 a5 a6 a7 a8 1), i64 (v9 a0 a1 a2 a3 a4 a5 a6 a7 a8 2), i64 (v9 a0 a1 a2 a3 a4 a5 a6 a7 a8 3), i64 (v9 a0 a1 a2 a3 a4 a5 a6 a7 a8 4), i64 (v9 a0 a1 a2 a3 a4 a5 a6 a7 a8 5), i64 (v9 a0 a1 a2 a3 a4 a5 a6 a7 a8 6), i64 (v9 a0 a1 a2 a3 a4 a5 a6 a7 a8 7), i64 (v9 a0 a1 a2 a3 a4 a5 a6 a7 a8 8)]⟩, Value.agg ⟨[i64 (v9 a0 a1 a2 a3 a4 a5 a6 a7 a8 0), i64 (v9 a0 a1 a2 a3 a4 a5 a6 a7 a8 1), i64 (v9 a0 a1 a2 a3 a4 a5 a6 a7 a8 2), i64 (v9 a0 a1 a2 a3 a4 a5 a6 a7 a8 3), i64 (v9 a0 a1 a2 a3 a4 a5 a6 a7 a8 4), i64 (v9 a0 a1 a2 a3 a4 a5 a6 a7 a8 5), i64 (v9 a0 a1 a2 a3 a4 a5 a6 a7 a8 6), i64 (v9 a0 a1 a2 a3 a4 a5 a6 a7 a8 7), i64 (v9 a0 a1 a2 a3 a4 a5 a6 a7 a8 8)]⟩].map .v) [] valK) _
    rw [treeQW]
    simp only [bne_self_eq_false, cond_false]
    exact one rfl
  · cases hF
theorem gmQ_ok : GamOk Try.prog gmQ := ext_ok g0_ok ok_eqW

/-- The first m wheels are the same. -/
def sameP (m : Nat) (f h : Nat → Nat → Int) : Prop := ∀ j, j < m → ∀ k, k < 9 → f j k = h j k
noncomputable def sameW (m : Nat) (f h : Nat → Nat → Int) : Bool := chk (sameP m f h)
theorem sumQW (m : Nat) (f h : Nat → Nat → Int) (hm : m ≤ 2 ^ 40) (hs : sameP m f h) :
    SumOk Try.prog 2 (.block 0 (.loop (loopAt 0 Try.f50))) (atS 27 (lvQW .normal) 2 [.sl 0 9 0 0 m none, .sl 1 9 0 0 m none, .v (i64 (0 : Nat))] (hpQW m f h) (fun K => K .normal (mkT 0 27 []) (hpQW m f h))) := by
  refine for_at gmQ_ok (n := 100) (m := 2) (lv := lvQW) (fun i => [.sl 0 9 0 0 m none, .sl 1 9 0 0 m none, .v (i64 (i : Nat))]) (fun _ => hpQW m f h) (fun _ => True) m (fun _ => noLam) (lv3_ris rfl rfl rfl) (Nat.le_refl _) trivial fun K Q hk i hi him => ⟨noLam_ok _ _ _, ?_⟩
  rw [rndQW]
  refine good_cond (fun c1 => ?_) fun c1 => ?_
  · have c1 := of_decide_eq_true c1
    have c1' : i < m := by omega
    rw [Int.toNat_natCast, Nat.zero_add, wr_in (x := (i : Int) + 1) (by omega)]
    have e := hs i c1'
    refine good_needs ?_ (good_out ⟨i + 1, ⟨rfl, c1', trivial⟩, rfl, Hsim.refl _⟩)
    simp only [ob_cons, ob_nil, and_true, decide_eq_true_eq]
    exact ⟨by omega, by omega, by omega, by omega, e 0 (by omega), e 1 (by omega), e 2 (by omega), e 3 (by omega), e 4 (by omega), e 5 (by omega), e 6 (by omega), e 7 (by omega), e 8 (by omega)⟩
  · have c1 := of_decide_eq_false c1
    have : i = m := by omega
    subst this
    refine good_out ⟨_, Hsim.refl _, ?_⟩
    rw [if_pos rfl]
    exact hk
/-- Two lists of wheels that are the same. -/
noncomputable def F_eqWS : List SA → Option FR
  | [.row m g, .row m2 g2] => some { val := .v (.bool true), obl := [Nat.beq m2 m, allW m g, allW m g2, sameW m (itW g) (itW g2), decide (m ≤ 2 ^ 40)] }
  | _ => none
theorem ok_eqWS : SpecOk Try.prog 50 (specR md_eqWS F_eqWS) := by
  refine specR_hr g0_ok Try.func50 rfl fun sas fr hF ho => ?_
  unfold F_eqWS at hF
  split at hF
  · rename_i m g m2 g2
    cases hF
    simp only [ob_cons] at ho
    obtain ⟨h0, h1, h2, h3, h4, _⟩ := ho
    have h0 := Nat.eq_of_beq_eq_true h0
    subst h0
    have hm := of_decide_eq_true h4
    refine ⟨hpQW m2 (itW g) (itW g2), lamQW m2 (itW g) (itW g2), 100, .cons (ABeq.row fun j hj => allW_get h1 j hj) (.cons (ABeq.row fun j hj => allW_get h2 j hj) .nil), lam1 (by kernel_rfl) (sumQW m2 (itW g) (itW g2) hm (of_chk h3)), ?_⟩
    show GoodQ (execF Try.prog g0 (lamQW m2 (itW g) (itW g2)) 100 Try.f50 [.sl 0 9 0 0 m2 none, .sl 1 9 0 0 m2 none] (hpQW m2 (itW g) (itW g2)) (packK 2)) _
    rw [treeQS]
    exact good_false (by simp) (good_needs (by rw [ob_cons]; exact ⟨chk_of ⟨rfl, Hsim.refl _⟩, rfl⟩) (good_out ⟨_, rfl, rfl, .cons (ABeq.row fun j hj => (allW_get h1 j hj).symm) (.cons (ABeq.row fun j hj => (allW_get h2 j hj).symm) .nil)⟩))
  · cases hF

/-- Marks, from k on. -/
def markF (k : Int) : Nat → Nat → Int := fun j c => k + 9 * (j : Int) + c
theorem sumHW (m : Nat) (f : Nat → Nat → Int) (k : Int) (hm : m ≤ 2 ^ 40) (hk0 : 0 ≤ k ∧ k ≤ 2 ^ 50) (hs : sameP m f (markF k)) :
    SumOk Try.prog 1 (.block 0 (.loop (loopAt 0 Try.f56))) (atS 39 (lvHW .normal) 1 [.sl 0 9 0 0 m none, .v (i64 (k + 9 * (0 : Nat))), .v (i64 (0 : Nat))] (hpHW m f) (fun K => K .normal (mkT 0 39 [(1, .v (i64 (k + 9 * m)))]) (hpHW m f))) := by
  refine for_at g0_ok (n := 100) (m := 1) (lv := lvHW) (fun i => [.sl 0 9 0 0 m none, .v (i64 (k + 9 * (i : Nat))), .v (i64 (i : Nat))]) (fun _ => hpHW m f) (fun _ => True) m (fun _ => noLam) (lv3_ris rfl rfl rfl) (Nat.le_refl _) trivial fun K Q hk i hi him => ⟨noLam_ok _ _ _, ?_⟩
  rw [rndHW]
  refine good_cond (fun c1 => ?_) fun c1 => ?_
  · have c1 := of_decide_eq_true c1
    have c1' : i < m := by omega
    have e1 : IntKind.wrap IntKind.i64 (k + 9 * (i : Int) + 1) = k + 9 * (i : Int) + 1 := (wr_in (by omega)).trans (by omega)
    have e2 : IntKind.wrap IntKind.i64 (k + 9 * (i : Int) + 1 + 1) = k + 9 * (i : Int) + 2 := (wr_in (by omega)).trans (by omega)
    have e3 : IntKind.wrap IntKind.i64 (k + 9 * (i : Int) + 2 + 1) = k + 9 * (i : Int) + 3 := (wr_in (by omega)).trans (by omega)
    have e4 : IntKind.wrap IntKind.i64 (k + 9 * (i : Int) + 3 + 1) = k + 9 * (i : Int) + 4 := (wr_in (by omega)).trans (by omega)
    have e5 : IntKind.wrap IntKind.i64 (k + 9 * (i : Int) + 4 + 1) = k + 9 * (i : Int) + 5 := (wr_in (by omega)).trans (by omega)
    have e6 : IntKind.wrap IntKind.i64 (k + 9 * (i : Int) + 5 + 1) = k + 9 * (i : Int) + 6 := (wr_in (by omega)).trans (by omega)
    have e7 : IntKind.wrap IntKind.i64 (k + 9 * (i : Int) + 6 + 1) = k + 9 * (i : Int) + 7 := (wr_in (by omega)).trans (by omega)
    have e8 : IntKind.wrap IntKind.i64 (k + 9 * (i : Int) + 7 + 1) = k + 9 * (i : Int) + 8 := (wr_in (by omega)).trans (by omega)
    have e9 : IntKind.wrap IntKind.i64 (k + 9 * (i : Int) + 8 + 1) = k + 9 * ((i + 1 : Nat) : Int) := (wr_in (by omega)).trans (by omega)
    rw [Int.toNat_natCast, Nat.zero_add]
    rw [e1, e2, e3, e4, e5, e6, e7, e8, e9, wr_in (x := (i : Int) + 1) (by omega)]
    have ob : obls [decide ((i : Int) < m), decide (i < m)] = true := by simp only [ob_cons, ob_nil, and_true, decide_eq_true_eq]; omega
    have e := hs i c1'
    have h0 : f i 0 = k + 9 * (i : Int) := by rw [e 0 (by omega)]; simp [markF]
    have h1 : f i 1 = k + 9 * (i : Int) + 1 := e 1 (by omega)
    have h2 : f i 2 = k + 9 * (i : Int) + 2 := e 2 (by omega)
    have h3 : f i 3 = k + 9 * (i : Int) + 3 := e 3 (by omega)
    have h4 : f i 4 = k + 9 * (i : Int) + 4 := e 4 (by omega)
    have h5 : f i 5 = k + 9 * (i : Int) + 5 := e 5 (by omega)
    have h6 : f i 6 = k + 9 * (i : Int) + 6 := e 6 (by omega)
    have h7 : f i 7 = k + 9 * (i : Int) + 7 := e 7 (by omega)
    have h8 : f i 8 = k + 9 * (i : Int) + 8 := e 8 (by omega)
    exact good_needs ob (good_false (by simp [h0]) (good_needs ob (good_false (by simp [h1]) (good_needs ob (good_false (by simp [h2]) (good_needs ob (good_false (by simp [h3]) (good_needs ob (good_false (by simp [h4]) (good_needs ob (good_false (by simp [h5]) (good_needs ob (good_false (by simp [h6]) (good_needs ob (good_false (by simp [h7]) (good_needs ob (good_false (by simp [h8]) (good_out ⟨i + 1, ⟨rfl, c1', trivial⟩, rfl, Hsim.refl _⟩))))))))))))))))))
  · have c1 := of_decide_eq_false c1
    have : i = m := by omega
    subst this
    refine good_out ⟨_, Hsim.refl _, ?_⟩
    rw [if_pos rfl]
    exact hk
/-- A list that holds the marks. -/
noncomputable def F_heldW : List SA → Option FR
  | [.row m g, .v (.int .i64 k)] => some { val := .v (i64 (k + 9 * m)), obl := [allW m g, sameW m (itW g) (markF k), decide (0 ≤ k), decide (k ≤ 2 ^ 50), decide (m ≤ 2 ^ 40)] }
  | _ => none
theorem ok_heldW : SpecOk Try.prog 56 (specR md_wv F_heldW) := by
  refine specR_hr g0_ok Try.func56 rfl fun sas fr hF ho => ?_
  unfold F_heldW at hF
  split at hF
  · rename_i m g k
    cases hF
    simp only [ob_cons] at ho
    obtain ⟨h1, h3, h4, h5, h6, _⟩ := ho
    have h4 := of_decide_eq_true h4
    have h5 := of_decide_eq_true h5
    have hm := of_decide_eq_true h6
    have e0 : k = k + 9 * ((0 : Nat) : Int) := by omega
    have hS := sumHW m (itW g) k hm ⟨h4, h5⟩ (of_chk h3)
    rw [← e0] at hS
    refine ⟨hpHW m (itW g), lamHW m (itW g) k (k + 9 * m), 100, .cons (ABeq.row fun j hj => allW_get h1 j hj) .nil, lam1 (by kernel_rfl) hS, ?_⟩
    show GoodQ (execF Try.prog g0 (lamHW m (itW g) k (k + 9 * m)) 100 Try.f56 [.sl 0 9 0 0 m none, .v (i64 k)] (hpHW m (itW g)) (packK 1)) _
    rw [treeHW]
    exact good_needs (by rw [ob_cons]; exact ⟨chk_of ⟨rfl, Hsim.refl _⟩, rfl⟩) (good_out ⟨_, rfl, rfl, .cons (ABeq.row fun j hj => (allW_get h1 j hj).symm) .nil⟩)
  · cases hF

theorem upd9 (G : Nat → List Value) (i : Nat) (v0 v1 v2 v3 v4 v5 v6 v7 v8 : Value) (h : ∃ a : Nat → Int, G i = [i64 (a 0), i64 (a 1), i64 (a 2), i64 (a 3), i64 (a 4), i64 (a 5), i64 (a 6), i64 (a 7), i64 (a 8)]) (j : Nat) :
    (upd1 (upd1 (upd1 (upd1 (upd1 (upd1 (upd1 (upd1 (upd1 G i 0 v0) i 1 v1) i 2 v2) i 3 v3) i 4 v4) i 5 v5) i 6 v6) i 7 v7) i 8 v8) j = if j = i then [v0, v1, v2, v3, v4, v5, v6, v7, v8] else G j := by
  obtain ⟨a, ha⟩ := h
  have b1 : Nat.beq i i = true := Nat.beq_refl i
  by_cases e : j = i
  · subst e
    simp only [upd1, mergeL_eq, b1, cond_true, ha, if_pos]
    rfl
  · simp only [upd1, mergeL_eq, beq_ne e, cond_false, if_neg e]
/-- Marked below i. -/
def mkF (k : Int) (f : Nat → Nat → Int) (i : Nat) : Nat → Nat → Int := fun j c => bif Nat.blt j i then markF k j c else f j c
theorem sumMo (m : Nat) (f : Nat → Nat → Int) (k : Int) (hm : m ≤ 2 ^ 40) (hk0 : 0 ≤ k ∧ k ≤ 2 ^ 50) :
    SumOk Try.prog 1 (.block 0 (.loop (loopAt 0 Try.f55))) (atS 35 (lvMW .normal) 1 [.own 0 m, .v (i64 (k + 9 * (0 : Nat))), .v (i64 (0 : Nat))] (hpMW m f) (fun K => K .normal (mkT 0 35 [(1, .v (i64 (k + 9 * m)))]) (hpMW m (markF k)))) := by
  refine for_at g0_ok (n := 100) (m := 1) (lv := lvMW) (fun i => [.own 0 m, .v (i64 (k + 9 * (i : Nat))), .v (i64 (i : Nat))]) (fun i => hpMW m (mkF k f i)) (fun _ => True) m (fun _ => noLam) (lv3_ris rfl rfl rfl) (Nat.le_refl _) trivial fun K Q hk i hi him => ⟨noLam_ok _ _ _, ?_⟩
  rw [rndMo]
  refine good_cond (fun c1 => ?_) fun c1 => ?_
  · have c1 := of_decide_eq_true c1
    have c1' : i < m := by omega
    have e1 : IntKind.wrap IntKind.i64 (k + 9 * (i : Int) + 1) = k + 9 * (i : Int) + 1 := (wr_in (by omega)).trans (by omega)
    have e2 : IntKind.wrap IntKind.i64 (k + 9 * (i : Int) + 1 + 1) = k + 9 * (i : Int) + 2 := (wr_in (by omega)).trans (by omega)
    have e3 : IntKind.wrap IntKind.i64 (k + 9 * (i : Int) + 2 + 1) = k + 9 * (i : Int) + 3 := (wr_in (by omega)).trans (by omega)
    have e4 : IntKind.wrap IntKind.i64 (k + 9 * (i : Int) + 3 + 1) = k + 9 * (i : Int) + 4 := (wr_in (by omega)).trans (by omega)
    have e5 : IntKind.wrap IntKind.i64 (k + 9 * (i : Int) + 4 + 1) = k + 9 * (i : Int) + 5 := (wr_in (by omega)).trans (by omega)
    have e6 : IntKind.wrap IntKind.i64 (k + 9 * (i : Int) + 5 + 1) = k + 9 * (i : Int) + 6 := (wr_in (by omega)).trans (by omega)
    have e7 : IntKind.wrap IntKind.i64 (k + 9 * (i : Int) + 6 + 1) = k + 9 * (i : Int) + 7 := (wr_in (by omega)).trans (by omega)
    have e8 : IntKind.wrap IntKind.i64 (k + 9 * (i : Int) + 7 + 1) = k + 9 * (i : Int) + 8 := (wr_in (by omega)).trans (by omega)
    have e9 : IntKind.wrap IntKind.i64 (k + 9 * (i : Int) + 8 + 1) = k + 9 * ((i + 1 : Nat) : Int) := (wr_in (by omega)).trans (by omega)
    simp only [wr1]
    rw [e1, e2, e3, e4, e5, e6, e7, e8, e9, wr_in (x := (i : Int) + 1) (by omega)]
    refine good_needs (by simp [obls, List.all_flatMap, c1']) (good_out ⟨i + 1, ⟨rfl, c1', trivial⟩, rfl, .cons (ABeq.row fun j hj => ?_) .nil⟩)
    rw [upd9 _ _ _ _ _ _ _ _ _ _ _ ⟨mkF k f i i, rfl⟩]
    by_cases e : j = i
    · subst e
      rw [if_pos rfl]
      simp only [row9, mkF, blt_yes (Nat.lt_succ_self j), cond_true, markF]
      simp
    · rw [if_neg e]
      refine row9_congr fun c _ => ?_
      have b2 : Nat.blt j (i + 1) = Nat.blt j i := by
        rw [Bool.eq_iff_iff, Nat.blt_eq, Nat.blt_eq]
        omega
      simp only [mkF, b2]
  · have c1 := of_decide_eq_false c1
    have : i = m := by omega
    subst this
    refine good_out ⟨hpMW i (markF k), .cons (ABeq.row fun q hq => ?_) .nil, ?_⟩
    · exact row9_congr fun c _ => by simp only [mkF, blt_yes hq, cond_true]
    · rw [if_pos rfl]
      exact hk
theorem sumMs (m : Nat) (f : Nat → Nat → Int) (k : Int) (hm : m ≤ 2 ^ 40) (hk0 : 0 ≤ k ∧ k ≤ 2 ^ 50) :
    SumOk Try.prog 1 (.block 0 (.loop (loopAt 0 Try.f55))) (atS 35 (lvMW .normal) 1 [.sl 0 9 0 0 m (some m), .v (i64 (k + 9 * (0 : Nat))), .v (i64 (0 : Nat))] (hpMW m f) (fun K => K .normal (mkT 0 35 [(1, .v (i64 (k + 9 * m)))]) (hpMW m (markF k)))) := by
  refine for_at g0_ok (n := 100) (m := 1) (lv := lvMW) (fun i => [.sl 0 9 0 0 m (some m), .v (i64 (k + 9 * (i : Nat))), .v (i64 (i : Nat))]) (fun i => hpMW m (mkF k f i)) (fun _ => True) m (fun _ => noLam) (lv3_ris rfl rfl rfl) (Nat.le_refl _) trivial fun K Q hk i hi him => ⟨noLam_ok _ _ _, ?_⟩
  rw [rndMs]
  refine good_cond (fun c1 => ?_) fun c1 => ?_
  · have c1 := of_decide_eq_true c1
    have c1' : i < m := by omega
    have e1 : IntKind.wrap IntKind.i64 (k + 9 * (i : Int) + 1) = k + 9 * (i : Int) + 1 := (wr_in (by omega)).trans (by omega)
    have e2 : IntKind.wrap IntKind.i64 (k + 9 * (i : Int) + 1 + 1) = k + 9 * (i : Int) + 2 := (wr_in (by omega)).trans (by omega)
    have e3 : IntKind.wrap IntKind.i64 (k + 9 * (i : Int) + 2 + 1) = k + 9 * (i : Int) + 3 := (wr_in (by omega)).trans (by omega)
    have e4 : IntKind.wrap IntKind.i64 (k + 9 * (i : Int) + 3 + 1) = k + 9 * (i : Int) + 4 := (wr_in (by omega)).trans (by omega)
    have e5 : IntKind.wrap IntKind.i64 (k + 9 * (i : Int) + 4 + 1) = k + 9 * (i : Int) + 5 := (wr_in (by omega)).trans (by omega)
    have e6 : IntKind.wrap IntKind.i64 (k + 9 * (i : Int) + 5 + 1) = k + 9 * (i : Int) + 6 := (wr_in (by omega)).trans (by omega)
    have e7 : IntKind.wrap IntKind.i64 (k + 9 * (i : Int) + 6 + 1) = k + 9 * (i : Int) + 7 := (wr_in (by omega)).trans (by omega)
    have e8 : IntKind.wrap IntKind.i64 (k + 9 * (i : Int) + 7 + 1) = k + 9 * (i : Int) + 8 := (wr_in (by omega)).trans (by omega)
    have e9 : IntKind.wrap IntKind.i64 (k + 9 * (i : Int) + 8 + 1) = k + 9 * ((i + 1 : Nat) : Int) := (wr_in (by omega)).trans (by omega)
    simp only [wr1, Nat.zero_add]
    rw [e1, e2, e3, e4, e5, e6, e7, e8, e9, wr_in (x := (i : Int) + 1) (by omega)]
    refine good_needs (by simp [obls, List.all_flatMap, c1']) (good_out ⟨i + 1, ⟨rfl, c1', trivial⟩, rfl, .cons (ABeq.row fun j hj => ?_) .nil⟩)
    rw [upd9 _ _ _ _ _ _ _ _ _ _ _ ⟨mkF k f i i, rfl⟩]
    by_cases e : j = i
    · subst e
      rw [if_pos rfl]
      simp only [row9, mkF, blt_yes (Nat.lt_succ_self j), cond_true, markF]
      simp
    · rw [if_neg e]
      refine row9_congr fun c _ => ?_
      have b2 : Nat.blt j (i + 1) = Nat.blt j i := by
        rw [Bool.eq_iff_iff, Nat.blt_eq, Nat.blt_eq]
        omega
      simp only [mkF, b2]
  · have c1 := of_decide_eq_false c1
    have : i = m := by omega
    subst this
    refine good_out ⟨hpMW i (markF k), .cons (ABeq.row fun q hq => ?_) .nil, ?_⟩
    · exact row9_congr fun c _ => by simp only [mkF, blt_yes hq, cond_true]
    · rw [if_pos rfl]
      exact hk
def F_markW : List AV → List AB → Option HR
  | [.own 0 m, .v (.int .i64 k)], [.row true n 9 g t] => some { val := .v (i64 (k + 9 * m)), out := [.row true m 9 (row9 (markF k)) t], obl := [Nat.beq n m, Nat.beq t 46, allW m g, decide (0 ≤ k), decide (k ≤ 2 ^ 50), decide (m ≤ 2 ^ 40)] }
  | [.sl 0 9 0 0 m (some c), .v (.int .i64 k)], [.row true n 9 g t] => some { val := .v (i64 (k + 9 * m)), out := [.row true m 9 (row9 (markF k)) t], obl := [Nat.beq n m, Nat.beq c m, Nat.beq t 46, allW m g, decide (0 ≤ k), decide (k ≤ 2 ^ 50), decide (m ≤ 2 ^ 40)] }
  | _, _ => none
theorem ok_markW : SpecOk Try.prog 55 (specH [] F_markW) := by
  refine specH_ok g0_ok Try.func55 rfl fun avs H hr hF ho => ?_
  unfold F_markW at hF
  split at hF
  · rename_i m k n g t
    cases hF
    simp only [ob_cons] at ho
    obtain ⟨h0, ht, h1, h4, h5, h6, _⟩ := ho
    have h0 := Nat.eq_of_beq_eq_true h0
    have ht := Nat.eq_of_beq_eq_true ht
    have h4 := of_decide_eq_true h4
    have h5 := of_decide_eq_true h5
    have hm := of_decide_eq_true h6
    subst ht h0
    have e0 : k = k + 9 * ((0 : Nat) : Int) := by omega
    have hS := sumMo n (itW g) k hm ⟨h4, h5⟩
    rw [← e0] at hS
    refine ⟨hpMW n (itW g), lamMW (.own 0 n) n (itW g) (markF k) k (k + 9 * n), 100, .cons (ABeq.row fun j hj => allW_get h1 j hj) .nil, lam1 (by kernel_rfl) hS, ?_⟩
    show GoodQ (execF Try.prog g0 (lamMW (.own 0 n) n (itW g) (markF k) k (k + 9 * n)) 100 Try.f55 [.own 0 n, .v (i64 k)] (hpMW n (itW g)) (packK 1)) _
    rw [treeMo]
    exact good_needs (by rw [ob_cons]; exact ⟨chk_of ⟨rfl, Hsim.refl _⟩, rfl⟩) (good_out ⟨rfl, Hsim.refl _⟩)
  · rename_i m c k n g t
    cases hF
    simp only [ob_cons] at ho
    obtain ⟨h0, hc, ht, h1, h4, h5, h6, _⟩ := ho
    have h0 := Nat.eq_of_beq_eq_true h0
    have ht := Nat.eq_of_beq_eq_true ht
    have hc := Nat.eq_of_beq_eq_true hc
    have h4 := of_decide_eq_true h4
    have h5 := of_decide_eq_true h5
    have hm := of_decide_eq_true h6
    subst ht hc h0
    have e0 : k = k + 9 * ((0 : Nat) : Int) := by omega
    have hS := sumMs n (itW g) k hm ⟨h4, h5⟩
    rw [← e0] at hS
    refine ⟨hpMW n (itW g), lamMW (.sl 0 9 0 0 n (some n)) n (itW g) (markF k) k (k + 9 * n), 100, .cons (ABeq.row fun j hj => allW_get h1 j hj) .nil, lam1 (by kernel_rfl) hS, ?_⟩
    show GoodQ (execF Try.prog g0 (lamMW (.sl 0 9 0 0 n (some n)) n (itW g) (markF k) k (k + 9 * n)) 100 Try.f55 [.sl 0 9 0 0 n (some n), .v (i64 k)] (hpMW n (itW g)) (packK 1)) _
    rw [treeMs]
    exact good_needs (by rw [ob_cons]; exact ⟨chk_of ⟨rfl, Hsim.refl _⟩, rfl⟩) (good_out ⟨rfl, Hsim.refl _⟩)
  · cases hF

end Go.Proofs.Ytmdcafhnjihckaa

/- The laws' helpers on lists of wheels: their table. Conditions: a list of wheels. -/
namespace Go.Proofs.Ytmdcafhnjihckaa
open Go.RowKit

noncomputable def gmH : Gam := ext (ext (ext (ext g0 49 (specR md_toW F_toW)) 50 (specR md_eqWS F_eqWS)) 55 (specH [] F_markW)) 56 (specR md_wv F_heldW)
theorem gmH_ok : GamOk Try.prog gmH := ext_ok (ext_ok (ext_ok (ext_ok g0_ok ok_toW) ok_eqWS) ok_markW) ok_heldW
theorem sameW_self (m : Nat) (f : Nat → Nat → Int) : sameW m f f = true := chk_of fun _ _ _ _ => rfl
theorem sameW_zero (f h : Nat → Nat → Int) : sameW 0 f h = true := chk_of fun _ hj => absurd hj (Nat.not_lt_zero _)
theorem sameW_row (m : Nat) (f : Nat → Nat → Int) : sameW m (itW (row9 f)) f = true := chk_of fun j _ k hk => itW_row f j k hk

end Go.Proofs.Ytmdcafhnjihckaa

/- FnExactDesignCheck: the whole. Conditions: a list of wheels. -/
namespace Go.Proofs.Ytmdcafhnjihckaa
open Go.RowKit
set_option maxRecDepth 100000

theorem lawXc (v : List Wh → Int) (y : List Wh → Bool) (m : Nat) (f : Nat → Nat → Int) (t : TypeId) : execF Try.prog (ext (ext gmH 36 (specR md_ws (FckO v y))) 35 (specR md_ws (FckO v y))) noLam 100 Try.f13 [.sl 0 9 0 0 m none] [.row false m 9 (row9 f) t] (packK 1)
    = bif decide (IntKind.wrap IntKind.i64 ((1048576 : Int) - (↑m : Int)) < (0 : Int)) then Res.out Ex.ret [AV.v (Value.bool true)] [AB.row false m (9 : Nat) (row9 f) t] else bif decide (IntKind.wrap IntKind.i64 ((1048576 : Int) - (↑m : Int)) < (0 : Int)) then Res.out Ex.ret [AV.v (Value.bool true)] [AB.row false m (9 : Nat) (row9 f) t] else needs [Nat.ble ((0 : Nat) + m) m, allW m fun q ↦ row9 f ((0 : Nat) + q), decide (m ≤ (549755813888 : Nat)), Nat.ble m m, allW m (row9 (itW fun q ↦ row9 f ((0 : Nat) + q))), decide (m ≤ (274877906944 : Nat)), Nat.ble ((0 : Nat) + m) m, allW m fun q ↦ row9 f ((0 : Nat) + q), decide (m ≤ (549755813888 : Nat)), Nat.ble m m, allW m (row9 (itW fun q ↦ row9 f ((0 : Nat) + q))), decide (m ≤ (274877906944 : Nat))] (bif v (listW (itW (row9 (itW fun q ↦ row9 f ((0 : Nat) + q)))) m) != v (listW (itW (row9 (itW fun q ↦ row9 f ((0 : Nat) + q)))) m) then Res.out Ex.ret [AV.v (Value.bool false)] [AB.row false m (9 : Nat) (row9 f) t] else bif !y (listW (itW (row9 (itW fun q ↦ row9 f ((0 : Nat) + q)))) m) == y (listW (itW (row9 (itW fun q ↦ row9 f ((0 : Nat) + q)))) m) then Res.out Ex.ret [AV.v (Value.bool false)] [AB.row false m (9 : Nat) (row9 f) t] else needs [Nat.ble ((0 : Nat) + m) m, allW m fun q ↦ row9 f ((0 : Nat) + q), decide (m ≤ (549755813888 : Nat)), Nat.ble m m, Nat.ble m m, Nat.beq m m, allW m (row9 (itW fun q ↦ row9 f ((0 : Nat) + q))), allW m (row9 (itW fun q ↦ row9 f ((0 : Nat) + q))), sameW m (itW (row9 (itW fun q ↦ row9 f ((0 : Nat) + q)))) (itW (row9 (itW fun q ↦ row9 f ((0 : Nat) + q)))), decide (m ≤ (1099511627776 : Nat))] (Res.out Ex.ret [AV.v (Value.bool true)] [AB.row false m (9 : Nat) (row9 f) t])) := by kernel_rfl

theorem yes_xck (m : Nat) (f : Nat → Nat → Int) (t : TypeId) (hm : m ≤ 9223372036854775807) : ∃ Γ, GamOk Try.prog Γ ∧ GoodQ (execF Try.prog Γ noLam 100 Try.f13 [.sl 0 9 0 0 m none] [.row false m 9 (row9 f) t] (packK 1)) SaysYes := by
  have e1 : IntKind.wrap IntKind.i64 ((1048576 : Int) - (m : Int)) = 1048576 - m := wr_in (by omega)
  refine ⟨_, ext_ok (ext_ok gmH_ok ok_ckS) ok_ckI, ?_⟩
  rw [lawXc]
  by_cases hb : m ≤ 1048576
  · have c1 : decide ((1048576 : Int) - m < 0) = false := decide_eq_false (by omega)
    have b40 : decide (m ≤ 1099511627776) = true := decide_eq_true (by omega)
    have b39 : decide (m ≤ 549755813888) = true := decide_eq_true (by omega)
    have b38 : decide (m ≤ 274877906944) = true := decide_eq_true (by omega)
    simp only [row9_itW, listW_itW, e1, c1, b40, b39, b38, allW_row, sameW_self, ble_me, beq_me, needs_t, needs_nil, cond_false, Nat.zero_add, beq_self_eq_true, bne_self_eq_false, Bool.not_true]
    exact good_out rfl
  · rw [e1, show decide ((1048576 : Int) - m < 0) = true from decide_eq_true (by omega)]
    exact good_out rfl

end Go.Proofs.Ytmdcafhnjihckaa

/- DesignCheck of the program and of the reference return the same, for whatever list: FnExactDesignCheck returns true, and its argument reads as before. No conditions. -/
namespace Go.Proofs.Ytmdcafhnjihckaa
open Go.ChangeShapes Go.WideShapes Go.ChangeAt Go.RowKit

set_option maxRecDepth 100000 in
theorem xck_lifted (os : Os) (started : os.Started) (H : Type) (enc : TypeId × Value → H) :
    ReturnsInHanded {} Try.checked os 13 .any (Rows.fnExactDesignCheckSpec.pre6 enc Try.prog Try.f13 Rows.fnExactDesignCheckRow.domain false) (Rows.fnExactDesignCheckSpec.post enc Try.prog Try.f13 false true false false) := by
  refine returnsInHanded_of_change (C := Try.checked) own started (by kernel_rfl) Try.func13
    (ChangeSpec.witness6 (enc := enc) (C := Try.checked) false ⟨#[], #[.slice none 0 0], []⟩ 8 (by kernel_rfl) (by kernel_rfl) (by kernel_rfl) (by kernel_rfl)) ?_
  intro W base args ds gs before hval hW _ _
  exact contractW (spec := Rows.fnExactDesignCheckSpec) Try.func13 rfl rfl rfl (fun _ _ => rfl) (fun m a hm => (yes_xck m a 46 hm).elim fun Γ h => ⟨Γ, 100, h⟩) H enc W base args ds gs before hval hW

set_option maxRecDepth 100000 in
theorem xck_f1 : Rows.fnExactDesignCheckRow.wf (OpenSpec.ofChange Rows.fnExactDesignCheckSpec) = true := by kernel_rfl
set_option maxRecDepth 100000 in
theorem xck_f2 : (Rows.fnExactDesignCheckRow.inPlace == Try.prog.inPlace 13) = true := by kernel_rfl
set_option maxRecDepth 100000 in
theorem xck_f3 : (Rows.fnExactDesignCheckRow.unfollowed == Try.prog.unfollowed 13) = true := by kernel_rfl
set_option maxRecDepth 100000 in
theorem xck_f4 : (Rows.fnExactDesignCheckRow.recurses == Try.prog.recurses 13) = true := by kernel_rfl
set_option maxRecDepth 100000 in
theorem xck_f5 : (Rows.fnExactDesignCheckRow.named == Try.prog.varsNamed 13) = true := by kernel_rfl
set_option maxRecDepth 100000 in
theorem xck_f6 : Try.prog.funcNamed Rows.fnExactDesignCheckRow.func = some 13 := by kernel_rfl
theorem xck_f7 : (Rows.fnExactDesignCheckRow.lifted == Try.prog.liftsFinal) = true := jfG
theorem xck_f8 : (Try.prog.make == some Rows.fnExactDesignCheckRow.make) = true := jfH
theorem xck_f9 : (Rows.fnExactDesignCheckRow.plainKeys == Try.prog.plainKeys) = true := jfI
set_option maxRecDepth 100000 in
theorem xck_joined : joinedFacts Try.prog 13 Try.f13 Rows.fnExactDesignCheckSpec Rows.fnExactDesignCheckRow = true := by
  unfold joinedFacts
  rw [jfA, jfB, jfC, jfD, jfE, jfF, xck_f1, xck_f2, xck_f3, xck_f4, xck_f5, xck_f7, xck_f8, xck_f9]
  kernel_rfl

theorem xck_holds : Rows.FnExactDesignCheckSaid :=
  OpenClaim.holds_of_wide 13 Try.f13 rfl rfl rfl rfl rfl rfl rfl ⟨rfl, rfl, rfl, rfl, rfl⟩ rfl rfl rfl rfl rfl xck_f6 Try.func13 xck_joined
    (of_decide_eq_true (by kernel_rfl)) (by unfold Func.isWrapper; first | (rw [if_pos (by decide +kernel)]; kernel_rfl) | (rw [if_neg (by decide +kernel)]; exact ⟨rfl, rfl⟩))
    (fun os started H enc _ => xck_lifted os started H enc)
#print axioms xck_holds
end Go.Proofs.Ytmdcafhnjihckaa
