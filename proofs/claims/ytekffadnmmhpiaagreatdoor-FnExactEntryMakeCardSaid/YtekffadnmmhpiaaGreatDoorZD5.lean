/- A list of wheels that came in. No conditions. -/
import Derived.Test.YtekffadnmmhpiaaGreatDoorZD0
import Derived.Test.YtekffadnmmhpiaaGreatDoorZD1
import Derived.Test.YtekffadnmmhpiaaGreatDoorZD2
import Derived.Test.YtekffadnmmhpiaaGreatDoorZD3
import Derived.Test.YtekffadnmmhpiaaGreatDoorZD4
import Derived.Test.YtekffadnmmhpiaaGreatDoorRows
import Derived.WalkKit
import Derived.ProofKit
import Derived.OpenShut
import Derived.Carry
import Derived.Deep.Slices
/- The frame of a law with one slice as its argument: from what its run comes to to the given statement. Conditions: those that each theorem names. -/
namespace Go.Proofs.YtekffadnmmhpiaaGreatDoor
open Go.ChangeShapes Go.WideShapes Go.ChangeAt Go.RowKit Go.Deep

theorem own : ownKnob Tryz.prog.godebug = none := by kernel_rfl
theorem laidOut : laidOutB Tryz.prog = true := by kernel_rfl

def SaysYes : Ex → List AV → List AB → Prop := fun _ l _ => l = [.v (.bool true)]

section
variable {H : Type} {enc : TypeId × Value → H} {P : Program}
theorem post_below {f : Func} {s : ChangeSpec} {apart fresh handsOn again : Bool} {W W' : World} {args : Array Value} {v : Value} {ds gs : List (DataW H)} {before pa pv : List MemPlace}
    (hW : DataW.Whole enc P f.params.toList s.vars apart W args.toList ds gs before)
    (hres : ∀ (b : Nat) (sp : Nat → Bool) (hd : Bool), DataW.TrodAll enc P W' b sp hd f.resultTypes.toList (v.resultList f.resultTypes.size) (s.fn H (ds ++ gs)).results [])
    (hargs : ∀ sp : Nat → Bool, (∀ p ∈ before, sp p.block = true) → DataW.TrodAll enc P W' 0 sp true f.params.toList args.toList (s.fn H (ds ++ gs)).args pa)
    (hvars : ∀ sp : Nat → Bool, (∀ p ∈ before, sp p.block = true) → DataW.TrodVars enc P W' sp s.vars (s.fn H (ds ++ gs)).vars pv)
    (hps : before = pa ++ pv) (hb : Below W.heap.size W W')
    (hok : ∀ (j : Nat) (t : TypeId) (r : Value), f.resultTypes[j]? = some t → (v.resultList f.resultTypes.size)[j]? = some r → Value.okWide P W' .any 0 t r) :
    s.post enc P f apart fresh handsOn again W args v W' := by
  have hlt : ∀ p ∈ before, p.block < W.heap.size := fun p hp => hW.lt p hp
  have hold : ∀ p ∈ before, (fun b => decide (b < W.heap.size)) p.block = true := fun p hp => by simpa using hlt p hp
  refine ⟨ds, gs, before, [], pa, pv, hW, hres _ _ _, hargs _ hold, hvars _ hold, World.keptBut_mono (fun p hp => ⟨hp, ?_⟩) (hb.frame (· ∈ before)), fun _ => ?_⟩
  · rw [hps, List.mem_append] at hp
    exact Or.inr hp
  · obtain ⟨_, _, _, _, _, hz, hn⟩ := hW
    refine ⟨hok, _, _, ([] ++ pa) ++ pv, ⟨[] ++ pa, pv, trodAll_append (hargs _ (fun _ _ => rfl)) (hres _ _ _), hvars _ (fun _ _ => rfl), rfl, ?_, ?_⟩, ?_⟩
    · intro b off hp
      have hin : MemPlace.cell b off ∈ before := by rw [hps]; simpa using hp
      rw [hb.frozen (hlt _ hin)]
      exact hz b off hin
    · intro ha
      have := hn ha
      rw [hps] at this
      simpa using this
    · intro p hp _
      rw [hps]
      simpa using hp

theorem arg_row {W : World} {base s : Nat} {t e : TypeId} {v : Value} {d : DataW H} {p : List MemPlace} (ht : P.underlying t = some (.slice e)) (hc : P.cellsOf e = s) (hs : 0 < s) (hv : Value.okWide P W .any base t v)
    (h : DataW.Trod enc P W 0 (fun _ => true) true t v d p) (row : (Nat → Int) → List Value) (ok : (Nat → Int) → Prop) (hrow : ∀ f, (row f).length = s ∧ ∀ x ∈ row f, x.oneCell' = true)
    (he : ∀ n cs x, cs.length = s → DataW.trod enc P W 0 (fun _ => true) true n e cs = some x → ∃ f, ok f ∧ cs = row f) (tt : TypeId) (htab : TabOk (fun k => W.heap.size ≤ k) W := by intro x hx; simp [tabG] at hx) :
    ∃ (m : Nat) (ν : Nu) (g : Nat → Nat → Int), m ≤ 9223372036854775807 ∧ (∀ j, j < m → ok (g j)) ∧ VR ν (.sl 0 s 0 0 m none) v ∧ RH (fun k => W.heap.size ≤ k) ν (fun b => ([AB.row false m s (fun j => row (g j)) tt] : List AB).getD b .gone) W ∧ ∀ i b, ν i = some b → i < 1 := by
  obtain ⟨pt, len, cap, rfl⟩ := okWide_slice ht hv
  obtain ⟨fuel, hf⟩ := h
  have empty : ∀ c, VR (fun _ => none) (.sl 0 s 0 0 0 none) (.slice pt 0 c) → ∃ (m : Nat) (ν : Nu) (g : Nat → Nat → Int), m ≤ 9223372036854775807 ∧ (∀ j, j < m → ok (g j)) ∧ VR ν (.sl 0 s 0 0 m none) (.slice pt 0 c) ∧ RH (fun k => W.heap.size ≤ k) ν (fun b => ([AB.row false m s (fun j => row (g j)) tt] : List AB).getD b .gone) W ∧ ∀ i b, ν i = some b → i < 1 := by
    intro c hvr
    refine ⟨0, fun _ => none, fun _ _ => 0, by omega, fun j hj => by omega, hvr, ⟨fun i => ?_, fun i j b b' _ _ _ h => by simp at h, fun i b _ h => by simp at h, (fun i b h => by simp at h), htab⟩, fun i b h => by simp at h⟩
    match i with
    | 0 => exact .inl ⟨rfl, rfl, rfl⟩
    | n + 1 => trivial
  rcases open_slice ht hf with ⟨h0, _⟩ | ⟨a, len', cap', m, n, D, Pl, hcs, hb, hl, hm, hmm, hx, hi⟩
  · simp only [Value.cells] at h0
    simp at h0
    obtain ⟨rfl, rfl, rfl⟩ := h0
    exact empty 0 (by simp only [VR]; exact ⟨none, 0, rfl, by simp, Nat.le_refl _, by omega⟩)
  · simp only [Value.cells] at hcs
    simp at hcs
    obtain ⟨rfl, rfl, rfl⟩ := hcs
    simp only [if_true] at hmm
    subst hmm
    unfold maxLen at hm
    by_cases hz : m = 0
    · subst hz
      have : len = 0 := by omega
      subst this
      exact empty 0 (by simp only [VR]; exact ⟨some a, 0, rfl, by simp, Nat.le_refl _, by omega⟩)
    · have cells : ∀ i, ∃ f, i < m → ok f ∧ ∀ k, k < s → W.cell? ((a.add (i * s)).add k) = (row f)[k]? := by
        intro i
        by_cases him : i < m
        · obtain ⟨cs', h1, h2⟩ := hi i him
          rw [hc] at h1
          obtain ⟨_, h3, h4⟩ := World.cells?_some h1
          obtain ⟨f, h5, h6⟩ := he n cs' _ h3 h2
          exact ⟨f, fun _ => ⟨h5, fun k hk => by rw [h4 k hk, h6]⟩⟩
        · exact ⟨fun _ => 0, fun h => absurd h him⟩
      have get : ∀ i k, i < m → k < s → ∃ x, (row (Classical.choose (cells i)))[k]? = some x := fun i k _ hk => by
        have := (hrow (Classical.choose (cells i))).1
        exact ⟨_, List.getElem?_eq_getElem (by omega)⟩
      obtain ⟨x0, hx0⟩ := get 0 0 (by omega) hs
      have c0 := ((Classical.choose_spec (cells 0)) (by omega)).2 0 hs
      rw [hx0, Nat.zero_mul] at c0
      have hspot : a.spot = none := by
        have := World.cell?_spot c0
        simpa [Addr.add] using this
      obtain ⟨bl, off, sp⟩ := a
      simp only at hspot
      subst hspot
      have e0 : ((⟨bl, off, none⟩ : Addr).add 0).add 0 = ⟨bl, off, none⟩ := by simp [Addr.add]
      rw [e0] at c0
      obtain ⟨o, ho⟩ : ∃ o, W.heap[bl]? = some o := by
        unfold World.cell? at c0
        split at c0
        · exact ⟨_, by assumption⟩
        · cases c0
      obtain ⟨l, t', fz, rfl⟩ : ∃ l t' fz, o = .cells (List.toArray l) t' fz := by
        unfold World.cell? at c0
        simp only [ho] at c0
        cases o with
        | cells c t' fz => exact ⟨c.toList, t', fz, by simp⟩
        | _ => cases c0
      refine ⟨len, fun i => if i = 0 then some ⟨bl, off, m⟩ else none, fun i => Classical.choose (cells i), by omega, fun j hj => ((Classical.choose_spec (cells j)) (by omega)).1, ?_, ⟨fun i => ?_, fun i j b b' hij hw _ h1 h2 => ?_, fun i b hw h1 => ?_, fun i b h1 => ?_, htab⟩, fun i b h1 => ?_⟩
      · simp only [VR]
        exact ⟨_, m, rfl, by simp, hl, fun _ => ⟨_, rfl, by simp⟩⟩
      · match i with
        | 0 =>
          refine .inr ⟨⟨bl, off, m⟩, l, t', fz, rfl, ho, fun h => by simp at h, hl, fun j hj => ⟨hrow _, fun k hk => ?_⟩⟩
          have := ((Classical.choose_spec (cells j)) (by omega)).2 k hk
          rw [← this]
          have e1 : ((⟨bl, off, none⟩ : Addr).add (j * s)).add k = ⟨bl, off + (j * s + k), none⟩ := by
            rw [addr_add, addr_add, Nat.add_assoc]
          rw [e1, cell_at ho]
        | n + 1 => trivial
      · match i with
        | 0 => simp [AB.wr] at hw
        | n + 1 => simp at h1
      · match i with
        | 0 => simp [AB.wr] at hw
        | n + 1 => simp at h1
      · match i with
        | 0 =>
          simp at h1
          subst h1
          exact (Array.getElem?_eq_some_iff.1 ho).1
        | n + 1 => simp at h1
      · match i with
        | 0 => omega
        | n + 1 => simp at h1
end

theorem yes_calls {Γ : Gam} (hΓ : GamOk Tryz.prog Γ) {Λ : Nat → Option Sum} {n : Nat} {f : FuncId} {fn : Func} {avs : List AV} {H : List AB} {ν : Nu} {vals : List Value} {w : World} (hf : Tryz.prog.funcs[f]? = some fn)
    (hL : ∀ c, fn.body = some c → LamOk Tryz.prog H.length Λ c) (h : GoodQ (execF Tryz.prog Γ Λ n fn avs H (packK H.length)) SaysYes) (hv : VRs ν avs vals) (hH : RH (fun k => w.heap.size ≤ k) ν (fun b => H.getD b .gone) w) (hdom : ∀ i b, ν i = some b → i < H.length) :
    Calls Tryz.prog f vals.toArray w fun e w' => e = .returned (.bool true) ∧ Below w.heap.size w w' := by
  refine (calls_pack hΓ mixed enters hf hL (fun k hk => hk) h.out hv hH hdom).mono ?_
  rintro e w' ⟨v, av, H', ν', rfl, hq, hvr, _, hfr, _⟩
  have : [av] = [AV.v (.bool true)] := hq
  simp only [List.cons.injEq, and_true] at this
  subst this
  simp only [VR] at hvr
  subst hvr
  exact ⟨rfl, ⟨hfr.os, hfr.tape, hfr.output, hfr.size, fun k hk => hfr.block k hk (by omega)⟩⟩

def okI (f : Nat → Int) : Prop := ∀ k, -9223372036854775808 ≤ f k ∧ f k ≤ 9223372036854775807

end Go.Proofs.YtekffadnmmhpiaaGreatDoor

/- A list of wheels that came in. No conditions. -/
namespace Go.Proofs.YtekffadnmmhpiaaGreatDoor
open Go.ChangeShapes Go.WideShapes Go.ChangeAt Go.RowKit Go.Deep
set_option maxRecDepth 100000

section
variable {H : Type} {enc : TypeId × Value → H} {W : World}
theorem cyc_elemL (n : Nat) (cs : List Value) (x : DataW H × List MemPlace) (hl : cs.length = 8) (h : DataW.trod enc Tryz.prog W 0 (fun _ => true) true n 44 cs = some x) :
    ∃ f : Nat → Int, cs = [i64 (f 0), i64 (f 1), i64 (f 2), i64 (f 3), i64 (f 4), i64 (f 5), i64 (f 6), i64 (f 7)] := by
  obtain ⟨xs, n', _, _, _, hlen, hg⟩ := DataW.trod_struct Tryz.underlying44 h
  have h0 : DataW.trod enc Tryz.prog W 0 (fun _ => true) true n' 38 ((cs.drop 0).take (Tryz.prog.cellsOf 38)) = xs[0]? := hg 0 _ rfl
  have hx0 : xs[0]? = some (xs[0]'(by rw [hlen]; decide)) := List.getElem?_eq_getElem _
  rw [hx0] at h0
  obtain ⟨ys, n2, _, _, _, hlen2, hg2⟩ := DataW.trod_array Tryz.underlying38 h0
  have c44 : Tryz.prog.cellsOf 38 = 8 := by kernel_rfl
  have c3 : Tryz.prog.cellsOf 3 = 1 := by kernel_rfl
  simp only [c44, c3, List.drop_zero, Nat.mul_one, List.take_of_length_le (Nat.le_of_eq hl)] at hg2
  have each : ∀ i, i < 8 → ∃ k, (cs.drop i).take 1 = [i64 k] := by
    intro i hi
    have h1 := hg2 i hi
    have hy : ys[i]? = some (ys[i]'(by omega)) := List.getElem?_eq_getElem _
    rw [hy] at h1
    obtain ⟨k, e1, _, _⟩ := DataW.trod_int Tryz.underlying3 h1
    exact ⟨k, e1⟩
  match cs, hl with
  | [c0, c1, c2, c3, c4, c5, c6, c7], _ =>
    obtain ⟨k0, e0⟩ := each 0 (by omega)
    obtain ⟨k1, e1⟩ := each 1 (by omega)
    obtain ⟨k2, e2⟩ := each 2 (by omega)
    obtain ⟨k3, e3⟩ := each 3 (by omega)
    obtain ⟨k4, e4⟩ := each 4 (by omega)
    obtain ⟨k5, e5⟩ := each 5 (by omega)
    obtain ⟨k6, e6⟩ := each 6 (by omega)
    obtain ⟨k7, e7⟩ := each 7 (by omega)
    simp at e0 e1 e2 e3 e4 e5 e6 e7
    subst e0 e1 e2 e3 e4 e5 e6 e7
    exact ⟨v8 k0 k1 k2 k3 k4 k5 k6 k7, rfl⟩
theorem wheel_elem (n : Nat) (cs : List Value) (x : DataW H × List MemPlace) (hl : cs.length = 9) (h : DataW.trod enc Tryz.prog W 0 (fun _ => true) true n 46 cs = some x) :
    ∃ f : Nat → Int, True ∧ cs = [i64 (f 0), i64 (f 1), i64 (f 2), i64 (f 3), i64 (f 4), i64 (f 5), i64 (f 6), i64 (f 7), i64 (f 8)] := by
  obtain ⟨xs, n', _, _, _, hlen, hg⟩ := DataW.trod_struct Tryz.underlying46 h
  have h0 : DataW.trod enc Tryz.prog W 0 (fun _ => true) true n' 3 ((cs.drop 0).take (Tryz.prog.cellsOf 3)) = xs[0]? := hg 0 _ rfl
  have h1 : DataW.trod enc Tryz.prog W 0 (fun _ => true) true n' 44 ((cs.drop 1).take (Tryz.prog.cellsOf 44)) = xs[1]? := hg 1 _ rfl
  have c3 : Tryz.prog.cellsOf 3 = 1 := by kernel_rfl
  have c8 : Tryz.prog.cellsOf 44 = 8 := by kernel_rfl
  have hx0 : xs[0]? = some (xs[0]'(by rw [hlen]; decide)) := List.getElem?_eq_getElem _
  have hx1 : xs[1]? = some (xs[1]'(by rw [hlen]; decide)) := List.getElem?_eq_getElem _
  rw [hx0, c3] at h0
  rw [hx1, c8] at h1
  obtain ⟨k, e0, _, _⟩ := DataW.trod_int Tryz.underlying3 h0
  match cs, hl with
  | [c0, c1, c2, c3, c4, c5, c6, c7, c8], _ =>
    obtain ⟨f, ef⟩ := cyc_elemL _ _ _ (by simp) h1
    simp at e0 ef
    obtain ⟨rfl, rfl, rfl, rfl, rfl, rfl, rfl, rfl⟩ := ef
    subst e0
    exact ⟨whN ⟨k, ⟨f 0, f 1, f 2, f 3, f 4, f 5, f 6, f 7⟩⟩, trivial, rfl⟩
end

theorem contractW {f : FuncId} {fn : Func} {spec : ChangeSpec} (hf : Tryz.prog.funcs[f]? = some fn) (hp : fn.params = #[22]) (hr : fn.resultTypes = #[4]) (hvars : spec.vars = []) (hspec : ∀ (H : Type) (d : DataW H), spec.fn H [d] = { results := [.lit (.bool true)], args := [d] })
    (yes : ∀ (m : Nat) (a : Nat → Nat → Int), m ≤ 9223372036854775807 → ∃ Γ n, GamOk Tryz.prog Γ ∧ GoodQ (execF Tryz.prog Γ noLam n fn [.sl 0 9 0 0 m none] [.row false m 9 (row9 a) 42] (packK 1)) SaysYes)
    (H : Type) (enc : TypeId × Value → H) (W : World) (base : Nat) (args : Array Value) (ds gs : List (DataW H)) (before : List MemPlace)
    (hval : ∀ (j : Nat) t v, fn.params[j]? = some t → args[j]? = some v → Value.okWide Tryz.prog W .any base t v)
    (hW : DataW.Whole enc Tryz.prog fn.params.toList spec.vars false W args.toList ds gs before) (htab : TabOk (fun k => W.heap.size ≤ k) W := by intro x hx; simp [tabG] at hx) :
    Calls Tryz.prog f args W fun e W' => ∃ v, e = .returned v ∧ spec.post enc Tryz.prog fn false true false false W args v W' := by
  have hW' := hW
  obtain ⟨p, q, hA0, hV, rfl, hfz, hnd⟩ := hW
  have hA : DataW.TrodAll enc Tryz.prog W 0 (fun _ => true) true fn.params.toList args.toList ds p := hA0
  rw [hp] at hA hval
  rw [hvars] at hV
  obtain ⟨v0, vs0, d0, ds0, p0, q0, hargs, rfl, rfl, h0, r0⟩ := trodAll_cons hA
  obtain ⟨rfl, rfl, rfl⟩ := trodAll_nil r0
  obtain rfl : args = #[v0] := by cases args; simp_all
  obtain ⟨rfl, rfl⟩ := trodVars_none hV
  clear hA0 hA r0
  obtain ⟨m, ν, g, hm, _, hvr, hRH, hdom⟩ := arg_row (H := H) Tryz.underlying22 (by kernel_rfl) (by omega) (hval 0 22 v0 rfl rfl) h0 (fun f => [i64 (f 0), i64 (f 1), i64 (f 2), i64 (f 3), i64 (f 4), i64 (f 5), i64 (f 6), i64 (f 7), i64 (f 8)]) (fun _ => True) (fun f => ⟨rfl, by simp [Value.oneCell']⟩) wheel_elem 42 htab
  obtain ⟨Γ, n, hΓ, hgood⟩ := yes m g hm
  have hcall := yes_calls hΓ (n := n) (vals := [v0]) (w := W) hf (Λ := noLam) (fun c _ => noLam_ok _ _ _) hgood (by simp only [VRs, and_true]; exact hvr) hRH hdom
  refine hcall.mono fun e W' ⟨he, hb⟩ => ?_
  subst he
  have hlt : ∀ x ∈ p0, x.block < W.heap.size := fun x hx => by simpa using hW'.lt x (by simpa using hx)
  refine ⟨_, rfl, post_below (pa := p0) (pv := []) hW' ?_ ?_ ?_ (by simp) hb ?_⟩
  · intro b sp hd
    rw [hr]
    simp only [List.append_nil, hspec]
    exact trodAll_cons_mk (shut_bool Tryz.underlying4 _) trodAll_mk0
  · intro sp hsp
    rw [hp]
    simp only [List.append_nil, hspec]
    refine trodAll_mk1 (WideElems.Trod_stays laidOut (by kernel_rfl) (of_decide_eq_true (by kernel_rfl)) h0 (fun x hx => hb.same (hlt x hx)) fun x hx => hsp x (by simpa using hx))
  · intro sp _
    rw [hvars]
    simp only [List.append_nil, hspec]
    rfl
  · exact ok_one hr rfl (okWide_bool_mk Tryz.underlying4 _)

end Go.Proofs.YtekffadnmmhpiaaGreatDoor
